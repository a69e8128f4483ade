/- Own. -/
import Derived.Test.YtimkfiaffohhkabGreatDoorYR0
import Derived.Laws.CopyRow
import Derived.ChangeKeysEq
import Derived.Laws.MakeOwn
import Derived.Lib.AppendZerosOnto
import Derived.WalkKit
import Derived.Lib.Walk
import Derived.Shelf.RegionOpenPlain
import Derived.Lib.Overlaps
import Derived.Lib.SliceRun
import Derived.Lib.JoinLaws
import Derived.RangeFuncLeaves
import Derived.RangeFuncRecord
import Derived.Test.YtimkfiaffohhkabGreatDoorRows
set_option linter.unusedSimpArgs false
set_option linter.unusedVariables false
set_option linter.unusedSectionVars false
set_option maxRecDepth 100000
set_option maxHeartbeats 1000000
namespace Go.Abs
open Go.RowKit
section rules
variable {P:uG} {f:Ctx} {N:Nat} {S:Start} {Q:EV->St->Prop} {k:List Item} {todo:List Item} {base:Nat} {env:Env} {st:St} {ops rest:List Oper}
 {d:Option Tmp} {ty:uE} {pos:String} {after:uD Edge} {gd:Option (Nat×Bool)} {t t2 e:uE} {x y z:uH}
section sl
variable {α:Type} {sz:Nat} {row:α->List D} {l:List α} {ev:EV} {inf:TypeInfo} {tk n:Nat}
theorem Ke {l':O α} {zv v u:uB} {d2:TypeDesc} {g:b8} {w:uC} {news:O uB} (ht:P.underlying t=some (.slice e)) (DM:P.underlying t2=some d2) (Im:d2=.string∨∃ e2,d2=.slice e2)
  (hi:P.info? e=some inf) (hz:inf.zero=some zv) (fg:inf.size=sz) (rU:zv.cells.size=sz) (hb:inf.bytes<=100000) (hinv:Inv g base w st) (hv:v=g.tk tk) (fO:st.av[tk]?=some ⟨e,sz,n,some (l.map row)⟩)
  (hn:l.length+l'.length<=1000000000) (tL:BM P g.lim w sz u (l'.map row) news) :
  ∃ v' g' w',(Builtin.append_ #[t,t2] ty #[v,u]).run P w=.ok v' w'/\bP g' w' (st.bG tk ⟨e,sz,(l++l').length,some ((l++l').map row)⟩) (.vc tk (l++l').length) v' /\
   Inv g' base w' (st.bG tk ⟨e,sz,(l++l').length,some ((l++l').map row)⟩)/\Step base g w st g' w' (st.bG tk ⟨e,sz,(l++l').length,some ((l++l').map row)⟩):=by
 obtain ⟨I7,xs,lT,BI,Vb⟩:=Kd hinv fO hv;have Ys:n=l.length:=by have:=Vb.len;simpa using this.symm
 have hm:(l'.map row).length=l'.length:=by simp
 obtain ⟨v',w',iS,lP,Vp,hc⟩:=mL (P:=P) (ty:=ty) w ht DM Im hi hz fg rU lT tL.src (by simp only[maxLen];rw[hm];omega) (by rw[hm,Ys];exact DS hn hb) hinv.base;rw[hm] at lP Vp;have e1:(l++l').length=n+l'.length:=by rw[zah,Ys]
 rw[e1];rw[I7] at hc Vp;have kS:dF g.lim w sz (n+l'.length) ((l++l').map row) (xs++news):=by
  refine ⟨by simp [Ys],λr hr=>?_,λj c u Cs hu=>?_⟩
  ·rw[zce] at hr;rcases zbc.1 hr with h|h
   ·exact Vb.row r h
   ·exact tL.rows r h
  ·rw[zce,zeq] at Cs;have Fl:=jT Vb.row;have xG:=lT.1;rw[Vb.len] at Fl;by_cases hj:j<xs.length
   ·rw[zap hj] at hu;rw[zap (by omega)] at Cs;exact Vb.rep j c u Cs hu
   ·rw[zax (by omega)] at hu;rw[zax (by omega)] at Cs;have e2:((l.map row).flatten).length=xs.length:=by omega
    rw[e2] at Cs;exact tL.rep _ u c hu Cs
 obtain ⟨g',q1,q2,q3,q4⟩:=hinv.Q1 (x':=⟨e,sz,n+l'.length,some ((l++l').map row)⟩) fO lP hc (λhh=>by cases hh) (λrows _ bE _=>⟨rfl,Nat.le_add_right _ _,λe=>Vp (by simp only at e;omega)⟩) (λrows hh=>by cases hh;exact kS);refine ⟨v',g',w',iS,?_,q3,q4⟩;have hlen:tk<st.av.length:=(zae.1 fO).1;obtain ⟨⟨A,c,hv⟩,_⟩:=jV lP;refine .vc _ _ _ (by simpa [St.bG] using hlen) ⟨A,_,c,hv⟩ λy rows hy ho=>?_
 have:y=⟨e,sz,n+l'.length,some ((l++l').map row)⟩:=by
  have:(⟨e,sz,n+l'.length,some ((l++l').map row)⟩:iR)=y:=by simpa [St.bG,zbm,hlen] using hy
  exact this.symm
 subst this;exact ⟨zaq _,λ_=>.inl q1.symm⟩
theorem EU {l':O α} {zv v u:uB} {d2:TypeDesc} {g:b8} {w:uC} {news:O uB} (ht:P.underlying t=some (.slice e)) (DM:P.underlying t2=some d2) (Im:d2=.string∨∃ e2,d2=.slice e2)
  (hi:P.info? e=some inf) (hz:inf.zero=some zv) (fg:inf.size=sz) (rU:zv.cells.size=sz) (hb:inf.bytes<=100000) (hinv:Inv g base w st) (hv:bP g w st (.vc tk n) v) (fO:st.av[tk]?=some ⟨e,sz,n,some (l.map row)⟩)
  (hn:l.length+l'.length<=1000000000) (tL:BM P g.lim w sz u (l'.map row) news) :
  ∃ v' g' w',(Builtin.append_ #[t,t2] ty #[v,u]).run P w=.ok v' w'/\bP g' w' (st.bG tk ⟨e,sz,(l++l').length,some ((l++l').map row)⟩) (.vc tk (l++l').length) v' /\
   Inv g' base w' (st.bG tk ⟨e,sz,(l++l').length,some ((l++l').map row)⟩)/\Step base g w st g' w' (st.bG tk ⟨e,sz,(l++l').length,some ((l++l').map row)⟩):=by
 rcases ub hinv fO hv with I7|⟨n0,r0,A,hA⟩
 ·exact Ke ht DM Im hi hz fg rU hb hinv I7 fO hn tL
 ·subst n0;have hl:l=[]:=by simpa using r0
  subst hl;have hlen:tk<st.av.length:=(zae.1 fO).1;have hm:(l'.map row).length=l'.length:=by simp
  obtain ⟨q1,q2⟩:=xL (P:=P) (ty:=ty) ht DM Im hi hz fg tL.src (by simp at hn ⊢;omega) (by rw[hm];exact DS (by simpa using hn) hb) A;by_cases h0:l'.length=0
  ·have I5:l'=[]:=zba h0;subst I5;have oe:st.bG tk ⟨e,sz,([]++[]:O α).length,some (([]++[]:O α).map row)⟩=st:=by
    have h3:st.av[tk]=⟨e,sz,0,some (([]:O α).map row)⟩:=(zae.1 fO).2;unfold St.bG;show (⟨st.aS,st.av.set tk ⟨e,sz,0,some (([]:O α).map row)⟩⟩:St)=st;rw[←h3,List.set_getElem_self]
   rw[oe];exact ⟨v,g,w,by rw[hA];exact q1 rfl,SX hlen fO ⟨A,hA⟩,hinv,.refl _ _ _ _⟩
  ·obtain ⟨v',w',iS,lP,_,hc⟩:=mL (P:=P) (ty:=ty) w ht DM Im hi hz fg rU (World.ownsRow_nil w base e sz) tL.src (by simp only[maxLen];rw[hm];simp at hn;omega) (by rw[hm];exact DS (by simpa using hn) hb) hinv.base;rw[hm] at lP;have tH:v'.ownBlock=some w.heap.size/\Below w.heap.size w w':=by
    rcases hc with ⟨h1,_⟩|h
    ·exfalso;rcases lP.2 with ⟨_,h2⟩|⟨gb,cap,cur,h2,_⟩
     ·exact h0 (by omega)
     ·rw[h2] at h1;cases h1
    ·exact h
   have e1:([]++l':O α).length=0+l'.length:=by simp
   rw[e1];have kS:dF g.lim w sz (0+l'.length) (([]++l':O α).map row) ([]++news):=by
    refine ⟨by simp,λr hr=>tL.rows r (by simpa using hr),λj c u Cs hu=>?_⟩;exact tL.rep j u c (by simpa using hu) (by simpa using Cs)
   obtain ⟨g',q1',q2',q3,q4⟩:=hinv.Q1 (x':=⟨e,sz,0+l'.length,some (([]++l':O α).map row)⟩) fO lP (.inr tH) (λhh=>by cases hh) (λrows _ bE _=>⟨rfl,zfv _,λe=>absurd e (by simp only;omega)⟩) (λrows hh=>by cases hh;exact kS);refine ⟨v',g',w',by rw[hA,q2 (by rw[hm];exact h0)];exact iS,?_,q3,q4⟩;obtain ⟨⟨A',c,BN⟩,_⟩:=jV lP;refine .vc _ _ _ (by simpa [St.bG] using hlen) ⟨A',_,c,BN⟩ λy rows hy ho=>?_
   have:y=⟨e,sz,0+l'.length,some (([]++l':O α).map row)⟩:=by
    have:(⟨e,sz,0+l'.length,some (([]++l':O α).map row)⟩:iR)=y:=by simpa [St.bG,zbm,hlen] using hy
    exact this.symm
   subst this;exact ⟨zaq _,λ_=>.inl q1'.symm⟩
theorem Kf {l':O α} {zv:uB} {d2:TypeDesc} (ht:P.underlying t=some (.slice e)) (DM:P.underlying t2=some d2) (Im:d2=.string∨∃ e2,d2=.slice e2)
  (hi:P.info? e=some inf) (hz:inf.zero=some zv) (fg:inf.size=sz) (rU:zv.cells.size=sz) (hb:inf.bytes<=100000) (hx:df env x=some (.vc tk n)) (fO:st.av[tk]?=some ⟨e,sz,n,some (l.map row)⟩)
  (hn:l.length+l'.length<=1000000000)
  (wX:∀ (g:b8) (w:uC) (tmps:uD uB),Inv g base w st->eB g w st env tmps->∃ news,BM P g.lim w sz (Act.eval ⟨tmps,[]⟩ y) (l'.map row) news) :
  zj P base env st ⟨d,.call ⟨.builtin .append,#[x,y],#[t,t2]⟩,ty,pos,after,gd⟩ (.vc tk (l++l').length) (st.bG tk ⟨e,sz,(l++l').length,some ((l++l').map row)⟩):=by
 intro g w tmps hinv he;obtain ⟨news,tL⟩:=wX g w tmps hinv he;obtain ⟨v',g',w',iS,h1,h2,h3⟩:=EU (ty:=ty) ht DM Im hi hz fg rU hb hinv (aR he hx) fO hn tL;exact ⟨v',g',w',by simp [execOp,resolve,invoke,builtin,iS],h1,h2,h3⟩
theorem gr {l':O α} {zv:uB} {w:EV} (ht:P.underlying t=some (.slice e)) (hi:P.info? e=some inf) (hz:inf.zero=some zv) (fg:inf.size=sz) (rU:zv.cells.size=sz) (hb:inf.bytes<=100000)
  (hx:df env x=some (.vc tk n)) (fO:st.av[tk]?=some ⟨e,sz,n,some (l.map row)⟩) (hy:df env y=some w) (hs:vP w=some (sz,l'.map row)) (hn:l.length+l'.length<=1000000000) :
  zj P base env st ⟨d,.call ⟨.builtin .append,#[x,y],#[t,t]⟩,ty,pos,after,gd⟩ (.vc tk (l++l').length) (st.bG tk ⟨e,sz,(l++l').length,some ((l++l').map row)⟩) :=
 Kf ht ht (.inr ⟨e,rfl⟩) hi hz fg rU hb hx fO hn λg w tmps _ he=>uR (s9 hs (aR he hy))
theorem w6 (row:α->O D) (ht:P.underlying t=some (.slice e)) (hi:P.info? e=some inf) (gq:inf.size=sz) :
  zj P base env st ⟨d,.buildSlice t 0 #[],ty,pos,after,gd⟩ (.vc st.av.length ([]:O α).length) (st.tok ⟨e,sz,([]:O α).length,some (([]:O α).map row)⟩):=by
 intro g w tmps hinv he;obtain ⟨g',h1,_,_,h2,h3⟩:=hinv.um ⟨e,sz,0,some []⟩ (v:=.slice (some ⟨w.heap.size,0,none⟩) 0 0) (xs:=[]) ⟨by simp,.inr ⟨w.heap.size,0,#[],rfl,hinv.base,heap_alloc_new w _,zaq _,by simp [maxLen],by simp,by simp⟩⟩
  (.inr ⟨rfl,(Below.refl _ w).alloc (zaq _) _⟩) (λrows hh=>by cases hh;exact ⟨rfl,by simp,by simp⟩)
 refine ⟨.slice (some ⟨w.heap.size,0,none⟩) 0 0,g',_,?_,.vc _ _ _ (by simp [St.tok]) ⟨_,_,_,rfl⟩ λy rows hy ho=>?_,h2,h3⟩
 ·simp [execOp,Instr.buildSlice,run_underlying ht,qo hi,newRow,Instr.fill];rw[show Array.map (λ_=>(default:uB)) (Array.range 0)=#[] from by simp [Array.range_zero']]
 ·have:y=⟨e,sz,0,some []⟩:=by simpa [St.tok,zfb] using hy
  subst this;exact ⟨zaq _,λ_=>.inl h1.symm⟩
end sl
end rules
section norm
variable {P:uG} {f:Ctx} {N:Nat} {S:Start} {Q:EV->St->Prop} {k:List Item} {todo:List Item} {env:Env} {st:St} {ops rest:List Oper}
theorem bA.xT {α:Type} {l:O α} {row:α->O D} {i tk e sz n:Nat} (hl:lookup i env=some (.vc tk n)) (fO:st.av[tk]?=some ⟨e,sz,n,some (l.map row)⟩)
  (h:bA P f N S Q todo ((i,.cm sz (l.map row) tk)::env) (st.bG tk ⟨e,sz,l.length,none⟩)):bA P f N S Q todo env st :=
 .Yu fO λhn=>.freeze hl fO (by rw[hn];exact h)
theorem cr.xT {α:Type} {l:O α} {row:α->O D} {i tk e sz n:Nat} (hl:lookup i env=some (.vc tk n)) (fO:st.av[tk]?=some ⟨e,sz,n,some (l.map row)⟩)
  (h:cr P f N S Q ops rest k ((i,.cm sz (l.map row) tk)::env) (st.bG tk ⟨e,sz,l.length,none⟩)):cr P f N S Q ops rest k env st :=
 λj hj=>.xT hl fO (h j hj)
theorem bA.GJ {α:Type} {l:O α} {row:α->O D} {tk e sz n:Nat} (E:Nat->Env) (T:Nat->St) (fO:st.av[tk]?=some ⟨e,sz,n,some (l.map row)⟩) (hE:dz env (E n)) (hT:st=T n)
  (h:bA P f N S Q todo (E l.length) (T l.length)):bA P f N S Q todo env st :=
 .Yu fO λhn=>.sub hE (by rw[hT,hn];exact h)
end norm
theorem eC.Rg {es xs:O EV} (h:xS es xs):eC (.dN es) (.dN xs):=by
 intro g w st v hv;obtain ⟨h1,h2⟩:=h.get;cases hv with
 | dN _ vs hs hc =>
  refine .dN _ vs (by rw[hs,h1]) λi d u hd hu=>?_
  obtain ⟨e,he,hle⟩:=h2 i d hd;exact hle _ _ _ _ (hc i e u he hu)
theorem bj {n m:Nat} {κ α:Type} {ke:κ->uB} {val:α->D} {l:O (κ×α)}:mh n m (.map (lD ke val l))=true:=by
 unfold mh lD;rw[zbf];intro p hp;obtain ⟨q,_,rfl⟩:=zcy.1 hp;rfl
theorem eb {ρ τ:Nat->Nat} {κ α:Type} {ke:κ->uB} {val:α->D} {l:O (κ×α)}:dU.ren ρ τ (.map (lD ke val l))=.map (lD ke val l):=by
 simp [dU.ren,lD,EV.ren]
theorem ed {ρ τ:Nat->Nat} {T:uE} {α:Type} {l:O α} {c1:α->D}:dU.ren ρ τ (.row T (l.map λb=>EV.d (c1 b)))=.row T (l.map λb=>EV.d (c1 b)):=by
 have h:∀ l:O α,EV.ren.J9 ρ τ (l.map λb=>EV.d (c1 b))=l.map λb=>EV.d (c1 b):=by
  intro l
  induction l with
  | nil=>rfl
  | cons x l ih=>rw[zao,EV.ren.J9,ih];rfl
 rw[dU.ren,h]
section drawn
variable {P:uG} {f:Ctx} {N:Nat} {S:Start} {Q:EV->St->Prop} {k:List Item}
def OpE (P:uG) (base:Nat) (l:List Oper) (env:Env) (st:St) (o:Oper) (x:EV) (st':St):Prop :=
 (st'=st/\vY P l env st o x)∨(o.guard=none/\zj P base env st o x st')∨(o.guard=none/\x=.d .any/\JT P base env st o st')
theorem L8 {l:O Oper} {p:Nat} {env:Env} {xs:O EV} (F:(Nat->Bool)->St->Prop) (hp:p<=l.length) (Xg:xs.length=p)
  (hC1:∀ i j t,i<p->j<p->i≠j->eW l i=some t->eW l j≠some t)
  (Xc:∀ (i:Nat) o,i<p->l[i]?=some o->∀ t∈LR l o,∀ j,j<p->j≠i->eW l j=some t->(j<i/\((eG l []).getD i 0).testBit j=true)∨(i<j/\((eG l []).getD j 0).testBit i=true))
  (Gw:∀ i,p<=i->i<l.length->∀ j,j<i->((eG l []).getD i 0).testBit j=true)
  (yK:∀ (i:Nat) o,l[i]?=some o->∀ e∈o.after,Region.binds .any e=true->e.on<i)
  (qL:∀ (L:Nat->Bool) (st:St) (i:Nat) (o:Oper),i<p->l[i]?=some o->L i=false->(∀ j,((eG l []).getD i 0).testBit j=true->L j=true)->(∀ a,L a=true->∀ b,((eG l []).getD a 0).testBit b=true->L b=true)->F L st ->
   hZ N o.dst=true/\∃ x st',xs[i]?=some x/\OpE P S.base l (pK l o (ij env ((l.take p).take i) (xs.take i))) st o x st'/\F (λj=>j==i || L j) st')
  (DP:∀ (L:Nat->Bool) (st:St),(∀ i,i<p->L i=true)->F L st->cr P f N S Q l (l.drop p) k (ij env (l.take p) xs) st) :
  ∀ (Gx fuel t:Nat) (listed:uD Bool) (g:b8) (w:uC) (tmps:uD uB) (st:St),F (λi=>listed.getD i false) st->listed.size=l.length->xM l listed->(∀ i,p<=i->i<l.length->listed.getD i true=false) ->
   (((List.range p).filter λi=>!listed.getD i true).length=Gx)->Gx+(l.length-p)<=fuel->Inv g S.base w st->s5 S g w st->tmps.size=N ->
   (∀ (s:Tmp),(∀ (j:Nat) x,j<p->listed.getD j false=true->eW l j=some s->xs[j]?=some x->∃ v,tmps[s]?=some v/\bP g w st x v) /\
    ((∀ j,j<p->listed.getD j false=true->eW l j≠some s)->∀ y,lookup s env=some y->∃ v,tmps[s]?=some v/\bP g w st y v)) ->
   e9 P f (pD S Q) (.inRegion l.toArray (Region.linearise.go .any l.toArray fuel t listed [])::k) tmps w:=by
 have xG:xs.length=(l.take p).length:=by simp;omega
 have hxl':=Xg;intro Gx
 induction Gx with
 | zero =>
  intro fuel t listed g w tmps st hF hs s7 SF CC LS hinv hh hN hJ;have pL:∀ i,i<p->listed.getD i true=true:=by
   intro i hi;have h0:=zba CC;have hn:i ∉ (List.range p).filter λi=>!listed.getD i true:=by rw[h0];simp
   rw[zcq,List.mem_range] at hn;cases hb:listed.getD i true with
   | true=>rfl
   | false=>exact absurd ⟨hi,by simp [hb]⟩ hn
  have hgo:=Ah Gw yK fuel t p listed (zaq _) hp (by omega) hs (λi hi=>by
   by_cases h:i<p
   ·rw[pL i h];simp [h]
   ·rw[SF i (by omega) hi];simp [h])
  rw[hgo];have zo:(l.drop p).length=l.length-p:=by simp
  rw[←zo];have PI:∀ i,i<p->listed.getD i false=true:=λi hi=>by
   have:=pL i hi;have cT:i<listed.size:=by omega
   simpa [zau,cT] using this
  refine DP _ st PI hF p (λj=>by rw[zbd]) g w tmps hinv hh (λs y hy=>?_) hN;rcases lC xG hy with ⟨j,o,h1,h2,h3⟩|⟨h1,h2⟩
  ·have hj:j<p:=by have:=(zae.1 h2).1;omega
   have ho:l[j]?=some o:=by rw[zam] at h1;rw[zab hj] at h1;exact h1
   exact (hJ s).1 j y hj (PI j hj) (by simp [eW,ho,h3]) h2
  ·refine (hJ s).2 (λj hj _ hd=>?_) y h2;cases ho:l[j]? with
   | none=>simp [eW,ho] at hd
   | some o=>exact h1 j o (by rw[zam,zab hj];exact ho) (by simpa [eW,ho] using hd)
 | succ Gx ih =>
  intro fuel t listed g w tmps st hF hs s7 SF CC LS hinv hh hN hJ;obtain ⟨fuel,rfl⟩:∃ n,fuel=n+1:=⟨fuel-1,by omega⟩
  -- an operation of the beginning that has not come up
  have hex:∃ i,i<p/\listed.getD i true=false:=by
   have:(List.range p).filter (λi=>!listed.getD i true)≠[]:=λh=>by rw[h] at CC;simp at CC
   obtain ⟨i,hi⟩:=zfl _ this;rw[zcq,List.mem_range] at hi;exact ⟨i,hi.1,by simpa using hi.2⟩
  have Q3:∀ i,i<l.length->listed.getD i false=listed.getD i true:=λi hi=>by
   have cT:i<listed.size:=by omega
   simp [zau,cT]
  have Ya:((List.range l.toArray.size).filter λi=>!listed.getD i true && ((l.toArray[i]?).map (·.after.all λe=>!Region.binds .any e || listed.getD e.on false)).getD false)=Region.ready .any l.toArray listed:=rfl
  -- the least such is ready
  have fK:Region.ready .any l.toArray listed≠[]:=by
   have SG:∀ n i,i<=n->i<p->listed.getD i true=false->∃ i,i<p/\listed.getD i true=false/\∀ j,j<i->listed.getD j true=true:=by
    intro n
    induction n with
    | zero=>intro i hi Q4 h;exact ⟨i,Q4,h,λj hj=>by omega⟩
    | succ n ihn =>
     intro i hi Q4 h;by_cases Ol:∃ j,j<i/\listed.getD j true=false
     ·obtain ⟨j,hj,Ip⟩:=Ol;exact ihn j (by omega) (by omega) Ip
     ·refine ⟨i,Q4,h,λj hj=>?_⟩;cases hb:listed.getD j true with
      | true=>rfl
      | false=>exact absurd ⟨j,hj,hb⟩ Ol
   obtain ⟨i0,h0,h1⟩:=hex;obtain ⟨i,J0,LU,pb⟩:=SG i0 i0 (zaq _) h0 h1;have qU:i<l.length:=by omega
   have:i∈Region.ready .any l.toArray listed:=by
    rw[mem_ready];refine ⟨LU,l[i],by simp [qU],λe he hb=>?_⟩;have cT:=yK i l[i] (zag qU) e he hb;rw[Q3 _ (by omega)];exact pb _ cT
   intro Io;rw[Io] at this;cases this
  simp only[Region.linearise.go,Ya];have hlen:0<(Region.ready .any l.toArray listed).length:=zdc.2 fK;have zn:=zen t hlen;generalize hi:(Region.ready .any l.toArray listed)[t % (Region.ready .any l.toArray listed).length]=i;have EP:(Region.ready .any l.toArray listed)[t % (Region.ready .any l.toArray listed).length]?=some i:=by rw[zag zn,hi]
  rw[EP];simp only[];rw[linearise_go_acc];have him:i∈Region.ready .any l.toArray listed:=zbj EP;obtain ⟨LU,o,ho,pL⟩:=mem_ready.1 him;have oc:l[i]?=some o:=by simpa using ho
  have qU:=(zae.1 oc).1;have vd:=xO s7 oc (λe he hb=>pL e he hb);have J0:i<p:=by
   rcases zgb i p with h|h
   ·exact h
   ·obtain ⟨i0,h0,h1⟩:=hex;have:=vd i0 (Gw i h qU i0 (by omega));rw[Q3 i0 (by omega),h1] at this;cases this
  obtain ⟨hd,x,st',hx,wZ,hF'⟩:=qL _ st i o J0 oc (by show listed.getD i false=false;rw[Q3 i qU,LU]) vd (λa ha b hb=>by
   have Xd:=xN s7 l [] (by simp) (by simp);have hmj:(eG l [])[a]?=some ((eG l []).getD a 0):=by
    cases hm:(eG l [])[a]? with
    | none=>rw[zcf,hm] at hb;simp at hb
    | some m=>rw[zcf,hm];rfl
   exact Xd a _ hmj ha b hb) hF
  have hFn:(λj=>(listed.setIfInBounds i true).getD j false)=λj=>j==i || listed.getD j false:=by
   funext j;by_cases nK:j=i
   ·subst nK;simp [zau,hs,qU]
   ·rw[getD_set_ne false (zcl nK)];simp [nK]
  have Xd:=xN s7 l [] (by simp) (by simp)
  -- what the operation looks at
  have he:eB g w st (pK l o (ij env ((l.take p).take i) (xs.take i))) tmps:=by
   intro s y hy;obtain ⟨Q5,Lr⟩:=va hy;rcases lC (by simp [xG]) Lr with ⟨j,o',h1,h2,h3⟩|⟨h1,h2⟩
   ·have nK:j<i:=by have:=(zae.1 h2).1;simp at this;omega
    have CD:l[j]?=some o':=by
     rw[zam,zab nK,zam,zab (by omega)] at h1;exact h1
    have vZ:eW l j=some s:=by simp [eW,CD,h3]
    rcases Xc i o J0 oc s Q5 j (by omega) (by omega) vZ with ⟨_,hb⟩|⟨cT,_⟩
    ·exact (hJ s).1 j y (by omega) (vd j hb) vZ (by rw[zam,zab nK] at h2;exact h2)
    ·omega
   ·refine (hJ s).2 (λj hj Ai vZ=>?_) y h2;by_cases nK:j=i
    ·subst nK;rw[Q3 j qU,LU] at Ai;cases Ai
    ·rcases Xc i o J0 oc s Q5 j hj nK vZ with ⟨cT,_⟩|⟨cT,hb⟩
     ·cases CD:l[j]? with
      | none=>simp [eW,CD] at vZ
      | some o'=>exact h1 j o' (by rw[zam,zab cT,zam,zab hj];exact CD) (by simpa [eW,CD] using vZ)
     ·have Ip:j<l.length:=by omega
      have hmj:(eG l [])[j]?=some ((eG l []).getD j 0):=by
       cases hm:(eG l [])[j]? with
       | none=>rw[zcf,hm] at hb;simp at hb
       | some m=>rw[zcf,hm];rfl
      have:=Xd j _ hmj Ai i hb;rw[Q3 i qU,LU] at this;cases this
  -- what remains behind it
  have LV:((List.range p).filter λj=>!(listed.setIfInBounds i true).getD j true).length=Gx:=by
   have zp:∀ j,(listed.setIfInBounds i true).getD j true=(listed.getD j true || decide (j=i)):=by
    intro j;by_cases nK:j=i
    ·subst nK;simp [zau,hs,qU]
    ·rw[getD_set_ne true (zcl nK)];simp [nK]
   have SH:((List.range p).filter λj=>!(listed.setIfInBounds i true).getD j true)=((List.range p).filter λj=>!listed.getD j true).filter λj=>!decide (j=i):=by
    rw[List.filter_filter];refine zek λj _=>?_
    rw[zp j];cases listed.getD j true <;> simp
   rw[SH];have Xb:((List.range p).filter λj=>!listed.getD j true).Nodup:=List.nodup_range.filter _;have qY:i∈(List.range p).filter λj=>!listed.getD j true:=by rw[zcq,List.mem_range];exact ⟨J0,by simp [LU]⟩
   have Gy:∀ (L:O Nat),L.Nodup->i∈L->(L.filter λj=>!decide (j=i)).length+1=L.length:=by
    intro L
    induction L with
    | nil=>intro _ h;cases h
    | cons a L ihL =>
     intro hn hm;rw[zcb] at hn;by_cases ha:a=i
     ·subst ha;have:(L.filter λj=>!decide (j=a))=L:=by
       rw[zdv];intro b hb;have:b≠a:=λe=>hn.1 (e▸hb)
       simp [this]
      rw[zbk];simp [this]
     ·have yJ:i∈L:=by
       rcases zan.1 hm with h|h
       ·exact absurd h.symm ha
       ·exact h
      rw[zbk];simp only[ha,zfm,zcm,zby,zad];rw[ihL hn.2 yJ]
   have:=Gy _ Xb qY;omega
  have SI:xM l (listed.setIfInBounds i true):=by
   intro j oj CD Ai e Ck hb;by_cases nK:j=i
   ·subst nK;rw[oc] at CD;cases CD;exact getD_set_true (pL e Ck hb)
   ·rw[getD_set_ne false (zcl nK)] at Ai;exact getD_set_true (s7 j oj CD Ai e Ck hb)
  have SJ:∀ j,p<=j->j<l.length->(listed.setIfInBounds i true).getD j true=false:=λj hj Ip=>by rw[getD_set_ne true (by omega)];exact SF j hj Ip
  -- the step
  have next:∀ (g':b8) (w':uC) (v:uB),bP g' w' st' x v->Inv g' S.base w' st'->Step S.base g w st g' w' st' ->
    e9 P f (pD S Q) (.inRegion l.toArray (Region.linearise.go .any l.toArray fuel (t / (Region.ready .any l.toArray listed).length) (listed.setIfInBounds i true) [])::k) (Act.put ⟨tmps,[]⟩ o.dst v).tmps w':=by
   intro g' w' v Cz eF mJ;refine ih fuel _ _ _ w' _ st' (by rw[hFn];exact hF') (by simpa using hs) SI SJ LV (by omega) eF (hh.step mJ) (by rw[js];exact hN) λs=>⟨λj y hj Ai vZ hy=>?_,λPJ y hy=>?_⟩
   ·by_cases nK:j=i
    ·subst nK;have LW:o.dst=some s:=by simpa [eW,oc] using vZ
     rw[hx] at hy;cases hy;rw[LW];have gq:s<tmps.size:=by
      rw[LW] at hd;have Yb:s+1<=N:=zaf hd;rw[hN];exact Yb
     exact ⟨v,by simp [Act.put,gq],Cz⟩
    ·rw[getD_set_ne false (zcl nK)] at Ai;obtain ⟨u,h1,h2⟩:=(hJ s).1 j y hj Ai vZ hy;have qT:o.dst≠some s:=λe=>hC1 j i s hj J0 nK vZ (by simp [eW,oc,e])
     refine ⟨u,?_,h2.mono mJ.dZ⟩;cases SK:o.dst with
     | none=>exact h1
     | some d =>
      have:d≠s:=λe=>qT (by rw[SK,e])
      simp [Act.put,zcg,this,h1]
   ·have qT:o.dst≠some s:=λe=>PJ i J0 (by simp [zau,hs,qU]) (by simp [eW,oc,e])
    obtain ⟨u,h1,h2⟩:=(hJ s).2 (λj hj Ai=>PJ j hj (by
     by_cases nK:j=i
     ·subst nK;simp [zau,hs,qU]
     ·rw[getD_set_ne false (zcl nK)];exact Ai)) y hy
    refine ⟨u,?_,h2.mono mJ.dZ⟩;cases SK:o.dst with
    | none=>exact h1
    | some d =>
     have:d≠s:=λe=>qT (by rw[SK,e])
     simp [Act.put,zcg,this,h1]
  have Ig:l.toArray[i]?=some o:=ho;show e9 P f (pD S Q) (.inRegion l.toArray (i::_)::k) tmps w;have zy:st'=st->∀ (dG:Nat->Nat) (w':uC) (v:uB),Good g w st x dG w' v ->
    e9 P f (pD S Q) (.inRegion l.toArray (Region.linearise.go .any l.toArray fuel (t / (Region.ready .any l.toArray listed).length) (listed.setIfInBounds i true) [])::k) (Act.put ⟨tmps,[]⟩ o.dst v).tmps w':=by
   rintro rfl dG w' v ⟨Cz,hb,hl⟩;obtain ⟨eF,mJ⟩:=hinv.grow (g':={ g with lim:=dG }) hb hl rfl rfl;exact next _ w' v Cz eF mJ
  rcases wZ with ⟨Q9,wZ⟩|⟨hg,wZ⟩|⟨hg,rfl,wZ⟩
  ·rcases wZ with ⟨hg,wZ⟩|⟨j,want,tt,c,b,y,env',hg,hj,hlk,hgc,rfl,hE,wZ⟩
   ·have hw:Region.wanted o (yielded l.toArray tmps)=true:=by simp [Region.wanted,hg]
    rcases wZ g S.base w tmps hinv he with ⟨v,dG,w',hr,zq⟩|⟨f',args,hr,hc⟩
    ·exact e9.value Ig hw hr (zy Q9 dG w' v zq)
    ·exact e9.call Ig hw hr (hc.mono λe w' ⟨v,dG,h1,h2⟩=>⟨v,h1,zy Q9 dG w' v h2⟩)
   ·obtain ⟨u,hu,hur⟩:=he tt c hlk;have hw:Region.wanted o (yielded l.toArray tmps)=b:=by
     rw[←uQ hgc hur];have Ls:((l.toArray)[j]?).bind (·.dst)=some tt:=by simpa using hj
     simp only[Region.wanted,hg,yielded,Ls,zac,hu];cases u <;> rfl
    cases b with
    | false=>exact e9.zi Ig hw (zy Q9 g.lim w undef ⟨.gd _ _ _ (λ_=>rfl) (λh=>by cases h),.refl _ _,λ_ _=>rfl⟩)
    | true =>
     have wrap:∀ dG w' v,Good g w st y dG w' v->Good g w st (.gd true y) dG w' v:=λdG w' v ⟨a,b,c⟩=>⟨.gd _ _ _ (λh=>by cases h) (λ_=>a),b,c⟩
     rcases wZ rfl g S.base w tmps hinv (he.gd hE rfl) with ⟨v,dG,w',hr,zq⟩|⟨f',args,hr,hc⟩
     ·exact e9.value Ig hw hr (zy Q9 dG w' v (wrap _ _ _ zq))
     ·exact e9.call Ig hw hr (hc.mono λe w' ⟨v,dG,h1,h2⟩=>⟨v,h1,zy Q9 dG w' v (wrap _ _ _ h2)⟩)
  ·have hw:Region.wanted o (yielded l.toArray tmps)=true:=by simp [Region.wanted,hg]
   obtain ⟨v,g',w',hr,Cz,eF,mJ⟩:=wZ g w tmps hinv he;exact e9.value Ig hw hr (next g' w' v Cz eF mJ)
  ·have hw:Region.wanted o (yielded l.toArray tmps)=true:=by simp [Region.wanted,hg]
   obtain ⟨g',w',hr,eF,mJ⟩:=wZ g w tmps hinv he;exact e9.skip Ig hw hr (next g' w' undef (.d _ _ (.any _)) eF mJ)
theorem bA.Yv {id:Nat} {l:O Oper} {env:Env} {st:St} (p:Nat) (xs:O EV) (F:(Nat->Bool)->St->Prop) (hm:P.follows .mixedOrders=true) (hB:cP l p=true) (Xg:xs.length=p) (hF0:F (λ_=>false) st)
  (qL:∀ (L:Nat->Bool) (st:St) (i:Nat) (o:Oper),i<p->l[i]?=some o->L i=false->(∀ j,((eG l []).getD i 0).testBit j=true->L j=true)->(∀ a,L a=true->∀ b,((eG l []).getD a 0).testBit b=true->L b=true)->F L st ->
   hZ N o.dst=true/\∃ x st',xs[i]?=some x/\OpE P S.base l (pK l o (ij env ((l.take p).take i) (xs.take i))) st o x st'/\F (λj=>j==i || L j) st')
  (DP:∀ (L:Nat->Bool) (st:St),(∀ i,i<p->L i=true)->F L st->cr P f N S Q l (l.drop p) k (ij env (l.take p) xs) st):bA P f N S Q (.code (.region id l.toArray true)::k) env st:=by
 simp only[cP,zat] at hB;obtain ⟨⟨⟨⟨U8,hB2⟩,hB3⟩,hB4⟩,Yc⟩:=hB;have hp:p<=l.length:=by simpa using Yc
 intro g w tmps hinv hh he hn;refine e9.BF λt=>?_
 have SL:Region.schedule (P.follows .mixedOrders) l.toArray t=Region.linearise .any l.toArray t:=by simp [Region.schedule,hm]
 rw[SL];have hb:Below w.heap.size w { w with drawn:=w.drawn+1 }:=(Below.refl _ w).drew;obtain ⟨eF,mJ⟩:=hinv.grow (g':=g) hb (λ_ _=>rfl) rfl rfl;unfold Region.linearise;refine L8 (p:=p) (xs:=xs) F hp Xg ?_ ?_ ?_ ?_ qL DP p _ t _ g _ tmps st (by
  have:(λi=>(Array.replicate l.toArray.size false).getD i false)=λ_=>false:=by
   funext i;simp [zau,Array.getElem?_replicate];split <;> rfl
  rw[this];exact hF0) (by simp) ?_ ?_ ?_ ?_ eF (hh.step mJ) hn λs=>⟨λj x hj Ai=>?_,λ_ y hy=>?_⟩
 ·intro i j t hi hj PK hdi vZ;have:=cZ (cZ hB2 hi) hj;simp [PK,hdi,vZ] at this
 ·intro i o hi ho t ht j hj nK vZ;have h1:=cZ U8 hi;rw[ho] at h1;simp only[zbf] at h1;have h2:=cZ (h1 t ht) hj;simp only[vZ,zft,zdh,zbv,zat,zak,zec] at h2;rcases h2 with (h2|h2)|h2
  ·exact absurd h2.symm nK
  ·exact .inl h2
  ·exact .inr h2
 ·intro i hi qU j hj;have h1:=cZ hB3 qU;simp only[zbv,zak] at h1;rcases h1 with h1|h1
  ·omega
  ·exact cZ h1 hj
 ·intro i o ho e Ck mc;have qU:=(zae.1 ho).1;have h1:=cZ hB4 qU;rw[ho] at h1;simp only[zbf] at h1;have:=h1 e (by simpa using Ck);simpa [mc] using this
 ·intro i o ho SE;simp [zau,Array.getElem?_replicate] at SE;split at SE <;> simp_all
 ·intro i hi qU;simp [zau,Array.getElem?_replicate,qU]
 ·have:((List.range p).filter λi=>!(Array.replicate l.toArray.size false).getD i true)=List.range p:=by
   rw[zdv];intro i hi;have hi':=List.mem_range.1 hi;have:i<l.length:=by omega
   simp [zau,Array.getElem?_replicate,this]
  rw[this];simp
 ·simp;omega
 ·simp [zau,Array.getElem?_replicate] at Ai;split at Ai <;> simp_all
 ·exact (he.mono mJ.dZ) s y hy
end drawn
structure w7 (P:uG) (key:uE) (κ:Type) [BEq κ] [LawfulBEq κ] where
 ke:κ->uB
 find:∀ {α:Type} (k:κ) (l:List (κ×α)) (ms:List MapEntry) (w:uC),ms.map (·.key)=l.map (λp=>ke p.1) ->
  (Instr.findKey key (ke k) ms).run P w=.ok ((eI l k).bind λj=>(ms[j]?).map λm=>(j,m.val)) w
 bits:∀ a,Instr.sameBits 10000 (ke a) (ke a)=true
 check:∀ a b w,(Instr.checkKey b 10000 key (ke a)).run P w=.ok () w
def CE.toF {P:uG} {key:uE} {κ:Type} [BEq κ] [LawfulBEq κ] (K:CE P key κ):w7 P key κ where
 ke:=K.ke
 find k l ms w h:=LX K k h w
 bits:=K.bits
 check:=K.check
def ga {P:uG} {key:uE} (h:P.underlying key=some (.int .i64)):w7 P key Int:=(Vw h).toF
def L9 {P:uG} {key:uE} (h:P.underlying key=some .string):w7 P key (List uA):=(strKeys h).toF
theorem fh {lim:Nat->Nat} {w:uC} {u v:uB} (h:dY lim w (.ex u) v):v=u:=by cases h;rfl
def askKF {P:uG} {key:uE} {κ:Type} [BEq κ] [LawfulBEq κ] (ke:κ->uB) {kd:TypeDesc} (hu:P.underlying key=some kd)
  (hnow:∀ a b,Instr.sameNow kd (ke a) (ke b)=none) (heq:∀ a b w,(Op.equal key (ke a) (ke b)).run P w=.ok (a==b) w)
  (SY:∀ a,Instr.sameBits 10000 (ke a) (ke a)=true) (Yw:∀ a b w,(Instr.checkKey b 10000 key (ke a)).run P w=.ok () w):w7 P key κ where
 ke:=ke
 find:=by
  intro α k l ms w h;have ask:∀ (l:List (κ×α)) (ms:List MapEntry) (i:Nat),ms.map (·.key)=l.map (λp=>ke p.1) ->
    (Instr.findAsking key (ke k) ms i).run P w=.ok ((eI l k).bind λj=>(ms[j]?).map λm=>(i+j,m.val)) w:=by
   intro l
   induction l with
   | nil =>
    intro ms i h;have:ms=[]:=by simpa using h
    subst this;simp [Instr.findAsking,eI]
   | cons p l ih =>
    intro ms i h;cases ms with
    | nil=>simp at h
    | cons m ms =>
     simp only[zao,List.cons.injEq] at h;have h2:=ih ms (i+1) h.2;unfold Instr.findAsking;rw[h.1];simp only[Sem.run_bind,heq,Result.andThen_ok];by_cases hk:k==p.1
     ·simp [hk,eI,List.findIdx?_cons]
     ·have Vn:(k==p.1)=false:=by simpa using hk
      simp only[Vn,zaz,zbw,h2];unfold eI;rw[List.findIdx?_cons,Vn];simp only[zaz,zbw];cases List.findIdx? (λp=>k==p.1) l with
      | none=>rfl
      | some j =>
       simp only[zac,Option.map_some,List.getElem?_cons_succ];congr 2;funext m;congr 1;omega
  have hf:∀ (ms:List MapEntry) (l:List (κ×α)),ms.map (·.key)=l.map (λp=>ke p.1)->Instr.findNow kd (ke k) ms 0=none∨ms=[]:=by
   intro ms l h;cases ms with
   | nil=>exact .inr rfl
   | cons m ms =>
    cases l with
    | nil=>simp at h
    | cons p l =>
     simp only[zao,List.cons.injEq] at h;left;unfold Instr.findNow;rw[h.1,hnow]
  rcases hf ms l h with h0|h0
  ·simp only[Instr.findKey,Sem.run_bind,run_underlying hu,Result.andThen_ok,h0];have:=ask l ms 0 h;simpa using this
  ·subst h0;have:l=[]:=by simpa using h.symm
   subst this;simp [Instr.findKey,run_underlying hu,Instr.findNow,eI]
 bits:=SY
 check:=Yw
def nk {κ:Type} (ke:κ->uB) (l:List (κ×EV)):List (uB×EV):=l.map λp=>(ke p.1,p.2)
def SZ {κ α:Type} (val:α->D) (l:List (κ×α)):List (κ×EV):=l.map λp=>(p.1,.d (val p.2))
theorem FU {κ α:Type} {ke:κ->uB} {val:α->D} {l:O (κ×α)}:lD ke val l=nk ke (SZ val l):=by
 simp [lD,nk,SZ]
section alist
variable {κ α β:Type} [BEq κ] [LawfulBEq κ]
def gg (l:List (κ×α)) (k:κ):List (κ×α):=match eI l k with
 | some j=>l.eraseIdx j
 | none=>l
theorem Jc (f:α->β) (l:O (κ×α)) (k:κ):eI (l.map λp=>(p.1,f p.2)) k=eI l k:=by
 unfold eI;rw[List.findIdx?_map];rfl
theorem Rh (f:α->β) (l:O (κ×α)) (k:κ):aC (l.map λp=>(p.1,f p.2)) k=(aC l k).map f:=by
 rw[oi,oi,Jc];cases eI l k with
 | none=>rfl
 | some j=>simp only[zac,zbe];cases l[j]? <;> rfl
theorem S0 (f:α->β) (l:O (κ×α)) (k:κ) (a:α):dm (l.map λp=>(p.1,f p.2)) k (f a)=(dm l k a).map λp=>(p.1,f p.2):=by
 unfold dm;rw[Jc];cases eI l k with
 | none=>simp
 | some j=>simp [List.map_set]
theorem OC {l:O (κ×α)} {k:κ} (h:k ∉ l.map (·.1)):aC l k=none:=by
 unfold aC;rw[List.find?_eq_none.2]
 ·rfl
 ·intro p hp he;exact h (eq_of_beq he▸zcd (f:=(·.1)) hp)
end alist
section inv
variable {P:uG} {base:Nat} {g:b8} {w:uC} {st:St}
theorem Inv.OD (hinv:Inv g base w st) {o:Nat} {es es':O (uB×EV)} (ho:st.aS[o]?=some (.map es)) {ms':uD MapEntry} {clock':Nat} (k1:ms'.size=es'.length)
  (k2:∀ (i:Nat) k x (m:MapEntry),es'[i]?=some (k,x)->ms'[i]?=some m->m.key=k/\bP g w st x m.val)
  (k3:∀ (i:Nat) (m:MapEntry),ms'[i]?=some m->m.born<clock') (k4:∀ (i j:Nat) (m m':MapEntry),ms'[i]?=some m->ms'[j]?=some m'->m.born=m'.born->i=j) :
  Inv g base { w with heap:=w.heap.setIfInBounds (g.ob o) (.map ms' clock') } (st.set o (.map es'))/\Step base g w st g { w with heap:=w.heap.setIfInBounds (g.ob o) (.map ms' clock') } (st.set o (.map es')):=by
 obtain ⟨mf,ms,clock,hb,hl,od,CH,EW⟩:=hinv.map o _ ho;have hblk:g.ob o<w.heap.size:=(zay.1 hb).1;have zp:∀ ob:Obj,({ w with heap:=w.heap.setIfInBounds (g.ob o) ob }:uC).heap.size=w.heap.size:=λob=>by simp
 have vO:∀ ob:Obj,∀ b,b≠g.ob o->({ w with heap:=w.heap.setIfInBounds (g.ob o) ob }:uC).heap[b]?=w.heap[b]?:=λob b mc=>by simp [zcg,zcl mc]
 have oe:∀ ob:Obj,({ w with heap:=w.heap.setIfInBounds (g.ob o) ob }:uC).heap[g.ob o]?=some ob:=λob=>by simp [hblk]
 have hnoc:∀ off,w.cell? ⟨g.ob o,off,none⟩=none:=λoff=>by simp [World.cell?,hb]
 have Cx:N5 g.lim w g.lim { w with heap:=w.heap.setIfInBounds (g.ob o) (.map ms' clock') }:=by
  refine ⟨by rw[zp];exact zaq _,λ_ _=>zaq _,λb off mc oc=>?_⟩
  by_cases hbo:b=g.ob o
  ·subst hbo;rw[hnoc];simp [World.cell?,hblk]
  ·exact World.cell?_of_block (w:=w) (a:=⟨b,off,none⟩) (vO _ b hbo)
 have pT:st.live o:=⟨_,ho,by simp⟩;have XY:o<st.aS.length:=(zae.1 ho).1;have hs:wo g w st g { w with heap:=w.heap.setIfInBounds (g.ob o) (.map ms' clock') } (st.set o (.map es')) :=
  ⟨Cx,λ_ _=>rfl,by simp [St.set],λt e sz n ht=>⟨n,ht,zaq _,λ_=>rfl⟩,zaq _,wT λ_ _ _ _ h _=>⟨h,rfl⟩⟩
 have jk:∀ o' y,o'≠o->(st.set o (.map es')).aS[o']?=some y->st.aS[o']?=some y:=by
  intro o' y fK Lr;simpa [St.set,zbm,zcl fK] using Lr
 have U5:∀ o' y,(st.set o (.map es')).aS[o']?=some (.raw y)->base<=g.ob o'/\g.lim (g.ob o')=0/\(w.heap.setIfInBounds (g.ob o) (.map ms' clock'))[g.ob o']?=some y:=by
  intro o' y lO;have fK:o'≠o:=by
   rintro rfl;simp [St.set,XY] at lO
  have Lr:=jk o' _ fK lO;obtain ⟨h1,h2,h3⟩:=hinv.raw o' y Lr;have qT:=hinv.ne o' o fK ⟨_,Lr,by simp⟩ pT;exact ⟨h1,h2,by rw[vO _ _ qT];exact h3⟩
 refine ⟨⟨by rw[zp];exact hinv.base,?_,?_,U5,?_,?_,hinv.pJ,?_,hinv.Fg.below ⟨rfl,rfl,rfl,by rw[zp];exact zaq _,λb mc=>vO _ b (by omega)⟩,?_⟩,⟨hs,⟨rfl,rfl,rfl,by rw[zp];exact zaq _,λb mc=>vO _ b (by omega)⟩,λ_ _=>rfl,
   λb _ hn=>⟨vO _ b (λe=>hn (.inl ⟨o,pT,e.symm⟩)),rfl⟩,λb _ hw=>hw.elim (λ⟨o',a1,a2⟩=>.inl ⟨o',s8 pT a1,a2⟩) .inr⟩⟩
 ·intro o' On cs lO;have fK:o'≠o:=by
   rintro rfl;simp [St.set,XY] at lO
  have Lr:=jk o' _ fK lO;obtain ⟨h1,h2,vs,h3,h4,h5⟩:=hinv.row o' On cs Lr;have qT:=hinv.ne o' o fK ⟨_,Lr,by simp⟩ pT;exact ⟨h1,h2,vs,by rw[vO _ _ qT];exact h3,h4,λi c u hc hu=>⟨(h5 i c u hc hu).1.mono hs,(h5 i c u hc hu).2⟩⟩
 ·intro o' es2 lO;by_cases fK:o'=o
  ·subst fK;have hes:es'=es2:=by simpa [St.set,XY] using lO
   subst hes;exact ⟨mf,ms',clock',oe _,k1,λi kk yy m w8 Vc=>⟨(k2 i kk yy m w8 Vc).1,(k2 i kk yy m w8 Vc).2.mono hs⟩,k3,k4⟩
  ·have Lr:=jk o' _ fK lO;obtain ⟨h1,ms2,c2,h3,h4,h5,h6⟩:=hinv.map o' es2 Lr;have qT:=hinv.ne o' o fK ⟨_,Lr,by simp⟩ pT;exact ⟨h1,ms2,c2,by rw[vO _ _ qT];exact h3,h4,λi kk yy m a b=>⟨(h5 i kk yy m a b).1,(h5 i kk yy m a b).2.mono hs⟩,h6⟩
 ·exact λo1 o2 fK h1 h2=>hinv.ne o1 o2 fK (s8 pT h1) (s8 pT h2)
 ·intro t' e' Lv n' tK;obtain ⟨xs,h1,h2⟩:=hinv.tail t' e' Lv n' tK;exact ⟨xs,fZ h1 λb mc=>vO _ b λe=>hinv.jD t' _ o tK pT (by rw[mc,e]),h2⟩
 ·exact λt' x' o' tK I5=>hinv.jD t' x' o' tK (s8 pT I5)
 ·intro t' e' Lv n' rows tK;obtain ⟨xs,h1,h2,h3⟩:=hinv.own t' e' Lv n' rows tK;exact ⟨xs,fZ h1 λb mc=>vO _ b λe=>hinv.jD t' _ o tK pT (by rw[mc,e]),h2,h3.mono Cx⟩
end inv
section rules
variable {P:uG} {base:Nat} {env:Env} {st:St} {d:Option Tmp} {ty:uE} {pos:String} {after:uD Edge} {gd:Option (Nat×Bool)} {t t2 e key:uE} {x y z:uH}
 {κ α:Type} [BEq κ] [LawfulBEq κ]
theorem Jd {g:b8} {w:uC} {st:St} {l:O (κ×EV)} {ke:κ->uB} {ms:uD MapEntry} (hl:ms.size=(nk ke l).length)
  (h:∀ (i:Nat) k x (m:MapEntry),(nk ke l)[i]?=some (k,x)->ms[i]?=some m->m.key=k/\bP g w st x m.val):ms.toList.map (·.key)=l.map λp=>ke p.1:=by
 apply zck;intro i;rw[zbe,zbe];have hlen:ms.size=l.length:=by simpa [nk] using hl
 by_cases hi:i<l.length
 ·have h1:ms[i]?=some (ms[i]'(by omega)):=zbi (by omega);have h2:l[i]?=some l[i]:=zag hi;have h3:=(h i (ke l[i].1) l[i].2 _ (by simp [nk,h2]) h1).1;rw[h2,zch,h1];simp [h3]
 ·rw[zbq (by simp;omega),zbq (by omega)];rfl
theorem zz (K:w7 P key κ) {o:Nat} {l:List (κ×EV)} {k:κ} {dk:D} {inf:TypeInfo} {zv:uB} {c:Bool} (ht:P.underlying t=some (.map key e)) (hi:P.info? e=some inf) (hz:inf.zero=some zv)
  (hx:df env x=some (.mp o)) (ho:st.aS[o]?=some (.map (nk K.ke l))) (hy:df env y=some (.d dk)) (hk:∀ lim w v,dY lim w dk v->v=K.ke k)
  {g:b8} {w:uC} {tmps:uD uB} (hinv:Inv g base w st) (he:eB g w st env tmps) :
  ∃ v,(match aC l k with|some x=>bP g w st x v|none=>v=zv) /\
   ∀ w',Below w.heap.size w w'->(execOp (Act.eval ⟨tmps,[]⟩) ⟨d,.lookup t x y c,ty,pos,after,gd⟩).run P w'=.ok (.value (if c=true then .tuple #[v,.bool (aC l k).isSome] else v)) w':=by
 have Cz:=aR he hx;generalize hv:Act.eval ⟨tmps,[]⟩ x=v at Cz;have SP:Act.eval ⟨tmps,[]⟩ y=K.ke k:=by
  have:=aR he hy;cases this with|d _ _ h=>exact hk _ _ _ h
 cases Cz with
 | mp _ cT =>
  obtain ⟨_,ms,clock,hb,hl,od,_⟩:=hinv.map o _ ho;have EX:=Jd hl od;have hblk:g.ob o<w.heap.size:=(zay.1 hb).1;rw[oi];cases hf:eI l k with
  | none =>
   refine ⟨zv,rfl,λw' mc=>?_⟩;have Gr:w'.heap[g.ob o]?=some (.map ms clock):=(mc.block _ hblk).trans hb;have Je:=K.find k l ms.toList w' EX;rw[hf] at Je;simp [execOp,hv,SP,Instr.lookup,run_underlying ht,getObj,Sem.run,Gr,K.check,Je,u9 hi hz]
  | some j =>
   have hj:=zt hf;have hlen:ms.size=l.length:=by simpa [nk] using hl
   have h1:ms[j]?=some (ms[j]'(by omega)):=zbi (by omega);have h2:l[j]?=some l[j]:=zag hj;have h3:=(od j (K.ke l[j].1) l[j].2 _ (by simp [nk,h2]) h1).2;simp only[zac,h2,Option.map_some,Option.isSome_some];refine ⟨(ms[j]'(by omega)).val,h3,λw' mc=>?_⟩;have Gr:w'.heap[g.ob o]?=some (.map ms clock):=(mc.block _ hblk).trans hb;have Je:=K.find k l ms.toList w' EX;rw[hf] at Je;have Gp:ms.toList[j]?=some (ms[j]'(by omega)):=by rw[zch];exact h1
   simp only[zac,Gp,Option.map_some] at Je;simp [execOp,hv,SP,Instr.lookup,run_underlying ht,getObj,Sem.run,Gr,K.check,Je]
theorem Ma {g:b8} {w:uC} {st:St} {u:uB} {b:Bool} {c:D} (h:bP g w st (.d c) u):bP g w st (.d (.dN [c,.ex (.bool b)])) (.tuple #[u,.bool b]):=by
 have h':dY g.lim w c u:=by cases h with|d _ _ h=>exact h
 refine .d _ _ (.dN _ _ rfl ?_);intro i c' u' hc hu
 match i with
 | 0=>simp at hc hu;subst hc;subst hu;exact h'
 | 1=>simp at hc hu;subst hc;subst hu;exact .ex _
 | n+2=>simp at hc
theorem GK {val:α->D} {l:O (κ×α)} {k:κ}:aC (SZ val l) k=(aC l k).map λa=>.d (val a):=Rh (λa=>EV.d (val a)) l k
theorem fP (K:w7 P key κ) {o:Nat} {l:O (κ×α)} {val:α->D} {k:κ} {dk:D} {inf:TypeInfo} {zv:uB} {a0:α} (ht:P.underlying t=some (.map key e)) (hi:P.info? e=some inf) (hz:inf.zero=some zv) (hz0:ur (cv zv) (val a0))
  (hx:df env x=some (.mp o)) (ho:st.aS[o]?=some (.map (lD K.ke val l))) (hy:df env y=some (.d dk)) (hk:∀ lim w v,dY lim w dk v->v=K.ke k) :
  aJ P env st ⟨d,.lookup t x y false,ty,pos,after,gd⟩ (.d (val ((aC l k).getD a0))):=by
 intro g base w tmps hinv he;rw[FU] at ho;obtain ⟨v,h1,h2⟩:=zz (c:=false) (d:=d) (ty:=ty) (pos:=pos) (after:=after) (gd:=gd) K ht hi hz hx ho hy hk hinv he;rw[GK] at h1;refine ⟨v,?_,λw' hb=>by simpa using h2 w' hb⟩;cases hl:aC l k with
 | none=>rw[hl] at h1;simp only[Option.map_none] at h1;subst h1;exact .d _ _ (hz0 _ _ _ (rY g.lim w v))
 | some a=>rw[hl] at h1;exact h1
theorem jH (K:w7 P key κ) {o:Nat} {l:O (κ×α)} {val:α->D} {k:κ} {dk:D} {inf:TypeInfo} {zv:uB} {a0:α} (ht:P.underlying t=some (.map key e)) (hi:P.info? e=some inf) (hz:inf.zero=some zv) (hz0:ur (cv zv) (val a0))
  (hx:df env x=some (.mp o)) (ho:st.aS[o]?=some (.map (lD K.ke val l))) (hy:df env y=some (.d dk)) (hk:∀ lim w v,dY lim w dk v->v=K.ke k) :
  aJ P env st ⟨d,.lookup t x y true,ty,pos,after,gd⟩ (.d (.dN [val ((aC l k).getD a0),.ex (.bool (aC l k).isSome)])):=by
 intro g base w tmps hinv he;rw[FU] at ho;obtain ⟨v,h1,h2⟩:=zz (c:=true) (d:=d) (ty:=ty) (pos:=pos) (after:=after) (gd:=gd) K ht hi hz hx ho hy hk hinv he;rw[GK] at h1 h2;refine ⟨_,?_,h2⟩;rw[zab rfl];cases hl:aC l k with
 | none=>rw[hl] at h1;simp only[Option.map_none] at h1;subst h1;exact Ma (.d _ _ (hz0 _ _ _ (rY g.lim w v)))
 | some a=>rw[hl] at h1;exact Ma h1
theorem EY (K:w7 P key κ) {o:Nat} {l:O (κ×EV)} {k:κ} {dk:D} {ev:EV} (ht:P.underlying t=some (.map key e)) (hx:df env x=some (.mp o)) (ho:st.aS[o]?=some (.map (nk K.ke l)))
  (hy:df env y=some (.d dk)) (hk:∀ lim w v,dY lim w dk v->v=K.ke k) {g:b8} {w:uC} {tmps:uD uB} (hinv:Inv g base w st) (he:eB g w st env tmps) (hz:bP g w st ev (Act.eval ⟨tmps,[]⟩ z)) :
  ∃ w',(Instr.mapUpdate t (Act.eval ⟨tmps,[]⟩ x) (Act.eval ⟨tmps,[]⟩ y) (Act.eval ⟨tmps,[]⟩ z)).run P w=.ok () w'/\Inv g base w' (st.set o (.map (nk K.ke (dm l k ev))))/\Step base g w st g w' (st.set o (.map (nk K.ke (dm l k ev)))):=by
 have Cz:=aR he hx;generalize hv:Act.eval ⟨tmps,[]⟩ x=v at Cz;have SP:Act.eval ⟨tmps,[]⟩ y=K.ke k:=by
  have:=aR he hy;cases this with|d _ _ h=>exact hk _ _ _ h
 generalize hu:Act.eval ⟨tmps,[]⟩ z=u at hz;cases Cz with
 | mp _ cT =>
  obtain ⟨mf,ms,clock,hb,hl,od,CH,EW⟩:=hinv.map o _ ho;have EX:=Jd hl od;have hblk:g.ob o<w.heap.size:=(zay.1 hb).1;have hlen:ms.size=l.length:=by simpa [nk] using hl
  have Je:=K.find k l ms.toList w EX;have fin:∀ (ms':uD MapEntry) (clock':Nat),ms'.size=(dm l k ev).length ->
    (∀ (i:Nat) (p:κ×EV) (m:MapEntry),(dm l k ev)[i]?=some p->ms'[i]?=some m->m.key=K.ke p.1/\bP g w st p.2 m.val) ->
    (∀ (i:Nat) (m:MapEntry),ms'[i]?=some m->m.born<clock')->(∀ (i j:Nat) (m m':MapEntry),ms'[i]?=some m->ms'[j]?=some m'->m.born=m'.born->i=j) ->
    (Instr.mapUpdate t (.map (some (g.ob o))) (K.ke k) u).run P w=.ok () { w with heap:=w.heap.setIfInBounds (g.ob o) (.map ms' clock') } ->
    ∃ w',(Instr.mapUpdate t (.map (some (g.ob o))) (Act.eval ⟨tmps,[]⟩ y) u).run P w=.ok () w'/\Inv g base w' (st.set o (.map (nk K.ke (dm l k ev))))/\Step base g w st g w' (st.set o (.map (nk K.ke (dm l k ev)))):=by
   intro ms' clock' k1 k2 k3 k4 k5;obtain ⟨q1,q2⟩:=hinv.OD (es':=nk K.ke (dm l k ev)) ho (ms':=ms') (clock':=clock') (by simpa [nk] using k1) (λi kk yy m w8 Vc=>by
    simp only[nk,zbe] at w8;cases hp:(dm l k ev)[i]? with
    | none=>rw[hp] at w8;cases w8
    | some p=>rw[hp] at w8;cases w8;exact k2 i p m hp Vc) k3 k4
   exact ⟨_,by rw[SP];exact k5,q1,q2⟩
  cases hf:eI l k with
  | none =>
   rw[hf] at Je;simp only[Option.bind_none] at Je;have Mb:dm l k ev=l++[(k,ev)]:=by unfold dm;rw[hf]
   refine fin (ms.push ⟨K.ke k,u,clock⟩) (clock+1) (by simp [Mb,hlen]) ?_ ?_ ?_ ?_
   ·intro i p m hp hm;rw[Mb] at hp;by_cases hi:i<l.length
    ·rw[zap hi] at hp;rw[zds (by omega)] at hm;exact od i (K.ke p.1) p.2 m (by simp [nk,hp]) (by rw[zbi (by omega)];exact hm)
    ·have hi':i=l.length:=by
      have:=(zae.1 hp).1;simp at this;omega
     subst hi';simp at hp;subst hp;rw[←hlen] at hm;simp at hm;subst hm;exact ⟨rfl,hz⟩
   ·intro i m hm;by_cases hi:i<ms.size
    ·rw[zds hi] at hm;have:=CH i m (by rw[zbi hi];exact hm);omega
    ·have mI:=(zay.1 hm).1;simp at mI;have:i=ms.size:=by omega
     subst this;simp at hm;subst hm;exact zfw _
   ·intro i j m m' hm yJ Cl;have get:∀ (i:Nat) m,(ms.push ⟨K.ke k,u,clock⟩)[i]?=some m->(i<ms.size/\ms[i]?=some m)∨(i=ms.size/\m.born=clock):=by
     intro i m hm;by_cases hi:i<ms.size
     ·rw[zds hi] at hm;exact .inl ⟨hi,by rw[zbi hi];exact hm⟩
     ·have mI:=(zay.1 hm).1;simp at mI;have:i=ms.size:=by omega
      subst this;simp at hm;subst hm;exact .inr ⟨rfl,rfl⟩
    rcases get i m hm with ⟨h1,h2⟩|⟨h1,h2⟩ <;> rcases get j m' yJ with ⟨h3,h4⟩|⟨h3,h4⟩
    ·exact EW i j m m' h2 h4 Cl
    ·have:=CH i m h2;omega
    ·have:=CH j m' h4;omega
    ·omega
   ·simp [Instr.mapUpdate,run_underlying ht,getObj,setObj,Sem.run,hb,K.check,Je]
  | some j =>
   have hj:=zt hf;have Mb:dm l k ev=l.set j (k,ev):=by unfold dm;rw[hf]
   have Ai:(k==l[j].1)=true:=by
    unfold eI at hf;rw[List.findIdx?_eq_some_iff_getElem] at hf;exact hf.2.1
   have hkj:k=l[j].1:=eq_of_beq Ai;have h1:ms[j]?=some (ms[j]'(by omega)):=zbi (by omega);have Gp:ms.toList[j]?=some (ms[j]'(by omega)):=by rw[zch];exact h1
   rw[hf] at Je;simp only[zac,Gp,Option.map_some] at Je;have hkey:(ms[j]'(by omega)).key=K.ke k:=by
    have:=(od j (K.ke l[j].1) l[j].2 _ (by simp [nk,zag hj]) h1).1;rw[this,hkj]
   have zn:∀ (i:Nat) m,(ms.modify j λe=>{ e with key:=K.ke k,val:=u })[i]?=some m->(i=j/\m={ (ms[j]'(by omega)) with key:=K.ke k,val:=u })∨(i≠j/\ms[i]?=some m):=by
    intro i m hm;rw[zfy] at hm;by_cases PK:j=i
    ·subst PK;rw[zab rfl,h1] at hm;cases hm;exact .inl ⟨rfl,rfl⟩
    ·rw[zaa PK] at hm;exact .inr ⟨zcl PK,hm⟩
   refine fin (ms.modify j λe=>{ e with key:=K.ke k,val:=u }) clock (by simp [Mb,hlen]) ?_ ?_ ?_ ?_
   ·intro i p m hp hm;rw[Mb,zbm] at hp;rcases zn i m hm with ⟨rfl,rfl⟩|⟨fK,yJ⟩
    ·rw[zab rfl] at hp;simp [hj] at hp;subst hp;exact ⟨rfl,hz⟩
    ·rw[zaa (zcl fK)] at hp;exact od i (K.ke p.1) p.2 m (by simp [nk,hp]) yJ
   ·intro i m hm;rcases zn i m hm with ⟨rfl,rfl⟩|⟨fK,yJ⟩
    ·exact CH _ (ms[i]'(by omega)) h1
    ·exact CH _ _ yJ
   ·intro i i' m m' hm yJ Cl;rcases zn i m hm with ⟨rfl,rfl⟩|⟨fK,h2⟩ <;> rcases zn i' m' yJ with ⟨rfl,rfl⟩|⟨qT,EM⟩
    ·rfl
    ·exact EW _ _ (ms[i]'(by omega)) _ h1 EM Cl
    ·exact EW _ _ _ (ms[i']'(by omega)) h2 h1 Cl
    ·exact EW _ _ _ _ h2 EM Cl
   ·have SY:Instr.sameBits 10000 (K.ke k) (K.ke k)=true:=K.bits k;simp [Instr.mapUpdate,run_underlying ht,getObj,setObj,Sem.run,hb,K.check,Je,Instr.keyThatStays,h1,hkey,SY]
theorem Kg (K:w7 P key κ) {o:Nat} {l:O (κ×EV)} {k:κ} {dk:D} {ev:EV} (ht:P.underlying t=some (.map key e)) (hx:df env x=some (.mp o)) (ho:st.aS[o]?=some (.map (nk K.ke l)))
  (hy:df env y=some (.d dk)) (hk:∀ lim w v,dY lim w dk v->v=K.ke k) (hz:df env z=some ev) :
  JT P base env st ⟨d,.mapUpdate t x y z,ty,pos,after,gd⟩ (st.set o (.map (nk K.ke (dm l k ev)))):=by
 intro g w tmps hinv he;obtain ⟨w',h1,h2,h3⟩:=EY (z:=z) K ht hx ho hy hk hinv he (aR he hz);exact ⟨g,w',by simp [execOp,h1],h2,h3⟩
theorem dD (K:w7 P key κ) {o:Nat} {l:O (κ×α)} {val:α->D} {k:κ} {dk:D} {a:α} {ev:EV} (ht:P.underlying t=some (.map key e)) (hx:df env x=some (.mp o)) (ho:st.aS[o]?=some (.map (lD K.ke val l)))
  (hy:df env y=some (.d dk)) (hk:∀ lim w v,dY lim w dk v->v=K.ke k) (hz:df env z=some ev) (hle:eC ev (.d (val a))) :
  JT P base env st ⟨d,.mapUpdate t x y z,ty,pos,after,gd⟩ (st.set o (.map (lD K.ke val (dm l k a)))):=by
 intro g w tmps hinv he;rw[FU] at ho;obtain ⟨w',h1,h2,h3⟩:=EY (z:=z) K ht hx ho hy hk hinv he (hle _ _ _ _ (aR he hz));have hs:nk K.ke (dm (SZ val l) k (.d (val a)))=lD K.ke val (dm l k a):=by
  rw[FU];unfold SZ;rw[S0 (λa=>EV.d (val a))]
 rw[hs] at h2 h3;exact ⟨g,w',by simp [execOp,h1],h2,h3⟩
theorem DW (K:w7 P key κ) {o:Nat} {l:O (κ×α)} {val:α->D} {k:κ} {dk:D} (ht:P.underlying t=some (.map key e)) (hx:df env x=some (.mp o)) (ho:st.aS[o]?=some (.map (lD K.ke val l)))
  (hy:df env y=some (.d dk)) (hk:∀ lim w v,dY lim w dk v->v=K.ke k) :
  zj P base env st ⟨d,.call ⟨.builtin .delete,#[x,y],#[t,t2]⟩,ty,pos,after,gd⟩ (.d (.dN [])) (st.set o (.map (lD K.ke val (gg l k)))):=by
 intro g w tmps hinv he;have Cz:=aR he hx;generalize hv:Act.eval ⟨tmps,[]⟩ x=v at Cz;have SP:Act.eval ⟨tmps,[]⟩ y=K.ke k:=by
  have:=aR he hy;cases this with|d _ _ h=>exact hk _ _ _ h
 cases Cz with
 | mp _ cT =>
  obtain ⟨mf,ms,clock,hb,hl,od,CH,EW⟩:=hinv.map o _ ho;have EX:=SO hl od;have hblk:g.ob o<w.heap.size:=(zay.1 hb).1;have hlen:ms.size=l.length:=by simpa [lD] using hl
  have Je:=K.find k l ms.toList w EX;have fin:∀ (ms':uD MapEntry),ms'.size=(gg l k).length ->
    (∀ (i:Nat) (p:κ×α) (m:MapEntry),(gg l k)[i]?=some p->ms'[i]?=some m->m.key=K.ke p.1/\bP g w st (.d (val p.2)) m.val) ->
    (∀ (i:Nat) (m:MapEntry),ms'[i]?=some m->m.born<clock)->(∀ (i j:Nat) (m m':MapEntry),ms'[i]?=some m->ms'[j]?=some m'->m.born=m'.born->i=j) ->
    (execOp (Act.eval ⟨tmps,[]⟩) ⟨d,.call ⟨.builtin .delete,#[x,y],#[t,t2]⟩,ty,pos,after,gd⟩).run P w=.ok (.value (.tuple #[])) { w with heap:=w.heap.setIfInBounds (g.ob o) (.map ms' clock) } ->
    ∃ v g' w',(execOp (Act.eval ⟨tmps,[]⟩) ⟨d,.call ⟨.builtin .delete,#[x,y],#[t,t2]⟩,ty,pos,after,gd⟩).run P w=.ok (.value v) w'/\bP g' w' (st.set o (.map (lD K.ke val (gg l k)))) (.d (.dN [])) v/\Inv g' base w' (st.set o (.map (lD K.ke val (gg l k))))/\Step base g w st g' w' (st.set o (.map (lD K.ke val (gg l k)))):=by
   intro ms' k1 k2 k3 k4 k5;obtain ⟨q1,q2⟩:=hinv.OD (es':=lD K.ke val (gg l k)) ho (ms':=ms') (clock':=clock) (by simpa [lD] using k1) (λi kk yy m w8 Vc=>by
    simp only[lD,zbe] at w8;cases hp:(gg l k)[i]? with
    | none=>rw[hp] at w8;cases w8
    | some p=>rw[hp] at w8;cases w8;exact k2 i p m hp Vc) k3 k4
   exact ⟨_,g,_,k5,.d _ _ (.dN _ _ rfl (λi c u h=>by simp at h)),q1,q2⟩
  cases hf:eI l k with
  | none =>
   rw[hf] at Je;simp only[Option.bind_none] at Je;have her:gg l k=l:=by unfold gg;rw[hf]
   refine fin ms (by rw[her,hlen]) (λi p m hp hm=>?_) CH EW ?_
   ·rw[her] at hp;exact od i (K.ke p.1) (.d (val p.2)) m (by simp [lD,hp]) hm
   ·simp [execOp,resolve,invoke,builtin,hv,SP,Builtin.delete_,run_underlying ht,getObj,setObj,Sem.run,hb,K.check,Je]
  | some j =>
   have hj:=zt hf;have her:gg l k=l.eraseIdx j:=by unfold gg;rw[hf]
   have h1:ms[j]?=some (ms[j]'(by omega)):=zbi (by omega);have Gp:ms.toList[j]?=some (ms[j]'(by omega)):=by rw[zch];exact h1
   rw[hf] at Je;simp only[zac,Gp,Option.map_some] at Je;have hms:ms.eraseIdxIfInBounds j=(ms.toList.eraseIdx j).toArray:=by
    apply Array.toList_inj.1;unfold Array.eraseIdxIfInBounds;rw[dif_pos (by omega)];simp
   have xR:∀ (i:Nat) m,(ms.eraseIdxIfInBounds j)[i]?=some m->ms[if i<j then i else i+1]?=some m:=by
    intro i m hm;rw[hms] at hm;simp only[List.getElem?_toArray,List.getElem?_eraseIdx,zch] at hm;split at hm
    ·rename_i h;rw[zab h];exact hm
    ·rename_i h;rw[zaa h];exact hm
   refine fin (ms.eraseIdxIfInBounds j) ?_ (λi p m hp hm=>?_) (λi m hm=>CH _ m (xR i m hm)) (λi i' m m' hm yJ Cl=>?_) ?_
   ·rw[her,hms];simp [List.length_eraseIdx,hlen,hj]
   ·rw[her,List.getElem?_eraseIdx] at hp;have yJ:=xR i m hm;split at hp
    ·rename_i h;rw[zab h] at yJ;exact od i (K.ke p.1) (.d (val p.2)) m (by simp [lD,hp]) yJ
    ·rename_i h;rw[zaa h] at yJ;exact od (i+1) (K.ke p.1) (.d (val p.2)) m (by simp [lD,hp]) yJ
   ·have:=EW _ _ m m' (xR i m hm) (xR i' m' yJ) Cl;split at this <;> split at this <;> omega
   ·simp [execOp,resolve,invoke,builtin,hv,SP,Builtin.delete_,run_underlying ht,getObj,setObj,Sem.run,hb,K.check,Je]
end rules
section lit
variable {P:uG} {f:Ctx} {N:Nat} {S:Start} {Q:EV->St->Prop} {k:List Item} {κ:Type} [BEq κ] [LawfulBEq κ] {key:uE}
theorem bA.split {todo:O Item} {env:Env} {st:St} (b:Bool) (ht:b=true->bA P f N S Q todo env st) (hf:b=false->bA P f N S Q todo env st):bA P f N S Q todo env st:=by
 cases hb:b with
 | true=>exact ht hb
 | false=>exact hf hb
def MStep (P:uG) (N:Nat) (l:List Oper) (m:Nat) (t:uE) (K:w7 P key κ) (ins:List (Nat×κ×EV)) (st0:St) (i:Nat) (o:Oper) (env:Env) (x:EV):Prop :=
  hZ N o.dst=true /\
  (((Nat.beq i m || ins.any λe=>Nat.beq e.1 i)=false/\∀ st,(st=st0∨∃ es,st=st0.add (.map es))->vY P l env st o x) ∨
   (i=m/\o.guard=none/\x=.mp st0.aS.length/\∃ t,o.op=.makeMap t none) ∨
   (∃ kk v dk a b c,(i,kk,v)∈ins/\x=.d .any/\o.guard=none/\o.op=.insert t a b c/\df env a=some (.mp st0.aS.length)/\df env b=some (.d dk)/\(∀ lim w v,dY lim w dk v->v=K.ke kk)/\df env c=some v /\
      ((eG l []).getD i 0).testBit m=true))
def S3 (P:uG) (N:Nat) (l:List Oper) (m:Nat) (t:uE) (K:w7 P key κ) (ins:List (Nat×κ×EV)) (st0:St):Nat->List Oper->List EV->Env->Prop
 | _,[],[],_=>True
 | i,o::os,x::xs,env=>MStep P N l m t K ins st0 i o (pK l o env) x/\S3 P N l m t K ins st0 (i+1) os xs (env.put o.dst x)
 | _,_,_,_=>False
def Ri (P:uG) (f:Ctx) (N:Nat) (S:Start) (Q:EV->St->Prop) (l:List Oper) (p m:Nat) (t:uE) (K:w7 P key κ) (ins:List (Nat×κ×EV)) (i:Nat) (os:List Oper) (k:List Item) (env:Env) (st:St):Prop :=
 ∃ xs,S3 P N l m t K ins st i os xs env/\∀ es,es.Perm (ins.map (·.2))->cr P f N S Q l (l.drop p) k (ij env os xs) (st.add (.map (nk K.ke es)))
variable {l:List Oper} {p m:Nat} {t:uE} {K:w7 P key κ} {ins:List (Nat×κ×EV)} {i:Nat} {os:List Oper} {env:Env} {st:St} {d:Option Tmp} {op:Op} {ty:uE} {pos:String} {after:uD Edge} {x:EV}
theorem Ri.g (h:∀ s,(s=st∨∃ es,s=st.add (.map es))->BL P (pK l ⟨d,op,ty,pos,after,none⟩ env) s ⟨d,op,ty,pos,after,none⟩ x) (hb:(Nat.beq i m || ins.any λe=>Nat.beq e.1 i)=false) (hd:hZ N d=true)
  (hk:Ri P f N S Q l p m t K ins (i+1) os k (env.put d x) st):Ri P f N S Q l p m t K ins i (⟨d,op,ty,pos,after,none⟩::os) k env st:=by
 obtain ⟨xs,h1,h2⟩:=hk;exact ⟨x::xs,⟨⟨hd,.inl ⟨hb,λs hs=>.inl ⟨rfl,h s hs⟩⟩⟩,h1⟩,h2⟩
theorem Ri.q (h:∀ s,(s=st∨∃ es,s=st.add (.map es))->aJ P (pK l ⟨d,op,ty,pos,after,none⟩ env) s ⟨d,op,ty,pos,after,none⟩ x) (hb:(Nat.beq i m || ins.any λe=>Nat.beq e.1 i)=false) (hd:hZ N d=true)
  (hk:Ri P f N S Q l p m t K ins (i+1) os k (env.put d x) st):Ri P f N S Q l p m t K ins i (⟨d,op,ty,pos,after,none⟩::os) k env st:=.g (λs hs=>(h s hs).g) hb hd hk
end lit
theorem Kh {lim:Nat->Nat} {w:uC} {ds:O D} {vs:O uB} {v:uB} (h:dY lim w (.agg ds) v) (he:U9 ds=some vs):v=.agg vs.toArray:=by
 have hm:=J2 he;subst hm;cases h with
 | agg _ us hs ho hc =>
  congr 1;apply Array.ext';apply zck;intro i;simp only[zcz] at hs;by_cases hi:i<vs.length
  ·have h1:us[i]?=some (us[i]'(by omega)):=zbi (by omega);have h2:=hc i (.ex vs[i]) _ (by simp [hi]) h1;rw[zch,h1,xP h2];simp [hi]
  ·rw[zbq (by simp;omega),zbq (by simpa using hi)]
section keys
variable {P:uG}
theorem Ki {k:FK} {v:uB} (h:sa k v=true) (n:Nat):Instr.sameBits n v v=true:=by
 cases v <;> cases k <;> simp [sa] at h <;> simp [Instr.sameBits] <;> (rw[beq_toListBytes];simp)
theorem Bd:∀ {ks:O FK} {vs:O uB},fitAll ks vs=true->∀ n,(vs.zip vs).all (λp=>Instr.sameBits n p.1 p.2)=true
 | [],[],_,n=>rfl
 | k::ks,v::vs,h,n=>by
  simp only[fitAll,zat] at h;simp only[List.zip_cons_cons,zet,Ki h.1,Bd h.2,Bool.and_self]
 | [],_::_,h,_=>by cases h
 | _::_,[],h,_=>by cases h
theorem Kj {t:uE} {k:FK} (h:Ir (P.underlying t)=some k) {v:uB} (hv:sa k v=true) (b:Bool) (n:Nat) (w:uC):(Instr.checkKey b (n+1) t v).run P w=.ok () w:=by
 cases hd:P.underlying t with
 | none=>rw[hd] at h;cases h
 | some Oi =>
  rw[hd] at h;cases Oi <;> simp only[Ir,Option.some.injEq,reduceCtorEq] at h <;> subst h <;> cases v <;> simp [sa] at hv <;> simp [Instr.checkKey,run_underlying hd]
theorem EZ (b:Bool) (n:Nat) (w:uC) (X:uD uB):∀ (fs:List Field) (k:Nat) (ks:List FK) (vs:List uB),tb P k fs=some ks->fitAll ks vs=true->(∀ (j:Nat) v,vs[j]?=some v->X[k+j]?=some v) ->
  (forIn fs PUnit.unit (λf _=>do
   if f.name ≠ "_" then do
    Instr.checkKey b (n+1) f.type (←part f.type X f.offset)
    pure (.yield PUnit.unit)
   else pure (.yield PUnit.unit)):Sem PUnit).run P w=.ok PUnit.unit w
 | [],k,ks,vs,h,hv,hX=>by simp
 | f::fs,k,ks,vs,h,hv,hX=>by
  unfold tb at h;split at h
  ·rename_i kk ks' h1 h2 h3 h4;simp only[Option.some.injEq] at h;subst h
   match vs with
   | []=>cases hv
   | v::vs =>
    simp only[fitAll,zat] at hv;have ho:=zaw h1;have LY:f.name ≠ "_" := zcv h2;have px:=w5 h3 (cs:=X) (off:=f.offset) (hX 0 v rfl |> λh=>by rw[ho];simpa using h) w;have pc:=Kj h3 hv.1 b n w;have ih:=EZ b n w X fs (k+1) ks' vs h4 hv.2 (λj v hv=>by have:=hX (j+1) v (by simpa using hv);rwa [show k+1+j=k+(j+1) by omega]);rw[List.forIn_cons];simp only[zab LY,Sem.run_bind,px,pc,Result.andThen_ok,Sem.run_pure];exact ih
  ·cases h
def stKF {κ:Type} [BEq κ] [LawfulBEq κ] {key:uE} {fs:uD Field} {ks:List FK} (bM:κ->List uB) (hu:P.underlying key=some (.struct fs)) (hk:jd P key=some ks) (hf:∀ a,fitAll ks (bM a)=true)
  (he:∀ a b,et (bM a) (bM b)=(a==b)):w7 P key κ :=
 askKF (λa=>.agg (bM a).toArray) hu (λ_ _=>rfl) (λa b w=>by
   have:=(J1 (P:=P) hk (hf a) (hf b) w .eql (.const (.bool true)) (.const (.bool true))).2;rw[he a b] at this;exact this)
  (λa=>by
   have:=Bd (hf a) 9999;show Instr.sameBits (9999+1) _ _=true;simp only[Instr.sameBits];simpa using this)
  (λa b w=>by
   have Fl:tb P 0 fs.toList=some ks:=by
    unfold jd at hk;rw[hu] at hk;simp only at hk;split at hk
    ·cases hk
    ·exact hk
   have:=EZ (P:=P) b 9998 w (bM a).toArray fs.toList 0 ks (bM a) Fl (hf a) (λj v hv=>by simpa using hv);show (Instr.checkKey b (9999+1) key _).run P w=.ok () w;unfold Instr.checkKey;simp only[Sem.run_bind,run_underlying hu,Result.andThen_ok];rw[←Array.forIn_toList,show (9999:Nat)=9998+1 from rfl,this];rfl)
end keys
structure yL (l:List Oper) (p:Nat) (σ:List Nat):Prop where
 nodup:σ.Nodup
 mem:∀ i,i∈σ↔i<p
 mask:∀ pre i post,σ=pre++i::post->∀ j,((eG l []).getD i 0).testBit j=true->j∈pre
theorem S4 {l:O Oper} {p:Nat} (hp:p<=l.length)
  (Gw:∀ i,p<=i->i<l.length->∀ j,j<i->((eG l []).getD i 0).testBit j=true)
  (yK:∀ (i:Nat) o,l[i]?=some o->∀ e∈o.after,Region.binds .any e=true->e.on<i) :
  ∀ (Gx fuel t:Nat) (listed:uD Bool),listed.size=l.length->xM l listed->(∀ i,p<=i->i<l.length->listed.getD i true=false) ->
   (((List.range p).filter λi=>!listed.getD i true).length=Gx)->Gx+(l.length-p)<=fuel ->
   ∃ σ:O Nat,Region.linearise.go .any l.toArray fuel t listed []=σ++List.range' p (l.length-p)/\σ.Nodup/\(∀ i,i∈σ↔i<p/\listed.getD i true=false) /\
    ∀ pre i post,σ=pre++i::post->∀ j,((eG l []).getD i 0).testBit j=true->j∈pre∨listed.getD j false=true:=by
 intro Gx
 induction Gx with
 | zero =>
  intro fuel t listed hs s7 SF CC LS;have pL:∀ i,i<p->listed.getD i true=true:=by
   intro i hi;have h0:=zba CC;have hn:i ∉ (List.range p).filter λi=>!listed.getD i true:=by rw[h0];simp
   rw[zcq,List.mem_range] at hn;cases hb:listed.getD i true with
   | true=>rfl
   | false=>exact absurd ⟨hi,by simp [hb]⟩ hn
  have hgo:=Ah Gw yK fuel t p listed (zaq _) hp (by omega) hs (λi hi=>by
   by_cases h:i<p
   ·rw[pL i h];simp [h]
   ·rw[SF i (by omega) hi];simp [h])
  refine ⟨[],by rw[hgo];rfl,List.nodup_nil,λi=>⟨λh=>(by cases h),λh=>?_⟩,λpre i post h=>by simp at h⟩
  rw[pL i h.1] at h;cases h.2
 | succ Gx ih =>
  intro fuel t listed hs s7 SF CC LS;obtain ⟨fuel,rfl⟩:∃ n,fuel=n+1:=⟨fuel-1,by omega⟩
  -- an operation of the beginning that has not come up
  have hex:∃ i,i<p/\listed.getD i true=false:=by
   have:(List.range p).filter (λi=>!listed.getD i true)≠[]:=λh=>by rw[h] at CC;simp at CC
   obtain ⟨i,hi⟩:=zfl _ this;rw[zcq,List.mem_range] at hi;exact ⟨i,hi.1,by simpa using hi.2⟩
  have Q3:∀ i,i<l.length->listed.getD i false=listed.getD i true:=λi hi=>by
   have cT:i<listed.size:=by omega
   simp [zau,cT]
  have Ya:((List.range l.toArray.size).filter λi=>!listed.getD i true && ((l.toArray[i]?).map (·.after.all λe=>!Region.binds .any e || listed.getD e.on false)).getD false)=Region.ready .any l.toArray listed:=rfl
  -- the least such is ready
  have fK:Region.ready .any l.toArray listed≠[]:=by
   have SG:∀ n i,i<=n->i<p->listed.getD i true=false->∃ i,i<p/\listed.getD i true=false/\∀ j,j<i->listed.getD j true=true:=by
    intro n
    induction n with
    | zero=>intro i hi Q4 h;exact ⟨i,Q4,h,λj hj=>by omega⟩
    | succ n ihn =>
     intro i hi Q4 h;by_cases Ol:∃ j,j<i/\listed.getD j true=false
     ·obtain ⟨j,hj,Ip⟩:=Ol;exact ihn j (by omega) (by omega) Ip
     ·refine ⟨i,Q4,h,λj hj=>?_⟩;cases hb:listed.getD j true with
      | true=>rfl
      | false=>exact absurd ⟨j,hj,hb⟩ Ol
   obtain ⟨i0,h0,h1⟩:=hex;obtain ⟨i,J0,LU,pb⟩:=SG i0 i0 (zaq _) h0 h1;have qU:i<l.length:=by omega
   have:i∈Region.ready .any l.toArray listed:=by
    rw[mem_ready];refine ⟨LU,l[i],by simp [qU],λe he hb=>?_⟩;have cT:=yK i l[i] (zag qU) e he hb;rw[Q3 _ (by omega)];exact pb _ cT
   intro Io;rw[Io] at this;cases this
  simp only[Region.linearise.go,Ya];have hlen:0<(Region.ready .any l.toArray listed).length:=zdc.2 fK;have zn:=zen t hlen;generalize hi:(Region.ready .any l.toArray listed)[t % (Region.ready .any l.toArray listed).length]=i;have EP:(Region.ready .any l.toArray listed)[t % (Region.ready .any l.toArray listed).length]?=some i:=by rw[zag zn,hi]
  rw[EP];simp only[];rw[linearise_go_acc];have him:i∈Region.ready .any l.toArray listed:=zbj EP;obtain ⟨LU,o,ho,pL⟩:=mem_ready.1 him;have oc:l[i]?=some o:=by simpa using ho
  have qU:=(zae.1 oc).1;have vd:=xO s7 oc (λe he hb=>pL e he hb);have J0:i<p:=by
   rcases zgb i p with h|h
   ·exact h
   ·obtain ⟨i0,h0,h1⟩:=hex;have:=vd i0 (Gw i h qU i0 (by omega));rw[Q3 i0 (by omega),h1] at this;cases this
  -- what remains behind it
  have LV:((List.range p).filter λj=>!(listed.setIfInBounds i true).getD j true).length=Gx:=by
   have zp:∀ j,(listed.setIfInBounds i true).getD j true=(listed.getD j true || decide (j=i)):=by
    intro j;by_cases nK:j=i
    ·subst nK;simp [zau,hs,qU]
    ·rw[getD_set_ne true (zcl nK)];simp [nK]
   have SH:((List.range p).filter λj=>!(listed.setIfInBounds i true).getD j true)=((List.range p).filter λj=>!listed.getD j true).filter λj=>!decide (j=i):=by
    rw[List.filter_filter];refine zek λj _=>?_
    rw[zp j];cases listed.getD j true <;> simp
   rw[SH];have Xb:((List.range p).filter λj=>!listed.getD j true).Nodup:=List.nodup_range.filter _;have qY:i∈(List.range p).filter λj=>!listed.getD j true:=by rw[zcq,List.mem_range];exact ⟨J0,by simp [LU]⟩
   have Gy:∀ (L:O Nat),L.Nodup->i∈L->(L.filter λj=>!decide (j=i)).length+1=L.length:=by
    intro L
    induction L with
    | nil=>intro _ h;cases h
    | cons a L ihL =>
     intro hn hm;rw[zcb] at hn;by_cases ha:a=i
     ·subst ha;have:(L.filter λj=>!decide (j=a))=L:=by
       rw[zdv];intro b hb;have:b≠a:=λe=>hn.1 (e▸hb)
       simp [this]
      rw[zbk];simp [this]
     ·have yJ:i∈L:=by
       rcases zan.1 hm with h|h
       ·exact absurd h.symm ha
       ·exact h
      rw[zbk];simp only[ha,zfm,zcm,zby,zad];rw[ihL hn.2 yJ]
   have:=Gy _ Xb qY;omega
  have SI:xM l (listed.setIfInBounds i true):=by
   intro j oj CD Ai e Ck hb;by_cases nK:j=i
   ·subst nK;rw[oc] at CD;cases CD;exact getD_set_true (pL e Ck hb)
   ·rw[getD_set_ne false (zcl nK)] at Ai;exact getD_set_true (s7 j oj CD Ai e Ck hb)
  have SJ:∀ j,p<=j->j<l.length->(listed.setIfInBounds i true).getD j true=false:=λj hj Ip=>by rw[getD_set_ne true (by omega)];exact SF j hj Ip
  obtain ⟨σ,h1,h2,h3,h4⟩:=ih fuel (t / (Region.ready .any l.toArray listed).length) _ (by simpa using hs) SI SJ LV (by omega);have zp:∀ j,(listed.setIfInBounds i true).getD j true=(listed.getD j true || decide (j=i)):=by
   intro j;by_cases nK:j=i
   ·subst nK;simp [zau,hs,qU]
   ·rw[getD_set_ne true (zcl nK)];simp [nK]
  refine ⟨i::σ,?_,?_,?_,?_⟩
  ·rw[h1];rfl
  ·rw[zcb];refine ⟨λhm=>?_,h2⟩;have:=((h3 i).1 hm).2;rw[zp] at this;simp at this
  ·intro j;rw[zan,h3,zp];constructor
   ·rintro (rfl|⟨a,b⟩)
    ·exact ⟨J0,LU⟩
    ·refine ⟨a,?_⟩;cases hj:listed.getD j true with
     | false=>rfl
     | true=>rw[hj] at b;simp at b
   ·rintro ⟨a,b⟩;by_cases nK:j=i
    ·exact .inl nK
    ·exact .inr ⟨a,by simp [b,nK]⟩
  ·intro pre i' post he j hj;cases pre with
   | nil =>
    simp only[zbt,List.cons.injEq] at he;rw[←he.1] at hj;exact .inr (vd j hj)
   | cons a pre =>
    simp only[List.cons_append,List.cons.injEq] at he;rcases h4 pre i' post he.2 j hj with h|h
    ·exact .inl (zai _ h)
    ·by_cases nK:j=i
     ·left;rw[nK,he.1];exact zaj
     ·rw[getD_set_ne false (zcl nK)] at h;exact .inr h
section run
variable {P:uG} {f:Ctx} {N:Nat} {S:Start} {Q:EV->St->Prop} {k:List Item}
theorem bA.OE {id:Nat} {l:O Oper} {env:Env} {st:St} (p:Nat) (hm:P.follows .mixedOrders=true) (hB:cP l p=true)
  (h:∀ σ,yL l p σ->bA P f N S Q (.inRegion l.toArray (σ++List.range' p (l.length-p))::k) env st):bA P f N S Q (.code (.region id l.toArray true)::k) env st:=by
 simp only[cP,zat] at hB;obtain ⟨⟨⟨⟨U8,hB2⟩,hB3⟩,hB4⟩,Yc⟩:=hB;have hp:p<=l.length:=by simpa using Yc
 intro g w tmps hinv hh he hn;refine e9.BF λt=>?_
 have SL:Region.schedule (P.follows .mixedOrders) l.toArray t=Region.linearise .any l.toArray t:=by simp [Region.schedule,hm]
 rw[SL];have hb:Below w.heap.size w { w with drawn:=w.drawn+1 }:=(Below.refl _ w).drew;obtain ⟨eF,mJ⟩:=hinv.grow (g':=g) hb (λ_ _=>rfl) rfl rfl;unfold Region.linearise;obtain ⟨σ,h1,h2,h3,h4⟩:=S4 (l:=l) (p:=p) hp (λi hi qU j hj=>by
   have h1:=cZ hB3 qU;simp only[zbv,zak] at h1;rcases h1 with h1|h1
   ·omega
   ·exact cZ h1 hj) (λi o ho e Ck mc=>by
   have qU:=(zae.1 ho).1;have h1:=cZ hB4 qU;rw[ho] at h1;simp only[zbf] at h1;have:=h1 e (by simpa using Ck);simpa [mc] using this) p l.toArray.size t (Array.replicate l.toArray.size false) (by simp) (λi o ho SE=>by
   simp [zau,Array.getElem?_replicate] at SE;split at SE <;> simp_all) (λi hi qU=>by simp [zau,Array.getElem?_replicate,qU]) (by
   have:((List.range p).filter λi=>!(Array.replicate l.toArray.size false).getD i true)=List.range p:=by
    rw[zdv];intro i hi;have hi':=List.mem_range.1 hi;have:i<l.length:=by omega
    simp [zau,Array.getElem?_replicate,this]
   rw[this];simp) (by simp;omega)
 rw[h1];refine h σ ⟨h2,λi=>?_,λpre i post he j hj=>?_⟩ g _ tmps eF (hh.step mJ) (he.mono mJ.dZ) hn
 ·rw[h3];constructor
  ·exact λh=>h.1
  ·intro hi;have:i<l.length:=by omega
   exact ⟨hi,by simp [zau,Array.getElem?_replicate,this]⟩
 ·rcases h4 pre i post he j hj with h|h
  ·exact h
  ·simp [zau,Array.getElem?_replicate] at h;split at h <;> simp_all
def Xh (P:uG) (base:Nat) (env:Env) (st:St) (o:Oper) (x:EV) (st':St):Prop :=
 ∀ g w tmps,Inv g base w st->eB g w st env tmps->∃ f' args,(execOp (Act.eval ⟨tmps,[]⟩) o).run P w=.ok (.enter f' args) w /\
  Calls P f' args w λe w'=>∃ v g',e=.returned v/\bP g' w' st' x v/\Inv g' base w' st'/\Step base g w st g' w' st'
def OpF (P:uG) (base:Nat) (l:List Oper) (env:Env) (st:St) (o:Oper) (x:EV) (st':St):Prop:=OpE P base l env st o x st'∨(o.guard=none/\Xh P base env st o x st')
theorem bA.runσ {l:O Oper} {p:Nat} {σ:O Nat} {env:Env} {st:St} (hs:yL l p σ) (hp:p<=l.length) (xs:O EV) (F:O Nat->St->Prop)
  (hC1:∀ i j t,i<p->j<p->i≠j->eW l i=some t->eW l j≠some t)
  (Xc:∀ (i:Nat) o,i<p->l[i]?=some o->∀ t∈LR l o,∀ j,j<p->j≠i->eW l j=some t->(j<i/\((eG l []).getD i 0).testBit j=true)∨(i<j/\((eG l []).getD j 0).testBit i=true))
  (Xg:xs.length=p) (hF0:F [] st)
  (qL:∀ pre i post st o,σ=pre++i::post->l[i]?=some o->F pre st->hZ N o.dst=true/\∃ x st',xs[i]?=some x/\OpF P S.base l (pK l o (ij env ((l.take p).take i) (xs.take i))) st o x st'/\F (pre++[i]) st')
  (DP:∀ st,F σ st->cr P f N S Q l (l.drop p) k (ij env (l.take p) xs) st):bA P f N S Q (.inRegion l.toArray (σ++List.range' p (l.length-p))::k) env st:=by
 have xG:xs.length=(l.take p).length:=by simp;omega
 suffices key:∀ (post pre:O Nat) (st:St) (g:b8) (w:uC) (tmps:uD uB),σ=pre++post->F pre st->Inv g S.base w st->s5 S g w st->tmps.size=N ->
   (∀ (s:Tmp),(∀ (j:Nat) x,j∈pre->eW l j=some s->xs[j]?=some x->∃ v,tmps[s]?=some v/\bP g w st x v) /\
    ((∀ j,j∈pre->eW l j≠some s)->∀ y,lookup s env=some y->∃ v,tmps[s]?=some v/\bP g w st y v)) ->
   e9 P f (pD S Q) (.inRegion l.toArray (post++List.range' p (l.length-p))::k) tmps w by
  intro g w tmps hinv hh he hN;exact key σ [] st g w tmps rfl hF0 hinv hh hN λs=>⟨λj x hj=>by (cases hj),λ_ y hy=>he s y hy⟩
 intro post
 induction post with
 | nil =>
  intro pre st g w tmps hσ hF hinv hh hN hJ;rw[zbp] at hσ;subst hσ;have zo:(l.drop p).length=l.length-p:=by simp
  rw[zbt,←zo];refine DP st hF p (λj=>by rw[zbd]) g w tmps hinv hh (λs y hy=>?_) hN;rcases lC xG hy with ⟨j,o,h1,h2,h3⟩|⟨h1,h2⟩
  ·have hj:j<p:=by have:=(zae.1 h2).1;omega
   have ho:l[j]?=some o:=by rw[zam] at h1;rw[zab hj] at h1;exact h1
   exact (hJ s).1 j y ((hs.mem j).2 hj) (by simp [eW,ho,h3]) h2
  ·refine (hJ s).2 (λj hj hd=>?_) y h2;have Ls:=(hs.mem j).1 hj;cases ho:l[j]? with
   | none=>simp [eW,ho] at hd
   | some o=>exact h1 j o (by rw[zam,zab Ls];exact ho) (by simpa [eW,ho] using hd)
 | cons i post ih =>
  intro pre st g w tmps hσ hF hinv hh hN hJ;have hi:i<p:=(hs.mem i).1 (by rw[hσ];simp);have qU:i<l.length:=by omega
  obtain ⟨o,oc⟩:∃ o,l[i]?=some o:=⟨_,zag qU⟩;have vd:=hs.mask pre i post hσ;have PQ:i ∉ pre:=by
   have:=hs.nodup;rw[hσ,zdl] at this;exact λhm=>this.2.2 i hm i zaj rfl
  have hprelt:∀ j,j∈pre->j<p:=λj hj=>(hs.mem j).1 (by rw[hσ];simp [hj]);obtain ⟨hd,x,st',hx,wZ,hF'⟩:=qL pre i post st o hσ oc hF
  -- what the operation looks at
  have he:eB g w st (pK l o (ij env ((l.take p).take i) (xs.take i))) tmps:=by
   intro s y hy;obtain ⟨Q5,Lr⟩:=va hy;rcases lC (by simp [xG]) Lr with ⟨j,o',h1,h2,h3⟩|⟨h1,h2⟩
   ·have nK:j<i:=by have:=(zae.1 h2).1;simp at this;omega
    have CD:l[j]?=some o':=by
     rw[zam,zab nK,zam,zab (by omega)] at h1;exact h1
    have vZ:eW l j=some s:=by simp [eW,CD,h3]
    rcases Xc i o hi oc s Q5 j (by omega) (by omega) vZ with ⟨_,hb⟩|⟨cT,_⟩
    ·exact (hJ s).1 j y (vd j hb) vZ (by rw[zam,zab nK] at h2;exact h2)
    ·omega
   ·refine (hJ s).2 (λj hj vZ=>?_) y h2;have nK:j≠i:=λe=>PQ (e▸hj)
    rcases Xc i o hi oc s Q5 j (hprelt j hj) nK vZ with ⟨cT,_⟩|⟨cT,hb⟩
    ·cases CD:l[j]? with
     | none=>simp [eW,CD] at vZ
     | some o'=>exact h1 j o' (by rw[zam,zab cT,zam,zab (hprelt j hj)];exact CD) (by simpa [eW,CD] using vZ)
    ·-- j came ahead of i,though it must come behind it
     obtain ⟨a,b,DN⟩:=zeg hj;have:=hs.mask a j (b++i::post) (by rw[hσ,DN];simp) i hb;exact absurd (by rw[DN];simp [this]:i∈pre) PQ
  have next:∀ (g':b8) (w':uC) (v:uB),bP g' w' st' x v->Inv g' S.base w' st'->Step S.base g w st g' w' st' ->
    e9 P f (pD S Q) (.inRegion l.toArray (post++List.range' p (l.length-p))::k) (Act.put ⟨tmps,[]⟩ o.dst v).tmps w':=by
   intro g' w' v Cz eF mJ;refine ih (pre++[i]) st' g' w' _ (by rw[hσ];simp) hF' eF (hh.step mJ) (by rw[js];exact hN) λs=>⟨λj y hj vZ hy=>?_,λPJ y hy=>?_⟩
   ·by_cases nK:j=i
    ·subst nK;have LW:o.dst=some s:=by simpa [eW,oc] using vZ
     rw[hx] at hy;cases hy;rw[LW];have gq:s<tmps.size:=by
      rw[LW] at hd;have Yb:s+1<=N:=zaf hd;rw[hN];exact Yb
     exact ⟨v,by simp [Act.put,gq],Cz⟩
    ·have Ls:j∈pre:=by
      rcases zbc.1 hj with h|h
      ·exact h
      ·exact absurd (zcc.1 h) nK
     obtain ⟨u,h1,h2⟩:=(hJ s).1 j y Ls vZ hy;have qT:o.dst≠some s:=λe=>hC1 j i s (hprelt j Ls) hi nK vZ (by simp [eW,oc,e])
     refine ⟨u,?_,h2.mono mJ.dZ⟩;cases SK:o.dst with
     | none=>exact h1
     | some d =>
      have:d≠s:=λe=>qT (by rw[SK,e])
      simp [Act.put,zcg,this,h1]
   ·have qT:o.dst≠some s:=λe=>PJ i (by simp) (by simp [eW,oc,e])
    obtain ⟨u,h1,h2⟩:=(hJ s).2 (λj hj=>PJ j (by simp [hj])) y hy;refine ⟨u,?_,h2.mono mJ.dZ⟩;cases SK:o.dst with
    | none=>exact h1
    | some d =>
     have:d≠s:=λe=>qT (by rw[SK,e])
     simp [Act.put,zcg,this,h1]
  have Ig:l.toArray[i]?=some o:=by simpa using oc
  show e9 P f (pD S Q) (.inRegion l.toArray (i::_)::k) tmps w;have zy:st'=st->∀ (dG:Nat->Nat) (w':uC) (v:uB),Good g w st x dG w' v ->
    e9 P f (pD S Q) (.inRegion l.toArray (post++List.range' p (l.length-p))::k) (Act.put ⟨tmps,[]⟩ o.dst v).tmps w':=by
   rintro rfl dG w' v ⟨Cz,hb,hl⟩;obtain ⟨eF,mJ⟩:=hinv.grow (g':={ g with lim:=dG }) hb hl rfl rfl;exact next _ w' v Cz eF mJ
  rcases wZ with (⟨Q9,wZ⟩|⟨hg,wZ⟩|⟨hg,rfl,wZ⟩)|⟨hg,wZ⟩
  ·rcases wZ with ⟨hg,wZ⟩|⟨j,want,tt,c,b,y,env',hg,hj,hlk,hgc,rfl,hE,wZ⟩
   ·have hw:Region.wanted o (yielded l.toArray tmps)=true:=by simp [Region.wanted,hg]
    rcases wZ g S.base w tmps hinv he with ⟨v,dG,w',hr,zq⟩|⟨f',args,hr,hc⟩
    ·exact e9.value Ig hw hr (zy Q9 dG w' v zq)
    ·exact e9.call Ig hw hr (hc.mono λe w' ⟨v,dG,h1,h2⟩=>⟨v,h1,zy Q9 dG w' v h2⟩)
   ·obtain ⟨u,hu,hur⟩:=he tt c hlk;have hw:Region.wanted o (yielded l.toArray tmps)=b:=by
     rw[←uQ hgc hur];have Ls:((l.toArray)[j]?).bind (·.dst)=some tt:=by simpa using hj
     simp only[Region.wanted,hg,yielded,Ls,zac,hu];cases u <;> rfl
    cases b with
    | false=>exact e9.zi Ig hw (zy Q9 g.lim w undef ⟨.gd _ _ _ (λ_=>rfl) (λh=>by cases h),.refl _ _,λ_ _=>rfl⟩)
    | true =>
     have wrap:∀ dG w' v,Good g w st y dG w' v->Good g w st (.gd true y) dG w' v:=λdG w' v ⟨a,b,c⟩=>⟨.gd _ _ _ (λh=>by cases h) (λ_=>a),b,c⟩
     rcases wZ rfl g S.base w tmps hinv (he.gd hE rfl) with ⟨v,dG,w',hr,zq⟩|⟨f',args,hr,hc⟩
     ·exact e9.value Ig hw hr (zy Q9 dG w' v (wrap _ _ _ zq))
     ·exact e9.call Ig hw hr (hc.mono λe w' ⟨v,dG,h1,h2⟩=>⟨v,h1,zy Q9 dG w' v (wrap _ _ _ h2)⟩)
  ·have hw:Region.wanted o (yielded l.toArray tmps)=true:=by simp [Region.wanted,hg]
   obtain ⟨v,g',w',hr,Cz,eF,mJ⟩:=wZ g w tmps hinv he;exact e9.value Ig hw hr (next g' w' v Cz eF mJ)
  ·have hw:Region.wanted o (yielded l.toArray tmps)=true:=by simp [Region.wanted,hg]
   obtain ⟨g',w',hr,eF,mJ⟩:=wZ g w tmps hinv he;exact e9.skip Ig hw hr (next g' w' undef (.d _ _ (.any _)) eF mJ)
  ·have hw:Region.wanted o (yielded l.toArray tmps)=true:=by simp [Region.wanted,hg]
   obtain ⟨f',args,hr,hc⟩:=wZ g w tmps hinv he;exact e9.call Ig hw hr (hc.mono λe w' ⟨v,g',h1,Cz,eF,mJ⟩=>⟨v,h1,next g' w' v Cz eF mJ⟩)
def Rj:List St->(St->Prop)->Prop
 | [],_=>True
 | s::r,p=>p s/\Rj r p
theorem Rj.get {p:St->Prop}:∀ {ss:O St} {i:Nat} {s:St},Rj ss p->ss[i]?=some s->p s
 | s::r,0,s',h,hs=>by simp at hs;subst hs;exact h.1
 | s::r,i+1,s',h,hs=>Rj.get h.2 (by simpa using hs)
 | [],i,s',h,hs=>by simp at hs
def Yx (l:List Oper) (E:List Nat) (i m:Nat):Bool:=E.zipIdx.all λe=>(!((eG l []).getD i 0).testBit e.1 || decide (e.2<m)) && (!((eG l []).getD e.1 0).testBit i || decide (m<=e.2))
def OF (l:List Oper) (E:List Nat) (i lo hi:Nat):Bool:=(List.range (E.length+1)).all λm=>!Yx l E i m || (decide (lo<=m) && decide (m<=hi))
def Xi (P:uG) (N base:Nat) (l:List Oper) (E:List Nat) (jt:List St) (i:Nat) (o:Oper) (env:Env) (x:EV):Prop :=
  hZ N o.dst=true /\
  ((∃ lo hi,(!E.any λe=>Nat.beq e i)=true/\OF l E i lo hi=true/\Rj ((jt.take (hi+1)).drop lo) λs=>vY P l env s o x) ∨
   (∃ m s s',E[m]?=some i/\jt[m]?=some s/\jt[m+1]?=some s'/\o.guard=none/\(zj P base env s o x s'∨(x=.d .any/\JT P base env s o s')∨Xh P base env s o x s')))
def xU (P:uG) (N base:Nat) (l:List Oper) (E:List Nat) (jt:List St):Nat->List Oper->List EV->Env->Prop
 | _,[],[],_=>True
 | i,o::os,x::xs,env=>Xi P N base l E jt i o (pK l o env) x/\xU P N base l E jt (i+1) os xs (env.put o.dst x)
 | _,_,_,_=>False
theorem xU.length {base:Nat} {l:O Oper} {E:O Nat} {jt:O St}:∀ {i:Nat} {os:O Oper} {xs:O EV} {env:Env},xU P N base l E jt i os xs env->xs.length=os.length
 | _,[],[],_,_=>rfl
 | _,o::os,x::xs,env,h=>by simp [xU.length h.2]
 | _,[],x::xs,_,h=>h.elim
 | _,o::os,[],_,h=>h.elim
theorem xU.get {base:Nat} {l:O Oper} {E:O Nat} {jt:O St}:∀ {i:Nat} {os:O Oper} {xs:O EV} {env:Env} {j:Nat} {o:Oper},xU P N base l E jt i os xs env->os[j]?=some o ->
  ∃ x,xs[j]?=some x/\Xi P N base l E jt (i+j) o (pK l o (ij env (os.take j) (xs.take j))) x
 | i,o'::os,x::xs,env,0,o,h,ho=>by
  simp at ho;subst ho;exact ⟨x,rfl,by simpa [ij] using h.1⟩
 | i,o'::os,x::xs,env,j+1,o,h,ho=>by
  obtain ⟨y,h1,h2⟩:=xU.get (j:=j) h.2 (by simpa using ho);exact ⟨y,by simpa using h1,by simpa [ij,zco,zdo 1 j] using h2⟩
 | i,[],xs,env,j,o,h,ho=>by simp at ho
 | i,o'::os,[],_,_,_,h,_=>h.elim
theorem bA.effσ {l:O Oper} {p:Nat} {σ:O Nat} {env:Env} {st zA:St} (hB:cP l p=true) (hs:yL l p σ) (E:O Nat) (jt:O St) (hE:σ.filter (λi=>E.any λe=>Nat.beq e i)=E) {xs:O EV}
  (h0:jt[0]?=some st) (hF:jt[E.length]?=some zA) (Lw:xU P N S.base l E jt 0 (l.take p) xs env) (DP:cr P f N S Q l (l.drop p) k (ij env (l.take p) xs) zA) :
  bA P f N S Q (.inRegion l.toArray (σ++List.range' p (l.length-p))::k) env st:=by
 simp only[cP,zat] at hB;obtain ⟨⟨⟨⟨U8,hB2⟩,hB3⟩,hB4⟩,Yc⟩:=hB;have hp:p<=l.length:=by simpa using Yc
 have Xg:xs.length=p:=by rw[Lw.length];simp;omega
 refine bA.runσ hs hp xs (λpre s=>jt[(pre.filter λi=>E.any λe=>Nat.beq e i).length]?=some s) ?_ ?_ Xg h0 ?_ ?_
 ·intro i j t hi hj PK hdi vZ;have:=cZ (cZ hB2 hi) hj;simp [PK,hdi,vZ] at this
 ·intro i o hi ho t ht j hj nK vZ;have h1:=cZ U8 hi;rw[ho] at h1;simp only[zbf] at h1;have h2:=cZ (h1 t ht) hj;simp only[vZ,zft,zdh,zbv,zat,zak,zec] at h2;rcases h2 with (h2|h2)|h2
  ·exact absurd h2.symm nK
  ·exact .inl h2
  ·exact .inr h2
 ·intro pre i post s o hσ ho PR;have hi:i<p:=(hs.mem i).1 (by rw[hσ];simp);obtain ⟨x,hx,mJ⟩:=Lw.get (j:=i) (o:=o) (by rw[zam,zab hi];exact ho);rw[zbu] at mJ;obtain ⟨hd,mJ⟩:=mJ;refine ⟨hd,x,?_⟩
  -- how far the turning operations have come
  have Kk:E=(pre.filter λi=>E.any λe=>Nat.beq e i)++((i::post).filter λi=>E.any λe=>Nat.beq e i):=by
   have:=hE;rw[hσ,zde] at this;exact this.symm
  generalize hm:(pre.filter λi=>E.any λe=>Nat.beq e i).length=m at PR;have hmE:m<=E.length:=by rw[Kk,zah,hm];omega
  rcases mJ with ⟨lo,hi',fK,hb,pL⟩|⟨m',s0,s1,hEm,N7,hs1,hg,wZ⟩
  ·have Yy:(E.any λe=>Nat.beq e i)=false:=by simpa using fK
   have Yz:Yx l E i m=true:=by
    unfold Yx;rw[zbf];rintro ⟨e,j⟩ hej;have hEj:E[j]?=some e:=by
     have:=zfc.1 hej;simpa using this
    have VD:(E.any λe'=>Nat.beq e' e)=true:=zfi.2 ⟨e,zbj hEj,zfa e⟩;simp only[zat,zbv,zdu,zak];have S5:E.Nodup:=by rw[←hE];exact hs.nodup.filter _
    constructor
    ·cases S6:((eG l []).getD i 0).testBit e with
     | false=>exact .inl rfl
     | true =>
      right;have ET:=hs.mask pre i post hσ e S6;have hin2:e∈pre.filter λi=>E.any λe=>Nat.beq e i:=zcq.2 ⟨ET,VD⟩
      obtain ⟨a,ha,hae⟩:=List.mem_iff_getElem.1 hin2;have:E[a]?=some e:=by rw[Kk,zap ha,zag ha,hae]
      have haj:a=j:=by
       have h1:=(zae.1 this);have h2:=(zae.1 hEj);exact (List.getElem_inj S5).1 (h1.2.trans h2.2.symm)
      omega
    ·cases S6:((eG l []).getD e 0).testBit i with
     | false=>exact .inl rfl
     | true =>
      right
      -- e comes behind i
      rcases zgb j m with hjm|hjm
      ·have h1:(pre.filter λi=>E.any λe=>Nat.beq e i)[j]?=some e:=by
        rw[Kk,zap (by omega)] at hEj;exact hEj
       have ET:e∈pre:=(zcq.1 (zbj h1)).1;obtain ⟨a,b,DN⟩:=zeg ET;have:=hs.mask a e (b++i::post) (by rw[hσ,DN];simp) i S6;have PQ:i ∉ pre:=by
        have:=hs.nodup;rw[hσ,zdl] at this;exact λhm=>this.2.2 i hm i zaj rfl
       exact absurd (by rw[DN];simp [this]:i∈pre) PQ
      ·exact hjm
   have hbd:=zbf.1 hb m (List.mem_range.2 (by omega));rw[Yz] at hbd;simp only[zci,zdm,zat,zak] at hbd;refine ⟨s,hx,.inl (.inl ⟨rfl,pL.get (i:=m-lo) ?_⟩),?_⟩
   ·rw[zbd,zam,zab (by omega),show lo+(m-lo)=m by omega];exact PR
   ·rw[zde,zbk,Yy];simp only[zaz,zbw,List.filter_nil,zbp];rw[hm];exact PR
  ·have VD:(E.any λe'=>Nat.beq e' i)=true:=zfi.2 ⟨i,zbj hEm,zfa i⟩;have S5:E.Nodup:=by rw[←hE];exact hs.nodup.filter _
   have hEm2:E[m]?=some i:=by
    rw[Kk,zax (by omega),hm,Nat.sub_self,zbk,VD];rfl
   have hmm:m=m':=by
    have h1:=(zae.1 hEm2);have h2:=(zae.1 hEm);exact (List.getElem_inj S5).1 (h1.2.trans h2.2.symm)
   subst hmm;rw[PR] at N7;cases N7;refine ⟨s1,hx,?_,?_⟩
   ·rcases wZ with h|⟨h1,h2⟩|h
    ·exact .inl (.inr (.inl ⟨hg,h⟩))
    ·exact .inl (.inr (.inr ⟨hg,h1,h2⟩))
    ·exact .inr ⟨hg,h⟩
   ·rw[zde,zbk,VD];simp only[zby,List.filter_nil,zah,zal,hm];exact hs1
 ·intro s PR;rw[hE,hF] at PR;cases PR;exact DP
theorem filter_one {σ:O Nat} (hn:σ.Nodup) {e:Nat} (he:e∈σ):σ.filter (λi=>i==e)=[e]:=by
 induction σ with
 | nil=>cases he
 | cons c r ih =>
  rw[zcb] at hn;by_cases hc:c=e
  ·subst hc;have:r.filter (λi=>i==c)=[]:=zcx.2 λi hi h=>hn.1 (by rw[zec] at h;exact h▸hi);rw[zbk,zfj,zab rfl,this]
  ·rw[zbk];have:(c==e)=false:=by simpa using hc
   rw[this];simpa using ih hn.2 ((zan.1 he).resolve_left (zcl hc))
theorem yL.one {l:O Oper} {p:Nat} {σ:O Nat} (hs:yL l p σ) {e:Nat} (he:e<p):σ.filter (λi=>[e].any λe=>Nat.beq e i)=[e]:=by
 have h1:(λi=>[e].any λe=>Nat.beq e i)=λi=>i==e:=by
  funext i;simp only[zcs,zeh,zdh];rw[zbl,Nat.beq_eq,zec,zfb]
 rw[h1];exact filter_one hs.nodup ((hs.mem e).2 he)
theorem OG {σ:O Nat} (hn:σ.Nodup) {a b:Nat} (DN:a≠b) (ha:a∈σ) (hb:b∈σ) (q:Nat->Bool) (hq:∀ i,q i=(i==a || i==b)):σ.filter q=[a,b]∨σ.filter q=[b,a]:=by
 induction σ with
 | nil=>cases ha
 | cons c r ih =>
  rw[zcb] at hn;by_cases Xj:c=a
  ·subst Xj;left;have hbr:b∈r:=(zan.1 hb).resolve_left (zcl DN);rw[zbk,hq,zfj,zfd,zab rfl];congr 1;have:r.filter q=r.filter λi=>i==b:=zek λi hi=>by
    have:i≠c:=λe=>hn.1 (e▸hi)
    rw[hq];simp [this]
   rw[this];exact filter_one hn.2 hbr
  ·by_cases YA:c=b
   ·subst YA;right;have har:a∈r:=(zan.1 ha).resolve_left (zcl Xj);rw[zbk,hq,zfj,Bool.or_true,zab rfl];congr 1;have:r.filter q=r.filter λi=>i==a:=zek λi hi=>by
     have:i≠c:=λe=>hn.1 (e▸hi)
     rw[hq];simp [this]
    rw[this];exact filter_one hn.2 har
   ·have har:a∈r:=(zan.1 ha).resolve_left (zcl Xj);have hbr:b∈r:=(zan.1 hb).resolve_left (zcl YA);have:=ih hn.2 har hbr;rw[zbk,hq];simpa [Xj,YA] using this
theorem yL.two {l:O Oper} {p:Nat} {σ:O Nat} (hs:yL l p σ) {a b:Nat} (DN:a≠b) (ha:a<p) (hb:b<p) :
  σ.filter (λi=>[a,b].any λe=>Nat.beq e i)=[a,b]∨σ.filter (λi=>[b,a].any λe=>Nat.beq e i)=[b,a]:=by
 have q1:∀ i,([a,b].any λe=>Nat.beq e i)=(i==a || i==b):=λi=>by
  simp only[zcs,zeh,zdh];rw[zbl];simp only[zbv,Nat.beq_eq,zec];exact ⟨λh=>h.elim (λh=>.inl h.symm) (λh=>.inr h.symm),λh=>h.elim (λh=>.inl h.symm) (λh=>.inr h.symm)⟩
 have q2:∀ i,([b,a].any λe=>Nat.beq e i)=(i==a || i==b):=λi=>by
  simp only[zcs,zeh,zdh];rw[zbl];simp only[zbv,Nat.beq_eq,zec];exact ⟨λh=>h.elim (λh=>.inr h.symm) (λh=>.inl h.symm),λh=>h.elim (λh=>.inr h.symm) (λh=>.inl h.symm)⟩
 rcases OG hs.nodup DN ((hs.mem a).2 ha) ((hs.mem b).2 hb) _ q1 with h|h
 ·exact .inl h
 ·right;have:(λi=>[b,a].any λe=>Nat.beq e i)=λi=>[a,b].any λe=>Nat.beq e i:=by
   funext i;rw[q1,q2]
  rw[this];exact h
theorem yL.two' {l:O Oper} {p:Nat} {σ:O Nat} (hs:yL l p σ) {a b:Nat} (ha:a<p) (hb:b<p) (hm:((eG l []).getD b 0).testBit a=true) :
  σ.filter (λi=>[a,b].any λe=>Nat.beq e i)=[a,b]:=by
 have DN:a≠b:=by
  rintro rfl;obtain ⟨x,y,OH⟩:=zeg ((hs.mem a).2 ha);have h1:=hs.mask x a y OH a hm;have:=hs.nodup;rw[OH,zdl] at this;exact this.2.2 a h1 a zaj rfl
 rcases hs.two DN ha hb with h|h
 ·exact h
 ·exfalso;obtain ⟨x,y,OH⟩:=zeg ((hs.mem b).2 hb);have h1:=hs.mask x b y OH a hm;rw[OH,zde] at h;have q:([b,a].any λe=>Nat.beq e b)=true:=by simp
  rw[zbk,q] at h;have h2:a∈x.filter λi=>[b,a].any λe=>Nat.beq e i:=zcq.2 ⟨h1,by simp⟩
  obtain ⟨u,v,huv⟩:=zeg h2;have hl:=zbn List.length h;have hbx:b ∉ x:=by
   have:=hs.nodup;rw[OH,zdl] at this;exact λhm=>this.2.2 b hm b zaj rfl
  cases hx:x.filter λi=>[b,a].any λe=>Nat.beq e i with
  | nil=>rw[hx] at h2;cases h2
  | cons c r =>
   rw[hx] at h;simp only[List.cons_append,List.cons.injEq] at h;have:b∈x.filter λi=>[b,a].any λe=>Nat.beq e i:=by rw[hx,h.1];exact zaj
   exact hbx (zcq.1 this).1
def kE (P:uG) (f:Ctx) (N:Nat) (S:Start) (Q:EV->St->Prop) (l:List Oper) (p:Nat) (E:List Nat) (jt:List St) (i:Nat) (os:List Oper) (k:List Item) (env:Env):Prop :=
 ∃ xs zA,jt[E.length]?=some zA/\xU P N S.base l E jt i os xs env/\cr P f N S Q l (l.drop p) k (ij env os xs) zA
variable {l:List Oper} {p:Nat} {E:List Nat} {jt:List St} {i:Nat} {os:List Oper} {env:Env} {st:St} {d:Option Tmp} {op:Op} {ty:uE} {pos:String} {after:uD Edge} {x:EV}
theorem kE.nil {zA:St} (hF:jt[E.length]?=some zA) (h:cr P f N S Q l (l.drop p) k env zA):kE P f N S Q l p E jt i [] k env:=⟨[],zA,hF,trivial,h⟩
def Rk (P:uG) (l:List Oper) (env:Env) (o:Oper) (x:EV):List St->Prop
 | []=>True
 | s::r=>BL P (pK l o env) s o x/\Rk P l env o x r
theorem Rk.all {o:Oper} {P:uG} {l:O Oper} {env:Env} {x:EV} (hg:o.guard=none):∀ {ss:O St},Rk P l env o x ss->Rj ss λs=>vY P l (pK l o env) s o x
 | [],_=>trivial
 | s::r,h=>⟨.inl ⟨hg,h.1⟩,Rk.all hg h.2⟩
theorem kE.g (lo hi:Nat) (h:Rk P l env ⟨d,op,ty,pos,after,none⟩ x ((jt.take (hi+1)).drop lo)) (fK:(!E.any λe=>Nat.beq e i)=true) (hb:OF l E i lo hi=true) (hd:hZ N d=true)
  (hk:kE P f N S Q l p E jt (i+1) os k (env.put d x)):kE P f N S Q l p E jt i (⟨d,op,ty,pos,after,none⟩::os) k env:=by
 obtain ⟨xs,zA,h0,h1,h2⟩:=hk;exact ⟨x::xs,zA,h0,⟨⟨hd,.inl ⟨lo,hi,fK,hb,h.all rfl⟩⟩,h1⟩,h2⟩
theorem kE.G (lo hi:Nat) (h:Rk P l env ⟨d,op,ty,pos,after,none⟩ x ((jt.take (hi+1)).drop lo)) (fK:(!E.any λe=>Nat.beq e i)=true) (hd:hZ N d=true)
  (hk:kE P f N S Q l p E jt (i+1) os k (env.put d x)) (hb:OF l E i lo hi=true:=by kernel_rfl):kE P f N S Q l p E jt i (⟨d,op,ty,pos,after,none⟩::os) k env:=.g lo hi h fK hb hd hk
theorem kE.v {s s':St} (m:Nat) (h:zj P S.base (pK l ⟨d,op,ty,pos,after,none⟩ env) s ⟨d,op,ty,pos,after,none⟩ x s') (hE:E[m]?=some i) (h1:jt[m]?=some s) (h2:jt[m+1]?=some s') (hd:hZ N d=true)
  (hk:kE P f N S Q l p E jt (i+1) os k (env.put d x)):kE P f N S Q l p E jt i (⟨d,op,ty,pos,after,none⟩::os) k env:=by
 obtain ⟨xs,zA,h0,h3,h4⟩:=hk;exact ⟨x::xs,zA,h0,⟨⟨hd,.inr ⟨m,s,s',hE,h1,h2,rfl,.inl h⟩⟩,h3⟩,h4⟩
theorem kE.u {s s':St} (m:Nat) (h:JT P S.base (pK l ⟨d,op,ty,pos,after,none⟩ env) s ⟨d,op,ty,pos,after,none⟩ s') (hE:E[m]?=some i) (h1:jt[m]?=some s) (h2:jt[m+1]?=some s') (hd:hZ N d=true)
  (hk:kE P f N S Q l p E jt (i+1) os k (env.put d (.d .any))):kE P f N S Q l p E jt i (⟨d,op,ty,pos,after,none⟩::os) k env:=by
 obtain ⟨xs,zA,h0,h3,h4⟩:=hk;exact ⟨.d .any::xs,zA,h0,⟨⟨hd,.inr ⟨m,s,s',hE,h1,h2,rfl,.inr (.inl ⟨rfl,h⟩)⟩⟩,h3⟩,h4⟩
theorem kE.c {s s':St} (m:Nat) (h:Xh P S.base (pK l ⟨d,op,ty,pos,after,none⟩ env) s ⟨d,op,ty,pos,after,none⟩ x s') (hE:E[m]?=some i) (h1:jt[m]?=some s) (h2:jt[m+1]?=some s') (hd:hZ N d=true)
  (hk:kE P f N S Q l p E jt (i+1) os k (env.put d x)):kE P f N S Q l p E jt i (⟨d,op,ty,pos,after,none⟩::os) k env:=by
 obtain ⟨xs,zA,h0,h3,h4⟩:=hk;exact ⟨x::xs,zA,h0,⟨⟨hd,.inr ⟨m,s,s',hE,h1,h2,rfl,.inr (.inr h)⟩⟩,h3⟩,h4⟩
theorem bA.eff {σ:O Nat} {env:Env} {st:St} (hB:cP l p=true) (hs:yL l p σ) (hE:σ.filter (λi=>E.any λe=>Nat.beq e i)=E) (h0:jt[0]?=some st) (h:kE P f N S Q l p E jt 0 (l.take p) k env) :
  bA P f N S Q (.inRegion l.toArray (σ++List.range' p (l.length-p))::k) env st:=by
 obtain ⟨xs,zA,h1,h2,h3⟩:=h;exact .effσ hB hs E jt hE h0 h1 h2 h3
theorem bA.reorder {todo:O Item} {env OI:Env} {st st0:St} (rs ts:O Nat) (hp:Bc rs ts st0 st=true)
  (ho:rs.map (λr=>st.aS[r]?)=st0.aS.map (λx=>some (x.ren (dw rs st.aS.length) (dw ts st.av.length)))) (ht:ts.map (λr=>st.av[r]?)=st0.av.map some)
  (hr:rs.take S.st.aS.length=List.range S.st.aS.length) (yI:ts.take S.st.av.length=List.range S.st.av.length) (hl:(Nat.ble S.st.aS.length rs.length && Nat.ble S.st.av.length ts.length)=true)
  (h5:st0.aS.all (mh st0.aS.length st0.av.length)=true) (uq:(OI.all λp=>qZ st0.aS.length st0.av.length p.2)=true)
  (hE:dz env (OI.map λp=>(p.1,p.2.ren (dw rs st.aS.length) (dw ts st.av.length)))) (h:bA P f N S Q todo OI st0):bA P f N S Q todo env st:=by
 obtain ⟨p,e1',N9,l1,l2⟩:=Part.of hp h5 ho ht;simp only[zat] at hl;have AN:=zaf hl.1;have CF:=zaf hl.2;have same:∀ {l:O Nat} {n N:Nat},l.take n=List.range n->n<=l.length->∀ i,i<n->dw l N i=i:=fun {l n N} hl hn i hi=>by
  have e:(l.take n)[i]?=some i:=by rw[hl,List.getElem?_range hi]
  rw[zam,zab hi] at e;simp [dw,e]
 have so:=λi hi=>same (N:=st.aS.length) hr AN i hi
 have PO:=λi hi=>same (N:=st.av.length) yI CF i hi
 have ES:∀ {i:Nat},i<st0.av.length->st0.av[i]?=st.av[dw ts st.av.length i]?:=fun {i} hi=>by
  rw[p.av i _ (zag hi),zag hi]
 intro g w tmps hinv hh he hN;refine h (g.sub _ _) w tmps (hinv.part p) ⟨⟨hh.dZ.df,λo oc=>?_,by omega,λt e sz n hx=>?_,by omega,λt x' bE cT lO oc=>?_⟩,hh.below,hh.lim,hh.frame,λb hb hw=>hh.fresh b hb (p.owned hw)⟩ (λi y hy=>?_) hN
 ·show g.ob (dw rs st.aS.length o)=S.g.ob o;rw[so o oc];exact hh.dZ.ob o oc
 ·have cT:t<S.st.av.length:=(zae.1 hx).1;obtain ⟨n',a1,a2,a3⟩:=hh.dZ.av t e sz n hx;refine ⟨n',?_,a2,λe'=>?_⟩
  ·rw[ES (by omega),PO t cT];exact a1
  ·show g.tk (dw ts st.av.length t)=S.g.tk t;rw[PO t cT];exact a3 e'
 ·rw[ES (by have:=(zae.1 lO).1;exact this),PO t cT] at lO;obtain ⟨y,rows,a1,a2,a3,a4,a5⟩:=hh.dZ.own t x' bE cT lO oc;refine ⟨y,rows,a1,a2,a3,a4,λe'=>?_⟩;show g.tk (dw ts st.av.length t)=S.g.tk t;rw[PO t cT];exact a5 e'
 ·have Sr:∀ {e0:Env},lookup i e0=some y->lookup i (e0.map λp=>(p.1,p.2.ren (dw rs st.aS.length) (dw ts st.av.length)))=some (y.ren (dw rs st.aS.length) (dw ts st.av.length))/\(i,y)∈e0:=by
   intro e0
   induction e0 with
   | nil=>intro hh;cases hh
   | cons q r ih =>
    obtain ⟨j,z⟩:=q;intro hh;unfold lookup at hh;simp only[zao];unfold lookup;cases hb:Nat.beq i j with
    | true =>
     rw[hb] at hh;cases hh;have:=zaw hb;subst this;exact ⟨rfl,zaj⟩
    | false =>
     rw[hb] at hh;exact ⟨(ih hh).1,zai _ (ih hh).2⟩
  obtain ⟨m1,m2⟩:=Sr hy;obtain ⟨v,h1,h2⟩:=(he.sub hE) i _ m1;exact ⟨v,h1,h2.down p.av (zbf.1 uq _ m2)⟩
theorem cr.reorder {ops rest:O Oper} {env OI:Env} {st st0:St} (rs ts:O Nat) (hp:Bc rs ts st0 st=true)
  (ho:rs.map (λr=>st.aS[r]?)=st0.aS.map (λx=>some (x.ren (dw rs st.aS.length) (dw ts st.av.length)))) (ht:ts.map (λr=>st.av[r]?)=st0.av.map some)
  (hr:rs.take S.st.aS.length=List.range S.st.aS.length) (yI:ts.take S.st.av.length=List.range S.st.av.length) (hl:(Nat.ble S.st.aS.length rs.length && Nat.ble S.st.av.length ts.length)=true)
  (h5:st0.aS.all (mh st0.aS.length st0.av.length)=true) (uq:(OI.all λp=>qZ st0.aS.length st0.av.length p.2)=true)
  (hE:dz env (OI.map λp=>(p.1,p.2.ren (dw rs st.aS.length) (dw ts st.av.length)))) (h:cr P f N S Q ops rest k OI st0):cr P f N S Q ops rest k env st :=
 λj hj=>.reorder rs ts hp ho ht hr yI hl h5 uq hE (h j hj)
theorem bA.pd {id:Nat} {l:O Oper} {env:Env} {st:St} (p a:Nat) (jt:O St) (hm:P.follows .mixedOrders=true) (hB:cP l p=true) (ha:a<p) (h0:jt[0]?=some st)
  (h:kE P f N S Q l p [a] jt 0 (l.take p) k env):bA P f N S Q (.code (.region id l.toArray true)::k) env st :=
 .OE p hm hB λ_ hσ=>.eff hB hσ (hσ.one ha) h0 h
theorem bA.v7 {id:Nat} {l:O Oper} {env:Env} {st:St} (p a b:Nat) (jt:O St) (hm:P.follows .mixedOrders=true) (hB:cP l p=true) (ha:a<p) (hb:b<p) (DN:((eG l []).getD b 0).testBit a=true) (h0:jt[0]?=some st)
  (h:kE P f N S Q l p [a,b] jt 0 (l.take p) k env):bA P f N S Q (.code (.region id l.toArray true)::k) env st :=
 .OE p hm hB λ_ hσ=>.eff hB hσ (hσ.two' ha hb DN) h0 h
end run
section rules
variable {P:uG} {f:Ctx} {N:Nat} {S:Start} {Q:EV->St->Prop} {k:List Item} {todo:List Item} {base:Nat} {env:Env} {st:St} {ops rest:List Oper}
 {d:Option Tmp} {ty:uE} {pos:String} {after:uD Edge} {gd:Option (Nat×Bool)} {t t2 e:uE} {x y z:uH}
section sl
variable {α:Type} {sz:Nat} {row:α->List D} {l:List α} {ev:EV} {inf:TypeInfo} {tk tk2 n n2:Nat}
theorem se {l':O α} {zv:uB} {e0 w2:EV} (ht:P.underlying t=some (.slice e)) (hi:P.info? e=some inf) (hz:inf.zero=some zv) (fg:inf.size=sz) (rU:zv.cells.size=sz) (hb:inf.bytes<=100000)
  (hx:df env x=some e0) (h0:e0=.d (.e0 sz)∨e0=.d aT) (fO:st.av[tk]?=some ⟨e,sz,0,some (([]:O α).map row)⟩) (hy:df env y=some w2) (hs:vP w2=some (sz,l'.map row)) (hn:l'.length<=1000000000) :
  zj P base env st ⟨d,.call ⟨.builtin .append,#[x,y],#[t,t]⟩,ty,pos,after,gd⟩ (.vc tk ([]++l').length) (st.bG tk ⟨e,sz,([]++l').length,some (([]++l').map row)⟩):=by
 intro g w tmps hinv he;have hdx:dY g.lim w (.e0 sz) (Act.eval ⟨tmps,[]⟩ x):=by
  rcases h0 with rfl|rfl
  ·cases aR he hx with|d _ _ h=>exact h
  ·rw[(aR he hx).bO];exact .e0 sz none (.inl rfl)
 have hlen:tk<st.av.length:=(zae.1 fO).1;have od:bP g w st (.vc tk 0) (Act.eval ⟨tmps,[]⟩ x):=by
  generalize hv:Act.eval ⟨tmps,[]⟩ x=v at hdx;cases hdx with|e0 _ A hA=>exact SX hlen fO ⟨A,rfl⟩
 obtain ⟨news,tL⟩:=uR (P:=P) (s9 hs (aR he hy));obtain ⟨v',g',w',iS,k1,k2,k3⟩:=EU (ty:=ty) (l:=([]:O α)) ht ht (.inr ⟨e,rfl⟩) hi hz fg rU hb hinv od fO (by simpa using hn) tL;exact ⟨v',g',w',by simp [execOp,resolve,invoke,builtin,iS],k1,k2,k3⟩
end sl
theorem bA.YB {e sz:Nat} (h:bA P f N S Q todo env (st.tok ⟨e,sz,0,some []⟩)):bA P f N S Q todo env st:=by
 intro g w tmps hinv hh he hN;obtain ⟨g',h1,_,_,h2,h3⟩:=hinv.um ⟨e,sz,0,some []⟩ (World.ownsRow_nil w S.base _ _) (.inl ⟨rfl,rfl⟩) (λrows hr=>by cases hr;exact ⟨rfl,by simp,by simp⟩);exact h g' w tmps h2 (hh.step h3) (he.mono h3.dZ) hN
end rules
def nQ (L:Nat->Bool):List Nat->Nat
 | []=>0
 | e::r=>(if L e then 1 else 0)+2*nQ L r
theorem DX (L:Nat->Bool):∀ (E:O Nat) (j e:Nat),E[j]?=some e->(nQ L E).testBit j=L e
 | e::r,0,e',h=>by
  simp at h;subst h;unfold nQ;cases hL:L e <;> simp [Nat.testBit_zero] <;> omega
 | e::r,j+1,e',h=>by
  have ih:=DX L r j e' (by simpa using h);unfold nQ;rw[Nat.testBit_succ];have:((if L e then 1 else 0)+2*nQ L r) / 2=nQ L r:=by cases L e <;> simp <;> omega
  rw[this];exact ih
theorem Mc (L:Nat->Bool):∀ E:O Nat,nQ L E<2 ^ E.length
 | []=>by simp [nQ]
 | e::r=>by
  have:=Mc L r;unfold nQ;rw[zad,Nat.pow_succ];cases L e <;> simp <;> omega
theorem BT {L L':Nat->Bool}:∀ {E:O Nat},(∀ e∈E,L' e=L e)->nQ L' E=nQ L E
 | [],_=>rfl
 | e::r,h=>by
  unfold nQ;rw[h e zaj,BT λx hx=>h x (zai _ hx)]
theorem Jf {L:Nat->Bool} {i:Nat} (hi:L i=false):∀ {E:O Nat} {m:Nat},E.Nodup->E[m]?=some i->nQ (λj=>j==i || L j) E=nQ L E+2 ^ m
 | e::r,0,hn,h=>by
  simp at h;subst h;rw[zcb] at hn;unfold nQ;rw[BT (L:=L) (E:=r) λx hx=>by
   have:x≠e:=λhh=>hn.1 (hh▸hx)
   simp [this]]
  simp [hi];omega
 | e::r,m+1,hn,h=>by
  rw[zcb] at hn;have h':r[m]?=some i:=by simpa using h
  have ih:=Jf hi hn.2 h';have fK:e≠i:=λhh=>hn.1 (hh▸zbj h')
  unfold nQ;rw[ih,Nat.pow_succ];have:(e==i)=false:=by simpa using fK
  simp only[this,zdm];omega
def YC (l:List Oper) (E:List Nat) (i n:Nat):Bool :=
 E.zipIdx.all λe=>(!((eG l []).getD i 0).testBit e.1 || n.testBit e.2) && (!(((eG l []).getD e.1 0).testBit i || Nat.beq e.1 i) || !n.testBit e.2) && (!n.testBit e.2 || E.zipIdx.all λe'=>!((eG l []).getD e.1 0).testBit e'.1 || n.testBit e'.2)
def Kl (l:List Oper) (E:List Nat) (i:Nat) (ns:List Nat):Bool:=(List.range (2 ^ E.length)).all λn=>!YC l E i n || ns.any λk=>Nat.beq k n
section run
variable {P:uG} {f:Ctx} {N:Nat} {S:Start} {Q:EV->St->Prop} {k:List Item}
def Md (jt:List St):List Nat->(St->Prop)->Prop
 | [],_=>True
 | n::r,p=>(∃ s,jt[n]?=some s/\p s)/\Md jt r p
theorem Md.get {jt:O St} {p:St->Prop}:∀ {ns:O Nat} {n:Nat},Md jt ns p->n∈ns->∃ s,jt[n]?=some s/\p s
 | a::r,n,h,hn=>by
  rcases zan.1 hn with e|e
  ·rw[e];exact h.1
  ·exact Md.get h.2 e
def Me (jt:List St) (d:Nat):List Nat->(St->St->Prop)->Prop
 | [],_=>True
 | n::r,p=>(∃ s s',jt[n]?=some s/\jt[n+d]?=some s'/\p s s')/\Me jt d r p
theorem Me.get {jt:O St} {d:Nat} {p:St->St->Prop}:∀ {ns:O Nat} {n:Nat},Me jt d ns p->n∈ns->∃ s s',jt[n]?=some s/\jt[n+d]?=some s'/\p s s'
 | a::r,n,h,hn=>by
  rcases zan.1 hn with e|e
  ·rw[e];exact h.1
  ·exact Me.get h.2 e
def Xk (P:uG) (N base:Nat) (l:List Oper) (E:List Nat) (jt:List St) (i:Nat) (o:Oper) (env:Env) (x:EV):Prop :=
  hZ N o.dst=true/\∃ ns,Kl l E i ns=true /\
  (((!E.any λe=>Nat.beq e i)=true/\((∀ s,vY P l env s o x)∨Md jt ns λs=>vY P l env s o x)) ∨
   (∃ m,E[m]?=some i/\o.guard=none/\Me jt (2 ^ m) ns λs s'=>zj P base env s o x s'∨x=.d .any/\JT P base env s o s'))
def xV (P:uG) (N base:Nat) (l:List Oper) (E:List Nat) (jt:List St):Nat->List Oper->List EV->Env->Prop
 | _,[],[],_=>True
 | i,o::os,x::xs,env=>Xk P N base l E jt i o (pK l o env) x/\xV P N base l E jt (i+1) os xs (env.put o.dst x)
 | _,_,_,_=>False
theorem xV.length {base:Nat} {l:O Oper} {E:O Nat} {jt:O St}:∀ {i:Nat} {os:O Oper} {xs:O EV} {env:Env},xV P N base l E jt i os xs env->xs.length=os.length
 | _,[],[],_,_=>rfl
 | _,o::os,x::xs,env,h=>by simp [xV.length h.2]
 | _,[],x::xs,_,h=>h.elim
 | _,o::os,[],_,h=>h.elim
theorem xV.get {base:Nat} {l:O Oper} {E:O Nat} {jt:O St}:∀ {i:Nat} {os:O Oper} {xs:O EV} {env:Env} {j:Nat} {o:Oper},xV P N base l E jt i os xs env->os[j]?=some o ->
  ∃ x,xs[j]?=some x/\Xk P N base l E jt (i+j) o (pK l o (ij env (os.take j) (xs.take j))) x
 | i,o'::os,x::xs,env,0,o,h,ho=>by
  simp at ho;subst ho;exact ⟨x,rfl,by simpa [ij] using h.1⟩
 | i,o'::os,x::xs,env,j+1,o,h,ho=>by
  obtain ⟨y,h1,h2⟩:=xV.get (j:=j) h.2 (by simpa using ho);exact ⟨y,by simpa using h1,by simpa [ij,zco,zdo 1 j] using h2⟩
 | i,[],xs,env,j,o,h,ho=>by simp at ho
 | i,o'::os,[],_,_,_,h,_=>h.elim
theorem bA.effN {id p:Nat} {l:O Oper} {env:Env} {st zA:St} (hm:P.follows .mixedOrders=true) (hB:cP l p=true) (E:O Nat) (jt:O St) (hn:E.Nodup) (hp:∀ e∈E,e<p) {xs:O EV}
  (h0:jt[0]?=some st) (hF:jt[2 ^ E.length-1]?=some zA) (Lw:xV P N S.base l E jt 0 (l.take p) xs env) (DP:cr P f N S Q l (l.drop p) k (ij env (l.take p) xs) zA) :
  bA P f N S Q (.code (.region id l.toArray true)::k) env st:=by
 have PG:p<=l.length:=by
  simp only[cP,zat] at hB;simpa using hB.2
 have Xg:xs.length=p:=by rw[Lw.length];simp;omega
 have YD:∀ E:O Nat,nQ (λ_=>false) E=0:=by
  intro E
  induction E with
  | nil=>rfl
  | cons e r ih=>unfold nQ;rw[ih];rfl
 have YE:∀ (L:Nat->Bool) (E:O Nat),(∀ e∈E,L e=true)->nQ L E=2 ^ E.length-1:=by
  intro L E
  induction E with
  | nil=>intro _;rfl
  | cons e r ih =>
   intro h;unfold nQ;rw[h e zaj,ih λx hx=>h x (zai _ hx),zad,Nat.pow_succ];have:=Nat.two_pow_pos r.length;simp;omega
 refine bA.Yv p xs (λL s=>jt[nQ L E]?=some s) hm hB Xg (by rw[YD];exact h0) ?_ ?_
 ·intro L s i o hi ho hLi vd PS PR;obtain ⟨x,hx,mJ⟩:=Lw.get (j:=i) (o:=o) (by rw[zam,zab hi];exact ho);rw[zbu] at mJ;obtain ⟨hd,ns,hb,mJ⟩:=mJ;refine ⟨hd,x,?_⟩;have Yz:YC l E i (nQ L E)=true:=by
   unfold YC;rw[zbf];rintro ⟨e,j⟩ hej;have hEj:E[j]?=some e:=by
    have:=zfc.1 hej;simpa using this
   have S6:=DX L E j e hEj;simp only[zat,zbv,zdu,S6];refine ⟨⟨?_,?_⟩,?_⟩
   ·cases w8:((eG l []).getD i 0).testBit e with
    | false=>exact .inl rfl
    | true=>exact .inr (vd e w8)
   ·cases w8:((eG l []).getD e 0).testBit i with
    | false =>
     cases hei:Nat.beq e i with
     | false=>exact .inl rfl
     | true=>exact .inr (zaw hei▸hLi)
    | true =>
     right;cases hLe:L e with
     | false=>rfl
     | true=>rw[PS e hLe i w8] at hLi;cases hLi
   ·cases hLe:L e with
    | false=>exact .inl rfl
    | true =>
     right;rw[zbf];rintro ⟨e',j'⟩ hej';have hEj':E[j']?=some e':=by
      have:=zfc.1 hej';simpa using this
     simp only[zbv,zdu,DX L E j' e' hEj'];cases w8:((eG l []).getD e 0).testBit e' with
     | false=>exact .inl rfl
     | true=>exact .inr (PS e hLe e' w8)
  have ET:nQ L E∈ns:=by
   have:=zbf.1 hb (nQ L E) (List.mem_range.2 (Mc L E));rw[Yz] at this;simp only[zci,zdm] at this;obtain ⟨a,ha,DN⟩:=zfi.1 this;rw[←zaw DN];exact ha
  rcases mJ with ⟨fK,wZ⟩|⟨m,hEm,hg,wZ⟩
  ·have Yy:(E.any λe=>Nat.beq e i)=false:=by simpa using fK
   have hop':vY P l (pK l o (ij env ((l.take p).take i) (xs.take i))) s o x:=by
    rcases wZ with h|h
    ·exact h s
    ·obtain ⟨s0,h1,h2⟩:=h.get ET;rw[PR] at h1;cases h1;exact h2
   refine ⟨s,hx,.inl ⟨rfl,hop'⟩,?_⟩;rw[BT (L:=L) λe he=>by
    have:e≠i:=λhh=>by
     have:=zel.1 Yy e he;rw[hh,zfa] at this;exact this rfl
    simp [this]]
   exact PR
  ·obtain ⟨s0,s1,h1,h2,h3⟩:=wZ.get ET;rw[PR] at h1;cases h1;refine ⟨s1,hx,?_,?_⟩
   ·rcases h3 with h|⟨ha,mc⟩
    ·exact .inr (.inl ⟨hg,h⟩)
    ·exact .inr (.inr ⟨hg,ha,mc⟩)
   ·rw[Jf hLi hn hEm];exact h2
 ·intro L s hL PR;rw[YE L E λe he=>hL e (hp e he),hF] at PR;cases PR;exact DP
def DY (P:uG) (f:Ctx) (N:Nat) (S:Start) (Q:EV->St->Prop) (l:List Oper) (p:Nat) (E:List Nat) (jt:List St) (i:Nat) (os:List Oper) (k:List Item) (env:Env):Prop :=
 ∃ xs zA,jt[2 ^ E.length-1]?=some zA/\xV P N S.base l E jt i os xs env/\cr P f N S Q l (l.drop p) k (ij env os xs) zA
variable {l:List Oper} {p:Nat} {E:List Nat} {jt:List St} {i:Nat} {os:List Oper} {env:Env} {st:St} {d:Option Tmp} {op:Op} {ty:uE} {pos:String} {after:uD Edge} {x:EV}
theorem DY.nil {zA:St} (hF:jt[2 ^ E.length-1]?=some zA) (h:cr P f N S Q l (l.drop p) k env zA):DY P f N S Q l p E jt i [] k env:=⟨[],zA,hF,trivial,h⟩
theorem DY.s (h:∀ s,aJ P (pK l ⟨d,op,ty,pos,after,none⟩ env) s ⟨d,op,ty,pos,after,none⟩ x) (fK:(!E.any λe=>Nat.beq e i)=true) (hd:hZ N d=true)
  (hk:DY P f N S Q l p E jt (i+1) os k (env.put d x)):DY P f N S Q l p E jt i (⟨d,op,ty,pos,after,none⟩::os) k env:=by
 obtain ⟨xs,zA,h0,h1,h2⟩:=hk;refine ⟨x::xs,zA,h0,⟨⟨hd,List.range (2 ^ E.length),?_,.inl ⟨fK,.inl λs=>.inl ⟨rfl,(h s).g⟩⟩⟩,h1⟩,h2⟩;unfold Kl;rw[zbf];intro n hn;simp only[zbv];exact .inr (zfi.2 ⟨n,hn,zfa n⟩)
theorem DY.g (ns:O Nat) (h:Md jt ns λs=>BL P (pK l ⟨d,op,ty,pos,after,none⟩ env) s ⟨d,op,ty,pos,after,none⟩ x) (fK:(!E.any λe=>Nat.beq e i)=true) (hb:Kl l E i ns=true) (hd:hZ N d=true)
  (hk:DY P f N S Q l p E jt (i+1) os k (env.put d x)):DY P f N S Q l p E jt i (⟨d,op,ty,pos,after,none⟩::os) k env:=by
 obtain ⟨xs,zA,h0,h1,h2⟩:=hk;refine ⟨x::xs,zA,h0,⟨⟨hd,ns,hb,.inl ⟨fK,.inr ?_⟩⟩,h1⟩,h2⟩;have mk:∀ {ns:O Nat},(Md jt ns λs=>BL P (pK l ⟨d,op,ty,pos,after,none⟩ env) s ⟨d,op,ty,pos,after,none⟩ x)->Md jt ns λs=>vY P l (pK l ⟨d,op,ty,pos,after,none⟩ env) s ⟨d,op,ty,pos,after,none⟩ x:=by
  intro ns
  induction ns with
  | nil=>exact λ_=>trivial
  | cons a r ih=>exact λ⟨⟨s,a1,a2⟩,b⟩=>⟨⟨s,a1,.inl ⟨rfl,a2⟩⟩,ih b⟩
 exact mk h
theorem DY.v (m:Nat) (ns:O Nat) (h:Me jt (2 ^ m) ns λs s'=>zj P S.base (pK l ⟨d,op,ty,pos,after,none⟩ env) s ⟨d,op,ty,pos,after,none⟩ x s') (hE:E[m]?=some i) (hb:Kl l E i ns=true) (hd:hZ N d=true)
  (hk:DY P f N S Q l p E jt (i+1) os k (env.put d x)):DY P f N S Q l p E jt i (⟨d,op,ty,pos,after,none⟩::os) k env:=by
 obtain ⟨xs,zA,h0,h3,h4⟩:=hk;refine ⟨x::xs,zA,h0,⟨⟨hd,ns,hb,.inr ⟨m,hE,rfl,?_⟩⟩,h3⟩,h4⟩;have mk:∀ {ns:O Nat},(Me jt (2 ^ m) ns λs s'=>zj P S.base (pK l ⟨d,op,ty,pos,after,none⟩ env) s ⟨d,op,ty,pos,after,none⟩ x s') ->
   Me jt (2 ^ m) ns λs s'=>zj P S.base (pK l ⟨d,op,ty,pos,after,none⟩ env) s ⟨d,op,ty,pos,after,none⟩ x s'∨x=.d .any/\JT P S.base (pK l ⟨d,op,ty,pos,after,none⟩ env) s ⟨d,op,ty,pos,after,none⟩ s':=by
  intro ns
  induction ns with
  | nil=>exact λ_=>trivial
  | cons a r ih=>exact λ⟨⟨s,s',a1,a2,a3⟩,b⟩=>⟨⟨s,s',a1,a2,.inl a3⟩,ih b⟩
 exact mk h
theorem bA.parts {id:Nat} (p:Nat) (E:O Nat) (jt:O St) (hm:P.follows .mixedOrders=true) (hB:cP l p=true) (hn:(E.all λe=>decide (e<p))=true) (hd:E.Nodup) (h0:jt[0]?=some st)
  (h:DY P f N S Q l p E jt 0 (l.take p) k env):bA P f N S Q (.code (.region id l.toArray true)::k) env st:=by
 obtain ⟨xs,zA,h1,h2,h3⟩:=h;exact .effN hm hB E jt hd (λe he=>by simpa using zbf.1 hn e he) h0 h1 h2 h3
end run
def E1 (g:b8) (w:uC) (st:St) (cs:List EV) (vs:uD uB):Prop :=
 vs.size=cs.length/\∀ (i:Nat) c (u:uB),cs[i]?=some c->vs[i]?=some u->bP g w st c u/\u.oneCell'=true
theorem E1.lay {g:b8} {w:uC} {st:St} {cs new:O EV} {vs us:uD uB} {off:Nat} (h:E1 g w st cs vs) (hn:E1 g w st new us) (hf:off+new.length<=cs.length):E1 g w st (putCells cs off new) (lay vs us off):=by
 obtain ⟨h1,h2⟩:=PF vs us off (by rw[h.1,hn.1];exact hf);refine ⟨by rw[h1,h.1];simp [putCells];omega,λi c u hc hu=>?_⟩
 have hi:i<vs.size:=by rw[←h1];exact (zay.1 hu).1
 rw[h2 i hi] at hu;unfold putCells at hc;have Fj:=h.1;have Sc:=hn.1;by_cases hA:i<off
 ·rw[zaa (by omega)] at hu;rw[zar,zap (by simp;omega),zam,zab hA] at hc;exact h.2 i c u hc hu
 ·by_cases hB:i<off+new.length
  ·rw[zab (by omega)] at hu;rw[zar,zax (by simp;omega),zap (by simp;omega)] at hc;have e1:(cs.take off).length=off:=by simp;omega
   rw[e1] at hc;exact hn.2 _ c u hc hu
  ·rw[zaa (by omega)] at hu;rw[zax (by simp;omega)] at hc;have e1:(cs.take off++new).length=off+new.length:=by simp;omega
   rw[e1,zbd] at hc;have e2:off+new.length+(i-(off+new.length))=i:=by omega
   rw[e2] at hc;exact h.2 i c u hc hu
def Rl (place:Nat->Option (Nat×Nat)) (env:Env):List EV->List (Nat×uH)->Option (List EV)
 | cs,[]=>some cs
 | cs,(i,x)::l=>match place i,df env x with
  | some (off,size),some e=>match ig e with
   | some new=>match Nat.beq new.length size,Nat.ble (off+size) cs.length with
    | true,true=>Rl place env (putCells cs off new) l
    | _,_=>none
   | none=>none
  | _,_=>none
theorem Mf {g:b8} {w:uC} {st:St} {env:Env} {tmps:uD uB} (he:eB g w st env tmps) {place:Nat->J (Nat×Nat)}:∀ (l:O (Nat×uH)) (cs:O EV) (vs:uD uB) (r:O EV),Rl place env cs l=some r->E1 g w st cs vs ->
  ∃ us,Instr.fill place vs (l.map λp=>(p.1,Act.eval ⟨tmps,[]⟩ p.2))=some us/\E1 g w st r us/\r.length=cs.length
 | [],cs,vs,r,h,hc=>by simp [Rl] at h;subst h;exact ⟨vs,rfl,hc,rfl⟩
 | (i,x)::l,cs,vs,r,h,hc=>by
  unfold Rl at h;split at h
  ·rename_i off size e hp hx;split at h
   ·rename_i new hn;split at h
    ·rename_i Gq Gr;have h1:=zaw Gq;have h2:=zaf Gr;have hcn:E1 g w st new (Act.eval ⟨tmps,[]⟩ x).cells:=r6 hn (aR he hx);have X6:=hc.lay hcn (off:=off) (by omega);obtain ⟨us,k1,k2,k3⟩:=Mf he l _ _ r h X6;refine ⟨us,?_,k2,by rw[k3];simp [putCells];omega⟩;have hs:=hcn.1;have Fj:=hc.1;simp only[zao,Instr.fill,hp];rw[zaa (by simp;omega)];exact k1
    ·cases h
   ·cases h
  ·cases h
section rules
variable {P:uG} {base:Nat} {env:Env} {st:St} {d:Option Tmp} {ty:uE} {pos:String} {after:uD Edge} {gd:Option (Nat×Bool)} {t:uE}
theorem Rm {fs:uD Field} {inf:TypeInfo} {z:uB} {zs r:O EV} {l:O (Nat×uH)} (ht:P.underlying t=some (.struct fs)) (hi:P.info? t=some inf) (hz:inf.zero=some z) (rU:ig (.d (cv z))=some zs)
  (Vv:fs.toList.all (λf=>(P.info? f.type).isSome)=true) (hl:Rl (placeOf P fs) env zs l=some r):aJ P env st ⟨d,.build t l.toArray,ty,pos,after,gd⟩ (.agg r):=by
 intro g base w tmps hinv he;have BK:E1 g w st zs z.cells:=r6 (g:=g) (w:=w) (st:=st) rU (.d _ _ (rY _ _ z));obtain ⟨us,h1,h2,h3⟩:=Mf he l zs z.cells r hl BK;refine ⟨.agg us,.agg r us h2.1 (λi u hu=>?_) λi c u hc hu=>(h2.2 i c u hc hu).1,λw' hb=>?_⟩
 ·have hi':i<r.length:=by rw[←h2.1];exact (zay.1 hu).1
  exact (h2.2 i _ u (zag hi') hu).2
 ·have PG:(fs.mapM (λf=>do pure (f.offset,←sizeOf f.type):Field->Sem (Nat×Nat))).run P w'=.ok (fs.toList.map λf=>(f.offset,LQ P f.type)).toArray w':=by
   rw[←Array.toArray_toList (xs:=fs),zfs];simp only[Sem.run_map,EN (P:=P) fs.toList (λf hf=>zbf.1 Vv f hf) w',Result.andThen_ok]
  have Oy:(λi:Nat=>((fs.toList.map λf=>(f.offset,LQ P f.type)).toArray)[i]?)=placeOf P fs:=by
   funext i;simp [placeOf]
  simp only[execOp,Instr.build,Sem.run_bind,u9 hi hz,Result.andThen_ok,run_underlying ht,PG,zeo];rw[Oy];simp [h1]
theorem GM {ps:O (Nat×Nat)} {inf:TypeInfo} {z:uB} {zs r:O EV} {l:O (Nat×uH)} (hp:placesOf P t=some ps) (hi:P.info? t=some inf) (hz:inf.zero=some z) (rU:ig (.d (cv z))=some zs)
  (hl:Rl (λi=>ps[i]?) env zs l=some r):aJ P env st ⟨d,.build t l.toArray,ty,pos,after,gd⟩ (.agg r):=by
 unfold placesOf at hp;split at hp
 ·rename_i fs hu;split at hp
  ·rename_i pL;cases hp;refine Rm hu hi hz rU pL ?_;rw[←hl];congr 1;funext i;simp [placeOf]
  ·cases hp
 ·cases hp
end rules
section cell
variable {P:uG} {f:Ctx} {N:Nat} {S:Start} {Q:EV->St->Prop} {todo:List Item} {env:Env} {st:St}
theorem Inv.nL {g:b8} {base o ci:Nat} {w:uC} {T:uE} {cs:O EV} {x y:EV} (h:Inv g base w st) (ho:st.aS[o]?=some (.row T cs)) (hc:cs[ci]?=some x) (hle:eC x y) :
  Inv g base w (st.set o (.row T (cs.set ci y)))/\Step base g w st g w (st.set o (.row T (cs.set ci y))):=by
 obtain ⟨b1,b2,vs,b3,b4,b5⟩:=h.row o T cs ho;exact h.setBlock (o:=o) (x:=.row T (cs.set ci y)) (w':=w) ⟨_,ho,by simp⟩ b2 rfl (λ_ _=>rfl) rfl rfl rfl
  (λSs On Fk lO=>by
   cases lO;refine ⟨vs,b3,by simpa using b4,λi c u rR hu=>?_⟩;rw[zbm] at rR;split at rR
   ·rename_i hic;subst hic;split at rR
    ·cases rR;have h0:=b5 ci _ u hc hu;exact ⟨hle _ _ _ _ (h0.1.mono Ss),h0.2⟩
    ·cases rR
   ·have h0:=b5 i c u rR hu;exact ⟨h0.1.mono Ss,h0.2⟩) (λ_ es lO=>by cases lO)
theorem bA.nL (o ci:Nat) {T:uE} {cs:O EV} {x y:EV} (ho:st.aS[o]?=some (.row T cs)) (hc:cs[ci]?=some x) (hle:eC x y)
  (h:bA P f N S Q todo env (st.set o (.row T (cs.set ci y)))):bA P f N S Q todo env st:=by
 intro g w tmps hinv hh he hn;obtain ⟨h1,h2⟩:=hinv.nL ho hc hle;exact h g w tmps h1 (hh.step h2) (he.mono h2.dZ) hn
end cell
def Mg (P:uG) (t:uE) (n:Nat):Bool:=match P.info? t with
 | some i=>Nat.beq i.size n
 | none=>false
def GN (P:uG) (g:uE->Option (List FK)):Nat->List Field->Option (List FK)
 | _,[]=>some []
 | n,f::fs=>match Nat.beq f.offset n,decide (f.name ≠ "_"),g f.type with
  | true,true,some k=>match Mg P f.type k.length,GN P g (n+k.length) fs with
   | true,some ks=>some (k++ks)
   | _,_=>none
  | _,_,_=>none
def CI (P:uG):Nat->uE->Option (List FK)
 | 0,_=>none
 | d+1,t=>match P.underlying t with
  | some (.struct fs)=>match P.stoodInHeld t with
   | true=>none
   | false=>GN P (CI P d) 0 fs.toList
  | some (.array n e)=>match d,Ir (P.underlying e),Mg P e 1 with
   | d'+1,some k,true=>some (List.replicate n k)
   | _,_,_=>none
  | u=>match Ir u with
   | some k=>some [k]
   | none=>none
def Rn:Option TypeDesc->Bool
 | some (.struct _)=>true
 | some (.array _ _)=>true
 | _=>false
def DZ (P:uG) (t:uE) (xs:List uB):uB:=match Rn (P.underlying t) with
 | true=>.agg xs.toArray
 | false=>xs.headD undef
theorem vf:∀ {ks:O FK} {xs:O uB},fitAll ks xs=true->xs.length=ks.length
 | [],[],_=>rfl
 | [],_::_,h=>by cases h
 | _::_,[],h=>by cases h
 | k::ks,x::xs,h=>by simp only[fitAll,zat] at h;simp [vf h.2]
theorem xW:∀ (ks ls:O FK) (xs:O uB),fitAll (ks++ls) xs=true->fitAll ks (xs.take ks.length)=true/\fitAll ls (xs.drop ks.length)=true
 | [],ls,xs,h=>⟨by simp [fitAll],by simpa using h⟩
 | k::ks,ls,[],h=>by cases h
 | k::ks,ls,x::xs,h=>by
  simp only[List.cons_append,fitAll,zat] at h;obtain ⟨h1,h2⟩:=xW ks ls xs h.2;exact ⟨by simp [fitAll,h.1,h1],by simpa using h2⟩
theorem GO:∀ (n:Nat) (xs ys:O uB),xs.length=ys.length->et xs ys=(et (xs.take n) (ys.take n) && et (xs.drop n) (ys.drop n))
 | 0,xs,ys,_=>by simp [et]
 | n+1,[],[],_=>by simp [et]
 | n+1,[],_::_,h=>by cases h
 | n+1,_::_,[],h=>by cases h
 | n+1,x::xs,y::ys,h=>by
  simp only[List.take_succ_cons,List.drop_succ_cons,et];rw[GO n xs ys (by simpa using h),Bool.and_assoc]
section eq
variable {P:uG}
theorem VE (t:uE) (w:uC) (u:TypeDesc) (hu:P.underlying t=some u):(isAgg t).run P w=.ok (Rn (some u)) w:=by
 unfold isAgg;simp only[Sem.run_bind,run_underlying hu,Result.andThen_ok];cases u <;> rfl
theorem Mh {t:uE} {n:Nat} (h:Mg P t n=true):∃ i,P.info? t=some i/\i.size=n:=by
 unfold Mg at h;split at h
 ·rename_i i hi;exact ⟨i,hi,zaw h⟩
 ·cases h
theorem Jg {d:Nat} {t:uE} {ks:O FK} (h:CI P d t=some ks) (ha:Rn (P.underlying t)=false):∃ k,Ir (P.underlying t)=some k/\ks=[k]:=by
 cases d with
 | zero=>cases h
 | succ d =>
  unfold CI at h;split at h
  ·rename_i hu;rw[hu] at ha;cases ha
  ·rename_i hu;rw[hu] at ha;cases ha
  ·split at h
   ·rename_i k hk;cases h;exact ⟨k,hk,rfl⟩
   ·cases h
theorem Jh {d:Nat} {t:uE} {ks:List FK} (h:CI P d t=some ks) {X:uD uB} {off:Nat} {xs:List uB} (hl:xs.length=ks.length) (hs:Mg P t ks.length=true)
  (hX:∀ (j:Nat) v,xs[j]?=some v->X[off+j]?=some v) (w:uC):(part t X off).run P w=.ok (DZ P t xs) w:=by
 obtain ⟨i,hi,gq⟩:=Mh hs;cases ha:Rn (P.underlying t) with
 | false =>
  obtain ⟨k,hk,rfl⟩:=Jg h ha
  match xs,hl with
  | [v],_ =>
   have:=w5 hk (cs:=X) (off:=off) (v:=v) (by simpa using hX 0 v rfl) w;simpa [DZ,ha] using this
 | true =>
  cases hu:P.underlying t with
  | none=>rw[hu] at ha;cases ha
  | some u =>
   have hA:=VE (P:=P) t w u hu;rw[hu] at ha;rw[ha] at hA;have JV:DZ P t xs=.agg xs.toArray:=by unfold DZ;rw[hu,ha]
   have hx:X.extract off (off+ks.length)=xs.toArray:=by
    apply Array.ext';apply zck;intro j;by_cases hj:j<xs.length
    ·have h1:=hX j _ (zag hj);have h2:=(zay.1 h1).1;rw[zch,Array.getElem?_extract];show _=xs[j]?;rw[zag hj,zab (by omega)];exact h1
    ·rw[zch,Array.getElem?_eq_none (by simp;omega),zbq (by simp;omega)]
   simp only[part,Sem.run_bind,hA,Result.andThen_ok,zby,qo hi,gq,hx,JV,Sem.run_pure]
theorem Ji {d:Nat} (n:Nat) (w:uC) (ih:∀ (t:uE) (ks:List FK) (xs ys:List uB),CI P d t=some ks->fitAll ks xs=true->fitAll ks ys=true->(Op.equalIn (n+d) t (DZ P t xs) (DZ P t ys)).run P w=.ok (et xs ys) w) :
  ∀ (fs:List Field) (k:Nat) (ks:List FK) (xs ys:List uB) (X Y:uD uB),GN P (CI P d) k fs=some ks->fitAll ks xs=true->fitAll ks ys=true ->
  (∀ (j:Nat) v,xs[j]?=some v->X[k+j]?=some v)->(∀ (j:Nat) v,ys[j]?=some v->Y[k+j]?=some v)->(Op.eqFields (n+d) X Y fs).run P w=.ok (et xs ys) w
 | [],k,ks,xs,ys,X,Y,h,hx,hy,_,_=>by
  simp only[GN,Option.some.injEq] at h;subst h
  match xs,ys with
  | [],[]=>rfl
  | _::_,_=>cases hx
  | [],_::_=>cases hy
 | f::fs,k,ks,xs,ys,X,Y,h,hx,hy,hX,hY=>by
  unfold GN at h;split at h
  ·rename_i kk h1 h2 h3;split at h
   ·rename_i ks' h4 h5;simp only[Option.some.injEq] at h;subst h;have ho:=zaw h1;have LY:f.name ≠ "_" := zcv h2;obtain ⟨a1,a2⟩:=xW _ _ _ hx;obtain ⟨b1,b2⟩:=xW _ _ _ hy;have hlx:=vf hx;have hly:=vf hy;have px:=Jh h3 (X:=X) (off:=f.offset) (vf a1) h4 (λj v hv=>by
     rw[zam] at hv;split at hv
     ·rw[ho];exact hX j v hv
     ·cases hv) w
    have py:=Jh h3 (X:=Y) (off:=f.offset) (vf b1) h4 (λj v hv=>by
     rw[zam] at hv;split at hv
     ·rw[ho];exact hY j v hv
     ·cases hv) w
    have pe:=ih _ _ _ _ h3 a1 b1;have rest:=Ji n w ih fs (k+kk.length) ks' _ _ X Y h5 a2 b2 (λj v hv=>by rw[zbd] at hv;have:=hX _ v hv;rwa [show k+kk.length+j=k+(kk.length+j) by omega])
     (λj v hv=>by rw[zbd] at hv;have:=hY _ v hv;rwa [show k+kk.length+j=k+(kk.length+j) by omega])
    rw[GO kk.length xs ys (by omega)];simp only[Op.eqFields,zab LY,Sem.run_bind,px,py,pe,Result.andThen_ok,Sem.run_ite];cases et (xs.take kk.length) (ys.take kk.length)
    ·rfl
    ·simpa using rest
   ·cases h
  ·cases h
theorem Jj {e:uE} {k:FK} (hk:Ir (P.underlying e)=some k) (hs:P.cellsOf e=1) (n:Nat) (w:uC) (X Y:uD uB) :
  ∀ (m i:Nat) (xs ys:List uB),fitAll (List.replicate m k) xs=true->fitAll (List.replicate m k) ys=true ->
  (∀ (j:Nat) v,xs[j]?=some v->X[i+j]?=some v)->(∀ (j:Nat) v,ys[j]?=some v->Y[i+j]?=some v) ->
  (Op.eqItems (n+1) e (P.cellsOf e) X Y (List.range' i m)).run P w=.ok (et xs ys) w
 | 0,i,xs,ys,hx,hy,_,_=>by
  match xs,ys with
  | [],[]=>rfl
  | _::_,_=>cases hx
  | [],_::_=>cases hy
 | m+1,i,[],ys,hx,_,_,_=>by cases hx
 | m+1,i,x::xs,[],_,hy,_,_=>by cases hy
 | m+1,i,x::xs,y::ys,hx,hy,hX,hY=>by
  simp only[List.replicate_succ,fitAll,zat] at hx hy;have px:=w5 hk (cs:=X) (off:=i) (by simpa using hX 0 x rfl) w;have py:=w5 hk (cs:=Y) (off:=i) (by simpa using hY 0 y rfl) w;have pe:=zu hk hx.1 hy.1 n w;have ih:=Jj hk hs n w X Y m (i+1) xs ys hx.2 hy.2 (λj v hv=>by have:=hX (j+1) v (by simpa using hv);rwa [show i+1+j=i+(j+1) by omega]) (λj v hv=>by have:=hY (j+1) v (by simpa using hv);rwa [show i+1+j=i+(j+1) by omega]);rw[hs] at ih ⊢;simp only[List.range'_succ,Op.eqItems,Sem.run_bind,Nat.mul_one,px,py,pe,Result.andThen_ok,Sem.run_ite,et];cases N8 x y
  ·rfl
  ·simpa using ih
theorem Mi (n:Nat) (w:uC):∀ (d:Nat) (t:uE) (ks:List FK) (xs ys:List uB),CI P d t=some ks->fitAll ks xs=true->fitAll ks ys=true->(Op.equalIn (n+d) t (DZ P t xs) (DZ P t ys)).run P w=.ok (et xs ys) w
 | 0,t,ks,xs,ys,h,_,_=>by cases h
 | d+1,t,ks,xs,ys,h,hx,hy=>by
  cases ha:Rn (P.underlying t) with
  | false =>
   obtain ⟨k,hk,rfl⟩:=Jg h ha
   match xs,ys,hx,hy with
   | [x],[y],hx,hy =>
    simp only[fitAll,zeu] at hx hy;have:=zu hk hx hy (n+d) w;simp only[DZ,ha,et,List.headD_cons,zeu];exact this
   | [],_,hx,_=>cases hx
   | _::_::_,_,hx,_=>simp [fitAll] at hx
   | [x],[],_,hy=>cases hy
   | [x],_::_::_,_,hy=>simp [fitAll] at hy
  | true =>
   have YF:∀ zs,DZ P t zs=.agg zs.toArray:=λzs=>by unfold DZ;rw[ha]
   rw[YF,YF];unfold CI at h;cases hu:P.underlying t with
   | none=>rw[hu] at ha;cases ha
   | some u =>
    rw[hu] at h ha;cases u with
    | struct fs =>
     simp only at h;split at h
     ·cases h
     ·rename_i PJ;have Vv:P.fieldsOf t=fs:=by simp [Program.fieldsOf,hu]
      rw[show n+(d+1)=(n+d)+1 by omega,run_equalIn_struct w (n+d) t _ _ (by rw[Vv];exact hu) PJ,Vv];exact Ji n w (Mi n w d) fs.toList 0 ks xs ys _ _ h hx hy (λj v hv=>by simpa using hv) (λj v hv=>by simpa using hv)
    | array m e =>
     simp only at h;split at h
     ·rename_i d' k hk hs;cases h;obtain ⟨i,hi,gq⟩:=Mh hs;have hc:P.cellsOf e=1:=by simp [Program.cellsOf,hi,gq]
      rw[show n+(d'+1+1)=(n+d'+1)+1 by omega,run_equalIn_array w (n+d'+1) _ _ hu hi,List.range_eq_range'];exact Jj hk hc (n+d') w _ _ m 0 xs ys hx hy (λj v hv=>by simpa using hv) (λj v hv=>by simpa using hv)
     ·cases h
    | _=>cases ha
end eq
def PT (P:uG) (t:uE):Option (List FK):=match P.eqGuardType P.depth t,Rn (P.underlying t) with
 | false,true=>CI P 4 t
 | _,_=>none
section rules
variable {P:uG} {base:Nat} {env:Env} {st:St} {d:Option Tmp} {ty:uE} {pos:String} {after:uD Edge} {gd:Option (Nat×Bool)} {t t2:uE} {x y:uH}
variable {ks:List FK} {cs ds:List D} {xs ys:List uB}
theorem S7 (h:PT P t=some ks) (hx:fitAll ks xs=true) (hy:fitAll ks ys=true) (w:uC) (op:BinOp) (x y:uH) :
  (eqGuard op t x y (.agg xs.toArray) (.agg ys.toArray)).run P w=.ok () w/\(Op.equalIn 10000 t (.agg xs.toArray) (.agg ys.toArray)).run P w=.ok (et xs ys) w:=by
 unfold PT at h;split at h
 ·rename_i hg ha;refine ⟨run_eqGuard_agg w op t x y _ _ hg,?_⟩;have:=Mi (P:=P) 9996 w 4 t ks xs ys h hx hy;have YF:∀ zs,DZ P t zs=.agg zs.toArray:=λzs=>by unfold DZ;rw[ha]
  rw[YF,YF] at this;exact this
 ·cases h
section steq
variable (hk:PT P t=some ks) (hx:df env x=some (.d (.agg cs))) (hy:df env y=some (.d (.agg ds))) (h1:U9 cs=some xs) (h2:U9 ds=some ys) (h3:fitAll ks xs=true) (h4:fitAll ks ys=true)
include hk hx hy h1 h2 h3 h4
theorem VF:aJ P env st ⟨d,.binOp .neq t x y t2,ty,pos,after,gd⟩ (.d (.ex (.bool (!et xs ys)))):=r3 λg w tmps w' he=>by
 obtain ⟨k1,k2⟩:=S7 hk h3 h4 w' .neq x y;have e1:Act.eval ⟨tmps,[]⟩ x=.agg xs.toArray:=by cases aR he hx with|d _ _ h=>exact uS h1 h
 have e2:Act.eval ⟨tmps,[]⟩ y=.agg ys.toArray:=by cases aR he hy with|d _ _ h=>exact uS h2 h
 simp only[execOp,e1,e2,Sem.run_bind,k1,Result.andThen_ok,run_neq_struct,k2,Sem.run_pure]
end steq
theorem YG {a b:Int} {k:IntKind} {ts:uD uE} (hx:df env x=some (.d (.ex (.int k a)))) (hy:df env y=some (.d (.ex (.int k b)))) :
  aJ P env st ⟨d,.call ⟨.builtin .min,#[x,y],ts⟩,ty,pos,after,gd⟩ (.d (.ex (.int k (if b<a then b else a)))):=r3 λg w tmps w' he=>by
 simp [execOp,(aR he hx).bO,(aR he hy).bO,resolve,invoke,builtin,run_min_int2]
theorem YH {a b:Int} {k:IntKind} {ts:uD uE} (hx:df env x=some (.d (.ex (.int k a)))) (hy:df env y=some (.d (.ex (.int k b)))) :
  aJ P env st ⟨d,.call ⟨.builtin .max,#[x,y],ts⟩,ty,pos,after,gd⟩ (.d (.ex (.int k (if b > a then b else a)))):=r3 λg w tmps w' he=>by
 simp [execOp,(aR he hx).bO,(aR he hy).bO,resolve,invoke,builtin,run_max_int2]
end rules
section freezeCell
variable {P:uG} {f:Ctx} {N:Nat} {S:Start} {Q:EV->St->Prop} {todo:List Item} {env:Env} {st:St}
theorem bA.freezeCell {α:Type} {l:O α} {row:α->O D} (o ci:Nat) {tk e sz n:Nat} {T:uE} {cs:O EV} (ho:st.aS[o]?=some (.row T cs)) (hc:cs[ci]?=some (.vc tk n)) (fO:st.av[tk]?=some ⟨e,sz,n,some (l.map row)⟩)
  (h:bA P f N S Q todo env ((st.bG tk ⟨e,sz,l.length,none⟩).set o (.row T (cs.set ci (.d (.sl sz (l.map row))))))):bA P f N S Q todo env st:=by
 refine .Yu fO λhn=>?_
 subst hn;intro g w tmps hinv hh he hN;obtain ⟨g',h1,h2,h3,h4⟩:=hinv.freeze fO;have Ie:(st.bG tk ⟨e,sz,l.length,none⟩).aS[o]?=some (.row T cs):=ho;obtain ⟨a1,a2,us0,a3,a4,a5⟩:=hinv.row o T cs ho;obtain ⟨b1,b2,vs,b3,b4,b5⟩:=h2.row o T cs Ie;have Ct:g'.ob o=g.ob o:=h3.dZ.ob o (zae.1 ho).1;have Fj:us0=vs:=by rw[Ct,a3] at b3;cases b3;rfl
 subst Fj;obtain ⟨k1,k2⟩:=h2.setBlock (o:=o) (x:=.row T (cs.set ci (.d (.sl sz (l.map row))))) (w':=w) ⟨_,Ie,by simp⟩ b2 rfl (λ_ _=>rfl) rfl rfl rfl
  (λSs On Fk lO=>by
   cases lO;refine ⟨us0,b3,by simpa using b4,λi c u rR hu=>?_⟩;rw[zbm] at rR;split at rR
   ·rename_i hic;subst hic;split at rR
    ·cases rR;have h0:=a5 ci _ u hc hu;refine ⟨?_,h0.2⟩;rcases ub hinv fO h0.1 with hv|⟨n0,r0,A,hv⟩
     ·rw[hv];exact .d _ _ (h4.mono Ss.df)
     ·rw[r0,hv];exact .d _ _ (.nil sz A)
    ·cases rR
   ·have h0:=b5 i c u rR hu;exact ⟨h0.1.mono Ss,h0.2⟩) (λ_ es lO=>by cases lO)
 exact h g' w tmps k1 (hh.step (h3.trans k2)) ((he.mono h3.dZ).mono k2.dZ) hN
variable {ops rest:List Oper} {k:List Item}
theorem cr.freezeCell {α:Type} {l:O α} {row:α->O D} (o ci:Nat) {tk e sz n:Nat} {T:uE} {cs:O EV} (ho:st.aS[o]?=some (.row T cs)) (hc:cs[ci]?=some (.vc tk n)) (fO:st.av[tk]?=some ⟨e,sz,n,some (l.map row)⟩)
  (h:cr P f N S Q ops rest k env ((st.bG tk ⟨e,sz,l.length,none⟩).set o (.row T (cs.set ci (.d (.sl sz (l.map row))))))):cr P f N S Q ops rest k env st :=
 λj hj=>.freezeCell o ci ho hc fO (h j hj)
theorem cr.nL (o ci:Nat) {T:uE} {cs:O EV} {x y:EV} (ho:st.aS[o]?=some (.row T cs)) (hc:cs[ci]?=some x) (hle:eC x y)
  (h:cr P f N S Q ops rest k env (st.set o (.row T (cs.set ci y)))):cr P f N S Q ops rest k env st :=
 λj hj=>.nL o ci ho hc hle (h j hj)
end freezeCell
theorem aE.ofE {P:uG} {f:FuncId} {ds:O D} {r:D} (h:aN P f (ds.map EV.d) ⟨[],[]⟩ (QE (.d r) ⟨[],[]⟩)):aE P f ds (·=r) :=
 .of (h.mono λx s hq=>⟨r,hq.1,rfl⟩)
def S8 (t:Nat):List Nat->Bool
 | []=>false
 | a::l=>match Nat.beq t a with
  | true=>true
  | false=>S8 t l
def VG {β:Type} (t:Nat):List (Nat×β)->Option β
 | []=>none
 | (a,y)::l=>match Nat.beq t a with
  | true=>some y
  | false=>VG t l
def tc:List Prop->Prop
 | []=>True
 | [p]=>p
 | p::q::l=>p/\tc (q::l)
theorem tc.c {p:Prop} {l:O Prop} (h:tc (p::l)):p/\tc l:=by
 cases l with
 | nil=>exact ⟨h,trivial⟩
 | cons q l=>exact h
def Al {α:Type} (p:α->Prop):List α->Prop
 | []=>True
 | a::l=>p a/\Al p l
theorem Km {p:Nat->Prop} {t:Nat}:∀ {l:O Nat},Al p l->S8 t l=true->p t
 | [],_,h=>by cases h
 | a::l,⟨h1,h2⟩,h=>by
  unfold S8 at h;split at h
  ·rename_i hb;have:=zaw hb;subst this;exact h1
  ·exact Km h2 h
theorem BU {β:Type} {p:Nat×β->Prop} {t:Nat} {y:β}:∀ {l:O (Nat×β)},Al p l->VG t l=some y->p (t,y)
 | [],_,h=>by cases h
 | (a,z)::l,⟨h1,h2⟩,h=>by
  unfold VG at h;split at h
  ·rename_i hb;have:=zaw hb;subst this;cases h;exact h1
  ·exact BU h2 h
def oo {α β:Type _}:List α->(List α->β)->β
 | [],k=>k []
 | a::l,k=>oo l λl'=>k (a::l')
theorem sf {α β:Type _}:∀ (l:O α) (k:O α->β),oo l k=k l
 | [],_=>rfl
 | a::l,k=>sf l λl'=>k (a::l')
def S9 {β:Type _} (env:Env) (d:Option Tmp) (x:EV) (k:Env->β):β:=match d with
 | some d=>k ((d,x)::env)
 | none=>k env
theorem FV {β:Type _} (env:Env) (d:J Tmp) (x:EV) (k:Env->β):S9 env d x k=k (env.put d x):=by cases d <;> rfl
structure FT where
 one:List Nat
 agg:List (Nat×Nat)
 sz:List (Nat×Nat)
 fo:List (Nat×List (Nat×Nat))
 zr:List (Nat×List D)
def FT.Ok (P:uG) (T:FT):Prop :=
 Al (λt=>(P.underlying t).map lS=some true) T.one/\Al (λx=>(P.underlying x.1).map lS=some false/\(P.info? x.1).map (·.size)=some x.2) T.agg/\Al (λx=>(P.info? x.1).map (·.size)=some x.2) T.sz /\
 Al (λx=>Al (λy=>fQ P x.1 y.1=some y.2) x.2) T.fo/\Al (λx=>∃ z,(P.info? x.1).bind (·.zero)=some z/\ig (.d (cv z))=some (x.2.map EV.d)) T.zr
def dOf:Option D->Option EV
 | some x=>some (.d x)
 | none=>none
def isU8:IntKind->Bool
 | .u8=>true
 | _=>false
def intB (op:BinOp) (a b:Int):Option Bool:=match op with
 | .lss=>some (decide (a<b))
 | .leq=>some (decide (a<=b))
 | .gtr=>some (decide (a > b))
 | .geq=>some (decide (a>=b))
 | .eql=>some (a==b)
 | .neq=>some (a != b)
 | _=>none
def strB (op:BinOp) (a b:List uA):Option Bool:=match op with
 | .eql=>some (a==b)
 | .neq=>some (a != b)
 | _=>none
def exB:Option Bool->Option D
 | some b=>some (.ex (.bool b))
 | none=>none
def YI (op:BinOp) (x y:D):Option D:=match x with
 | .ex (.int k a)=>match isU8 k with
  | true=>none
  | false=>match y with
   | .ex (.int k' b)=>match decide (k=k') with
    | true=>exB (intB op a b)
    | false=>none
   | _=>none
 | .ex (.string ⟨⟨a⟩⟩)=>match y with
  | .ex (.string ⟨⟨b⟩⟩)=>exB (strB op a b)
  | _=>none
 | _=>none
def Xl (n:Nat) (cs:List EV) (off:Nat):Option EV:=match Nat.ble (off+n) cs.length with
 | true=>match QZ ((cs.drop off).take n) with
  | some ds=>some (.d (.agg ds))
  | none=>none
 | false=>none
def Xm (n:Nat) (cs:List D):Option EV:=match Nat.beq cs.length n with
 | true=>some (.d (.agg cs))
 | false=>match Nat.ble n cs.length with
  | true=>some (.d (.agg (cs.take n)))
  | false=>none
def rowOf (st:St) (o:Nat):Option (uE×List EV):=match st.aS[o]? with
 | some (.row ty cs)=>some (ty,cs)
 | _=>none
def qv (T:FT) (env:Env) (st:St):Op->Option EV
 | .move x=>df env x
 | .assign x=>df env x
 | .nilCheck x=>match df env x with
  | some (.ref o f)=>some (.ref o f)
  | _=>none
 | .extract x i=>match df env x with
  | some (.d (.dN cs))=>dOf cs[i]?
  | some (.dN cs)=>cs[i]?
  | _=>none
 | .binOp op t x y t2=>match df env x with
  | some (.d a)=>match df env y with
   | some (.d b)=>dOf (YI op a b)
   | _=>none
  | _=>none
 | .unOp .not t x=>match df env x with
  | some (.d (.ex (.bool a)))=>some (.d (.ex (.bool (!a))))
  | _=>none
 | .fieldAddr s x f=>match VG s T.fo with
  | some fs=>match VG f fs with
   | some off=>match df env x with
    | some (.ref o o0)=>some (.ref o (o0+off))
    | some (.d (.ro cs))=>some (.d (.ro (cs.drop off)))
    | some (.vp t k i o)=>some (.vp t k i (o+off))
    | _=>none
   | none=>none
  | none=>none
 | .load t x=>match df env x with
  | some (.ref o off)=>match rowOf st o with
   | some (_,cs)=>match S8 t T.one with
    | true=>cs[off]?
    | false=>match VG t T.agg with
     | some n=>Xl n cs off
     | none=>none
   | none=>none
  | some (.d (.ro cs))=>match S8 t T.one with
   | true=>match cs with
    | c::_=>some (.d c)
    | []=>none
   | false=>match VG t T.agg with
    | some n=>Xm n cs
    | none=>none
  | _=>none
 | _=>none
def pk (env:Env):Op->Option (EV×Prop)
 | .pick x y z=>match df env x with
  | some (.d (.ex (.bool a)))=>match df env y with
   | some (.gd c (.d (.ex (.bool v))))=>match df env z with
    | some (.d (.ex (.bool false)))=>some (.d (.ex (.bool (a && v))),c=a)
    | _=>none
   | some (.d (.ex (.bool true)))=>match df env z with
    | some (.gd c (.d (.ex (.bool v))))=>some (.d (.ex (.bool (a || v))),c=(!a))
    | _=>none
   | _=>none
  | _=>none
 | _=>none
section q
variable {P:uG} {T:FT} {env:Env} {st:St} {d:Option Tmp} {ty:uE} {pos:String} {after:uD Edge} {gd:Option (Nat×Bool)}
theorem YJ {op:BinOp} {a b r:D} {x y:uH} {t t2:uE} (hx:df env x=some (.d a)) (hy:df env y=some (.d b)) (h:YI op a b=some r):aJ P env st ⟨d,.binOp op t x y t2,ty,pos,after,gd⟩ (.d r):=by
 unfold YI at h;split at h
 ·split at h
  ·cases h
  ·split at h
   ·split at h
    ·rename_i hk;have hk:=zcv hk;subst hk;unfold intB exB at h;cases op <;> simp at h <;> subst h
     ·exact q_eql hx hy
     ·exact W6 hx hy
     ·exact W0 hx hy
     ·exact W3 hx hy
     ·exact W4 hx hy
     ·exact W5 hx hy
    ·cases h
   ·cases h
 ·split at h
  ·unfold strB exB at h;cases op <;> simp at h <;> subst h
   ·exact XT hx hy
   ·exact XU hx hy
  ·cases h
 ·cases h
theorem GP (hT:T.Ok P) {op:Op} {x:EV} (h:qv T env st op=some x):aJ P env st ⟨d,op,ty,pos,after,gd⟩ x:=by
 obtain ⟨h1,h2,h3,h4,h5⟩:=hT;unfold qv at h;split at h
 ·exact bT h
 ·exact LF h
 ·split at h
  ·rename_i hx;cases h;exact dO hx
  ·cases h
 ·split at h
  ·rename_i hx;unfold dOf at h;split at h
   ·rename_i hc;cases h;exact cd hx hc
   ·cases h
  ·rename_i hx;exact Om hx h
  ·cases h
 ·split at h
  ·rename_i a hx;split at h
   ·rename_i b hy;unfold dOf at h;split at h
    ·rename_i r hr;cases h;exact YJ hx hy hr
    ·cases h
   ·cases h
  ·cases h
 ·split at h
  ·rename_i hx;cases h;exact q_not hx
  ·cases h
 ·split at h
  ·rename_i fs hl;split at h
   ·rename_i off hf;have:=BU (BU h4 hl) hf;split at h
    ·rename_i hx;cases h;exact bn this hx
    ·rename_i hx;cases h;exact Q0 this hx
    ·rename_i hx;cases h;exact Rf this hx
    ·cases h
   ·cases h
  ·cases h
 ·split at h
  ·rename_i o off hx;split at h
   ·rename_i On cs hr;unfold rowOf at hr;split at hr
    ·rename_i ty2 cs2 ho;cases hr;split at h
     ·rename_i hm;exact bZ (Km h1 hm) hx ho h
     ·split at h
      ·rename_i n hl;unfold Xl at h;split at h
       ·rename_i hn;split at h
        ·rename_i ds hd;cases h;have:=BU h2 hl;exact b7 this.1 this.2 hx ho (zaf hn) hd
        ·cases h
       ·cases h
      ·cases h
    ·cases hr
   ·cases h
  ·rename_i cs hx;split at h
   ·rename_i hm;split at h
    ·cases h;exact XV (Km h1 hm) hx
    ·cases h
   ·split at h
    ·rename_i n hl;have:=BU h2 hl;unfold Xm at h;split at h
     ·rename_i hn;cases h;exact Q7 this.1 this.2 hx hn
     ·split at h
      ·rename_i hn;cases h;exact PB this.1 this.2 (zaf hn) hx
      ·cases h
    ·cases h
  ·cases h
 ·cases h
theorem Mj {op:Op} {x:EV} {p:Prop} (h:pk env op=some (x,p)) (hp:p):aJ P env st ⟨d,op,ty,pos,after,gd⟩ x:=by
 unfold pk at h;split at h
 ·split at h
  ·rename_i a hx;split at h
   ·rename_i c v hy;split at h
    ·rename_i hz;simp only[Option.some.injEq,Prod.mk.injEq] at h;obtain ⟨rfl,rfl⟩:=h;subst hp;exact eD hx hy hz
    ·cases h
   ·rename_i hy;split at h
    ·rename_i c v hz;simp only[Option.some.injEq,Prod.mk.injEq] at h;obtain ⟨rfl,rfl⟩:=h;subst hp;exact DT hx hy hz
    ·cases h
   ·cases h
  ·cases h
 ·cases h
end q
inductive Hint where
 | g (x:EV)
 | v (x:EV) (st:St)
 | u (st:St)
 | t (x:EV) (tk:Nat) (tl:iR)
 | n (x:EV) (tl:iR)
 | r (o:Nat)
 | p (n:Nat)
  | f (k:Nat) (x:EV)
 | w (k:Nat) (st:St)
def forced (n:Nat):List Hint->Option (EV×List Hint)
 | .f k x::hs=>match Nat.beq k n with
  | true=>some (x,hs)
  | false=>none
 | _=>none
def VH (n:Nat):List Hint->Option (St×List Hint)
 | .w k s::hs=>match Nat.beq k n with
  | true=>some (s,hs)
  | false=>none
 | _=>none
inductive Cf where
 | run (k:List Item)
 | ops (l rest:List Oper) (k:List Item)
 | draw (l:List Oper) (p:Nat) (os:List Oper) (k:List Item)
@[reducible] def Ro (P:uG) (f:Ctx) (N:Nat) (S:Start) (Q:EV->St->Prop):Cf->Env->St->Prop
 | .run k=>bA P f N S Q k
 | .ops l r k=>cr P f N S Q l r k
 | .draw l p os k=>za P f N S Q l p os k
structure Out where
 cf:Cf
 env:Env
 st:St
 ps:List Prop
def gdE {β:Type _} (b:Bool) (env:Env):List Tmp->List Prop->(Env->List Prop->β)->β
 | [],ps,k=>k [] ps
 | t::ts,ps,k=>match lookup t env with
  | some (.gd c y)=>gdE b env ts ((c=b)::ps) λe ps=>k ((t,y)::e) ps
  | some x=>gdE b env ts ps λe ps=>k ((t,x)::e) ps
  | none=>gdE b env ts ps k
theorem CJ {β:Type _} {b:Bool} {env:Env}:∀ (ts:O Tmp) (ps:O Prop) (k:Env->O Prop->β),∃ e Kn,gdE b env ts ps k=k e Kn/\(tc Kn->tc ps/\Cr b env e)
 | [],ps,k=>⟨[],ps,rfl,λh=>⟨h,trivial⟩⟩
 | t::ts,ps,k=>by
  unfold gdE;split
  ·rename_i c y hl;obtain ⟨e,Kn,h1,h2⟩:=CJ (b:=b) (env:=env) ts ((c=b)::ps) λe ps=>k ((t,y)::e) ps
   refine ⟨_,_,h1,λh=>?_⟩;obtain ⟨h34,h5⟩:=h2 h;obtain ⟨h3,h4⟩:=h34.c;exact ⟨h4,.inr (.inl (by rw[hl,h3])),h5⟩
  ·rename_i x fK hl;obtain ⟨e,Kn,h1,h2⟩:=CJ (b:=b) (env:=env) ts ps λe ps=>k ((t,x)::e) ps
   exact ⟨_,_,h1,λh=>⟨(h2 h).1,.inl hl,(h2 h).2⟩⟩
  ·obtain ⟨e,Kn,h1,h2⟩:=CJ (b:=b) (env:=env) ts ps k;exact ⟨e,Kn,h1,h2⟩
def stepG (P:uG) (T:FT) (n:Nat) (st:St) (o:Oper) (b:Bool) (hs:List Hint) (F:Option Out) (K:EV->List Hint->List Prop->Option Out) (e:Env) (ps:List Prop):Option Out :=
 match forced n hs with
 | some (x,hs)=>K (.gd b x) hs ((b=true->BL P e st o x)::ps)
 | none=>match qv T e st o.op with
  | some x=>K (.gd b x) hs ps
  | none=>match pk e o.op with
   | some (x,p)=>K (.gd b x) hs (p::ps)
   | none=>match hs with
    | .g x::hs=>K (.gd b x) hs ((b=true->BL P e st o x)::ps)
    | _=>F
def PU (P:uG) (T:FT) (n:Nat) (l:List Oper) (e:Env) (st:St) (o:Oper) (hs:List Hint) (ps:List Prop) (F:Option Out) (K:EV->List Hint->List Prop->Option Out):Option Out :=
 match o.guard with
 | none=>match forced n hs with
  | some (x,hs)=>K x hs (BL P e st o x::ps)
  | none=>match qv T e st o.op with
   | some x=>K x hs ps
   | none=>match pk e o.op with
    | some (x,p)=>K x hs (p::ps)
    | none=>match hs with
     | .g x::hs=>K x hs (BL P e st o x::ps)
     | _=>F
 | some (j,want)=>match (l[j]?).bind (·.dst) with
  | some t=>match lookup t e with
   | some c=>match Gm c want with
    | some b=>gdE b e (Gv o.op) ps (stepG P T n st o b hs F K)
    | none=>F
   | none=>F
  | none=>F
theorem GQ {P:uG} {T:FT} (hT:T.Ok P) {n:Nat} {l:O Oper} {e:Env} {st:St} {o:Oper} {hs:O Hint} {ps:O Prop} {F:J Out} {K:EV->O Hint->O Prop->J Out} {out:J Out} (h:PU P T n l e st o hs ps F K=out) :
  out=F∨∃ x wS Kn,out=K x wS Kn/\(tc Kn->tc ps/\vY P l e st o x):=by
 obtain ⟨dst,op,ty,pos,after,guard⟩:=o;unfold PU at h
 dsimp only at h
 split at h
 ·split at h
  ·exact .inr ⟨_,_,_,h.symm,λhp=>⟨hp.c.2,.inl ⟨rfl,hp.c.1⟩⟩⟩
  ·split at h
   ·rename_i x hq;exact .inr ⟨_,_,_,h.symm,λhp=>⟨hp,.inl ⟨rfl,(GP hT hq).g⟩⟩⟩
   ·split at h
    ·rename_i x p hq;exact .inr ⟨_,_,_,h.symm,λhp=>⟨hp.c.2,.inl ⟨rfl,(Mj hq hp.c.1).g⟩⟩⟩
    ·split at h
     ·exact .inr ⟨_,_,_,h.symm,λhp=>⟨hp.c.2,.inl ⟨rfl,hp.c.1⟩⟩⟩
     ·exact .inl h.symm
 ·rename_i j want;split at h
  ·rename_i t ht;split at h
   ·rename_i c hc;split at h
    ·rename_i b hb;obtain ⟨e',ps1,h1,h2⟩:=CJ (b:=b) (env:=e) (Gv op) ps (stepG P T n st ⟨dst,op,ty,pos,after,some (j,want)⟩ b hs F K);rw[h1] at h;have mk:∀ x,(b=true->BL P e' st ⟨dst,op,ty,pos,after,some (j,want)⟩ x)->Cr b e e'->vY P l e st ⟨dst,op,ty,pos,after,some (j,want)⟩ (.gd b x):=λx hx hE=>.inr ⟨j,want,t,c,b,x,e',rfl,ht,hc,hb,rfl,hE,hx⟩
     unfold stepG at h
     dsimp only at h
     split at h
     ·exact .inr ⟨_,_,_,h.symm,λhp=>⟨(h2 hp.c.2).1,mk _ hp.c.1 (h2 hp.c.2).2⟩⟩
     ·split at h
      ·rename_i x hq;exact .inr ⟨_,_,_,h.symm,λhp=>⟨(h2 hp).1,mk _ (λ_=>(GP hT hq).g) (h2 hp).2⟩⟩
      ·split at h
       ·rename_i x p hq;exact .inr ⟨_,_,_,h.symm,λhp=>⟨(h2 hp.c.2).1,mk _ (λ_=>(Mj hq hp.c.1).g) (h2 hp.c.2).2⟩⟩
       ·split at h
        ·exact .inr ⟨_,_,_,h.symm,λhp=>⟨(h2 hp.c.2).1,mk _ hp.c.1 (h2 hp.c.2).2⟩⟩
        ·exact .inl h.symm
    ·exact .inl h.symm
   ·exact .inl h.symm
  ·exact .inl h.symm
def Ta (P:uG) (base:Nat) (T:FT) (e:Env) (st:St) (o:Oper) (hs:List Hint) (ps:List Prop) (K:EV->St->List Hint->List Prop->Option Out):Option Out :=
  match o.guard with
  | some _=>none
  | none=>match st with
   | ⟨ob,tl⟩=>match hs with
    | .r n::hs=>match Nat.beq n ob.length with
      | false=>none
      | true=>match o.op with
        | .box t x=>match df e x with
          | some y=>match ig y with
            | some cs=>oo cs λcs=>oo (ob++[.row t cs]) λos=>K (.ref n 0) ⟨os,tl⟩ hs ps
            | none=>none
          | none=>none
        | .alloc t=>match VG t T.zr with
          | some zs=>oo (zs.map EV.d) λcs=>oo (ob++[.row t cs]) λos=>K (.ref n 0) ⟨os,tl⟩ hs ps
          | none=>none
        | _=>none
    | .v x st'::hs=>K x st' hs (zj P base e st o x st'::ps)
    | .u st'::hs=>K (.d .any) st' hs (JT P base e st o st'::ps)
    | .t x tk y::hs=>oo (tl.set tk y) λts=>K x ⟨ob,ts⟩ hs (zj P base e st o x (st.bG tk y)::ps)
    | .n x y::hs=>oo (tl++[y]) λts=>K x ⟨ob,ts⟩ hs (zj P base e st o x (st.tok y)::ps)
    | _=>none
def Tb (P:uG) (base:Nat) (T:FT) (n:Nat) (e:Env) (st:St) (o:Oper) (hs:List Hint) (ps:List Prop) (F:Option Out) (K:St->List Hint->List Prop->Option Out):Option Out :=
  match o.guard with
  | some _=>F
  | none=>match VH n hs with
   | some (st',hs)=>K st' hs (JT P base e st o st'::ps)
   | none=>match o.op with
    | .store t x y=>match df e x with
      | some (.ref ob off)=>match rowOf st ob with
        | some (ty,cs)=>match df e y with
          | some y=>match ig y with
            | some new=>match VG t T.sz with
              | some n=>match Nat.beq n new.length with
                | true=>match Nat.ble (off+new.length) cs.length with
                  | true=>match st with
                    | ⟨os,tl⟩=>oo (putCells cs off new) λcs=>oo (os.set ob (.row ty cs)) λos=>K ⟨os,tl⟩ hs ps
                  | false=>F
                | false=>F
              | none=>F
            | none=>F
          | none=>F
        | none=>F
      | _=>F
    | _=>F
section e
variable {P:uG} {base:Nat} {T:FT} (hT:T.Ok P) {e:Env} {st:St} {o:Oper} {hs:List Hint} {ps:List Prop} {out:Out}
include hT
theorem OJ {K:EV->St->O Hint->O Prop->J Out} (h:Ta P base T e st o hs ps K=some out) :
  o.guard=none/\∃ x st' wS Kn,K x st' wS Kn=some out/\(tc Kn->tc ps/\(zj P base e st o x st'∨(x=.d .any/\JT P base e st o st'))):=by
 obtain ⟨dst,op,ty,pos,after,guard⟩:=o;unfold Ta at h
 dsimp only at h
 split at h
 ·cases h
 ·refine ⟨rfl,?_⟩;simp only[sf] at h;split at h
  ·split at h
   ·cases h
   ·rename_i hn;have hn:=zaw hn;split at h
    ·rename_i t x;split at h
     ·rename_i y hy;split at h
      ·rename_i cs hc;refine ⟨_,_,_,_,h,λhp=>⟨hp,.inl ?_⟩⟩;rw[hn];exact v_box hy hc
      ·cases h
     ·cases h
    ·rename_i t;split at h
     ·rename_i zs hz;obtain ⟨z,OK,hz2⟩:=BU hT.2.2.2.2 hz;refine ⟨_,_,_,_,h,λhp=>⟨hp,.inl ?_⟩⟩;rw[hn];exact jF OK hz2
     ·cases h
    ·cases h
  ·exact ⟨_,_,_,_,h,λhp=>⟨hp.c.2,.inl hp.c.1⟩⟩
  ·exact ⟨_,_,_,_,h,λhp=>⟨hp.c.2,.inr ⟨rfl,hp.c.1⟩⟩⟩
  ·exact ⟨_,_,_,_,h,λhp=>⟨hp.c.2,.inl hp.c.1⟩⟩
  ·exact ⟨_,_,_,_,h,λhp=>⟨hp.c.2,.inl hp.c.1⟩⟩
  ·cases h
theorem OL {n:Nat} {F r:J Out} {K:St->O Hint->O Prop->J Out} (h:Tb P base T n e st o hs ps F K=r):r=F∨(o.guard=none/\∃ st' wS Kn,r=K st' wS Kn/\(tc Kn->tc ps/\JT P base e st o st')):=by
 obtain ⟨dst,op,ty,pos,after,guard⟩:=o;unfold Tb at h
 dsimp only at h
 split at h
 ·exact .inl h.symm
 ·split at h
  ·exact .inr ⟨rfl,_,_,_,h.symm,λhp=>⟨hp.c.2,hp.c.1⟩⟩
  simp only[sf] at h;split at h
  ·rename_i t x y;split at h
   ·rename_i ob off hx;split at h
    ·rename_i On cs hr;have hr:st.aS[ob]?=some (.row On cs):=by
      unfold rowOf at hr;split at hr
      ·rename_i h1;cases hr;exact h1
      ·cases hr
     split at h
     ·rename_i yv hy;split at h
      ·rename_i new hc;split at h
       ·rename_i n hl;split at h
        ·rename_i hn;have hn:=zaw hn;split at h
         ·rename_i hle;have gq:=BU hT.2.2.1 hl;refine .inr ⟨rfl,_,_,_,h.symm,λhp=>⟨hp,qn hx hy hr hc (zaf hle) ?_⟩⟩;rw[←hn];exact gq
         ·exact .inl h.symm
        ·exact .inl h.symm
       ·exact .inl h.symm
      ·exact .inl h.symm
     ·exact .inl h.symm
    ·exact .inl h.symm
   ·exact .inl h.symm
  ·exact .inl h.symm
end e
def ctl (hs:List Hint) (ps:List Prop):List Item->(Cf->List Hint->List Prop->Option Out)->Option Out
 | .code (.seq x y)::k,K=>K (.run (.code x::.code y::k)) hs ps
 | .code .skip::k,K=>K (.run k) hs ps
 | .inBlock id::k,K=>K (.run k) hs ps
 | .code (.block id c)::k,K=>K (.run (.code c::.inBlock id::k)) hs ps
 | .code (.exit id)::k,K=>match exitTo id k with
  | some k'=>K (.run k') hs ps
  | none=>none
 | .code (.region id ⟨l⟩ false)::k,K=>K (.ops l l k) hs ps
 | .code (.region id ⟨l⟩ true)::k,K=>match hs with
  | .p p::hs=>oo (l.take p) λos=>K (.draw l p os k) hs ((cP l p=true)::ps)
  | _=>none
 | _,_=>none
def okO (N:Nat) (o:Oper):Bool:=match o.dst with
 | some d=>Nat.ble (d+1) N
 | none=>match o.guard with
  | none=>true
  | some _=>false
theorem PV {N:Nat} {o:Oper} (h:okO N o=true):hZ N o.dst=true/\(o.guard≠none->o.dst≠none):=by
 unfold okO at h;split at h
 ·rename_i d hd;rw[hd];exact ⟨h,λ_=>by simp⟩
 ·rename_i hd;rw[hd];split at h
  ·rename_i hg;exact ⟨rfl,λh=>absurd hg h⟩
  ·cases h
def go (P:uG) (base:Nat) (T:FT) (N:Nat):Nat->Cf->Env->St->List Hint->List Prop->Option Out
 | 0,cf,env,st,hs,ps=>match hs with
  | []=>some ⟨cf,env,st,ps⟩
  | _=>none
 | n+1,cf,env,st,hs,ps=>match cf with
  | .run k=>ctl hs ps k λcf hs ps=>go P base T N n cf env st hs ps
  | .ops l rest k=>match rest with
   | []=>go P base T N n (.run k) env st hs ps
   | o::rest=>match okO N o with
    | true=>Tb P base T (n+1) env st o hs ps
     (PU P T (n+1) l env st o hs ps
      (Ta P base T env st o hs ps λx st hs ps=>S9 env o.dst x λenv=>go P base T N n (.ops l rest k) env st hs ps)
      λx hs ps=>S9 env o.dst x λenv=>go P base T N n (.ops l rest k) env st hs ps)
     λst hs ps=>S9 env o.dst (.d .any) λenv=>go P base T N n (.ops l rest k) env st hs ps
    | false=>none
  | .draw l p os k=>match os with
   | []=>oo (l.drop p) λr=>go P base T N n (.ops l r k) env st hs ps
   | o::os=>match okO N o with
    | true=>PU P T (n+1) l (pK l o env) st o hs ps none λx hs ps=>S9 env o.dst x λenv=>go P base T N n (.draw l p os k) env st hs ps
    | false=>none
section sound
variable {P:uG} {f:Ctx} {N:Nat} {S:Start} {Q:EV->St->Prop} {T:FT}
theorem cr.any {ops rest:O Oper} {k:O Item} {env:Env} {st:St} {o:Oper} {x:EV} (h:vY P ops env st o x) (hd:hZ N o.dst=true) (hs:o.guard≠none->o.dst≠none) (hk:cr P f N S Q ops rest k (env.put o.dst x) st) :
  cr P f N S Q ops (o::rest) k env st:=by
 obtain ⟨dst,op,ty,pos,after,guard⟩:=o;rcases h with ⟨hg,h⟩|⟨j,want,t,c,b,y,env',hg,hj,hl,hc,rfl,hE,h⟩
 ·have hg:guard=none:=hg;subst hg;exact .g h hd hk
 ·have hg:guard=_:=hg;subst hg;cases dst with
  | none=>exact absurd rfl (hs (by simp))
  | some d=>exact .kC hj hl hc hE hd h hk
theorem za.any {l os:O Oper} {p:Nat} {k:O Item} {env:Env} {st:St} {o:Oper} {x:EV} (h:vY P l (pK l o env) st o x) (hd:hZ N o.dst=true) (hk:za P f N S Q l p os k (env.put o.dst x) st) :
  za P f N S Q l p (o::os) k env st:=by
 obtain ⟨xs,h1,h2⟩:=hk;exact ⟨x::xs,⟨hd,h,h1⟩,h2⟩
theorem go_sound (hT:T.Ok P) (hm:P.follows .mixedOrders=true):∀ (n:Nat) (cf:Cf) (env:Env) (st:St) (hs:O Hint) (ps:O Prop) (out:Out),go P S.base T N n cf env st hs ps=some out->tc out.ps ->
  tc ps/\(Ro P f N S Q out.cf out.env out.st->Ro P f N S Q cf env st)
 | 0,cf,env,st,hs,ps,out,h,hp=>by
  unfold go at h;split at h
  ·cases h;exact ⟨hp,λh=>h⟩
  ·cases h
 | n+1,.run k,env,st,hs,ps,out,h,hp=>by
  unfold go at h
  dsimp only at h
  have ih:=λcf hs ps=>go_sound hT hm n cf env st hs ps out
  unfold ctl at h;split at h
  ·obtain ⟨h1,h2⟩:=ih _ _ _ h hp;exact ⟨h1,λh=>.seq (h2 h)⟩
  ·obtain ⟨h1,h2⟩:=ih _ _ _ h hp;exact ⟨h1,λh=>.skip (h2 h)⟩
  ·obtain ⟨h1,h2⟩:=ih _ _ _ h hp;exact ⟨h1,λh=>.inBlock (h2 h)⟩
  ·obtain ⟨h1,h2⟩:=ih _ _ _ h hp;exact ⟨h1,λh=>.block (h2 h)⟩
  ·split at h
   ·rename_i hk;obtain ⟨h1,h2⟩:=ih _ _ _ h hp;exact ⟨h1,λh=>.exit hk (h2 h)⟩
   ·cases h
  ·obtain ⟨h1,h2⟩:=ih _ _ _ h hp;exact ⟨h1,λh=>.region (h2 h)⟩
  ·split at h
   ·rw[sf] at h;obtain ⟨h1,h2⟩:=ih _ _ _ h hp;exact ⟨h1.c.2,λh=>.drawn _ hm h1.c.1 (h2 h)⟩
   ·cases h
  ·cases h
 | n+1,.ops l [] k,env,st,hs,ps,out,h,hp=>by
  unfold go at h
  dsimp only at h
  obtain ⟨h1,h2⟩:=go_sound hT hm n _ _ _ _ _ out h hp;exact ⟨h1,λh=>.nil (h2 h)⟩
 | n+1,.ops l (o::rest) k,env,st,hs,ps,out,h,hp=>by
  unfold go at h
  dsimp only at h
  split at h
  ·rename_i ho;obtain ⟨Ie,QY⟩:=PV ho;rcases OL (base:=S.base) hT h with h|⟨hg,st',wS,Kn,h,hu⟩
   ·rcases GQ hT h.symm with h|⟨x,wS,Kn,h,ha⟩
    ·obtain ⟨hg,x,st',wS,Kn,h,ha⟩:=OJ hT h.symm;rw[FV] at h;obtain ⟨h1,h2⟩:=go_sound hT hm n _ _ _ _ _ out h hp;obtain ⟨h3,h4⟩:=ha h1;refine ⟨h3,λhk=>?_⟩;rcases h4 with h4|⟨rfl,h4⟩
     ·exact .op hg Ie h4 (h2 hk)
     ·exact .opU hg Ie h4 (h2 hk)
    ·rw[FV] at h;obtain ⟨h1,h2⟩:=go_sound hT hm n _ _ _ _ _ out h.symm hp;obtain ⟨h3,h4⟩:=ha h1;exact ⟨h3,λh=>.any h4 Ie QY (h2 h)⟩
   ·rw[FV] at h;obtain ⟨h1,h2⟩:=go_sound hT hm n _ _ _ _ _ out h.symm hp;obtain ⟨h3,h4⟩:=hu h1;exact ⟨h3,λh=>.opU hg Ie h4 (h2 h)⟩
  ·cases h
 | n+1,.draw l p [] k,env,st,hs,ps,out,h,hp=>by
  unfold go at h
  dsimp only at h
  rw[sf] at h;obtain ⟨h1,h2⟩:=go_sound hT hm n _ _ _ _ _ out h hp;exact ⟨h1,λh=>.nil (h2 h)⟩
 | n+1,.draw l p (o::os) k,env,st,hs,ps,out,h,hp=>by
  unfold go at h
  dsimp only at h
  split at h
  ·rename_i ho;obtain ⟨Ie,QY⟩:=PV ho;rcases GQ hT h with h|⟨x,wS,Kn,h,ha⟩
   ·cases h
   ·rw[FV] at h;obtain ⟨h1,h2⟩:=go_sound hT hm n _ _ _ _ _ out h.symm hp;obtain ⟨h3,h4⟩:=ha h1;exact ⟨h3,λh=>.any h4 Ie (h2 h)⟩
  ·cases h
def OM (T:FT) (env:Env) (st:St):List ResultVar->Option (List EV)
 | []=>some []
 | .tmp t::l=>match lookup t env with
  | some x=>match OM T env st l with
   | some r=>some (x::r)
   | none=>none
  | none=>none
 | .cell a ty::l=>match lookup a env with
  | some (.ref o off)=>match qv T env st (.load ty (.tmp a)) with
   | some x=>match OM T env st l with
    | some r=>some (x::r)
    | none=>none
   | none=>none
  | _=>none
theorem xX (hT:T.Ok P) {env:Env} {st:St}:∀ {l:O ResultVar} {es:O EV},OM T env st l=some es->GC P env st l es
 | [],es,h=>by cases h;trivial
 | .tmp t::l,es,h=>by
  unfold OM at h;split at h
  ·rename_i x hx;split at h
   ·rename_i r hr;cases h;exact ⟨hx,xX hT hr⟩
   ·cases h
  ·cases h
 | .cell a ty::l,es,h=>by
  unfold OM at h;split at h
  ·rename_i o off ha;split at h
   ·rename_i x hq;split at h
    ·rename_i r hr;cases h;exact ⟨⟨⟨o,off,ha⟩,GP hT hq⟩,xX hT hr⟩
    ·cases h
   ·cases h
  ·cases h
theorem bA.rc {f:FuncId} (hT:T.Ok P) {fn:Func} {xs:O ResultVar} {es:O EV} {k:O Item} {env:Env} {st:St} (hf:P.funcs[f]?=some fn) (hr:fn.results=xs.toArray) (h:OM T env st xs=some es) (hQ:Q (GD es) st) :
  bA P (.of f) N S Q (.code .ret::k) env st:=.Yo xs es hf hr (xX hT h) hQ
theorem bA.ite {α:Type} {b:Bool} {d:Decidable (b=true)} {e1 e2:J α} {r:α} {c:uH} {x y:Code} {k:O Item} {env:Env} {st:St} (H:@ite _ (b=true) d e1 e2=some r) (hc:df env c=some (.d (.ex (.bool b))))
  (ht:e1=some r->bA P f N S Q (.code x::k) env st) (hf:e2=some r->bA P f N S Q (.code y::k) env st):bA P f N S Q (.code (.cond c x y)::k) env st :=
 .cond hc (λh=>ht (by rw[zab h] at H;exact H)) (λh=>hf (by rw[zaa (by simp [h])] at H;exact H))
def ON (env:Env):List (Nat×EV)->Option Env
 | []=>some []
 | (i,_)::l=>match lookup i env with
  | some x=>match ON env l with
   | some r=>some ((i,x)::r)
   | none=>none
  | none=>none
theorem zB {env:Env}:∀ {l:O (Nat×EV)} {env':Env},ON env l=some env'->dz env env'
 | [],env',h=>by cases h;trivial
 | (i,y)::l,env',h=>by
  unfold ON at h;split at h
  ·rename_i x hx;split at h
   ·rename_i r hr;cases h;exact .cons hx (.ak _) (zB hr)
   ·cases h
  ·cases h
section back
variable {todo:List Item} {env env':Env} {st st' s0:St}
theorem bA.z (h:bA P f N S Q todo env' st') (hs:st=st') (hE:ON env env'=some env'):bA P f N S Q todo env st:=hs▸.sub (zB hE) h
theorem bA.y (h:bA P f N S Q todo env' st') (hs:st=st') (hE:dz env env'):bA P f N S Q todo env st:=hs▸.sub hE h
theorem bA.t (n m:Nat) (h:bA P f N S Q todo env' st') (hE:ON env env'=some env') (ho:st.aS.take n=st'.aS) (ht:st.av.take m=st'.av) (hn:(Nat.ble n st.aS.length && Nat.ble m st.av.length)=true)
  (uq:(ER n m env' && st'.aS.all (mh n m))=true) (hS:S.st=s0) (hb:(Nat.ble s0.aS.length n && Nat.ble s0.av.length m)=true):bA P f N S Q todo env st:=by
 simp only[zat] at hn hb;exact .to n m (zB hE) ho ht hn.1 hn.2 uq (by rw[hS];exact zaf hb.1) (by rw[hS];exact zaf hb.2) h
end back
end sound
theorem JT.e {P:uG} {base:Nat} {env:Env} {st st1 st2:St} {o:Oper} (h:JT P base env st o st1) (he:st1=st2):JT P base env st o st2:=he▸h
theorem zj.e {P:uG} {base:Nat} {env:Env} {st st1 st2:St} {o:Oper} {x:EV} (h:zj P base env st o x st1) (he:st1=st2):zj P base env st o x st2:=he▸h
theorem QD.m {q:D->Prop} {r:EV} {st:St} {x:D} (hq:q x) (h:eC r (.d x)):QD q r st:=⟨x,h,hq⟩
theorem eC.kU {ds:O D} {es:O EV} (h:es=ds.map EV.d):eC (.dN es) (.d (.dN ds)):=by
 subst h;refine .qF ?_
 induction ds with
 | nil=>trivial
 | cons d ds ih=>exact ⟨.ak _,ih⟩
def ftB (P:uG) (T:FT):Bool :=
 T.one.all (λt=>decide ((P.underlying t).map lS=some true)) && T.agg.all (λx=>decide ((P.underlying x.1).map lS=some false) && decide ((P.info? x.1).map (·.size)=some x.2)) && T.sz.all (λx=>decide ((P.info? x.1).map (·.size)=some x.2)) &&
 T.fo.all (λx=>x.2.all λy=>decide (fQ P x.1 y.1=some y.2))
theorem Jk {α:Type} {p:α->Prop}:∀ {l:O α},(∀ x,x∈l->p x)->Al p l
 | [],_=>trivial
 | a::l,h=>⟨h a (by simp),Jk λx hx=>h x (by simp [hx])⟩
theorem FT.ok_of {P:uG} {T:FT} (h:ftB P T=true) (hz:Al (λx=>∃ z,(P.info? x.1).bind (·.zero)=some z/\ig (.d (cv z))=some (x.2.map EV.d)) T.zr):T.Ok P:=by
 simp only[ftB,zat,zbf,zak] at h;exact ⟨Jk h.1.1.1,Jk h.1.1.2,Jk h.1.2,Jk λx hx=>Jk (h.2 x hx),hz⟩
def PW (P:uG) (base:Nat) (T:FT) (N n:Nat) (cf:Cf) (env:Env) (st:St) (hs:List Hint):Option Out:=oo env λenv=>match st with
 | ⟨os,ts⟩=>oo os λos=>oo ts λts=>go P base T N n cf env ⟨os,ts⟩ hs []
theorem YK {P:uG} {base N n:Nat} {T:FT} {cf:Cf} {env:Env} {st:St} {hs:O Hint}:PW P base T N n cf env st hs=go P base T N n cf env st hs []:=by
 unfold PW;simp only[sf]
theorem sg {P:uG} {f:Ctx} {N:Nat} {S:Start} {Q:EV->St->Prop} {T:FT} (hT:T.Ok P) (hm:P.follows .mixedOrders=true) {n:Nat} {cf:Cf} {env:Env} {st:St} {hs:O Hint} {out:Out} (h:PW P S.base T N n cf env st hs=some out) (hp:tc out.ps) :
  Ro P f N S Q out.cf out.env out.st->Ro P f N S Q cf env st:=(go_sound hT hm n cf env st hs [] out (YK▸h) hp).2
structure Lx (P:uG) (t e sz:Nat):Prop where
 ht:P.underlying t=some (.slice e)
 hi:∃ inf z,P.info? e=some inf/\inf.zero=some z/\inf.size=sz/\z.cells.size=sz/\inf.bytes<=100000
theorem Lx.of {P:uG} {t e sz b:Nat} {z:uB} (ht:P.underlying t=some (.slice e)) (h:∃ i,P.info? e=some i/\i.zero=some z/\i.size=sz/\i.bytes=b) (hz:z.cells.size=sz) (hb:Nat.ble b 100000=true):Lx P t e sz :=
 let ⟨i,h1,h2,h3,h4⟩:=h
 ⟨ht,i,z,h1,h2,h3,hz,by rw[h4];exact zaf hb⟩
section slt
variable {P:uG} {t e sz:Nat} (s:Lx P t e sz) {base:Nat} {env:Env} {st:St} {d:Option Tmp} {ty:uE} {pos:String} {after:uD Edge} {gd:Option (Nat×Bool)} {x y:uH} {α:Type} {row:α->List D} {l l':List α} {ev w:EV}
include s
theorem Lx.n (hx:df env x=some ev) (hs:vP ev=some (sz,l.map row)):BL P env st ⟨d,.call ⟨.builtin .len,#[x],#[t]⟩,ty,pos,after,gd⟩ (.d (cI (l.length:Int))):=(Yn s.ht hx hs).g
theorem Lx.ix [Inhabited α] {k:IntKind} {i:Int} (hx:df env x=some ev) (hs:vP ev=some (sz,l.map row)) (hy:df env y=some (.d (.ex (.int k i)))) (h:0<=i/\i<l.length) :
  BL P env st ⟨d,.indexAddr t x y,ty,pos,after,gd⟩ (.d (.ro (row (nth l i.toNat)))):=by
 obtain ⟨inf,z,h1,_,h3,_⟩:=s.hi;exact (Ym s.ht h1 h3 hx hs hy h).g
theorem Lx.a {tk:Nat} (hx:df env x=some (.cm sz (l.map row) tk)) (fO:st.av[tk]?=some ⟨e,sz,l.length,none⟩) (hy:df env y=some w) (hs:vP w=some (sz,l'.map row)) (hn:l.length+l'.length<=1000000000) :
  zj P base env st ⟨d,.call ⟨.builtin .append,#[x,y],#[t,t]⟩,ty,pos,after,gd⟩ (.cm sz ((l++l').map row) tk) (st.bG tk ⟨e,sz,(l++l').length,none⟩):=by
 obtain ⟨inf,z,h1,h2,h3,h4,h5⟩:=s.hi;exact Aj s.ht h1 h2 h3 h4 h5 hx fO hy hs hn
end slt
section ari
variable {P:uG} {env:Env} {st:St} {d:Option Tmp} {ty:uE} {pos:String} {after:uD Edge} {gd:Option (Nat×Bool)} {x y:uH} {t t2:uE} {a b:Int}
theorem aL (hx:df env x=some (.d (cI a))) (hy:df env y=some (.d (cI b))) (h:-9223372036854775808<=a+b/\a+b<=9223372036854775807):BL P env st ⟨d,.binOp .add t x y t2,ty,pos,after,gd⟩ (.d (cI (a+b))):=(BO hx hy h.1 h.2).g
theorem kF (hx:df env x=some (.d (cI a))) (hy:df env y=some (.d (cI b))) (h:-9223372036854775808<=a-b/\a-b<=9223372036854775807):BL P env st ⟨d,.binOp .sub t x y t2,ty,pos,after,gd⟩ (.d (cI (a-b))):=(Yf hx hy h.1 h.2).g
end ari
abbrev Hint.a {α:Type} (tk e sz:Nat) (row:α->List D) (l:List α):Hint:=.t (.cm sz (l.map row) tk) tk ⟨e,sz,l.length,none⟩
def entB (P:uG) (f:Nat):Bool:=match P.funcs[f]? with
 | some fn=>(fn.name == "runtime.NumGoroutine")==false && fn.body.isNone==false
 | none=>false
theorem enters_of {P:uG} {l:O Nat} (hl:l.all (entB P)=true) {i f:Nat} (h:l[i]?=some f):Enters P f:=by
 have:=zbf.1 hl f (zbj h);unfold entB at this;split at this
 ·rename_i fn hf;simp only[zat,zec] at this;exact ⟨fn,hf,this.1,this.2⟩
 ·cases this
abbrev Hint.i (n:Int):Hint:=.g (.d (cI n))
abbrev Hint.b (b:Bool):Hint:=.g (.d (cB b))
abbrev Hint.c (c:uA):Hint:=.g (.d (cU8 c))
abbrev Hint.s (l:List uA):Hint:=.g (.d (cS l))
abbrev Hint.d (x:D):Hint:=.g (.d x)
section renew
variable {P:uG} {g:b8} {base:Nat} {w:uC} {st:St}
def St.renew (st:St) (tk:Nat) (x x':iR):St:=(st.bG tk ⟨x.e,x.sz,0,none⟩).tok x'
theorem Rp {tk t:Nat} {x x' y:iR} (hlen:tk<st.av.length) (h:(st.renew tk x x').av[t]?=some y) :
  (t=st.av.length/\y=x')∨(t=tk/\y=⟨x.e,x.sz,0,none⟩)∨(t≠tk/\t<st.av.length/\st.av[t]?=some y):=by
 have hl:t<(st.renew tk x x').av.length:=(zae.1 h).1;simp [St.renew,St.tok,St.bG] at hl;by_cases h1:t=st.av.length
 ·subst h1;left;refine ⟨rfl,?_⟩;simpa [St.renew,St.tok,St.bG,zfb] using h
 ·right;have cT:t<st.av.length:=by omega
  by_cases h2:t=tk
  ·left;subst h2;refine ⟨rfl,?_⟩;simpa [St.renew,St.tok,St.bG,cT,zap,zfb] using h
  ·right;refine ⟨h2,cT,?_⟩;simpa [St.renew,St.tok,St.bG,cT,zap,zbm,zcl h2] using h
theorem Rq {tk t:Nat} {x x' y:iR} (ht:t≠tk) (h:st.av[t]?=some y):(st.renew tk x x').av[t]?=some y:=by
 have cT:t<st.av.length:=(zae.1 h).1;rw[←h];simp [St.renew,St.tok,St.bG,zap,cT,zbm,zcl ht]
theorem Jl {tk:Nat} {x x':iR}:(st.renew tk x x').av[st.av.length]?=some x':=by simp [St.renew,St.tok,St.bG]
theorem Inv.renew (h:Inv g base w st) {tk:Nat} {x x':iR} {rows bE:O (O D)} (fO:st.av[tk]?=some x) (hx:x.own=some rows) (lO:x'.own=some bE)
  {v':uB} {w':uC} {Xa:O uB} (lP:w'.ownsRow base x'.e x'.sz v' x'.n Xa)
  (hc:(v'.ownBlock=(g.tk tk).ownBlock/\w'.heap.size=w.heap.size/\w.grownBy w' (g.tk tk).ownBlock)∨(v'.ownBlock=some w.heap.size/\Below w.heap.size w w'))
  (od:dF g.lim w x'.sz x'.n bE Xa) :
  ∃ g',g'.tk st.av.length=v'/\Inv g' base w' (st.renew tk x x')/\Step base g w st g' w' (st.renew tk x x'):=by
 have Gs:∀ b,(g.tk tk).ownBlock=some b->g.lim b=0:=λb hb=>(h.LL fO hb).trans (Cv hx)
 have cT:∀ b,(g.tk tk).ownBlock=some b->base<=b/\b<w.heap.size:=λb hb=>h.xH fO hb
 have hlen:tk<st.av.length:=(zae.1 fO).1;have fg:w.heap.size<=w'.heap.size:=by rcases hc with ⟨_,h1,_⟩|⟨_,h1⟩;omega;exact h1.size
 have Pz:w'.os=w.os/\w'.tape=w.tape/\w'.output=w.output:=by rcases hc with ⟨_,_,h1⟩|⟨_,h1⟩ <;> exact ⟨h1.os,h1.tape,h1.output⟩
 have oe:∀ k,k<w.heap.size->(g.tk tk).ownBlock≠some k->w'.heap[k]?=w.heap[k]?:=by
  intro k hk fK;rcases hc with ⟨_,_,h1⟩|⟨_,h1⟩
  ·exact h1.block k hk (zcl fK)
  ·exact h1.block k hk
 have u4:∀ k,k<w.heap.size->(g.tk tk).ownBlock≠some k->v'.ownBlock≠some k:=by
  intro k hk fK;rcases hc with ⟨h1,_,_⟩|⟨h1,_⟩ <;> rw[h1]
  ·exact fK
  ·intro he;cases he;omega
 let g':b8:=⟨λb=>if v'.ownBlock=some b then 0 else g.lim b,g.ob,λt=>if t=tk then .slice none 0 0 else if t=st.av.length then v' else g.tk t⟩
 have zl:∀ b,v'.ownBlock=some b->g'.lim b=0:=λb hb=>by show (if _ then _ else _)=_;rw[zab hb]
 have nP:∀ b,v'.ownBlock≠some b->g'.lim b=g.lim b:=λb hb=>by show (if _ then _ else _)=_;rw[zaa hb]
 have Rr:g'.tk tk=.slice none 0 0:=by show (if tk=tk then _ else _)=_;rw[zab rfl]
 have AM:g'.tk st.av.length=v':=by show (if st.av.length=tk then _ else _)=_;rw[zaa (by omega),zab rfl]
 have xK:∀ t,t≠tk->t<st.av.length->g'.tk t=g.tk t:=λt ht hl=>by show (if t=tk then _ else _)=_;rw[zaa ht,zaa (by omega)]
 have Cw:∀ k,k<base->(g.tk tk).ownBlock≠some k:=λk hk he=>by have:=(cT k he).1;omega
 have pb:Below base w w':=⟨Pz.1,Pz.2.1,Pz.2.2,fg,λk hk=>oe k (zbo hk h.base) (Cw k hk)⟩;have Cx:N5 g.lim w g'.lim w':=by
  refine ⟨fg,λb hb=>?_,λb off hb ho=>?_⟩
  ·by_cases he:v'.ownBlock=some b
   ·rw[zl b he];have mc:(g.tk tk).ownBlock=some b:=by
     rcases hc with ⟨h1,_,_⟩|⟨h1,_⟩
     ·rw[←h1];exact he
     ·rw[h1] at he;cases he;omega
    rw[Gs b mc];exact zfv _
   ·rw[nP b he];exact zaq _
  ·by_cases he:(g.tk tk).ownBlock=some b
   ·rw[Gs b he] at ho;omega
   ·exact World.cell?_of_block (w:=w) (a:=⟨b,off,none⟩) (oe b hb he)
 have xR:=λ(t:Nat) (y:iR) (hy:(st.renew tk x x').av[t]?=some y)=>Rp hlen hy
 have hs:wo g w st g' w' (st.renew tk x x'):=by
  refine ⟨Cx,λ_ _=>rfl,zaq _,λt e' Lv n' ht=>?_,by simp [St.renew,St.tok,St.bG],λt y Mk mI hy ho=>?_⟩
  ·have yI:t≠tk:=by
    intro e;subst e;rw[fO] at ht;cases ht;cases hx
   exact ⟨n',Rq yI ht,zaq _,λ_=>xK t yI (zae.1 ht).1⟩
  ·rcases xR t y hy with ⟨h1,_⟩|⟨_,h2⟩|⟨h1,h2,h3⟩
   ·omega
   ·rw[h2] at ho;cases ho
   ·exact ⟨y,Mk,h3,ho,rfl,zaq _,λ_=>xK t h1 h2⟩
 have Cy:∀ o,st.live o->g.ob o<w.heap.size/\(g.tk tk).ownBlock≠some (g.ob o):=λo ho=>⟨(h.xJ ho).1,h.jD tk _ o fO ho⟩
 have jk:∀ t y,t≠tk->st.av[t]?=some y->∀ b,(g.tk t).ownBlock=some b->b<w.heap.size/\(g.tk tk).ownBlock≠some b/\v'.ownBlock≠some b:=λt y yI hy b hb=>by
  have h1:=(h.xH hy hb).2;have h2:=h.pJ t tk _ _ b yI hy fO hb;exact ⟨h1,h2,u4 b h1 h2⟩
 refine ⟨g',AM,⟨zdn h.base fg,?_,?_,?_,h.ne,?_,?_,?_,h.Fg.below pb,?_⟩,⟨hs,pb,λb hb=>nP b (u4 b (zbo hb h.base) (Cw b hb)),λb hb hn=>?_,λb hb hw=>?_⟩⟩
 ·intro o ty cs hx;obtain ⟨h1,h2,vs,h3,h4,h5⟩:=h.row o ty cs hx;obtain ⟨k1,k2⟩:=Cy o ⟨_,hx,by simp⟩;exact ⟨h1,(nP _ (u4 _ k1 k2)).trans h2,vs,by show w'.heap[g.ob o]?=_;rw[oe _ k1 k2];exact h3,h4,λi c u hc hu=>⟨(h5 i c u hc hu).1.mono hs,(h5 i c u hc hu).2⟩⟩
 ·intro o es hx;obtain ⟨h1,ms,c,h3,h4,h5,h6⟩:=h.map o es hx;obtain ⟨k1,k2⟩:=Cy o ⟨_,hx,by simp⟩;exact ⟨h1,ms,c,by show w'.heap[g.ob o]?=_;rw[oe _ k1 k2];exact h3,h4,λi k y m a b=>⟨(h5 i k y m a b).1,(h5 i k y m a b).2.mono hs⟩,h6⟩
 ·intro o y hx;obtain ⟨h1,h2,h3⟩:=h.raw o y hx;obtain ⟨k1,k2⟩:=Cy o ⟨_,hx,by simp⟩;exact ⟨h1,(nP _ (u4 _ k1 k2)).trans h2,by show w'.heap[g.ob o]?=_;rw[oe _ k1 k2];exact h3⟩
 ·intro t e' Lv n' ht;rcases xR t _ ht with ⟨h1,h2⟩|⟨h1,h2⟩|⟨h1,h2,h3⟩
  ·subst h2;cases lO
  ·subst h1;cases h2;rw[Rr];exact ⟨[],World.ownsRow_nil w' base _ _,λb hb=>by cases hb⟩
  ·obtain ⟨ys,k1,k2⟩:=h.tail t e' Lv n' h3;rw[xK t h1 h2];exact ⟨ys,fZ k1 λb hb=>oe b (jk t _ h1 h3 b hb).1 (jk t _ h1 h3 b hb).2.1,λb hb=>by rw[nP b (jk t _ h1 h3 b hb).2.2];exact k2 b hb⟩
 ·intro t t' y y' b fK ht tK hb;rcases xR t _ ht with ⟨h1,h2⟩|⟨h1,h2⟩|⟨h1,h2,h3⟩
  ·subst h1;rw[AM] at hb;rcases xR t' _ tK with ⟨k1,k2⟩|⟨k1,k2⟩|⟨k1,k2,k3⟩
   ·exact absurd k1.symm fK
   ·rw[k1,Rr];intro e;cases e
   ·rw[xK t' k1 k2];intro mc;exact (jk t' _ k1 k3 b mc).2.2 hb
  ·rw[h1,Rr] at hb;cases hb
  ·rw[xK t h1 h2] at hb;rcases xR t' _ tK with ⟨k1,k2⟩|⟨k1,k2⟩|⟨k1,k2,k3⟩
   ·rw[k1,AM];exact (jk t _ h1 h3 b hb).2.2
   ·rw[k1,Rr];intro e;cases e
   ·rw[xK t' k1 k2];exact h.pJ t t' _ _ b fK h3 k3 hb
 ·intro t y o ht ho;have oc:st.live o:=ho;obtain ⟨k1,k2⟩:=Cy o oc;rcases xR t _ ht with ⟨h1,h2⟩|⟨h1,h2⟩|⟨h1,h2,h3⟩
  ·rw[h1,AM];exact u4 _ k1 k2
  ·rw[h1,Rr];intro e;cases e
  ·rw[xK t h1 h2];exact h.jD t y o h3 oc
 ·intro t e' Lv n' Mk ht;rcases xR t _ ht with ⟨h1,h2⟩|⟨h1,h2⟩|⟨h1,h2,h3⟩
  ·subst h1;subst h2;cases lO;rw[AM];exact ⟨_,lP,λb hb=>zl b hb,od.mono Cx⟩
  ·cases h2
  ·obtain ⟨ys,k1,k2,k3⟩:=h.own t e' Lv n' Mk h3;rw[xK t h1 h2];exact ⟨ys,fZ k1 λb hb=>oe b (jk t _ h1 h3 b hb).1 (jk t _ h1 h3 b hb).2.1,λb hb=>by rw[nP b (jk t _ h1 h3 b hb).2.2];exact k2 b hb,k3.mono Cx⟩
 ·have fK:(g.tk tk).ownBlock≠some b:=λe=>hn (.inr ⟨tk,x,fO,e⟩)
  exact ⟨oe b hb fK,nP b (u4 b hb fK)⟩
 ·rcases hw with ⟨o,h1,h2⟩|⟨t,y,h1,h2⟩
  ·exact .inl ⟨o,h1,h2⟩
  ·rcases xR t _ h1 with ⟨k1,k2⟩|⟨k1,k2⟩|⟨k1,k2,k3⟩
   ·rw[k1,AM] at h2;rcases hc with ⟨c1,_,_⟩|⟨c1,_⟩
    ·exact .inr ⟨tk,x,fO,by rw[←c1];exact h2⟩
    ·rw[c1] at h2;cases h2;omega
   ·rw[k1,Rr] at h2;cases h2
   ·rw[xK t k1 k2] at h2;exact .inr ⟨t,y,k3,h2⟩
end renew
section rows
variable {P:uG} (w:uC)
theorem sO {a b c:Nat} (h:min a b=c):Nat.min a b=c:=h
def laid (cur:List uB) (o:Nat) (cs:List uB):List uB:=cur.take o++cs++cur.drop (o+cs.length)
theorem jW {cur cs:O uB} {o:Nat} (h:o+cs.length<=cur.length):(laid cur o cs).length=cur.length:=by
 simp [laid];omega
theorem zC {cur cs:O uB} {o:Nat} (h:o+cs.length<=cur.length) (j:Nat):(laid cur o cs)[j]?=if o<=j/\j<o+cs.length then cs[j-o]? else cur[j]?:=by
 unfold laid;by_cases h1:j<o
 ·rw[zaa (by omega),zar,zap (by simp;omega),zam,zab h1]
 ·by_cases h2:j<o+cs.length
  ·rw[zab ⟨by omega,h2⟩,zar,zax (by simp;omega),zap (by simp;omega)];congr 1;simp;omega
  ·rw[zaa (by omega),zax (by simp;omega),zbd];congr 1;simp;omega
theorem pf {dT sT ty e:uE} {inf:TypeInfo} {sz b o Ko YL OO YM:Nat} {cur:uD uB} {a:Addr} {cs:O uB} (ht:P.underlying dT=some (.slice e)) (hi:P.info? e=some inf) (gq:inf.size=sz)
  (hg:w.heap[b]?=some (.cells cur e (0,0))) (hl:cs.length=Nat.min OO Ko*sz) (wX:∀ j v,cs[j]?=some v->w.cell? (a.add j)=some v) (h1:∀ v∈cs,v.oneCell'=true) (Cu:o+cs.length<=cur.size) :
  (Builtin.copy_ #[dT,sT] ty #[.slice (some ⟨b,o,none⟩) Ko YL,.slice (some a) OO YM]).run P w=.ok (goInt (Nat.min OO Ko)) (w.setRow b (laid cur.toList o cs).toArray):=by
 subst gq;have hf:(Builtin.firstCells inf.size (Nat.min OO Ko) (.slice (some a) OO YM)).run P w=.ok cs.toArray w:=run_firstCells_some w inf.size (Nat.min OO Ko) a OO YM cs hl wX;have mJ:=run_storeCells_at P b o e cs 0 cur w hg (by simpa using Cu) h1;simp only[zdp] at mJ;simp [Builtin.copy_,run_underlying ht,Builtin.lenOf,sizeOf,typeInfo,hi,hf,mJ,goInt,laid]
theorem BV {t ty e:uE} {inf:TypeInfo} {z:uB} {sz b o n c:Nat} {cur:uD uB} (ht:P.underlying t=some (.slice e)) (hi:P.info? e=some inf) (hz:inf.zero=some z) (rU:z.cells.size=sz)
  (hg:w.heap[b]?=some (.cells cur e (0,0))) (hn:0<n) (Cu:o+n*sz<=cur.size) (h1:∀ v∈(Builtin.zeroCells z.cells n).toList,v.oneCell'=true) :
  (Builtin.clear_ #[t] ty #[.slice (some ⟨b,o,none⟩) n c]).run P w=.ok (.tuple #[]) (w.setRow b (laid cur.toList o (Builtin.zeroCells z.cells n).toList).toArray):=by
 have gq:(Builtin.zeroCells z.cells n).toList.length=n*sz:=by rw[zdb,size_zeroCells,rU]
 have mJ:=run_storeCells_at P b o e (Builtin.zeroCells z.cells n).toList 0 cur w hg (by rw[zdp,gq];exact Cu) h1;simp only[zdp] at mJ;cases n with
 | zero=>simp at hn
 | succ n=>simp [Builtin.clear_,run_underlying ht,zeroValue,typeInfo,hi,hz,mJ,laid]
theorem GR {t ty e:uE} {A:J Addr} {c:Nat} (ht:P.underlying t=some (.slice e)):(Builtin.clear_ #[t] ty #[.slice A 0 c]).run P w=.ok (.tuple #[]) w:=by
 cases A <;> simp [Builtin.clear_,run_underlying ht]
theorem Jm (w:uC) {o:Oper} {a:Act} {K:Act->uC->Prop} {Q:Exit->Act->uC->Prop} (d s:uH) (t t':uE)
  (ho:o.op=.call { callee:=.builtin .copy,args:=#[d,s],argTypes:=#[t,t'] }) (v u:uB) (hd:a.eval d=v) (hs:a.eval s=u) {v':uB} {w':uC}
  (hr:(Builtin.copy_ #[t,t'] o.type #[v,u]).run P w=.ok v' w') (h:K (a.put o.dst v') w'):o.wp P a w K Q:=by
 unfold Oper.wp execOp;simp only[ho,resolve,invoke,builtin,Sem.run_bind,Sem.run_pure,Result.andThen_ok,zeo,zao,zbg,hd,hs,hr];exact h
theorem lE (w:uC) {ops:uD Oper} {rest:O Oper} {o:Oper} {a:Act} {Q:Exit->Act->uC->Prop} (hgd:o.guard=none) (d s:uH) (t t':uE)
  (ho:o.op=.call { callee:=.builtin .copy,args:=#[d,s],argTypes:=#[t,t'] }) (v u:uB) (hd:a.eval d=v) (hs:a.eval s=u) {v':uB} {w':uC}
  (hr:(Builtin.copy_ #[t,t'] o.type #[v,u]).run P w=.ok v' w') (h:wpList P ops Q rest (a.put o.dst v') w'):wpList P ops Q (o::rest) a w :=
 wpList_plain hgd λ_ hK=>Jm w d s t t' ho v u hd hs hr (hK _ _ h)
theorem oq {ops:uD Oper} {o:Oper} {a:Act} {w:uC} {K:Act->uC->Prop} {Q:Exit->Act->uC->Prop} {E:Prop}
  (hg:o.guard=none) (d x:uH) (dT sT:uE) (wZ:o.op=Op.call { callee:=Callee.builtin Builtin.copy,args:=#[d,x],argTypes:=#[dT,sT] })
  (v u:uB) (hd:a.eval d=v) (hx:a.eval x=u) {v':uB} {w':uC} (hr:(Builtin.copy_ #[dT,sT] o.type #[v,u]).run P w=.ok v' w') (hK:K (a.put o.dst v') w') :
  if Region.wanted o (yielded ops a.tmps)=true then Oper.wp P o a w K Q else E:=by
 rw[zab (by simp [Region.wanted,hg])];exact Jm w d x dT sT wZ v u hd hx hr hK
theorem mi (w:uC) {ops:uD Oper} {rest:O Oper} {o:Oper} {a:Act} {Q:Exit->Act->uC->Prop} (hgd:o.guard=none) (d:uH) (t:uE)
  (ho:o.op=.call { callee:=.builtin .clear,args:=#[d],argTypes:=#[t] }) (v:uB) (hd:a.eval d=v) {v':uB} {w':uC}
  (hr:(Builtin.clear_ #[t] o.type #[v]).run P w=.ok v' w') (h:wpList P ops Q rest (a.put o.dst v') w'):wpList P ops Q (o::rest) a w :=
 wpList_plain hgd λ_ hK=>by
  unfold Oper.wp execOp;simp only[ho,resolve,invoke,builtin,Sem.run_bind,Sem.run_pure,Result.andThen_ok,zeo,zao,zbg,hd,hr];exact hK _ _ h
end rows
end Go.Abs
namespace Go.Abs
open Go.RowKit
section srcs
variable {P:uG} (w:uC)
theorem Rs {dT sT ty e:uE} {inf:TypeInfo} {sz b o Ko YL m uc:Nat} {cur:uD uB} {A:J Addr} {cs:O uB} (ht:P.underlying dT=some (.slice e)) (hi:P.info? e=some inf) (gq:inf.size=sz)
  (hg:w.heap[b]?=some (.cells cur e (0,0))) (hm:m<=Ko) (hf:(Builtin.firstCells sz m (.slice A m uc)).run P w=.ok cs.toArray w) (h1:∀ v∈cs,v.oneCell'=true) (Cu:o+cs.length<=cur.size) :
  (Builtin.copy_ #[dT,sT] ty #[.slice (some ⟨b,o,none⟩) Ko YL,.slice A m uc]).run P w=.ok (goInt m) (w.setRow b (laid cur.toList o cs).toArray):=by
 subst gq;have VI:Nat.min m Ko=m:=sO (by omega);have mJ:=run_storeCells_at P b o e cs 0 cur w hg (by simpa using Cu) h1;simp only[zdp] at mJ;simp [Builtin.copy_,run_underlying ht,Builtin.lenOf,sizeOf,typeInfo,hi,VI,hf,mJ,goInt,laid]
theorem E2 {t ty e:uE} {inf:TypeInfo} {sz b n c m uc:Nat} {cur:uD uB} {A:J Addr} {cs:O uB} (ht:P.underlying t=some (.slice e)) (hi:P.info? e=some inf) (gq:inf.size=sz)
  (hg:w.heap[b]?=some (.cells cur e (0,0))) (vW:n+m<=c) (hf:(Builtin.firstCells sz m (.slice A m uc)).run P w=.ok cs.toArray w) (h1:∀ v∈cs,v.oneCell'=true) (Cu:n*sz+cs.length<=cur.size) :
  (Builtin.append_ #[t,t] ty #[.slice (some ⟨b,0,none⟩) n c,.slice A m uc]).run P w=.ok (.slice (some ⟨b,0,none⟩) (n+m) c) (w.setRow b (laid cur.toList (n*sz) cs).toArray):=by
 subst gq;have mJ:=run_storeCells_at P b (n*inf.size) e cs 0 cur w hg (by simpa using Cu) h1;simp only[zdp] at mJ;simp [Builtin.append_,run_underlying ht,sizeOf,typeInfo,hi,Builtin.lenOf,vW,hf,Addr.add_lit,mJ,laid]
end srcs
theorem BW {cur cs:O uB} {o:Nat} (h:o+cs.length<=cur.length) {k:Nat} (hk:k<=o):(laid cur o cs).take k=cur.take k:=by
 apply zck;intro j;rw[zam,zam,zC h];by_cases h1:j<k
 ·rw[zab h1,zab h1,zaa (by omega)]
 ·rw[zaa h1,zaa h1]
theorem kN {cur cs:O uB} {o:Nat} (h:o+cs.length<=cur.length) {k:Nat} (hk:o+cs.length<=k):(laid cur o cs).take k=cur.take o++cs++(cur.take k).drop (o+cs.length):=by
 apply zck;intro j;rw[zam,zC h];by_cases h1:j<o
 ·rw[zab (by omega),zaa (by omega),zar,zap (by simp;omega),zam,zab h1]
 ·by_cases h2:j<o+cs.length
  ·rw[zab (by omega),zab ⟨by omega,h2⟩,zar,zax (by simp;omega),zap (by simp;omega)];congr 1;simp;omega
  ·rw[zax (by simp;omega),zbd,zam];have e:o+cs.length+(j-(cur.take o++cs).length)=j:=by simp;omega
   rw[e];by_cases h3:j<k
   ·rw[zab h3,zaa (by omega),zab h3]
   ·rw[zaa h3,zaa h3]
theorem wx {z:uD uB} {n:Nat} (h:∀ k,k<z.size->(z[k]!).oneCell'=true):∀ v∈(Builtin.zeroCells z n).toList,v.oneCell'=true:=λv hv=>by
 simp only[Builtin.zeroCells,Array.toList_map,Array.toList_range,zcy,List.mem_range] at hv;obtain ⟨i,hi,rfl⟩:=hv;refine h _ (zen _ ?_);rcases zev z.size with h0|h0
 ·rw[h0] at hi;omega
 ·exact h0
section parts
variable {lim:Nat->Nat} {w:uC} {sz n m:Nat} {rows bE:List (List D)} {xs ys:List uB}
theorem dF.take (h:dF lim w sz n rows xs) {k:Nat} (hk:k<=n):dF lim w sz k (rows.take k) (xs.take (k*sz)):=by
 have hl:=h.len;refine ⟨by rw[zbb];omega,λr hr=>h.row r (zdy hr),λi c u hc hu=>?_⟩
 rw[zam] at hu;split at hu
 ·refine h.rep i c u ?_ hu;rw[←zfe k rows,zeq,zap (zae.1 hc).1];exact hc
 ·cases hu
theorem dF.drop (h:dF lim w sz n rows xs) {k:Nat} (hk:k<=n):dF lim w sz (n-k) (rows.drop k) (xs.drop (k*sz)):=by
 have hl:=h.len;refine ⟨by rw[zbh];omega,λr hr=>h.row r (zdd hr),λi c u hc hu=>?_⟩
 rw[zbd] at hu;refine h.rep (k*sz+i) c u ?_ hu;have Fl:(rows.take k).flatten.length=k*sz:=by
  rw[jT (λr hr=>h.row r (zdy hr)),zbb];congr 1;omega
 rw[←zfe k rows,zeq,zax (by omega),Fl,show k*sz+i-k*sz=i from by omega];exact hc
theorem dF.app (h:dF lim w sz n rows xs) (hx:xs.length=n*sz) (h':dF lim w sz m bE ys):dF lim w sz (n+m) (rows++bE) (xs++ys):=by
 refine ⟨by rw[zah,h.len,h'.len],λr hr=>?_,λi c u hc hu=>?_⟩
 ·rcases zbc.1 hr with hr|hr
  ·exact h.row r hr
  ·exact h'.row r hr
 ·have Fl:rows.flatten.length=xs.length:=by rw[jT h.row,h.len,hx]
  rw[zeq] at hc;by_cases hi:i<xs.length
  ·rw[zap (by omega)] at hc;rw[zap hi] at hu;exact h.rep i c u hc hu
  ·rw[zax (by omega)] at hc;rw[zax (by omega)] at hu;rw[Fl] at hc;exact h'.rep _ c u hc hu
theorem dF.YN (h:dF lim w sz n rows xs) (hx:xs.length=n*sz) (h':dF lim w sz m bE ys) (hy:ys.length=m*sz) {i j:Nat} (PK:i<=j) (hj:j<=n) :
  dF lim w sz (i+m+(n-j)) (rows.take i++bE++rows.drop j) (xs.take (i*sz)++ys++xs.drop (j*sz)):=by
 have hle:i*sz<=n*sz:=zcw _ (by omega);refine ((h.take (by omega)).app (by rw[zbb];omega) h').app (by rw[zah,zbb,hy,zdk];omega) (h.drop hj)
theorem dF.one (h:dF lim w sz n rows xs) (hx:xs.length=n*sz):∀ x∈xs,x.oneCell'=true:=λx hm=>by
 obtain ⟨j,hj⟩:=zdj.1 hm;have hl:=(zae.1 hj).1;exact (h.rep j _ x (zag (by rw[jT h.row,h.len];omega)) hj).2
end parts
section con
variable {P:uG} {f:Ctx} {g:b8} {base:Nat} {w:uC} {st:St}
theorem xY {tk n':Nat} {x:iR} {rows bE:O (O D)} (h:Inv g base w st) (fO:st.av[tk]?=some x) (hx:x.own=some rows) {v':uB} {w':uC} {Xa:O uB} (lP:w'.ownsRow base x.e x.sz v' n' Xa)
  (hc:(v'.ownBlock=(g.tk tk).ownBlock/\w'.heap.size=w.heap.size/\w.grownBy w' (g.tk tk).ownBlock)∨(v'.ownBlock=some w.heap.size/\Below w.heap.size w w')) (od:dF g.lim w x.sz n' bE Xa) :
  pD ⟨g,w,st,base⟩ (QE (.vc st.av.length n') (st.renew tk x ⟨x.e,x.sz,n',some bE⟩)) (.returned v') w':=by
 obtain ⟨g',h1,h2,h3⟩:=h.renew (x':=⟨x.e,x.sz,n',some bE⟩) fO hx rfl lP hc od;refine ⟨v',_,_,g',rfl,⟨.ak _,rfl⟩,?_,h2,(s5.refl ⟨g,w,st,base⟩).step h3⟩;have hf:=(jV lP).1;refine .vc _ _ _ (by simp [St.renew,St.tok,St.bG]) (by obtain ⟨A,c,hv⟩:=hf;exact ⟨_,_,_,hv⟩) λy Mk hy ho=>?_;rw[Jl] at hy;cases hy;exact ⟨zaq _,λ_=>.inl h1.symm⟩
theorem Tc {args:List EV} {a b c:EV} (he:args=[a,b,c]) {vs:uD uB} (h:vV g w st args vs):∃ x y z,vs=#[x,y,z]/\bP g w st a x/\bP g w st b y/\bP g w st c z:=by
 subst he;obtain ⟨h1,h2⟩:=h;obtain ⟨l⟩:=vs
 match l,h1 with
 | [x,y,z],_=>exact ⟨x,y,z,rfl,h2 0 _ _ rfl rfl,h2 1 _ _ rfl rfl,h2 2 _ _ rfl rfl⟩
theorem args4 {args:List EV} {a b c d:EV} (he:args=[a,b,c,d]) {vs:uD uB} (h:vV g w st args vs):∃ x y z u,vs=#[x,y,z,u]/\bP g w st a x/\bP g w st b y/\bP g w st c z/\bP g w st d u:=by
 subst he;obtain ⟨h1,h2⟩:=h;obtain ⟨l⟩:=vs
 match l,h1 with
 | [x,y,z,u],_=>exact ⟨x,y,z,u,rfl,h2 0 _ _ rfl rfl,h2 1 _ _ rfl rfl,h2 2 _ _ rfl rfl,h2 3 _ _ rfl rfl⟩
end con
section nilc
variable {P:uG} {f:Ctx} {N:Nat} {S:Start} {Q:EV->St->Prop} {k:List Item} {env:Env} {st:St} {ops rest:List Oper}
 {d:Option Tmp} {ty:uE} {pos:String} {after:uD Edge} {gd:Option (Nat×Bool)} {t t2 e:uE} {x y:uH}
theorem cr.Ml {sz:Nat} {rows:O (O D)} (ht:P.underlying t=some (.slice e)) (hx:df env x=some (.d (.sl sz rows))) (hd:hZ N d=true)
  (h:∀ b:Bool,(b=true->rows=[])->cr P f N S Q ops rest k (env.put d (.d (.ex (.bool b)))) st) :
  cr P f N S Q ops (⟨d,.binOp .eql t x (.const (.slice none 0 0)) t2,ty,pos,after,none⟩::rest) k env st:=by
 intro i hi g w tmps hinv hh he hn;have hr:=aR he hx;generalize hv:Act.eval ⟨tmps,[]⟩ x=v at hr;cases hr with
 | d _ _ hr =>
  obtain ⟨A,c,vs,rfl,_,_,Io,_⟩:=Sw hr;have ho:ops.toArray[i]?=some (⟨d,.binOp .eql t x (.const (.slice none 0 0)) t2,ty,pos,after,none⟩:Oper):=by simpa using (hi 0).symm
  have iS:(execOp (Act.eval ⟨tmps,[]⟩) (⟨d,.binOp .eql t x (.const (.slice none 0 0)) t2,ty,pos,after,none⟩:Oper)).run P w=.ok (.value (.bool A.isNone)) w:=by
   have h1:Act.eval ⟨tmps,[]⟩ (.const (.slice none 0 0))=.slice none 0 0:=rfl;simp [execOp,hv,h1,eqGuard,Lib.run_eql_slice_nil w t e A rows.length c 0 0 ht]
  rw[zad,jE];refine e9.value ho (by simp [Region.wanted]) iS ?_;subst hn;refine h A.isNone (λhb=>?_) (i+1) (λj=>by have:=hi (j+1);simpa [zco,zdo 1 j] using this) g w _ hinv hh (rZ he hd (.d _ _ (.ex _))) js;cases A with
  | none=>exact zba (Io rfl).1
  | some a=>cases hb
theorem aN.PX {f:FuncId} {args:O EV} {n sz:Nat} {e:uE} {rows:O (O D)} (h:aN P f args ⟨[],[]⟩ (QE (.vc 0 n) ⟨[],[⟨e,sz,n,some rows⟩]⟩)):aN P f args ⟨[],[]⟩ (QD (·=.sl sz rows)):=by
 intro g w base vs hi ha;refine (h g w base vs hi ha).mono ?_;rintro e1 w' ⟨v,r,st',g',rfl,⟨hle,rfl⟩,hr,hinv,hh⟩;have YO:=hle _ _ _ _ hr;obtain ⟨g2,k1,k2,k3,k4⟩:=hinv.freeze (tk:=0) rfl;refine ⟨v,.d (.sl sz rows),_,g2,rfl,⟨_,.ak _,rfl⟩,.d _ _ ?_,k2,hh.step k3⟩;rcases ub hinv rfl YO with hv|⟨h0,SA,A,hv⟩
 ·rw[hv];exact k4
 ·rw[hv,SA];exact .nil sz A
section view
variable {α:Type} [Inhabited α] {sz:Nat} {row:α->List D} {l a:List α} {inf:TypeInfo} {tk n lo m:Nat}
theorem Td (ht:P.underlying t=some (.slice e)) (hx:df env x=some (.vw tk n lo m)):aJ P env st ⟨d,.call ⟨.builtin .len,#[x],#[t]⟩,ty,pos,after,gd⟩ (.d (cI (m:Int))):=λg base w tmps hinv he=>by
 have h:=aR he hx;generalize hv:Act.eval ⟨tmps,[]⟩ x=v at h;cases h with
 | vw _ _ _ _ _ _ hf =>
  obtain ⟨A,c,rfl⟩:=hf;exact ⟨_,.d _ _ (.ex _),λw' _=>FP ht hv w'⟩
theorem Kp {kk:IntKind} {i:Int} {e':Nat} (ht:P.underlying t=some (.slice e)) (hi:P.info? e=some inf) (gq:inf.size=sz) (hx:df env x=some (.vw tk n lo m)) (fO:st.av[tk]?=some ⟨e',sz,n,some (l.map row)⟩) (hy:df env y=some (.d (.ex (.int kk i)))) (h:0<=i/\i<(m:Int)) :
  aJ P env st ⟨d,.indexAddr t x y,ty,pos,after,gd⟩ (.vp tk n (lo+i.toNat) 0):=λg base w tmps hinv he=>by
 have hr:=aR he hx;generalize hv:Act.eval ⟨tmps,[]⟩ x=v at hr;cases hr with
 | vw _ _ _ _ _ cT hf hh =>
  obtain ⟨_,h2⟩:=hh _ _ fO rfl;rcases h2 rfl with h0|⟨b,M,c,c',q1,q2⟩
  ·omega
  ·subst gq;refine ⟨.pointer (some ⟨b,lo*inf.size+i.toNat*inf.size,none⟩),.vp _ _ _ _ _ cT ⟨_,_,rfl⟩ λz rows hz ho=>?_,λw' _=>?_⟩
   ·rw[fO] at hz;cases hz;refine ⟨zaq _,λ_=>⟨b,M,c,q1,?_⟩⟩;rw[zdk,zdp]
   ·rw[q2] at hv;have:=DI (d:=d) (ty:=ty) (pos:=pos) (after:=after) (gd:=gd) ht hi hv (aR he hy).bO h.1 h.2 w';rw[Addr.add_lit] at this;exact this
theorem CK (hw:(l.drop lo).take a.length=a) {i:Nat} (hi:i<a.length):lo+i<l.length/\nth l (lo+i)=nth a i:=by
 have h1:a[i]?=l[lo+i]?:=by
  have:=zbn (λz=>z[i]?) hw;simp only[zam,zbd,zab hi] at this;exact this.symm
 have h2:a[i]?=some a[i]:=zag hi;rw[h2] at h1;have h3:=(zae.1 h1.symm).1;exact ⟨h3,by simp [nth,←h1,h2]⟩
theorem Rt {i o e':Nat} {c:D} (hw:(l.drop lo).take a.length=a) (h1:(P.underlying t).map lS=some true) (hx:df env x=some (.vp tk n (lo+i) o)) (fO:st.av[tk]?=some ⟨e',sz,n,some (l.map row)⟩) (hi:i<a.length) (hc:(row (nth a i))[o]?=some c) :
  aJ P env st ⟨d,.load t x,ty,pos,after,gd⟩ (.d c):=zx h1 hx fO (CK hw hi).1 (by rw[(CK hw hi).2];exact hc)
theorem BX {i o e' m:Nat} {cs:O D} (hw:(l.drop lo).take a.length=a) (h1:(P.underlying t).map lS=some false) (hs:(P.info? t).map (·.size)=some m) (hx:df env x=some (.vp tk n (lo+i) o)) (fO:st.av[tk]?=some ⟨e',sz,n,some (l.map row)⟩) (hi:i<a.length)
  (hm:o+m<=sz) (hc:((row (nth a i)).drop o).take m=cs):aJ P env st ⟨d,.load t x,ty,pos,after,gd⟩ (.d (.agg cs)):=nD h1 hs hx fO (CK hw hi).1 hm (by rw[(CK hw hi).2];exact hc)
theorem OP {z:uH} {kl kh:IntKind} {i j:Int} {e':Nat} (ht:P.underlying t=some (.slice e)) (hi:P.info? e=some inf) (gq:inf.size=sz) (hx:df env x=some (.vc tk n)) (fO:st.av[tk]?=some ⟨e',sz,n,some (l.map row)⟩) (hy:df env y=some (.d (.ex (.int kl i)))) (hz:df env z=some (.d (.ex (.int kh j))))
  (h:0<=i/\i<=j/\j<=(l.length:Int)):aJ P env st ⟨d,.slice t x (some y) (some z) none,ty,pos,after,gd⟩ (.vw tk n i.toNat ((l.take j.toNat).drop i.toNat).length):=λg base w tmps hinv he=>by
 have hm:((l.take j.toNat).drop i.toNat).length=j.toNat-i.toNat:=by rw[zbh,zbb];omega
 rw[hm];have cT:tk<st.av.length:=(zae.1 fO).1;have hr:=aR he hx;generalize BN:Act.eval ⟨tmps,[]⟩ x=v' at hr;have iS:∀ A n' c,v'=.slice A n' c->(l.length:Int)<=c->∀ w':uC,(execOp (Act.eval ⟨tmps,[]⟩) ⟨d,.slice t x (some y) (some z) none,ty,pos,after,gd⟩).run P w'=.ok (.value (sliced A i.toNat j.toNat c sz)) w':=λA n' c hv hc w'=>by
  rw[hv] at BN;simp only[execOp,BN,Sem.run_bind,run_sliceAt_slice w' t _ _ _ _ (by rw[sM ht];exact ht),Option.map_none,Option.map_some,(aR he hy).bO,(aR he hz).bO];rw[run_slice_lh w' t A n' c (by rw[sM ht];exact ht) kl kh i j h.1 h.2.1 (by omega)];simp [sM ht,qo hi,gq]
 rcases ub hinv fO hr with I7|⟨n0,r0,A,hA⟩
 ·obtain ⟨I7,xs,h2,_,h4⟩:=Kd hinv fO I7;have hn:n=l.length:=by have:=h4.len;simpa using this.symm
  rcases h2.2 with ⟨hv,h0⟩|⟨b,c,cur,hv,Cl,hg,Fm,AL,Ag,yZ⟩
  ·refine ⟨_,.vw _ _ _ _ _ cT ⟨_,_,rfl⟩ λq rows hq ho=>?_,λw' _=>iS _ _ _ hv (by omega) w'⟩;rw[fO] at hq;cases hq;exact ⟨zaq _,λ_=>.inl (by omega)⟩
  ·refine ⟨_,.vw _ _ _ _ _ cT ⟨_,_,rfl⟩ λq rows hq ho=>?_,λw' _=>iS _ _ _ hv (by omega) w'⟩;rw[fO] at hq;cases hq;refine ⟨zaq _,λ_=>?_⟩;rcases zev (j.toNat-i.toNat) with h0|h0
   ·exact .inl h0
   ·refine .inr ⟨b,n,c,c-i.toNat,by rw[←I7,hv],?_⟩;have rR:¬ (c=i.toNat):=by omega
    simp [rR,Addr.add_lit]
 ·have hl:l=[]:=by simpa using r0
  rw[hl] at h;simp at h;refine ⟨_,.vw _ _ _ _ _ cT ⟨_,_,rfl⟩ λq rows hq ho=>?_,λw' _=>iS _ _ _ hA (by rw[hl];simp) w'⟩;rw[fO] at hq;cases hq;exact ⟨zaq _,λ_=>.inl (by omega)⟩
theorem PY {i j:Nat} (hj:j<=l.length):(l.drop i).take ((l.take j).drop i).length=(l.take j).drop i:=by
 rw[List.drop_take,zbb,zbh];rcases zgb i j with h|h
 ·rw[show min (j-i) (l.length-i)=j-i from by omega]
 ·rw[show j-i=0 from by omega];simp
end view
end nilc
section build
variable {P:uG} {env:Env} {st:St} {d:Option Tmp} {ty:uE} {pos:String} {after:uD Edge} {gd:Option (Nat×Bool)} {t t2 e:uE} {x y:uH}
theorem Be {α:Type} {base n sz:Nat} {l0:O α} {row:α->O D} {inf:TypeInfo} {z:uB} {zs:O D} {l:O (Nat×uH)} (ht:P.underlying t=some (.slice e)) (hi:P.info? e=some inf) (gq:inf.size=sz) (hz:inf.zero=some z) (rU:Nat.beq z.cells.size sz=true)
  (zm:(Nat.ble (n*sz) 16777216 && Nat.blt 0 n && Nat.blt 0 sz)=true) (PH:cellsD (.d (cv z))=some zs) (hl:Fo (λi=>some (i*sz,sz)) env (List.replicate n zs).flatten l=some (l0.map row).flatten)
  (hr:((l0.map row).all (λr=>Nat.beq r.length sz) && Nat.beq (l0.map row).length n)=true) :
  zj P base env st ⟨d,.buildSlice t n l.toArray,ty,pos,after,gd⟩ (.vc st.av.length l0.length) (st.tok ⟨e,sz,l0.length,some (l0.map row)⟩):=by
 simp only[zat] at zm hr;have Iq:=zaw rU;have hn:=zaw hr.2;have N6:=jU zm.1.2;have N7:=jU zm.2;have hbg:=zaf zm.1.1;intro g w tmps hinv he;have BK:=mR (g:=g) (w:=w) (st:=st) PH (.d _ _ (rY _ _ z));have Sd:zs.length=sz:=by rw[←BK.1,Iq]
 have EO:(List.replicate n zs).flatten.length=n*sz:=by simp [Sd]
 have kS:∀ r∈l0.map row,r.length=sz:=by
  intro r hm;have:=hr.1;rw[zbf] at this;exact zaw (this r hm)
 have tJ:Gu g.lim w (List.replicate n zs).flatten ((Array.range (n*sz)).map (z.cells[· % z.cells.size]!)):=by
  refine ⟨by simp [EO],λi c u hc hu=>?_⟩;have qU:i<n*sz:=by rw[←EO];exact (zae.1 hc).1
  have zn:i % sz<sz:=zen _ N7;have hdiv:i / sz<n:=zdx (by rw[zdr];exact qU);have Oo:i=i / sz*sz+i % sz:=by rw[zdr];exact (zew i sz).symm
  have hf:=mg (rows:=List.replicate n zs) (sz:=sz) (i:=i / sz) (j:=i % sz) (row:=zs) (c:=zs[i % sz]'(by omega)) (by intro row hm;rw[List.eq_of_mem_replicate hm];exact Sd) (by simp [List.getElem?_replicate,hdiv]) (zag (by omega));rw[←Oo,hc] at hf;have X7:zs[i % sz]?=some c:=by cases hf;exact zag (by omega)
  have huz:z.cells[i % sz]?=some u:=by
   have mI:i % sz<z.cells.size:=by omega
   have:((Array.range (n*sz)).map (z.cells[· % z.cells.size]!))[i]?=some (z.cells[i % z.cells.size]!):=by simp [qU]
   rw[this] at hu;cases hu;rw[Iq,zeb z.cells (i % sz) mI,zbi mI]
  exact BK.2 _ c u X7 huz
 obtain ⟨us,h1,h2,h3⟩:=u7 he l _ _ _ hl tJ;have Fl:=jT kS;have Sc:us.size=n*sz:=by rw[h2.1,Fl,hn]
 have hnm:n<=maxLen:=by
  have:n*1<=n*sz:=Nat.mul_le_mul_left n N7;simp only[maxLen];omega
 have lT:(w.alloc (.cells us e)).ownsRow base e sz (.slice (some ⟨w.heap.size,0,none⟩) n n) n us.toList :=
  ⟨by simp [Sc],.inr ⟨w.heap.size,n,us,rfl,hinv.base,heap_alloc_new w _,zaq _,hnm,Sc,by rw[zbz (by simp [Sc])]⟩⟩
 obtain ⟨g',k1,_,_,k2,k3⟩:=hinv.um ⟨e,sz,n,some (l0.map row)⟩ lT (.inr ⟨rfl,(Below.refl _ w).alloc (zaq _) _⟩) (λrows hh=>by
  cases hh;exact ⟨hn,kS,λi c u hc hu=>h2.2 i c u hc (by simpa using hu)⟩)
 have YP:l0.length=n:=by simpa using hn
 rw[YP];refine ⟨.slice (some ⟨w.heap.size,0,none⟩) n n,g',_,?_,.vc _ _ _ (by simp [St.tok]) ⟨_,_,_,rfl⟩ λy rows hy ho=>?_,k2,k3⟩
 ·subst gq;have I8:¬ (16777216<n*inf.size):=by omega
  have qT:¬ n*inf.size=0:=by
   intro h0;rcases Nat.mul_eq_zero.1 h0 with h|h <;> omega
  have Gp:Instr.fill (λi=>some (i*inf.size,inf.size)) (Array.map (λx=>z.cells[x % z.cells.size]!) (Array.range (n*inf.size))) (List.map (λp=>(p.1,Act.eval ⟨tmps,[]⟩ p.2)) l)=some us:=h1;simp [execOp,Instr.buildSlice,run_underlying ht,qo hi,I8,qT,u9 hi hz,Gp,newRow]
 ·have:y=⟨e,sz,n,some (l0.map row)⟩:=by simpa [St.tok,zfb] using hy
  subst this;exact ⟨zaq _,λ_=>.inl k1.symm⟩
end build
section move
variable {P:uG} {f:Ctx} {N:Nat} {S:Start} {Q:EV->St->Prop} {k todo:List Item} {env:Env} {st:St}
theorem bA.move {i tk e sz n:Nat} {rows:O (O D)} (hl:lookup i env=some (.vc tk n)) (fO:st.av[tk]?=some ⟨e,sz,n,some rows⟩)
  (h:bA P f N S Q todo ((i,.vc st.av.length n)::env) (st.renew tk ⟨e,sz,n,some rows⟩ ⟨e,sz,n,some rows⟩)):bA P f N S Q todo env st:=by
 intro g w tmps hinv hh he hN;obtain ⟨xs,o1,o2,o3⟩:=hinv.own tk e sz n rows fO;obtain ⟨g',k1,k2,k3⟩:=hinv.renew (x':=⟨e,sz,n,some rows⟩) fO rfl rfl o1 (.inl ⟨rfl,rfl,⟨rfl,rfl,rfl,zaq _,λ_ _ _=>rfl⟩⟩) o3;refine h g' w tmps k2 (hh.step k3) (λj y hy=>?_) hN;unfold lookup at hy;have Ck:=he.mono k3.dZ;cases hb:Nat.beq j i with
 | true =>
  rw[hb] at hy;cases hy;have:=zaw hb;subst this;obtain ⟨v,m1,m2⟩:=he j _ hl;refine ⟨v,m1,?_⟩;have hf:∃ A m c,v=.slice A m c:=by cases m2 with|vc _ _ _ _ hf _=>exact hf
  refine .vc _ _ _ (by simp [St.renew,St.tok,St.bG]) hf λy Mk hy ho=>?_
  rw[Jl] at hy;cases hy;refine ⟨zaq _,λ_=>?_⟩;rcases ub hinv fO m2 with hv|⟨n0,r0,A,hv⟩
  ·exact .inl (by rw[k1];exact hv)
  ·exact .inr ⟨n0,A,hv⟩
 | false =>
  rw[hb] at hy;exact Ck j y hy
def OQ (ρ τ:Nat->Nat) (env:Env):Env:=env.map λp=>(p.1,p.2.ren ρ τ)
theorem GS {ρ τ:Nat->Nat}:∀ (env:Env) (i:Nat) (y:EV),lookup i env=some y->lookup i (OQ ρ τ env)=some (y.ren ρ τ)
 | [],i,y,h=>by simp [lookup] at h
 | (j,x)::env,i,y,h=>by
  unfold lookup at h;unfold OQ;rw[zao];unfold lookup;cases hb:Nat.beq i j with
  | true=>rw[hb] at h;cases h;rfl
  | false =>
   rw[hb] at h;exact GS env i y h
theorem bA.PZ (rs ts:O Nat) {s0 st':St} {env':Env} (hS:S.st=s0) (hp:Bc rs ts st' st=true) (h5:st'.aS.all (mh st'.aS.length st'.av.length)=true) (uq:ER st'.aS.length st'.av.length env'=true)
  (hl:(Nat.ble s0.aS.length rs.length && Nat.ble s0.av.length ts.length)=true) (SA:rs.take s0.aS.length=List.range s0.aS.length) (Vs:ts.take s0.av.length=List.range s0.av.length)
  (ho:rs.map (λr=>st.aS[r]?)=st'.aS.map (λy=>some (y.ren (dw rs st.aS.length) (dw ts st.av.length)))) (ht:ts.map (λr=>st.av[r]?)=st'.av.map some)
  (hE:dz env (OQ (dw rs st.aS.length) (dw ts st.av.length) env')) (h:bA P f N S Q todo env' st'):bA P f N S Q todo env st:=by
 obtain ⟨p,e1',N9,l1,l2⟩:=Part.of hp h5 ho ht;subst hS;simp only[zat] at hl;have AN:=zaf hl.1;have CF:=zaf hl.2;have same:∀ {l:O Nat} {n N:Nat},l.take n=List.range n->n<=l.length->∀ i,i<n->dw l N i=i:=fun {l n N} hl hn i hi=>by
  have e:(l.take n)[i]?=some i:=by rw[hl,List.getElem?_range hi]
  rw[zam,zab hi] at e;simp [dw,e]
 have so:=λi hi=>same (N:=st.aS.length) SA AN i hi
 have PO:=λi hi=>same (N:=st.av.length) Vs CF i hi
 have ES:∀ {i:Nat},i<st'.av.length->st'.av[i]?=st.av[dw ts st.av.length i]?:=fun {i} hi=>by
  rw[p.av i _ (zag hi),zag hi]
 intro g w tmps hinv hh he hN;refine h (g.sub _ _) w tmps (hinv.part p) ⟨⟨hh.dZ.df,λo oc=>?_,(by show S.st.aS.length<=_;omega),λt e sz n hx=>?_,(by show S.st.av.length<=_;omega),λt x' bE cT lO oc=>?_⟩,hh.below,hh.lim,hh.frame,λb hb hw=>hh.fresh b hb (p.owned hw)⟩ (λi y hy=>?_) hN
 ·show g.ob (dw rs st.aS.length o)=S.g.ob o;rw[so o oc];exact hh.dZ.ob o oc
 ·have cT:t<S.st.av.length:=(zae.1 hx).1;obtain ⟨n',a1,a2,a3⟩:=hh.dZ.av t e sz n hx;refine ⟨n',?_,a2,λe'=>?_⟩
  ·rw[ES (by omega),PO t cT];exact a1
  ·show g.tk (dw ts st.av.length t)=S.g.tk t;rw[PO t cT];exact a3 e'
 ·rw[ES (by have:=(zae.1 lO).1;exact this),PO t cT] at lO;obtain ⟨y,rows,a1,a2,a3,a4,a5⟩:=hh.dZ.own t x' bE cT lO oc;refine ⟨y,rows,a1,a2,a3,a4,λe'=>?_⟩;show g.tk (dw ts st.av.length t)=S.g.tk t;rw[PO t cT];exact a5 e'
 ·obtain ⟨v,m1,m2⟩:=(he.sub hE) i _ (GS env' i y hy);exact ⟨v,m1,m2.down p.av (DQ uq hy)⟩
theorem Xh.fa {f':FuncId} {base:Nat} {l:O uH} {ts:uD uE} {SV es:O EV} {x r:EV} {s0 s1 st':St} {d:J Tmp} {ty:uE} {pos:String} {after:uD Edge} (Fi:Enters P f') (rs tk:O Nat)
  (h1:DJ env l=some es) (hc:aN P f' SV s0 (QE r s1)) (hle:xS es (SV.map (EV.ren (dw rs st.aS.length) (dw tk st.av.length))))
  (hp:(Bc rs tk s0 st && SV.all (qZ s0.aS.length s0.av.length))=true) (h5:s0.aS.all (mh s0.aS.length s0.av.length)=true)
  (ho:rs.map (λr=>st.aS[r]?)=s0.aS.map (λx=>some (x.ren (dw rs st.aS.length) (dw tk st.av.length)))) (ht:tk.map (λr=>st.av[r]?)=s0.av.map some)
  (hx:r.ren (dw rs st.aS.length) (dw tk st.av.length)=x) (hs:cF st s1 rs tk=st') :
  Xh P base env st ⟨d,.call ⟨.value (.func f'),l.toArray,ts⟩,ty,pos,after,none⟩ x st':=by
 simp only[zat] at hp;have tH:=(hc.frame rs tk hp.1 h5 hp.2 ho ht).le hle;intro g w tmps hinv he;obtain ⟨k1,k2⟩:=wV he l es h1;refine ⟨f',_,DK Fi w rfl,(tH g w base _ hinv ⟨by simp [k1],λj x v hx hv=>k2 j x v hx (by simpa using hv)⟩).mono ?_⟩;rintro e w' ⟨v,r',st2,g',rfl,⟨YQ,rfl⟩,hr,eF,Ol⟩;rw[hx] at YQ;rw[hs] at eF hr Ol;exact ⟨v,g',rfl,YQ _ _ _ _ hr,eF,Ol.toStep⟩
end move
section ld
variable {P:uG} {env:Env} {st:St} {d:Option Tmp} {ty:uE} {pos:String} {after:uD Edge} {gd:Option (Nat×Bool)} {t:uE} {x:uH}
theorem GU {o off n:Nat} {T:uE} {cs ds:O EV} (h1:(P.underlying t).map lS=some false) (hs:(P.info? t).map (·.size)=some n) (hx:df env x=some (.ref o off)) (ho:st.aS[o]?=some (.row T cs))
  (hn:off+n<=cs.length) (hds:(cs.drop off).take n=ds):aJ P env st ⟨d,.load t x,ty,pos,after,gd⟩ (.agg ds):=λg base w tmps hinv he=>by
 subst hds;have h:=aR he hx;generalize hv:Act.eval ⟨tmps,[]⟩ x=v at h;cases h with
 | ref _ _ cT =>
  obtain ⟨_,_,vs,hb,gq,A9⟩:=hinv.row o T cs ho;obtain ⟨hl,Fj⟩:=LK (g:=g) (w:=w) (n:=n) (off:=off) hb gq hn;refine ⟨.agg ((vs.toList.drop off).take n).toArray,.agg _ _ ?_ ?_ ?_,λw' mc=>?_⟩
  ·simp at hl ⊢;omega
  ·intro i u hu;have wR:=Fj i u (by simpa using hu);have mI:off+i<cs.length:=by rw[←gq];exact (zay.1 wR.2).1
   exact (A9 (off+i) cs[off+i] u (zag mI) wR.2).2
  ·intro i c u rR hu;have wR:=Fj i u (by simpa using hu);rw[zam] at rR;split at rR
   ·rw[zbd] at rR;exact (A9 (off+i) _ u rR wR.2).1
   ·cases rR
  ·obtain ⟨inf,mQ,JW⟩:∃ inf,P.info? t=some inf/\inf.size=n:=by
    cases hh:P.info? t with
    | none=>rw[hh] at hs;cases hs
    | some inf=>rw[hh] at hs;exact ⟨inf,rfl,by simpa using hs⟩
   have Gn:=sL (P:=P) (w:=w') (b:=g.ob o) (off:=off) hl (λj u hu=>by
    have h3:=(Fj j u hu).1;exact (mc.cell (World.block_lt_of_cell? w _ h3)).trans h3)
   simp [execOp,hv,Instr.loadAt,Instr.sureAddr,loadVar,Af h1,sizeOf,typeInfo,mQ,JW,Gn]
end ld
theorem Bf {P:uG} {ops:uD Oper} {o:Oper} {a:Act} {w:uC} {K:Act->uC->Prop} {Q:Exit->Act->uC->Prop} {E:Prop}
  (hg:o.guard=none) (d x:uH) (t:uE) (wZ:o.op=Op.call { callee:=Callee.builtin Builtin.append,args:=#[d,x],argTypes:=#[t,t] })
  (v u:uB) (hd:a.eval d=v) (hx:a.eval x=u) {v':uB} {w':uC} (hr:(Builtin.append_ #[t,t] o.type #[v,u]).run P w=.ok v' w') (hK:K (a.put o.dst v') w') :
  if Region.wanted o (yielded ops a.tmps)=true then Oper.wp P o a w K Q else E:=by
 rw[zab (by simp [Region.wanted,hg])];unfold Oper.wp execOp;simp only[wZ,resolve,invoke,builtin,Sem.run_bind,Sem.run_pure,Result.andThen_ok,zeo,zao,zbg,hd,hx,hr];exact hK
def Mm:List EV->List EV->Prop
 | [],[]=>True
 | x::xs,y::ys=>eC x y/\Mm xs ys
 | _,_=>False
theorem Mm.get:∀ {xs ys:O EV},Mm xs ys->xs.length=ys.length/\∀ (i:Nat) y,ys[i]?=some y->∃ x,xs[i]?=some x/\eC x y
 | [],[],_=>⟨rfl,λi y h=>by simp at h⟩
 | x::xs,y::ys,h=>by
  obtain ⟨h1,h2⟩:=Mm.get h.2;refine ⟨by simp [h1],λi z hz=>?_⟩;cases i with
  | zero=>simp at hz;subst hz;exact ⟨x,rfl,h.1⟩
  | succ i=>simpa using h2 i z (by simpa using hz)
 | [],_::_,h=>h.elim
 | _::_,[],h=>h.elim
theorem eC.aggE {xs ys:O EV} (h:Mm xs ys):eC (.agg xs) (.agg ys):=by
 intro g w st v hv;obtain ⟨h1,h2⟩:=h.get;cases hv with
 | agg _ vs hs Fp hc =>
  refine .agg _ vs (by rw[hs,h1]) Fp λi y u hy hu=>?_
  obtain ⟨x,hx,hle⟩:=h2 i y hy;exact hle _ _ _ _ (hc i x u hx hu)
section gm
variable {κ α:Type} [BEq κ] [LawfulBEq κ]
def qG (sz:Nat) (row:α->List D):Nat->List (κ×List α)->List (κ×EV)
 | _,[]=>[]
 | t,p::l=>(p.1,.cm sz (p.2.map row) t)::qG sz row (t+1) l
def mT (e:uE) (sz:Nat) (l:List (κ×List α)):List iR:=l.map λp=>⟨e,sz,p.2.length,none⟩
def gev (sz:Nat) (row:α->List D) (t:Nat) (l:List (κ×List α)) (k:κ):EV :=
 match eI l k with
 | some j=>.cm sz (((aC l k).getD []).map row) (t+j)
 | none=>.d aT
theorem Mn (sz:Nat) (row:α->O D):∀ (t:Nat) (l:O (κ×O α)),(qG sz row t l).length=l.length
 | _,[]=>rfl
 | t,p::l=>by simp [qG,Mn sz row (t+1) l]
theorem CL (sz:Nat) (row:α->O D):∀ (t:Nat) (l:O (κ×O α)) (i:Nat),(qG sz row t l)[i]?=(l[i]?).map λp=>(p.1,.cm sz (p.2.map row) (t+i))
 | _,[],i=>by simp [qG]
 | t,p::l,0=>by simp [qG]
 | t,p::l,i+1=>by
  have:=CL sz row (t+1) l i;simp only[qG,List.getElem?_cons_succ,this];rw[show t+1+i=t+(i+1) from by omega]
theorem BY (sz:Nat) (row:α->O D) (k:κ):∀ (t:Nat) (l:O (κ×O α)),eI (qG sz row t l) k=eI l k
 | _,[]=>rfl
 | t,p::l=>by
  have:=BY sz row k (t+1) l;unfold eI at this ⊢;rw[qG,List.findIdx?_cons,List.findIdx?_cons,this]
theorem OR (sz:Nat) (row:α->List D) (t:Nat) (l:List (κ×List α)) (k:κ):aC (qG sz row t l) k=match eI l k with
  | some j=>some (.cm sz (((aC l k).getD []).map row) (t+j))
  | none=>none:=by
 rw[oi,BY,oi l k];cases h:eI l k with
 | none=>rfl
 | some j =>
  have hj:=zt h;simp only[zac,CL,zag hj,Option.map_some,zcj]
theorem Jn (sz:Nat) (row:α->O D) (q:κ×O α):∀ (t:Nat) (l:O (κ×O α)),qG sz row t (l++[q])=qG sz row t l++[(q.1,.cm sz (q.2.map row) (t+l.length))]
 | t,[]=>by simp [qG]
 | t,p::l=>by
  simp only[List.cons_append,qG,Jn sz row q (t+1) l,zad];rw[show t+1+l.length=t+(l.length+1) from by omega]
theorem Mo (sz:Nat) (row:α->O D) (q:κ×O α):∀ (t:Nat) (l:O (κ×O α)) (j:Nat),qG sz row t (l.set j q)=(qG sz row t l).set j (q.1,.cm sz (q.2.map row) (t+j))
 | t,[],j=>by simp [qG]
 | t,p::l,0=>by simp [qG]
 | t,p::l,j+1=>by
  simp only[List.set_cons_succ,qG,Mo sz row q (t+1) l j];rw[show t+1+j=t+(j+1) from by omega]
theorem Ru (sz:Nat) (row:α->O D) (t:Nat) (l:O (κ×O α)) (k:κ) (v:O α):dm (qG sz row t l) k (.cm sz (v.map row) (t+(eI l k).getD l.length))=qG sz row t (dm l k v):=by
 unfold dm;rw[BY];cases h:eI l k with
 | none=>simp only[Option.getD_none,Jn]
 | some j=>simp only[zcj,Mo]
theorem Mp (e:uE) (sz:Nat) (l:List (κ×List α)) (k:κ) (v:List α):mT e sz (dm l k v)=match eI l k with
  | some j=>(mT e sz l).set j ⟨e,sz,v.length,none⟩
  | none=>mT e sz l++[⟨e,sz,v.length,none⟩]:=by
 unfold dm;cases h:eI l k with
 | none=>simp [mT]
 | some j=>simp [mT,List.map_set]
theorem GV (e:uE) (sz:Nat) (l:O (κ×O α)):(mT e sz l).length=l.length:=by simp [mT]
end gm
section rules
variable {P:uG} {base:Nat} {env:Env} {st:St} {d:Option Tmp} {ty:uE} {pos:String} {after:uD Edge} {gd:Option (Nat×Bool)} {t e key:uE} {x y z:uH}
 {κ α:Type} [BEq κ] [LawfulBEq κ] {sz t0:Nat} {row:α->List D}
theorem Rv (K:w7 P key κ) {o:Nat} {l:O (κ×O α)} {k:κ} {dk:D} {inf:TypeInfo} {zv:uB} (ht:P.underlying t=some (.map key e)) (hi:P.info? e=some inf) (hz:inf.zero=some zv) (hz0:cv zv=aT)
  (hx:df env x=some (.mp o)) (ho:st.aS[o]?=some (.map (nk K.ke (qG sz row t0 l)))) (hy:df env y=some (.d dk)) (hk:∀ lim w v,dY lim w dk v->v=K.ke k) :
  aJ P env st ⟨d,.lookup t x y false,ty,pos,after,gd⟩ (gev sz row t0 l k):=by
 intro g base w tmps hinv he;obtain ⟨v,h1,h2⟩:=zz (c:=false) (d:=d) (ty:=ty) (pos:=pos) (after:=after) (gd:=gd) K ht hi hz hx ho hy hk hinv he;refine ⟨v,?_,λw' hb=>by simpa using h2 w' hb⟩;rw[OR] at h1;unfold gev;cases h:eI l k with
 | none =>
  rw[h] at h1;simp only at h1 ⊢;subst h1;exact .d _ _ (hz0▸rY g.lim w v)
 | some j=>rw[h] at h1;exact h1
theorem Rw {l:O (κ×O α)} {k:κ} {l':O α} {T:O iR} {inf:TypeInfo} {zv:uB} {w:EV} (ht:P.underlying t=some (.slice e)) (hi:P.info? e=some inf) (hz:inf.zero=some zv) (fg:inf.size=sz) (rU:zv.cells.size=sz) (hb:inf.bytes<=100000)
  (hx:df env x=some (gev sz row t0 l k)) (hT:st.av=T++mT e sz l) (h0:T.length=t0) (hy:df env y=some w) (hs:vP w=some (sz,l'.map row)) (hn:((aC l k).getD []).length+l'.length<=1000000000) :
  zj P base env st ⟨d,.call ⟨.builtin .append,#[x,y],#[t,t]⟩,ty,pos,after,gd⟩ (.cm sz ((((aC l k).getD [])++l').map row) (t0+(eI l k).getD l.length)) ⟨st.aS,T++mT e sz (dm l k (((aC l k).getD [])++l'))⟩:=by
 rw[Mp];unfold gev at hx;cases h:eI l k with
 | none =>
  rw[h] at hx;have hl:aC l k=none:=by rw[oi,h];rfl
  rw[hl] at hn ⊢;simp only[Option.getD_none,zbt] at hn ⊢;have:=xQ (base:=base) (st:=st) (d:=d) (ty:=ty) (pos:=pos) (after:=after) (gd:=gd) (row:=row) ht hi hz fg rU hb hx hy hs (by simpa using hn);have e1:st.av.length=t0+l.length:=by rw[hT,zah,GV,h0]
  have e2:(st.tok ⟨e,sz,0,none⟩).bG st.av.length ⟨e,sz,l'.length,none⟩=⟨st.aS,T++(mT e sz l++[⟨e,sz,l'.length,none⟩])⟩:=by
   rw[←zar,←hT];simp [St.tok,St.bG]
  rw[e2,e1] at this;exact this
 | some j =>
  rw[h] at hx;have hj:=zt h;have hl:aC l k=some l[j].2:=by rw[oi,h];simp [zag hj]
  rw[hl] at hx hn ⊢;simp only[zcj] at hx hn ⊢;have:=Aj (base:=base) (st:=st) (d:=d) (ty:=ty) (pos:=pos) (after:=after) (gd:=gd) (row:=row) (l:=l[j].2) ht hi hz fg rU hb hx (by
   rw[hT,zax (by omega),h0,zfq];simp [mT,zag hj]) hy hs hn
  have e2:st.bG (t0+j) ⟨e,sz,(l[j].2++l').length,none⟩=⟨st.aS,T++(mT e sz l).set j ⟨e,sz,(l[j].2++l').length,none⟩⟩:=by
   unfold St.bG;rw[hT,List.set_append_right _ _ (by omega),h0,zfq]
  rw[e2] at this;exact this
theorem Kr (K:w7 P key κ) {o:Nat} {l:O (κ×O α)} {k:κ} {dk:D} {v:O α} (ht:P.underlying t=some (.map key e)) (hx:df env x=some (.mp o)) (ho:st.aS[o]?=some (.map (nk K.ke (qG sz row t0 l))))
  (hy:df env y=some (.d dk)) (hk:∀ lim w v,dY lim w dk v->v=K.ke k) (hz:df env z=some (.cm sz (v.map row) (t0+(eI l k).getD l.length))) :
  JT P base env st ⟨d,.mapUpdate t x y z,ty,pos,after,gd⟩ (st.set o (.map (nk K.ke (qG sz row t0 (dm l k v))))):=by
 have:=Kg (base:=base) (d:=d) (ty:=ty) (pos:=pos) (after:=after) (gd:=gd) K ht hx ho hy hk hz;rw[Ru] at this;exact this
theorem okG {n:Nat} {T:O iR} {ke:κ->uB} {l:O (κ×O α)} (h0:T.length=t0):mh n (T++mT e sz l).length (.map (nk ke (qG sz row t0 l)))=true:=by
 unfold mh nk;rw[zbf];intro p hp;obtain ⟨q,hq,rfl⟩:=zcy.1 hp;obtain ⟨i,hi⟩:=zdj.1 hq;rw[CL] at hi;cases hl:l[i]? with
 | none=>rw[hl] at hi;cases hi
 | some r =>
  rw[hl] at hi;cases hi;have:=(zae.1 hl).1;simp only[qZ,Nat.blt_eq,zah,GV,h0];omega
end rules
section run
variable {P:uG} {f:Ctx} {N:Nat} {S:Start} {Q:EV->St->Prop} {todo:List Item} {env env':Env} {st st':St} {κ α:Type} [BEq κ] [LawfulBEq κ]
theorem VJ {w:uC} {b:Nat} {o:Obj} (h:w.heap[b]?=some o):({ w with heap:=w.heap.setIfInBounds b o }:uC)=w:=by
 have:w.heap.setIfInBounds b o=w.heap:=by
  apply Array.ext_getElem?;intro i;rw[zcg];split
  ·rename_i hbi;subst hbi;split
   ·exact h.symm
   ·rename_i hb;rw[Array.getElem?_eq_none (by omega)]
  ·rfl
 rw[this]
theorem Inv.mapLe {g:b8} {base o:Nat} {w:uC} {es es':O (uB×EV)} (h:Inv g base w st) (ho:st.aS[o]?=some (.map es)) (hl:es.length=es'.length)
  (hle:∀ (i:Nat) p q,es[i]?=some p->es'[i]?=some q->p.1=q.1/\eC p.2 q.2):Inv g base w (st.set o (.map es'))/\Step base g w st g w (st.set o (.map es')):=by
 obtain ⟨b1,ms,clock,b2,b3,b4,b5,b6⟩:=h.map o es ho;have:=h.OD (es':=es') ho (ms':=ms) (clock':=clock) (by omega) (λi k x m w8 Vc=>by
  have hi:i<es.length:=by rw[hl];exact (zae.1 w8).1
  have h1:=zag hi;obtain ⟨a1,a2⟩:=hle i _ _ h1 w8;obtain ⟨c1,c2⟩:=b4 i es[i].1 es[i].2 m h1 Vc;exact ⟨c1.trans a1,a2 _ _ _ _ c2⟩) b5 b6
 rw[VJ b2] at this;exact this
theorem bA.VK {e sz t0:Nat} {row:α->O D} (o:Nat) {T:O iR} {l:O (κ×O α)} {ke:κ->uB} (ho:st.aS[o]?=some (.map (nk ke (qG sz row t0 l)))) (hT:st.av=T++mT e sz l) (h0:T.length=t0)
  (hE:ON env env'=some env') (hs:st'=⟨st.aS.set o (.map (lD ke (λx=>ag sz row x) l)),T⟩) (uq:(ER st'.aS.length st'.av.length env' && st'.aS.all (mh st'.aS.length st'.av.length))=true)
  (hS1:S.st.aS.length<=st.aS.length) (hS2:S.st.av.length<=T.length) (h:bA P f N S Q todo env' st'):bA P f N S Q todo env st:=by
 subst hs;intro g w tmps hinv hh he hN;obtain ⟨h1,h2⟩:=hinv.mapLe (es':=lD ke (λx=>ag sz row x) l) ho (by simp [nk,lD,Mn]) (λi p q hp hq=>by
  simp only[nk,lD,zbe,CL] at hp hq;cases hl:l[i]? with
  | none=>rw[hl] at hp;cases hp
  | some r=>rw[hl] at hp hq;cases hp;cases hq;exact ⟨rfl,.cm _ _ _⟩)
 have hlen:(st.set o (.map (lD ke (λx=>ag sz row x) l))).aS.length=st.aS.length:=by simp [St.set]
 refine bA.to (st:=st.set o (.map (lD ke (λx=>ag sz row x) l))) (st':=⟨st.aS.set o (.map (lD ke (λx=>ag sz row x) l)),T⟩) st.aS.length T.length (zB hE) ?_ ?_ ?_ ?_ ?_ hS1 hS2 h g w tmps h1 (hh.step h2) (he.mono h2.dZ) hN
 ·show (st.aS.set o _).take st.aS.length=st.aS.set o _;rw[zbz (by simp)]
 ·show st.av.take T.length=T;rw[hT];simp
 ·rw[hlen];exact Nat.ble_self_eq_true _
 ·show Nat.ble T.length st.av.length=true;rw[hT];exact Nat.ble_eq_true_of_le (by simp)
 ·simpa [zgc] using uq
theorem bA.tG {s0:St} (n:Nat) (h:bA P f N S Q todo env' st') (hE:ON env env'=some env') (ho:st.aS.take n=st'.aS) (ht:st.av=st'.av) (hn:Nat.ble n st.aS.length=true)
  (uq:(ER n st'.av.length env' && st'.aS.all (mh n st'.av.length))=true) (hS:S.st=s0) (hb:Nat.ble s0.aS.length n=true) (Gr:Nat.ble s0.av.length st'.av.length=true):bA P f N S Q todo env st :=
 .to n st'.av.length (zB hE) ho (by rw[ht];simp) hn (by rw[ht];exact Nat.ble_self_eq_true _) uq (by rw[hS];exact zaf hb) (by rw[hS];exact zaf Gr) h
end run
def pM (a b:List uA):Bool:=Op.bytesLess a b
section strings
variable {P:uG} {env:Env} {st:St} {d:Option Tmp} {ty:uE} {pos:String} {after:uD Edge} {gd:Option (Nat×Bool)} {t t2:uE} {x y:uH} {a b:List uA} (hx:df env x=some (.d (cS a))) (hy:df env y=some (.d (cS b)))
include hx hy
theorem Te:aJ P env st ⟨d,.binOp .lss t x y t2,ty,pos,after,gd⟩ (.d (cB (pM a b))):=r3 λg w tmps w' he=>by
 simp [execOp,(aR he hx).bO,(aR he hy).bO,eqGuard,binOp,Op.stringOp,pM]
end strings
def VL (P:uG) (base:Nat) (T:FT) (N n:Nat) (cf:Cf) (env:Env) (st:St) (hs:List Hint):Option Out:=oo env λenv=>match st with
 | ⟨os,ts⟩=>oo os λos=>go P base T N n cf env ⟨os,ts⟩ hs []
theorem YR {P:uG} {base N n:Nat} {T:FT} {cf:Cf} {env:Env} {st:St} {hs:O Hint}:VL P base T N n cf env st hs=go P base T N n cf env st hs []:=by
 unfold VL;simp only[sf]
theorem D1 {P:uG} {f:Ctx} {N:Nat} {S:Start} {Q:EV->St->Prop} {T:FT} (hT:T.Ok P) (hm:P.follows .mixedOrders=true) {n:Nat} {cf:Cf} {env:Env} {st:St} {hs:O Hint} {out:Out} (h:VL P S.base T N n cf env st hs=some out) (hp:tc out.ps) :
  Ro P f N S Q out.cf out.env out.st->Ro P f N S Q cf env st:=(go_sound hT hm n cf env st hs [] out (YR▸h) hp).2
theorem ur.nil0 (sz:Nat):ur (.ex (.slice none 0 0)) (.e0 sz):=λ_ _ _ h=>by cases h;exact .e0 sz none (.inl rfl)
section tok
variable {P:uG} {f:Ctx} {N:Nat} {S:Start} {Q:EV->St->Prop} {todo:List Item} {env:Env} {st:St}
theorem Inv.GW {g:b8} {base o ci sz:Nat} {w:uC} {T:uE} {cs:O EV} (h:Inv g base w st) (ho:st.aS[o]?=some (.row T cs)) (hc:cs[ci]?=some (.d (.e0 sz))) (e:Nat) :
  ∃ g',Inv g' base w ((st.tok ⟨e,sz,0,none⟩).set o (.row T (cs.set ci (.cm sz [] st.av.length))))/\Step base g w st g' w ((st.tok ⟨e,sz,0,none⟩).set o (.row T (cs.set ci (.cm sz [] st.av.length)))):=by
 obtain ⟨g1,h1,h2,h3⟩:=h.JY e sz;have Ie:(st.tok ⟨e,sz,0,none⟩).aS[o]?=some (.row T cs):=ho;obtain ⟨b1,b2,vs,b3,b4,b5⟩:=h2.row o T cs Ie;obtain ⟨hi,hs⟩:=h2.setBlock (o:=o) (x:=.row T (cs.set ci (.cm sz [] st.av.length))) (w':=w) ⟨_,Ie,by simp⟩ b2 rfl (λ_ _=>rfl) rfl rfl rfl
  (λSs On Fk lO=>by
   cases lO;refine ⟨vs,b3,by simpa using b4,λi c u rR hu=>?_⟩;rw[zbm] at rR;split at rR
   ·rename_i hic;subst hic;split at rR
    ·cases rR;have h0:=b5 ci _ u hc hu;refine ⟨?_,h0.2⟩;cases h0.1 with
     | d _ _ hd =>
      cases hd with
      | e0 _ A _=>exact .cm sz [] _ _ e 0 (.nil sz _) (by simp [St.tok,St.set]) (zaq _) (λ_=>.inr ⟨rfl,A,rfl⟩)
    ·cases rR
   ·have h0:=b5 i c u rR hu;exact ⟨h0.1.mono Ss,h0.2⟩) (λ_ es lO=>by cases lO)
 exact ⟨g1,hi,h3.trans hs⟩
theorem bA.GW {o ci e sz:Nat} {T:uE} {cs:O EV} (ho:st.aS[o]?=some (.row T cs)) (hc:cs[ci]?=some (.d (.e0 sz)))
  (h:bA P f N S Q todo env ((st.tok ⟨e,sz,0,none⟩).set o (.row T (cs.set ci (.cm sz [] st.av.length))))):bA P f N S Q todo env st:=by
 intro g w tmps hinv hh he hn;obtain ⟨g',h1,h2⟩:=hinv.GW ho hc e;exact h g' w tmps h1 (hh.step h2) (he.mono h2.dZ) hn
end tok
section fwp
variable {P:uG} {R:Ending->uC->Prop} {k:List Item} {tmps:uD uB} {w:uC}
theorem e9.beginRound {f:FuncId} {ds:O Deferred} {l:Nat} {w':uC} (hr:(Instr.beginRound l).run P w=.ok () w') (h:e9 P ⟨f,ds,some l⟩ R k tmps w'):e9 P ⟨f,ds,some l⟩ R (.beginRound::k) tmps w :=
 e9.step (λ_=>stepR_beginRound rfl hr) h
theorem e9.round {f:Ctx} {ops:uD Oper} {i l:Nat} {rest:O Nat} {o:Oper} {f':FuncId} {tm:uD uB} {assign body:Code} {w':uC}
  (ho:ops[i]?=some o) (hw:Region.wanted o (yielded ops tmps)=true) (hr:(execOp (Act.eval ⟨tmps,[]⟩) o).run P w=.ok (.round l f' tm assign body) w')
  (h:e9 P ⟨f',[],some l⟩ (λ_ w2=>∃ w3,(Instr.endRound l none).run P w2=.ok (.bool true) w3/\e9 P f R (.inRegion ops rest::k) (Act.put ⟨tmps,[]⟩ o.dst (.bool true)).tmps w3) [.code assign,.beginRound,.code body] tm w') :
  e9 P f R (.inRegion ops (i::rest)::k) tmps w:=by
 intro cs;have hg:=stepGR_op (P:=P) (b:=bf f) (a:=⟨tmps,f.ds⟩) (k:=k) (cs:=cs) (w:=w) (rest:=rest) ho hw;rw[Cq,Cp hr (by simp)] at hg;have qS:∀ v,((bf f).atR ⟨tmps,f.ds⟩ (.inRegion ops (i::rest)::k)).finish v=(bf f).atR (Act.put ⟨tmps,f.ds⟩ o.dst v) (.inRegion ops rest::k):=by
  intro v;rw[Frame.finish_atR,ho];rfl
 obtain ⟨e,w2,fr,⟨w3,he,hF⟩,Gi,hfin2⟩:=h ((bf f).atR ⟨tmps,f.ds⟩ (.inRegion ops (i::rest)::k)::cs);obtain ⟨rfl,tm2,rfl⟩:=hfin2;have YS:Frame.round l f' tm assign body .normal=(bf ⟨f',[],some l⟩).atR ⟨tm,[]⟩ [.code assign,.beginRound,.code body]:=by simp [Frame.round,Frame.atR,bf]
 have BE:Go.step P (lone ((bf f).atR ⟨tmps,f.ds⟩ (.inRegion ops (i::rest)::k)) cs w) =
   .next (lone ((bf ⟨f',[],some l⟩).atR ⟨tm,[]⟩ [.code assign,.beginRound,.code body]) ((bf f).atR ⟨tmps,f.ds⟩ (.inRegion ops (i::rest)::k)::cs) w'):=by
  rw[←YS];exact step_lone_go (by rw[hg];simp [stepG.apply,hr,Frame.atR])
 obtain ⟨e,w4,fr',hR,hc,h1⟩:=hF cs;refine ⟨e,w4,fr',hR,Comes.of_steps (.head BE (Steps.trans Gi (.one ?_))) hc,h1⟩;rw[←put_eq,←qS];exact stepR_round_end rfl rfl he
theorem e9.rangeFunc {f it:FuncId} {g:uH} {ps:uD Tmp} {assign body:Code} {vs:uD uB} (hg:Act.eval ⟨tmps,[]⟩ g=.func (.func it) #[] vs) (Fi:Enters P it)
  (h:Calls P it (#[.func (.yield (w.heap.size+1)) #[] #[]]++vs) ((w.alloc (.deferred (some []))).alloc (.loop { state:=.ready,pending:=none,fn:=f,tmps:=tmps,params:=ps,assign,body,defers:=w.heap.size }))
   λe w2=>(∃ v,e=.returned v)/\∃ w3,(Instr.endLoop (w.heap.size+1)).run P w2=.ok none w3/\e9 P ⟨f,[{ target:=.collected w.heap.size,args:=#[] }],none⟩ R k tmps w3) :
  e9 P (.of f) R (.code (.rangeFunc g ps assign body)::k) tmps w:=by
 intro cs;have he:=run_enterLoop_outer (P:=P) (w:=w) f tmps ps assign body;generalize hW:(w.alloc (.deferred (some []))).alloc (.loop { state:=.ready,pending:=none,fn:=f,tmps:=tmps,params:=ps,assign,body,defers:=w.heap.size })=W1 at he h;have VM:(resolve (Act.eval ⟨tmps,[]⟩) (rangeCall g (w.heap.size+1)) 0).run P W1=.ok { target:=.fn (.func it) vs,args:=#[.func (.yield (w.heap.size+1)) #[] #[]] } W1:=by
  simp only[rangeCall,resolve];rw[hg];simp [Deferred.ofValue,Act.eval]
 have hinv:(invoke (.fn (.func it) vs) #[.func (.yield (w.heap.size+1)) #[] #[]]).run P W1=.ok (.enter it (#[.func (.yield (w.heap.size+1)) #[] #[]]++vs)) W1:=by
  simp only[invoke];exact xI Fi _ _
 have BE:=stepR_rangeFunc (P:=P) (b:=bf (.of f)) (a:=⟨tmps,[]⟩) (k:=k) (cs:=cs) (w:=w) he VM hinv;obtain ⟨e,w2,fr,⟨⟨v,rfl⟩,w3,hend,hF⟩,Gi,_,Oh⟩:=h ((bf (.of f)).atR ⟨tmps,[{ target:=.collected w.heap.size,args:=#[] }]⟩ (.inRangeFunc (w.heap.size+1)::k)::cs);obtain ⟨e,w4,fr',hR,hc,h1⟩:=hF cs;refine ⟨e,w4,fr',hR,Comes.of_steps (.head BE (Steps.trans Gi (.head (step_leave_returned Oh) (.one ?_)))) hc,h1⟩;rw[finish_atR_inRangeFunc];exact stepR_endRangeFunc hend
theorem e9.YT {f:FuncId} {D:Nat} {fn:Func} {v:uB} {w':uC} (hf:P.funcs[f]?=some fn) (ht:(Instr.takeDeferred D).run P w=.ok [] w') (hr:(results fn tmps).run P w'=.ok v w') (hR:R (.returned v) w') :
  e9 P ⟨f,[{ target:=.collected D,args:=#[] }],none⟩ R (.code .ret::k) tmps w :=
 λcs=>⟨.returned v,w',_,hR,.head (stepR_ret rfl) (.one (step_collected (by simp) rfl rfl ht)),rfl,rfl,rfl,rfl,fn,hf,hr⟩
end fwp
section inv
variable {P:uG} {base:Nat} {g:b8} {w:uC} {st:St}
theorem Inv.Ks (hinv:Inv g base w st) {o:Nat} {y:Obj} (ho:st.aS[o]?=some (.raw y)) (y':Obj):Inv g base (w.putObj (g.ob o) y') (st.set o (.raw y'))/\Step base g w st g (w.putObj (g.ob o) y') (st.set o (.raw y')):=by
 obtain ⟨hb,hl,Lu⟩:=hinv.raw o _ ho;exact hinv.setBlock (o:=o) (x:=.raw y') (w':=w.putObj (g.ob o) y')
   ⟨_,ho,by simp⟩ hl (by simp [World.putObj]) (λb mc=>World.putObj_heap_other mc) rfl rfl rfl (λ_ On Fk e=>by cases e) (λ_ es e=>by cases e)
   (λy e=>by
    cases e;exact World.putObj_heap_same (zay.1 Lu).1)
end inv
section run
variable {P:uG} {f:FuncId} {N:Nat} {S:Start} {Q:EV->St->Prop} {k:List Item} {env:Env} {st:St}
theorem s5.YU {S:Start} {g:b8} {w:uC} {st:St} (h:s5 S g w st) {o l:Nat} (hS:S.g.ob o=l) (cT:o<S.st.aS.length):g.ob o=l:=(h.dZ.ob o cT).trans hS
theorem bA.beginRound {l o:Nat} {r:Loop} (hS:S.g.ob o=l) (cT:o<S.st.aS.length) (ho:st.aS[o]?=some (.raw (.loop r))) (hr:r.state=.ready)
  (h:bA P ⟨f,[],some l⟩ N S Q k env (st.set o (.raw (.loop { r with state:=.busy })))):bA P ⟨f,[],some l⟩ N S Q (.beginRound::k) env st:=by
 intro g w tmps hinv hh he hN;have Ct:=hh.YU hS cT;obtain ⟨_,_,Lu⟩:=hinv.raw o _ ho;obtain ⟨h1,h2⟩:=hinv.Ks ho (.loop { r with state:=.busy });rw[Ct] at Lu h1 h2;exact e9.beginRound (run_beginRound Lu hr) (h g _ tmps h1 (hh.step h2) (he.mono h2.dZ) hN)
theorem bA.Gj {l:Nat} (hQ:Q (.d (cB true)) st):bA P ⟨f,[],some l⟩ N S Q [] env st :=
 λg w tmps hinv hh he hN=>e9.Gj ⟨_,_,st,g,rfl,hQ,.d _ _ (.ex _),hinv,hh⟩
theorem bA.rangeFunc {i:Nat} {it:FuncId} {Vj:O EV} {ps:uD Tmp} {assign body:Code} {st':St} (hx:lookup i env=some (.u0 it Vj)) (Fi:Enters P it) (hlen:st'.aS.length=st.aS.length)
  (hcall:∀ (S1:Start) (tm:uD uB) (D l:Nat),S1.base=S.base->Inv S1.g S1.base S1.w S1.st->tm.size=N->eB S1.g S1.w S1.st env tm->S1.g.ob (st.aS.length+1)=l ->
   S1.st=⟨st.aS++[.raw (.deferred (some [])),.raw (.loop { state:=.ready,pending:=none,fn:=f,tmps:=tm,params:=ps,assign,body,defers:=D })],st.av⟩ ->
   ∀ vs,vV S1.g S1.w S1.st (.d (.ex (.func (.yield l) #[] #[]))::Vj) vs ->
   Calls P it vs S1.w (pD S1 λ_ st2=>st2=⟨st'.aS++[.raw (.deferred (some [])),.raw (.loop { state:=.ready,pending:=none,fn:=f,tmps:=tm,params:=ps,assign,body,defers:=D })],st'.av⟩))
  (hk:∀ (S1:Start) (D:Nat) (x:Obj),S1.base=S.base->S1.g.ob st.aS.length=D->S1.st=⟨st'.aS++[.raw (.deferred (some [])),.raw x],st'.av⟩ ->
   bA P ⟨f,[{ target:=.collected D,args:=#[] }],none⟩ N S1 Q k env ⟨st'.aS++[.raw (.deferred (some [])),.raw x],st'.av⟩) :
  bA P (.of f) N S Q (.code (.rangeFunc (.tmp i) ps assign body)::k) env st:=by
 intro g w tmps hinv hh he hN;obtain ⟨v,hv1,hv2⟩:=he i _ hx;cases hv2 with
 | u0 _ _ vs Fj s7 =>
 have hg:Act.eval ⟨tmps,[]⟩ (.tmp i)=.func (.func it) #[] vs:=by simp [Act.eval,zau,hv1]
 obtain ⟨g1,i1,s1,ob1⟩:=hinv.newObj (.raw (.deferred (some []))) (.deferred (some [])) (λOn Fk e=>by cases e) (λes e=>by cases e) (λy e=>by cases e;rfl);obtain ⟨g2,i2,s2,ob2⟩:=i1.newObj (.raw (.loop { state:=.ready,pending:=none,fn:=f,tmps:=tmps,params:=ps,assign,body,defers:=w.heap.size })) (.loop { state:=.ready,pending:=none,fn:=f,tmps:=tmps,params:=ps,assign,body,defers:=w.heap.size }) (λOn Fk e=>by cases e) (λes e=>by cases e) (λy e=>by cases e;rfl);have mJ:(st.add (.raw (.deferred (some [])))).add (.raw (.loop { state:=.ready,pending:=none,fn:=f,tmps:=tmps,params:=ps,assign,body,defers:=w.heap.size })) =
   ⟨st.aS++[.raw (.deferred (some [])),.raw (.loop { state:=.ready,pending:=none,fn:=f,tmps:=tmps,params:=ps,assign,body,defers:=w.heap.size })],st.av⟩:=by simp [St.add]
 rw[mJ] at i2 s2;have CF:g2.ob (st.aS.length+1)=w.heap.size+1:=by
  have:(st.add (.raw (.deferred (some [])))).aS.length=st.aS.length+1:=by simp [St.add]
  rw[←this,ob2];simp [World.size_alloc]
 have YV:=s1.trans s2;have hD2:g2.ob st.aS.length=w.heap.size:=by
  have:st.aS.length<(st.add (.raw (.deferred (some [])))).aS.length:=by simp [St.add]
  rw[s2.dZ.ob _ this,ob1]
 have he2:=he.mono YV.dZ;have Mq:vV g2 ((w.alloc (.deferred (some []))).alloc (.loop { state:=.ready,pending:=none,fn:=f,tmps:=tmps,params:=ps,assign,body,defers:=w.heap.size })) ⟨st.aS++[.raw (.deferred (some [])),.raw (.loop { state:=.ready,pending:=none,fn:=f,tmps:=tmps,params:=ps,assign,body,defers:=w.heap.size })],st.av⟩ (.d (.ex (.func (.yield (w.heap.size+1)) #[] #[]))::Vj) (#[.func (.yield (w.heap.size+1)) #[] #[]]++vs):=by
  refine ⟨by simp [Fj,zdo],λj y u hy hu=>?_⟩;cases j with
  | zero =>
   rw[zdq (by simp)] at hu;simp at hy hu;subst hy;subst hu;exact .d _ _ (.ex _)
  | succ j =>
   simp only[List.getElem?_cons_succ] at hy;rw[Array.getElem?_append_right (by simp)] at hu;exact (s7 j y u hy (by simpa using hu)).mono YV.dZ
 refine e9.rangeFunc hg Fi ?_;refine (hcall ⟨g2,_,_,S.base⟩ tmps w.heap.size (w.heap.size+1) rfl i2 hN he2 CF rfl _ Mq).mono ?_;rintro e w2 ⟨v,r,st2,g3,rfl,rfl,hr,Xn,hh3⟩;refine ⟨⟨v,rfl⟩,?_⟩;have hoL:(⟨st'.aS++[.raw (.deferred (some [])),.raw (.loop { state:=.ready,pending:=none,fn:=f,tmps:=tmps,params:=ps,assign,body,defers:=w.heap.size })],st'.av⟩:St).aS[st.aS.length+1]?=some (.raw (.loop { state:=.ready,pending:=none,fn:=f,tmps:=tmps,params:=ps,assign,body,defers:=w.heap.size })):=by
  rw[zax (by omega)];simp [hlen]
 have hob3:g3.ob (st.aS.length+1)=w.heap.size+1:=(hh3.dZ.ob _ (by simp)).trans CF;have hob3D:g3.ob st.aS.length=w.heap.size:=(hh3.dZ.ob _ (by simp)).trans hD2;obtain ⟨_,_,Lu⟩:=Xn.raw _ _ hoL;rw[hob3] at Lu;obtain ⟨q1,q2⟩:=Xn.Ks hoL (.loop { state:=.exhausted,pending:=none,fn:=f,tmps:=tmps,params:=ps,assign,body,defers:=w.heap.size });rw[hob3] at q1 q2;refine ⟨_,run_endLoop Lu (by simp),?_⟩;have zp:(⟨st'.aS++[.raw (.deferred (some [])),.raw (.loop { state:=.ready,pending:=none,fn:=f,tmps:=tmps,params:=ps,assign,body,defers:=w.heap.size })],st'.av⟩:St).set (st.aS.length+1) (.raw (.loop { state:=.exhausted,pending:=none,fn:=f,tmps:=tmps,params:=ps,assign,body,defers:=w.heap.size })) =
   ⟨st'.aS++[.raw (.deferred (some [])),.raw (.loop { state:=.exhausted,pending:=none,fn:=f,tmps:=tmps,params:=ps,assign,body,defers:=w.heap.size })],st'.av⟩:=by
  unfold St.set;simp only;rw[List.set_append_right _ _ (by omega),←hlen,zfq];rfl
 rw[zp] at q1 q2;have qL:=(YV.trans hh3.toStep).trans q2;refine (hk ⟨g3,_,_,S.base⟩ w.heap.size _ rfl hob3D rfl g3 _ tmps q1 (s5.refl ⟨g3,_,_,S.base⟩) (he.mono qL.dZ) hN).mono ?_;rintro e w4 ⟨v4,r4,st4,g4,e1,e2,e3,e4,e5⟩;exact ⟨v4,r4,st4,g4,e1,e2,e3,e4,(hh.step qL).step e5.toStep⟩
theorem bA.YT {fn:Func} {D o:Nat} (xs:List ResultVar) (es:List EV) (hf:P.funcs[f]?=some fn) (hr:fn.results=xs.toArray) (hS:S.g.ob o=D) (cT:o<S.st.aS.length) (ho:st.aS[o]?=some (.raw (.deferred (some []))))
  (h:GC P env (st.set o (.raw (.deferred none))) xs es) (hQ:Q (GD es) (st.set o (.raw (.deferred none)))):bA P ⟨f,[{ target:=.collected D,args:=#[] }],none⟩ N S Q (.code .ret::k) env st:=by
 intro g w tmps hi hh he hn;have Ct:=hh.YU hS cT;obtain ⟨_,_,Lu⟩:=hi.raw o _ ho;obtain ⟨q1,q2⟩:=hi.Ks ho (.deferred none);rw[Ct] at Lu q1 q2;have he2:=he.mono q2.dZ;obtain ⟨vs,h1,h2,h3⟩:=J7 q1 he2 h;have iS:(results fn tmps).run P (w.putObj D (.deferred none))=.ok (if h:vs.toArray.size=1 then vs.toArray[0] else .tuple vs.toArray) (w.putObj D (.deferred none)):=by
  have Yp:(results fn tmps)=(do let vs ←fn.results.mapM (I9 tmps);pure (if h:vs.size=1 then vs[0] else .tuple vs)):=by
   unfold results;congr 1
  rw[Yp,hr,zfs];simp only[Sem.run_bind,Sem.run_map,h1,Result.andThen_ok,Sem.run_pure]
 refine e9.YT hf (run_takeDeferred Lu) iS ⟨_,GD es,_,g,rfl,hQ,?_,q1,hh.step q2⟩;by_cases hl:vs.toArray.size=1
 ·rw[dif_pos hl]
  match vs,es,h2,hl,h3 with
  | [v],[e],_,_,h3=>exact h3 0 e v rfl rfl
  | [],_,_,hl,_=>simp at hl
  | _::_::_,_,_,hl,_=>simp at hl
 ·rw[dif_neg hl]
  match vs,es,h2,hl,h3 with
  | [v],_,_,hl,_=>simp at hl
  | [],[],_,_,_=>exact .dN _ _ rfl (by simp)
  | a::b::l,a'::b'::l',h2,_,h3=>exact .dN _ _ (by simpa using h2) (λi e v he hv=>h3 i e v he (by simpa using hv))
end run
theorem Calls.YW {P:uG} {f:FuncId} {fn:Func} {c:Code} {N:Nat} {S:Start} {Q:EV->St->Prop} {args:O EV} {vs:uD uB} (hf:P.funcs[f]?=some fn) (hb:fn.body=some c) (hN:fn.ntmps=N) (hl:Nat.ble args.length N=true)
  (hi:Inv S.g S.base S.w S.st) (ha:vV S.g S.w S.st args vs) (h:bA P (.of f) N S Q [.code c] (BG 0 args) S.st):Calls P f vs S.w (pD S Q):=by
 have I5:=zaf hl;have gq:=ha.1;refine e9.calls hf hb ?_;refine h S.g S.w _ hi (s5.refl S) ?_ (by simp [hN];omega);intro j y hy;obtain ⟨k,rfl,hk⟩:=wq args 0 j y hy;have LG:=(zae.1 hk).1;refine ⟨vs[k]'(by omega),?_,ha.2 k y _ hk (by simp [gq,LG])⟩;rw[zbu,zdq (by omega)];simp [gq,LG]
section yield
variable {P:uG} {f:Ctx} {N:Nat} {S:Start} {Q:EV->St->Prop} {k:List Item} {env:Env} {st:St} {ops rest:List Oper} {ty:uE} {pos:String} {after:uD Edge}
theorem cr.YX {b:Bool} {d t x y:Tmp} {j o l p:Nat} {c:EV} {r:Loop} {a:D} {ts:uD uE} {st':St} (hj:(ops[j]?).bind (·.dst)=some t) (hl:lookup t env=some c) (hc:Gm c true=some b) (hbt:b=true) (hd:hZ N (some d)=true)
  (hx:lookup x env=some (.gd b (.d (.ex (.func (.yield l) #[] #[]))))) (hy:lookup y env=some (.gd b (.d a))) (ho:st.aS[o]?=some (.raw (.loop r))) (cT:o<S.st.aS.length) (hS:S.g.ob o=l) (hp:r.params=#[p])
  (OS:∀ S2:Start,wo S.g S.w S.st S2.g S2.w S2.st->S2.base=S.base->S2.st=st->Inv S2.g S2.base S2.w S2.st->∀ v,dY S2.g.lim S2.w a v ->
   e9 P ⟨r.fn,[],some l⟩ (pD S2 λ_ st2=>∃ r2,st2.aS[o]?=some (.raw (.loop r2))/\st'=st2.set o (.raw (.loop { r2 with state:=.ready,pending:=none }))) [.code r.assign,.beginRound,.code r.body] (r.tmps.setIfInBounds p v) S2.w)
  (hk:cr P f N S Q ops rest k ((d,.gd b (.d (cB true)))::env) st') :
  cr P f N S Q ops (⟨some d,.call ⟨.value (.tmp x),#[.tmp y],ts⟩,ty,pos,after,some (j,true)⟩::rest) k env st:=by
 subst hbt;intro i hi g w tmps hinv hh he hn;have oc:ops.toArray[i]?=some ⟨some d,.call ⟨.value (.tmp x),#[.tmp y],ts⟩,ty,pos,after,some (j,true)⟩:=by simpa using (hi 0).symm
 obtain ⟨v,hv,hr⟩:=he t c hl;have hw:Region.wanted ⟨some d,.call ⟨.value (.tmp x),#[.tmp y],ts⟩,ty,pos,after,some (j,true)⟩ (yielded ops.toArray tmps)=true:=by
  have X4:=uQ hc hr;have Ls:((ops.toArray)[j]?).bind (·.dst)=some t:=by simpa using hj
  simp only[Region.wanted,yielded,Ls,zac,hv];revert X4;cases v <;> exact λh=>h
 rw[zad,jE];have hi':∀ j:Nat,rest[j]?=ops[i+1+j]?:=λj=>by have:=hi (j+1);simpa [zco,zdo 1 j] using this
 obtain ⟨vx,hx1,hx2⟩:=he x _ hx;obtain ⟨vy,cV,fY⟩:=he y _ hy;have YF:vx=.func (.yield l) #[] #[]:=by
  cases hx2 with
  | gd _ _ _ _ h=>cases h rfl with|d _ _ h=>exact xP h
 have hvy:dY g.lim w a vy:=by
  cases fY with
  | gd _ _ _ _ h=>cases h rfl with|d _ _ h=>exact h
 subst YF;have Ct:=hh.YU hS cT;obtain ⟨_,_,Lu⟩:=hinv.raw o _ ho;rw[Ct] at Lu;have w9:=run_yield (P:=P) (args:=#[vy]) Lu (by rw[hp];rfl);have iS:(execOp (Act.eval ⟨tmps,[]⟩) ⟨some d,.call ⟨.value (.tmp x),#[.tmp y],ts⟩,ty,pos,after,some (j,true)⟩).run P w=.ok (.round l r.fn (r.tmps.setIfInBounds p vy) r.assign r.body) w:=by
  have e1:Act.eval ⟨tmps,[]⟩ (.tmp x)=.func (.yield l) #[] #[]:=by simp [Act.eval,zau,hx1]
  have e2:Act.eval ⟨tmps,[]⟩ (.tmp y)=vy:=by simp [Act.eval,zau,cV]
  rw[hp] at w9;simp only[execOp,resolve];rw[e1];simp only[Deferred.ofValue,Sem.run_bind,Sem.run_pure,Result.andThen_ok,invoke];simpa [e2] using w9
 refine e9.round oc hw iS ?_;refine (OS ⟨g,w,st,S.base⟩ hh.dZ rfl rfl hinv vy hvy).mono ?_;rintro e w2 ⟨v2,r2,st2,g2,rfl,⟨rr,hor,Yq⟩,Vb,Xo,hh2⟩;obtain ⟨_,_,hbk2⟩:=Xo.raw o _ hor;obtain ⟨q1,q2⟩:=Xo.Ks hor (.loop { rr with state:=.ready,pending:=none });have hob2:g2.ob o=l:=(hh2.dZ.ob o (zae.1 ho).1).trans Ct;rw[hob2] at hbk2 q1 q2;rw[←Yq] at q1 q2;refine ⟨_,run_endRound none hbk2,?_⟩;have qL:=hh2.toStep.trans q2;subst hn;exact hk (i+1) hi' g2 _ _ q1 (hh.step qL) (rZ (d:=some d) (he.mono qL.dZ) hd (.gd _ _ _ (λh=>by cases h) (λ_=>.d _ _ (.ex _)))) js
end yield
theorem yL.three {l:O Oper} {p:Nat} {σ:O Nat} (hs:yL l p σ) {a b c:Nat} (DN:a≠b) (ha:a<p) (hb:b<p) (hc:c<p) (Xj:((eG l []).getD c 0).testBit a=true) (YA:((eG l []).getD c 0).testBit b=true) :
  σ.filter (λi=>[a,b,c].any λe=>Nat.beq e i)=[a,b,c]∨σ.filter (λi=>[b,a,c].any λe=>Nat.beq e i)=[b,a,c]:=by
 obtain ⟨x,y,OH⟩:=zeg ((hs.mem c).2 hc);have h1:=hs.mask x c y OH;have ax:=h1 a Xj;have bx:=h1 b YA;have nd:=hs.nodup;rw[OH,zdl,zcb] at nd;obtain ⟨_,⟨cy,_⟩,dis⟩:=nd;have cx:∀ i,i∈x->i≠c:=λi hi=>dis i hi c (zaj ..)
 have ay:∀ i,i∈y->i≠a/\i≠b/\i≠c:=λi hi=>⟨λe=>dis a ax i (zai _ hi) e.symm,λe=>dis b bx i (zai _ hi) e.symm,λe=>cy (e▸hi)⟩
 have key:∀ (u v:Nat),((u=a/\v=b)∨(u=b/\v=a))->σ.filter (λi=>[u,v].any λe=>Nat.beq e i)=[u,v]->σ.filter (λi=>[u,v,c].any λe=>Nat.beq e i)=[u,v,c]:=by
  intro u v huv h;have q2:∀ i,([u,v].any λe=>Nat.beq e i)=true↔i=u∨i=v:=λi=>by
   simp only[zcs,zeh,zdh,zbv,Nat.beq_eq];exact ⟨λh=>h.imp zfo zfo,λh=>h.imp zfo zfo⟩
  have q3:∀ i,([u,v,c].any λe=>Nat.beq e i)=true↔i=u∨i=v∨i=c:=λi=>by
   simp only[zcs,zeh,zdh,zbv,Nat.beq_eq];exact ⟨λh=>h.imp zfo λh=>h.imp zfo zfo,λh=>h.imp zfo λh=>h.imp zfo zfo⟩
  have ny:∀ i,i∈y->i≠u/\i≠v/\i≠c:=λi hi=>by
   obtain ⟨p1,p2,p3⟩:=ay i hi;rcases huv with ⟨rfl,rfl⟩|⟨rfl,rfl⟩
   ·exact ⟨p1,p2,p3⟩
   ·exact ⟨p2,p1,p3⟩
  have cu:¬(c=u∨c=v):=by
   rcases huv with ⟨rfl,rfl⟩|⟨rfl,rfl⟩
   ·rintro (e|e)
    ·exact cx _ ax e.symm
    ·exact cx _ bx e.symm
   ·rintro (e|e)
    ·exact cx _ bx e.symm
    ·exact cx _ ax e.symm
  have y2:y.filter (λi=>[u,v].any λe=>Nat.beq e i)=[]:=zcx.2 λi hi k=>by
   obtain ⟨p1,p2,_⟩:=ny i hi;rcases (q2 i).1 k with e|e
   ·exact p1 e
   ·exact p2 e
  have y3:y.filter (λi=>[u,v,c].any λe=>Nat.beq e i)=[]:=zcx.2 λi hi k=>by
   obtain ⟨p1,p2,p3⟩:=ny i hi;rcases (q3 i).1 k with e|e|e
   ·exact p1 e
   ·exact p2 e
   ·exact p3 e
  have x3:x.filter (λi=>[u,v,c].any λe=>Nat.beq e i)=x.filter (λi=>[u,v].any λe=>Nat.beq e i):=zek λi hi=>by
   rw[zbl,q2,q3];exact ⟨λh=>h.imp id λh=>h.elim id λe=>absurd e (cx i hi),λh=>h.imp id .inl⟩
  rw[OH,zde,zbk,zaa (λk=>cu ((q2 c).1 k)),y2,zbp] at h;rw[OH,zde,zbk,zab ((q3 c).2 (.inr (.inr rfl))),y3,x3,h];rfl
 rcases hs.two DN ha hb with h|h
 ·exact .inl (key a b (.inl ⟨rfl,rfl⟩) h)
 ·exact .inr (key b a (.inr ⟨rfl,rfl⟩) h)
section run
variable {P:uG} {f:Ctx} {N:Nat} {S:Start} {Q:EV->St->Prop} {k:List Item}
theorem bA.VN {id:Nat} {l:O Oper} {env E0:Env} {st st0:St} (p a b c:Nat) (sts1 sts2:O St) (hm:P.follows .mixedOrders=true) (hB:cP l p=true) (DN:a≠b) (ha:a<p) (hb:b<p) (hc:c<p)
  (Xj:((eG l []).getD c 0).testBit a=true) (YA:((eG l []).getD c 0).testBit b=true) (h1:sts1[0]?=some st) (h2:sts2[0]?=some st)
  (H1:cr P f N S Q l (l.drop p) k E0 st0->kE P f N S Q l p [a,b,c] sts1 0 (l.take p) k env) (H2:cr P f N S Q l (l.drop p) k E0 st0->kE P f N S Q l p [b,a,c] sts2 0 (l.take p) k env)
  (h:cr P f N S Q l (l.drop p) k E0 st0):bA P f N S Q (.code (.region id l.toArray true)::k) env st :=
 .OE p hm hB λ_ hσ=>(hσ.three DN ha hb hc Xj YA).elim (λhE=>.eff hB hσ hE h1 (H1 h)) (λhE=>.eff hB hσ hE h2 (H2 h))
end run
end Go.Abs
namespace Go.Proofs.YtimkfiaffohhkabGreatDoor
open Go.RowKit Go.Abs
theorem mU:Tryz.prog.follows .mixedOrders=true:=by kernel_rfl
theorem sz_3:(Tryz.prog.info? 3).map (·.size)=some 1:=by kernel_rfl
theorem zD:∃ i,Tryz.prog.info? 3=some i/\i.zero=some (.int .i64 0)/\i.size=1/\i.bytes=8:=info_parts (by kernel_rfl)
theorem sz_4:(Tryz.prog.info? 4).map (·.size)=some 1:=by kernel_rfl
theorem Mr:∃ i,Tryz.prog.info? 4=some i/\i.zero=some (.bool false)/\i.size=1/\i.bytes=1:=info_parts (by kernel_rfl)
theorem Rx:∃ i,Tryz.prog.info? 9=some i/\i.zero=some (.string ⟨#[]⟩)/\i.size=1/\i.bytes=16:=info_parts (by kernel_rfl)
theorem Tf:∃ i,Tryz.prog.info? 27=some i/\i.zero=some (.slice none 0 0)/\i.size=1/\i.bytes=24:=info_parts (by kernel_rfl)
theorem Xp:(Tryz.prog.info? 30).map (·.size)=some 3:=by kernel_rfl
theorem CM:∃ i,Tryz.prog.info? 30=some i/\i.zero=some (.agg #[.slice none 0 0,.slice none 0 0,.slice none 0 0])/\i.size=3/\i.bytes=72:=info_parts (by kernel_rfl)
theorem Bg:(Tryz.prog.info? 34).map (·.size)=some 6:=by kernel_rfl
theorem P0:∃ i,Tryz.prog.info? 34=some i/\i.zero=some (.agg #[.slice none 0 0,.slice none 0 0,.slice none 0 0,.slice none 0 0,.slice none 0 0,.slice none 0 0])/\i.size=6/\i.bytes=144:=info_parts (by kernel_rfl)
theorem in_36:∃ i,Tryz.prog.info? 36=some i/\i.zero=some (.agg #[.int .i64 0,.int .i64 0,.int .i64 0,.slice none 0 0])/\i.size=4/\i.bytes=48:=info_parts (by kernel_rfl)
theorem P1:(Tryz.prog.info? 38).map (·.size)=some 2:=by kernel_rfl
theorem in_38:∃ i,Tryz.prog.info? 38=some i/\i.zero=some (.agg #[.int .i64 0,.int .i64 0])/\i.size=2/\i.bytes=16:=info_parts (by kernel_rfl)
theorem in_42:∃ i,Tryz.prog.info? 42=some i/\i.zero=some (.agg #[.int .i64 0,.int .i64 0,.int .i64 0,.int .i64 0,.int .i64 0,.int .i64 0,.slice none 0 0,.int .i64 0,.int .i64 0])/\i.size=9/\i.bytes=88:=info_parts (by kernel_rfl)
theorem Tg:∃ i,Tryz.prog.info? 53=some i/\i.zero=some (.agg #[.int .i64 0,.int .i64 0,.int .i64 0,.int .i64 0,.int .i64 0,.int .i64 0])/\i.size=6/\i.bytes=48:=info_parts (by kernel_rfl)
theorem sz_57:(Tryz.prog.info? 57).map (·.size)=some 7:=by kernel_rfl
theorem Th:∃ i,Tryz.prog.info? 57=some i/\i.zero=some (.agg #[.int .i64 0,.int .i64 0,.int .i64 0,.int .i64 0,.string ⟨#[]⟩,.string ⟨#[]⟩,.int .i64 0])/\i.size=7/\i.bytes=72:=info_parts (by kernel_rfl)
theorem gH:(Tryz.prog.info? 61).map (·.size)=some 12:=by kernel_rfl
theorem gI:∃ i,Tryz.prog.info? 61=some i/\i.zero=some (.agg #[.int .i64 0,.int .i64 0,.int .i64 0,.string ⟨#[]⟩,.string ⟨#[]⟩,.int .i64 0,.int .i64 0,.int .i64 0,.int .i64 0,.bool false,.int .i64 0,.bool false])/\i.size=12/\i.bytes=112:=info_parts (by kernel_rfl)
theorem Jo:(Tryz.prog.info? 64).map (·.size)=some 12:=by kernel_rfl
theorem Bh:∃ i,Tryz.prog.info? 64=some i/\i.zero=some (.agg #[.int .i64 0,.int .i64 0,.int .i64 0,.int .i64 0,.string ⟨#[]⟩,.string ⟨#[]⟩,.int .i64 0,.int .i64 0,.int .i64 0,.bool false,.int .i64 0,.int .i64 0])/\i.size=12/\i.bytes=112:=info_parts (by kernel_rfl)
theorem Xq:∃ i,Tryz.prog.info? 70=some i/\i.zero=some (.agg #[.slice none 0 0,.slice none 0 0,.slice none 0 0,.slice none 0 0,.slice none 0 0,.slice none 0 0,.slice none 0 0])/\i.size=7/\i.bytes=168:=info_parts (by kernel_rfl)
theorem CN:∃ i,Tryz.prog.info? 88=some i/\i.zero=some (.agg #[.int .i64 0,.int .i64 0,.int .i64 0,.int .i64 0])/\i.size=4/\i.bytes=32:=info_parts (by kernel_rfl)
theorem E3:∃ i,Tryz.prog.info? 91=some i/\i.zero=some (.agg #[.int .i64 0,.int .i64 0,.int .i64 0,.int .i64 0])/\i.size=4/\i.bytes=32:=info_parts (by kernel_rfl)
theorem in_95:∃ i,Tryz.prog.info? 95=some i/\i.zero=some (.slice none 0 0)/\i.size=1/\i.bytes=24:=info_parts (by kernel_rfl)
theorem Ti:∃ i,Tryz.prog.info? 97=some i/\i.zero=some (.agg #[.slice none 0 0,.slice none 0 0,.slice none 0 0])/\i.size=3/\i.bytes=72:=info_parts (by kernel_rfl)
theorem GX:(Tryz.prog.info? 102).map (·.size)=some 3:=by kernel_rfl
theorem rb:∃ i,Tryz.prog.info? 102=some i/\i.zero=some (.agg #[.int .i64 0,.int .i64 0,.int .i64 0])/\i.size=3/\i.bytes=24:=info_parts (by kernel_rfl)
theorem YY:∃ i,Tryz.prog.info? 133=some i/\i.zero=some (.agg #[.int .i64 0,.int .i64 0])/\i.size=2/\i.bytes=16:=info_parts (by kernel_rfl)
theorem YZ:∃ i,Tryz.prog.info? 140=some i/\i.zero=some (.agg #[.bool false,.bool false,.bool false,.bool false,.bool false])/\i.size=5/\i.bytes=5:=info_parts (by kernel_rfl)
theorem Y0:(Tryz.prog.info? 144).map (·.size)=some 6:=by kernel_rfl
theorem GY:∃ i,Tryz.prog.info? 144=some i/\i.zero=some (.agg #[.int .i64 0,.int .i64 0,.int .i64 0,.bool false,.bool false,.slice none 0 0])/\i.size=6/\i.bytes=56:=info_parts (by kernel_rfl)
theorem Kt:(Tryz.prog.info? 148).map (·.size)=some 8:=by kernel_rfl
theorem zE:∃ i,Tryz.prog.info? 148=some i/\i.zero=some (.agg #[.int .i64 0,.int .i64 0,.int .i64 0,.string ⟨#[]⟩,.slice none 0 0,.slice none 0 0,.bool false,.bool false])/\i.size=8/\i.bytes=96:=info_parts (by kernel_rfl)
theorem Y1:∃ i,Tryz.prog.info? 151=some i/\i.zero=some (.agg #[.int .i64 0,.int .i64 0,.int .i64 0,.string ⟨#[]⟩,.string ⟨#[]⟩,.int .i64 0,.int .i64 0,.int .i64 0,.int .i64 0,.bool false,.int .i64 0,.bool false])/\i.size=12/\i.bytes=112:=info_parts (by kernel_rfl)
theorem Y2:∃ i,Tryz.prog.info? 153=some i/\i.zero=some (.agg #[.int .i64 0,.int .i64 0,.int .i64 0,.string ⟨#[]⟩,.string ⟨#[]⟩,.int .i64 0,.int .i64 0,.int .i64 0,.int .i64 0,.bool false,.int .i64 0,.bool false,.slice none 0 0])/\i.size=13/\i.bytes=136:=info_parts (by kernel_rfl)
theorem Y3:∃ i,Tryz.prog.info? 163=some i/\i.zero=some (.agg #[.int .i64 0,.int .i64 0])/\i.size=2/\i.bytes=16:=info_parts (by kernel_rfl)
theorem Y4:∃ i,Tryz.prog.info? 189=some i/\i.zero=some (.agg #[.int .i64 0,.int .i64 0])/\i.size=2/\i.bytes=16:=info_parts (by kernel_rfl)
theorem Y5:∃ i,Tryz.prog.info? 203=some i/\i.zero=some (.agg #[.slice none 0 0,.slice none 0 0])/\i.size=2/\i.bytes=48:=info_parts (by kernel_rfl)
theorem Y6:∃ i,Tryz.prog.info? 209=some i/\i.zero=some (.agg #[.int .i64 0,.int .i64 0,.int .i64 0,.string ⟨#[]⟩,.string ⟨#[]⟩,.int .i64 0,.bool false])/\i.size=7/\i.bytes=72:=info_parts (by kernel_rfl)
theorem Y7:∃ i,Tryz.prog.info? 270=some i/\i.zero=some (.agg #[.map none,.map none,.map none,.map none,.map none,.slice none 0 0,.slice none 0 0])/\i.size=7/\i.bytes=88:=info_parts (by kernel_rfl)
theorem VO:fQ Tryz.prog 30 0=some 0:=by kernel_rfl
theorem VP:fQ Tryz.prog 30 2=some 2:=by kernel_rfl
theorem uw:fQ Tryz.prog 34 1=some 3:=by kernel_rfl
theorem Ku:fQ Tryz.prog 34 2=some 4:=by kernel_rfl
theorem FW:fQ Tryz.prog 57 2=some 2:=by kernel_rfl
theorem Ak:fQ Tryz.prog 57 3=some 3:=by kernel_rfl
theorem qp:fQ Tryz.prog 70 0=some 0:=by kernel_rfl
theorem Am:fQ Tryz.prog 70 1=some 6:=by kernel_rfl
theorem VQ:fQ Tryz.prog 97 0=some 0:=by kernel_rfl
theorem VR:fQ Tryz.prog 97 1=some 1:=by kernel_rfl
theorem VS:fQ Tryz.prog 97 2=some 2:=by kernel_rfl
theorem GZ:fQ Tryz.prog 148 1=some 1:=by kernel_rfl
theorem CO:fQ Tryz.prog 270 0=some 0:=by kernel_rfl
theorem xa:fQ Tryz.prog 270 1=some 1:=by kernel_rfl
theorem td:(Tryz.prog.underlying 3).map lS=some true:=by kernel_rfl
theorem Xr:(Tryz.prog.underlying 4).map lS=some true:=by kernel_rfl
theorem D2:(Tryz.prog.underlying 22).map lS=some true:=by kernel_rfl
theorem Y8:(Tryz.prog.underlying 26).map lS=some true:=by kernel_rfl
theorem OT:(Tryz.prog.underlying 27).map lS=some true:=by kernel_rfl
theorem Y9:(Tryz.prog.underlying 28).map lS=some true:=by kernel_rfl
theorem Za:(Tryz.prog.underlying 30).map lS=some false:=by kernel_rfl
theorem xZ:(Tryz.prog.underlying 31).map lS=some true:=by kernel_rfl
theorem BZ:(Tryz.prog.underlying 34).map lS=some false:=by kernel_rfl
theorem Kv:(Tryz.prog.underlying 38).map lS=some false:=by kernel_rfl
theorem Zb:(Tryz.prog.underlying 57).map lS=some false:=by kernel_rfl
theorem eQ:(Tryz.prog.underlying 61).map lS=some false:=by kernel_rfl
theorem OU:(Tryz.prog.underlying 64).map lS=some false:=by kernel_rfl
theorem Tj:(Tryz.prog.underlying 93).map lS=some true:=by kernel_rfl
theorem D3:(Tryz.prog.underlying 94).map lS=some true:=by kernel_rfl
theorem D4:(Tryz.prog.underlying 95).map lS=some true:=by kernel_rfl
theorem CP:(Tryz.prog.underlying 102).map lS=some false:=by kernel_rfl
theorem P2:(Tryz.prog.underlying 148).map lS=some false:=by kernel_rfl
theorem FX:(Tryz.prog.underlying 267).map lS=some true:=by kernel_rfl
theorem An:(Tryz.prog.underlying 268).map lS=some true:=by kernel_rfl
theorem yM:placesOf Tryz.prog 30=some [(0,1),(1,1),(2,1)]:=by kernel_rfl
theorem E4:placesOf Tryz.prog 34=some [(0,3),(3,1),(4,1),(5,1)]:=by kernel_rfl
theorem P3:placesOf Tryz.prog 36=some [(0,1),(1,1),(2,1),(3,1)]:=by kernel_rfl
theorem pl_38:placesOf Tryz.prog 38=some [(0,1),(1,1)]:=by kernel_rfl
theorem P4:placesOf Tryz.prog 53=some [(0,1),(1,1),(2,1),(3,1),(4,1),(5,1)]:=by kernel_rfl
theorem P5:placesOf Tryz.prog 57=some [(0,1),(1,1),(2,1),(3,1),(4,1),(5,1),(6,1)]:=by kernel_rfl
theorem Bi:placesOf Tryz.prog 61=some [(0,1),(1,1),(2,1),(3,1),(4,1),(5,1),(6,1),(7,1),(8,1),(9,1),(10,1),(11,1)]:=by kernel_rfl
theorem Bj:placesOf Tryz.prog 64=some [(0,1),(1,1),(2,1),(3,1),(4,1),(5,1),(6,1),(7,1),(8,1),(9,1),(10,1),(11,1)]:=by kernel_rfl
theorem Xs:placesOf Tryz.prog 70=some [(0,6),(6,1)]:=by kernel_rfl
theorem Tk:placesOf Tryz.prog 88=some [(0,1),(1,1),(2,1),(3,1)]:=by kernel_rfl
theorem Tl:placesOf Tryz.prog 91=some [(0,1),(1,1),(2,1),(3,1)]:=by kernel_rfl
theorem Tm:placesOf Tryz.prog 97=some [(0,1),(1,1),(2,1)]:=by kernel_rfl
theorem Tn:placesOf Tryz.prog 102=some [(0,1),(1,1),(2,1)]:=by kernel_rfl
theorem Zc:placesOf Tryz.prog 133=some [(0,1),(1,1)]:=by kernel_rfl
theorem To:placesOf Tryz.prog 144=some [(0,1),(1,1),(2,1),(3,1),(4,1),(5,1)]:=by kernel_rfl
theorem G0:placesOf Tryz.prog 148=some [(0,1),(1,1),(2,1),(3,1),(4,1),(5,1),(6,1),(7,1)]:=by kernel_rfl
theorem Zd:placesOf Tryz.prog 151=some [(0,12)]:=by kernel_rfl
theorem Ze:placesOf Tryz.prog 153=some [(0,12),(12,1)]:=by kernel_rfl
theorem Zf:placesOf Tryz.prog 163=some [(0,1),(1,1)]:=by kernel_rfl
theorem Zg:placesOf Tryz.prog 189=some [(0,1),(1,1)]:=by kernel_rfl
theorem Zh:placesOf Tryz.prog 203=some [(0,1),(1,1)]:=by kernel_rfl
theorem Zi:placesOf Tryz.prog 209=some [(0,2),(2,1),(3,1),(4,1),(5,1),(6,1)]:=by kernel_rfl
theorem Zj:placesOf Tryz.prog 270=some [(0,1),(1,1),(2,1),(3,1),(4,1),(5,1),(6,1)]:=by kernel_rfl
theorem zr_30:(Tryz.prog.info? 30).bind (·.zero)=some (.agg #[.slice none 0 0,.slice none 0 0,.slice none 0 0]):=by kernel_rfl
theorem zr_32:(Tryz.prog.info? 32).bind (·.zero)=some (.slice none 0 0):=by kernel_rfl
theorem P6:(Tryz.prog.info? 34).bind (·.zero)=some (.agg #[.slice none 0 0,.slice none 0 0,.slice none 0 0,.slice none 0 0,.slice none 0 0,.slice none 0 0]):=by kernel_rfl
theorem zr_38:(Tryz.prog.info? 38).bind (·.zero)=some (.agg #[.int .i64 0,.int .i64 0]):=by kernel_rfl
theorem zr_42:(Tryz.prog.info? 42).bind (·.zero)=some (.agg #[.int .i64 0,.int .i64 0,.int .i64 0,.int .i64 0,.int .i64 0,.int .i64 0,.slice none 0 0,.int .i64 0,.int .i64 0]):=by kernel_rfl
theorem zr_53:(Tryz.prog.info? 53).bind (·.zero)=some (.agg #[.int .i64 0,.int .i64 0,.int .i64 0,.int .i64 0,.int .i64 0,.int .i64 0]):=by kernel_rfl
theorem zr_57:(Tryz.prog.info? 57).bind (·.zero)=some (.agg #[.int .i64 0,.int .i64 0,.int .i64 0,.int .i64 0,.string ⟨#[]⟩,.string ⟨#[]⟩,.int .i64 0]):=by kernel_rfl
theorem Ms:(Tryz.prog.info? 61).bind (·.zero)=some (.agg #[.int .i64 0,.int .i64 0,.int .i64 0,.string ⟨#[]⟩,.string ⟨#[]⟩,.int .i64 0,.int .i64 0,.int .i64 0,.int .i64 0,.bool false,.int .i64 0,.bool false]):=by kernel_rfl
theorem P7:(Tryz.prog.info? 64).bind (·.zero)=some (.agg #[.int .i64 0,.int .i64 0,.int .i64 0,.int .i64 0,.string ⟨#[]⟩,.string ⟨#[]⟩,.int .i64 0,.int .i64 0,.int .i64 0,.bool false,.int .i64 0,.int .i64 0]):=by kernel_rfl
theorem zr_88:(Tryz.prog.info? 88).bind (·.zero)=some (.agg #[.int .i64 0,.int .i64 0,.int .i64 0,.int .i64 0]):=by kernel_rfl
theorem zr_91:(Tryz.prog.info? 91).bind (·.zero)=some (.agg #[.int .i64 0,.int .i64 0,.int .i64 0,.int .i64 0]):=by kernel_rfl
theorem Mt:(Tryz.prog.info? 97).bind (·.zero)=some (.agg #[.slice none 0 0,.slice none 0 0,.slice none 0 0]):=by kernel_rfl
theorem Zk:(Tryz.prog.info? 102).bind (·.zero)=some (.agg #[.int .i64 0,.int .i64 0,.int .i64 0]):=by kernel_rfl
theorem Zl:(Tryz.prog.info? 133).bind (·.zero)=some (.agg #[.int .i64 0,.int .i64 0]):=by kernel_rfl
theorem Zm:(Tryz.prog.info? 140).bind (·.zero)=some (.agg #[.bool false,.bool false,.bool false,.bool false,.bool false]):=by kernel_rfl
theorem OV:(Tryz.prog.info? 144).bind (·.zero)=some (.agg #[.int .i64 0,.int .i64 0,.int .i64 0,.bool false,.bool false,.slice none 0 0]):=by kernel_rfl
theorem OW:(Tryz.prog.info? 148).bind (·.zero)=some (.agg #[.int .i64 0,.int .i64 0,.int .i64 0,.string ⟨#[]⟩,.slice none 0 0,.slice none 0 0,.bool false,.bool false]):=by kernel_rfl
theorem Zn:(Tryz.prog.info? 153).bind (·.zero)=some (.agg #[.int .i64 0,.int .i64 0,.int .i64 0,.string ⟨#[]⟩,.string ⟨#[]⟩,.int .i64 0,.int .i64 0,.int .i64 0,.int .i64 0,.bool false,.int .i64 0,.bool false,.slice none 0 0]):=by kernel_rfl
theorem Zo:(Tryz.prog.info? 163).bind (·.zero)=some (.agg #[.int .i64 0,.int .i64 0]):=by kernel_rfl
theorem Zp:(Tryz.prog.info? 189).bind (·.zero)=some (.agg #[.int .i64 0,.int .i64 0]):=by kernel_rfl
theorem Zq:(Tryz.prog.info? 203).bind (·.zero)=some (.agg #[.slice none 0 0,.slice none 0 0]):=by kernel_rfl
theorem Zr:(Tryz.prog.info? 209).bind (·.zero)=some (.agg #[.int .i64 0,.int .i64 0,.int .i64 0,.string ⟨#[]⟩,.string ⟨#[]⟩,.int .i64 0,.bool false]):=by kernel_rfl
theorem Zs:(Tryz.prog.info? 251).bind (·.zero)=some (.pointer none):=by kernel_rfl
theorem Tp:jd Tryz.prog 53=some [.i .i64,.i .i64,.i .i64,.i .i64,.i .i64,.i .i64]:=by kernel_rfl
theorem Xt:jd Tryz.prog 61=some [.i .i64,.i .i64,.i .i64,.s,.s,.i .i64,.i .i64,.i .i64,.i .i64,.b,.i .i64,.b]:=by kernel_rfl
theorem fk_64:jd Tryz.prog 64=some [.i .i64,.i .i64,.i .i64,.i .i64,.s,.s,.i .i64,.i .i64,.i .i64,.b,.i .i64,.i .i64]:=by kernel_rfl
theorem fk_88:jd Tryz.prog 88=some [.i .i64,.i .i64,.i .i64,.i .i64]:=by kernel_rfl
theorem Tq:jd Tryz.prog 91=some [.i .i64,.i .i64,.i .i64,.i .i64]:=by kernel_rfl
theorem Zt:jd Tryz.prog 102=some [.i .i64,.i .i64,.i .i64]:=by kernel_rfl
theorem Zu:jd Tryz.prog 133=some [.i .i64,.i .i64]:=by kernel_rfl
theorem OX:jd Tryz.prog 163=some [.i .i64,.i .i64]:=by kernel_rfl
theorem Zv:jd Tryz.prog 189=some [.i .i64,.i .i64]:=by kernel_rfl
theorem Zw:PT Tryz.prog 209=some [.i .i64,.i .i64,.i .i64,.s,.s,.i .i64,.b]:=by kernel_rfl
def ens:List Nat:=[77,124,125,126,127,129,80,81,128,131,130,76,78,79,132,133,82,42,43,18,144,184,167,168,121,122,123,97,98,74,99,45,23,44,166,165,101,120,145,146,147,100,72,102,105,59,158,89,139,73,94,37,141,93,88,140,91,161,162,107,108,106,53,54,55,50,56,57,60,209,210,202,203,188,189,201,190,191,174,173,134,135,136,83,84,46,47,48,26,20,21,40,118,67,69,68,70,119,71,36,39,75,34,33,32,35,38,16,19,12,8,15,163,110,138,137,85,86,87,49,22,90,92,51,24,95,116,115,143,142,96,52,25,109,111,112,113,164,114,117,61,62,65,63,64,27,30,66,31,29,28,41,4,5,7,6,17,14,9,11,10,13]
theorem en (i:Nat) {f:Nat} (h:ens[i]?=some f):Go.Abs.Enters Tryz.prog f:=Go.Abs.enters_of (by kernel_rfl) h
def Kw:FT:=⟨[3,4,9,22,26,27,28,31,32,47,93,94,95,125,146,206,238,251,267,268],[(30,3),(34,6),(36,4),(38,2),(42,9),(53,6),(57,7),(61,12),(64,12),(88,4),(91,4),(97,3),(102,3),(133,2),(140,5),(144,6),(148,8),(151,12),(153,13),(163,2),(189,2),(203,2),(209,7)],[(3,1),(4,1),(9,1),(26,1),(27,1),(28,1),(30,3),(31,1),(32,1),(34,6),(38,2),(42,9),(53,6),(57,7),(61,12),(64,12),(88,4),(91,4),(93,1),(94,1),(95,1),(97,3),(102,3),(133,2),(140,5),(144,6),(146,1),(148,8),(153,13),(163,2),(189,2),(203,2),(209,7),(251,1)],[(30,[(0,0),(1,1),(2,2)]),(34,[(0,0),(1,3),(2,4),(3,5)]),(36,[(0,0),(1,1),(2,2),(3,3)]),(38,[(0,0),(1,1)]),(40,[(0,0),(1,4)]),(42,[(0,0),(1,1),(2,2),(3,3)]),(53,[(0,0),(1,1),(2,2),(3,3),(4,4),(5,5)]),(57,[(0,0),(1,1),(2,2),(3,3),(4,4),(5,5),(6,6)]),(61,[(0,0),(1,1),(2,2),(3,3),(4,4),(5,5),(6,6),(7,7),(8,8),(9,9),(10,10),(11,11)]),(64,[(0,0),(1,1),(2,2),(3,3),(4,4),(5,5),(6,6),(7,7),(8,8),(9,9),(10,10),(11,11)]),(70,[(0,0)]),(88,[(2,2),(3,3)]),(91,[(0,0),(1,1),(2,2),(3,3)]),(97,[(0,0),(1,1),(2,2)]),(102,[(0,0),(1,1),(2,2)]),(144,[(0,0),(3,3),(4,4),(5,5)]),(148,[(0,0),(1,1),(3,3),(4,4),(5,5),(6,6),(7,7)]),(151,[(0,0)]),(153,[(0,0),(1,12)]),(203,[(0,0),(1,1)]),(270,[(0,0),(1,1),(2,2),(3,3),(4,4),(5,5),(6,6)])],[(30,[aT,aT,aT]),(32,[aT]),(34,[aT,aT,aT,aT,aT,aT]),(38,[cI 0,cI 0]),(42,[cI 0,cI 0,cI 0,cI 0,cI 0,cI 0,aT,cI 0,cI 0]),(53,[cI 0,cI 0,cI 0,cI 0,cI 0,cI 0]),(57,[cI 0,cI 0,cI 0,cI 0,cS ([]:List uA),cS ([]:List uA),cI 0]),(61,[cI 0,cI 0,cI 0,cS ([]:List uA),cS ([]:List uA),cI 0,cI 0,cI 0,cI 0,cB false,cI 0,cB false]),(64,[cI 0,cI 0,cI 0,cI 0,cS ([]:List uA),cS ([]:List uA),cI 0,cI 0,cI 0,cB false,cI 0,cI 0]),(88,[cI 0,cI 0,cI 0,cI 0]),(91,[cI 0,cI 0,cI 0,cI 0]),(97,[aT,aT,aT]),(102,[cI 0,cI 0,cI 0]),(133,[cI 0,cI 0]),(140,[cB false,cB false,cB false,cB false,cB false]),(144,[cI 0,cI 0,cI 0,cB false,cB false,aT]),(148,[cI 0,cI 0,cI 0,cS ([]:List uA),aT,aT,cB false,cB false]),(153,[cI 0,cI 0,cI 0,cS ([]:List uA),cS ([]:List uA),cI 0,cI 0,cI 0,cI 0,cB false,cI 0,cB false,aT]),(163,[cI 0,cI 0]),(189,[cI 0,cI 0]),(203,[aT,aT]),(209,[cI 0,cI 0,cI 0,cS ([]:List uA),cS ([]:List uA),cI 0,cB false]),(251,[.ex (.pointer none)])]⟩
theorem Fq:Kw.Ok Tryz.prog:=FT.ok_of (by kernel_rfl) ⟨⟨_,zr_30,rfl⟩,⟨_,zr_32,rfl⟩,⟨_,P6,rfl⟩,⟨_,zr_38,rfl⟩,⟨_,zr_42,rfl⟩,⟨_,zr_53,rfl⟩,⟨_,zr_57,rfl⟩,⟨_,Ms,rfl⟩,⟨_,P7,rfl⟩,⟨_,zr_88,rfl⟩,⟨_,zr_91,rfl⟩,⟨_,Mt,rfl⟩,⟨_,Zk,rfl⟩,⟨_,Zl,rfl⟩,⟨_,Zm,rfl⟩,⟨_,OV,rfl⟩,⟨_,OW,rfl⟩,⟨_,Zn,rfl⟩,⟨_,Zo,rfl⟩,⟨_,Zp,rfl⟩,⟨_,Zq,rfl⟩,⟨_,Zr,rfl⟩,⟨_,Zs,rfl⟩,trivial⟩
theorem Kx:Lx Tryz.prog 22 57 7:=.of Tryz.underlying22 Th rfl rfl
theorem s23:Lx Tryz.prog 23 42 9:=.of Tryz.underlying23 in_42 rfl rfl
theorem CQ:Lx Tryz.prog 26 102 3:=.of Tryz.underlying26 rb rfl rfl
theorem fw:Lx Tryz.prog 27 61 12:=.of Tryz.underlying27 gI rfl rfl
theorem Ih:Lx Tryz.prog 28 91 4:=.of Tryz.underlying28 E3 rfl rfl
theorem Ii:Lx Tryz.prog 31 64 12:=.of Tryz.underlying31 Bh rfl rfl
theorem OY:Lx Tryz.prog 32 88 4:=.of Tryz.underlying32 CN rfl rfl
theorem VT:Lx Tryz.prog 93 144 6:=.of Tryz.underlying93 GY rfl rfl
theorem G1:Lx Tryz.prog 94 148 8:=.of Tryz.underlying94 zE rfl rfl
theorem Bl:Lx Tryz.prog 95 3 1:=.of Tryz.underlying95 zD rfl rfl
theorem tN:Lx Tryz.prog 146 9 1:=.of Tryz.underlying146 Rx rfl rfl
theorem VU:Lx Tryz.prog 190 27 1:=.of Tryz.underlying190 Tf rfl rfl
end Go.Proofs.YtimkfiaffohhkabGreatDoor
namespace Go.Abs
open Go.Proofs Go.Proofs.YtimkfiaffohhkabGreatDoor
section
variable {f:Ctx} {N p p':Nat} {S:Start} {Q:EV->St->Prop} {k k':List Item} {l o l' o':List Oper} {env env':Env} {st st':St} {ps:List Prop}
theorem bA.A (n:Nat) (hs:O Hint) (h:PW Tryz.prog S.base Kw N n (.run k) env st hs=some ⟨.run k',env',st',ps⟩) (hp:tc ps) (hk:bA Tryz.prog f N S Q k' env' st'):bA Tryz.prog f N S Q k env st:=sg Fq mU h hp hk
theorem bA.E (n:Nat) (h:PW Tryz.prog S.base Kw N n (.run k) env st []=some ⟨.run k',env',st',[]⟩) (hk:bA Tryz.prog f N S Q k' env' st'):bA Tryz.prog f N S Q k env st:=.A n [] h trivial hk
theorem bA.AH (n:Nat) (hs:O Hint) (h:VL Tryz.prog S.base Kw N n (.run k) env st hs=some ⟨.run k',env',st',ps⟩) (hp:tc ps) (hk:bA Tryz.prog f N S Q k' env' st'):bA Tryz.prog f N S Q k env st:=D1 Fq mU h hp hk
theorem bA.EH (n:Nat) (h:VL Tryz.prog S.base Kw N n (.run k) env st []=some ⟨.run k',env',st',[]⟩) (hk:bA Tryz.prog f N S Q k' env' st'):bA Tryz.prog f N S Q k env st:=.AH n [] h trivial hk
theorem bA.B (n:Nat) (hs:O Hint) (h:PW Tryz.prog S.base Kw N n (.run k) env st hs=some ⟨.ops l' o' k',env',st',ps⟩) (hp:tc ps) (hk:cr Tryz.prog f N S Q l' o' k' env' st'):bA Tryz.prog f N S Q k env st:=sg Fq mU h hp hk
theorem bA.F (n:Nat) (h:PW Tryz.prog S.base Kw N n (.run k) env st []=some ⟨.ops l' o' k',env',st',[]⟩) (hk:cr Tryz.prog f N S Q l' o' k' env' st'):bA Tryz.prog f N S Q k env st:=.B n [] h trivial hk
theorem bA.BH (n:Nat) (hs:O Hint) (h:VL Tryz.prog S.base Kw N n (.run k) env st hs=some ⟨.ops l' o' k',env',st',ps⟩) (hp:tc ps) (hk:cr Tryz.prog f N S Q l' o' k' env' st'):bA Tryz.prog f N S Q k env st:=D1 Fq mU h hp hk
theorem bA.FH (n:Nat) (h:VL Tryz.prog S.base Kw N n (.run k) env st []=some ⟨.ops l' o' k',env',st',[]⟩) (hk:cr Tryz.prog f N S Q l' o' k' env' st'):bA Tryz.prog f N S Q k env st:=.BH n [] h trivial hk
theorem bA.C (n:Nat) (hs:O Hint) (h:PW Tryz.prog S.base Kw N n (.run k) env st hs=some ⟨.draw l' p' o' k',env',st',ps⟩) (hp:tc ps) (hk:za Tryz.prog f N S Q l' p' o' k' env' st'):bA Tryz.prog f N S Q k env st:=sg Fq mU h hp hk
theorem cr.A (n:Nat) (hs:O Hint) (h:PW Tryz.prog S.base Kw N n (.ops l o k) env st hs=some ⟨.run k',env',st',ps⟩) (hp:tc ps) (hk:bA Tryz.prog f N S Q k' env' st'):cr Tryz.prog f N S Q l o k env st:=sg Fq mU h hp hk
theorem cr.E (n:Nat) (h:PW Tryz.prog S.base Kw N n (.ops l o k) env st []=some ⟨.run k',env',st',[]⟩) (hk:bA Tryz.prog f N S Q k' env' st'):cr Tryz.prog f N S Q l o k env st:=.A n [] h trivial hk
theorem cr.AH (n:Nat) (hs:O Hint) (h:VL Tryz.prog S.base Kw N n (.ops l o k) env st hs=some ⟨.run k',env',st',ps⟩) (hp:tc ps) (hk:bA Tryz.prog f N S Q k' env' st'):cr Tryz.prog f N S Q l o k env st:=D1 Fq mU h hp hk
theorem cr.EH (n:Nat) (h:VL Tryz.prog S.base Kw N n (.ops l o k) env st []=some ⟨.run k',env',st',[]⟩) (hk:bA Tryz.prog f N S Q k' env' st'):cr Tryz.prog f N S Q l o k env st:=.AH n [] h trivial hk
theorem cr.B (n:Nat) (hs:O Hint) (h:PW Tryz.prog S.base Kw N n (.ops l o k) env st hs=some ⟨.ops l' o' k',env',st',ps⟩) (hp:tc ps) (hk:cr Tryz.prog f N S Q l' o' k' env' st'):cr Tryz.prog f N S Q l o k env st:=sg Fq mU h hp hk
theorem cr.F (n:Nat) (h:PW Tryz.prog S.base Kw N n (.ops l o k) env st []=some ⟨.ops l' o' k',env',st',[]⟩) (hk:cr Tryz.prog f N S Q l' o' k' env' st'):cr Tryz.prog f N S Q l o k env st:=.B n [] h trivial hk
theorem cr.C (n:Nat) (hs:O Hint) (h:PW Tryz.prog S.base Kw N n (.ops l o k) env st hs=some ⟨.draw l' p' o' k',env',st',ps⟩) (hp:tc ps) (hk:za Tryz.prog f N S Q l' p' o' k' env' st'):cr Tryz.prog f N S Q l o k env st:=sg Fq mU h hp hk
theorem za.C (n:Nat) (hs:O Hint) (h:PW Tryz.prog S.base Kw N n (.draw l p o k) env st hs=some ⟨.draw l' p' o' k',env',st',ps⟩) (hp:tc ps) (hk:za Tryz.prog f N S Q l' p' o' k' env' st'):za Tryz.prog f N S Q l p o k env st:=sg Fq mU h hp hk
theorem bA.R {f:FuncId} {fn:Func} {xs:O ResultVar} {es:O EV} (hf:Tryz.prog.funcs[f]?=some fn) (hr:fn.results=xs.toArray) (h:OM Kw env st xs=some es) (hQ:Q (GD es) st):bA Tryz.prog (.of f) N S Q (.code .ret::k) env st:=.rc Fq hf hr h hQ
end
end Go.Abs
namespace Go.Proofs.YtimkfiaffohhkabGreatDoor
end Go.Proofs.YtimkfiaffohhkabGreatDoor
