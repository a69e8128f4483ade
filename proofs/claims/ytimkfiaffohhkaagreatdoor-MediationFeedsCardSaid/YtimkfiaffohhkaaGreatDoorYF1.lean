/- Our own texts of this seat. -/
import Derived.Test.YtimkfiaffohhkaaGreatDoorYF0
import Derived.Laws.CopyRow
import Derived.ChangeKeysEq
import Derived.Laws.MakeOwn
import Derived.Lib.AppendZerosOnto
import Derived.WalkKit
import Derived.Lib.Walk
import Derived.Shelf.RegionOpenPlain
import Derived.Lib.Overlaps
import Derived.Lib.SliceRun
import Derived.Lib.JoinLaws
import Derived.RangeFuncLeaves
import Derived.RangeFuncRecord
import Derived.Test.YtimkfiaffohhkaaGreatDoorRows
set_option linter.unusedSimpArgs false
set_option linter.unusedVariables false
set_option linter.unusedSectionVars false
set_option maxRecDepth 100000
set_option maxHeartbeats 1000000
namespace Go.Abs
open Go.RowKit
section rules
variable {P:Program} {f:Ctx} {N:Nat} {S:Start} {Q:EV->St->Prop} {k:List Item} {todo:List Item} {base:Nat} {env:Env} {st:St} {ops rest:List Oper}
 {d:Option Tmp} {ty:TypeId} {pos:String} {after:Array Edge} {gd:Option (Nat×Bool)} {t t2 e:TypeId} {x y z:Operand}
section sl
variable {α:Type} {sz:Nat} {row:α->List D} {l:List α} {ev:EV} {inf:TypeInfo} {tk n:Nat}
theorem HQ {l':List α} {zv v u:Value} {d2:TypeDesc} {g:bT} {w:World} {news:List Value} (ht:P.underlying t=some (.slice e)) (BQ:P.underlying t2=some d2) (FP:d2=.string∨∃ e2,d2=.slice e2)
  (hi:P.info? e=some inf) (hz:inf.zero=some zv) (ey:inf.size=sz) (qf:zv.cells.size=sz) (hb:inf.bytes<=100000) (hinv:Inv g base w st) (hv:v=g.tk tk) (eN:st.ar[tk]?=some ⟨e,sz,n,some (l.map row)⟩)
  (hn:l.length+l'.length<=1000000000) (sC:zO P g.lim w sz u (l'.map row) news) :
  ∃ v' g' w',(Builtin.append_ #[t,t2] ty #[v,u]).run P w=.ok v' w'/\bJ g' w' (st.bC tk ⟨e,sz,(l++l').length,some ((l++l').map row)⟩) (.vc tk (l++l').length) v' /\
   Inv g' base w' (st.bC tk ⟨e,sz,(l++l').length,some ((l++l').map row)⟩)/\Step base g w st g' w' (st.bC tk ⟨e,sz,(l++l').length,some ((l++l').map row)⟩):=by
 obtain ⟨GD,xs,j4,zL,Xm⟩:=HP hinv eN hv;have UY:n=l.length:=by have:=Xm.len;simpa using this.symm
 have hm:(l'.map row).length=l'.length:=by simp
 obtain ⟨v',w',gY,j0,Sf,hc⟩:=kX (P:=P) (ty:=ty) w ht BQ FP hi hz ey qf j4 sC.src (by simp only [maxLen];rw [hm];omega) (by rw [hm,UY];exact BW hn hb) hinv.base;rw [hm] at j0 Sf;have e1:(l++l').length=n+l'.length:=by rw [zai,UY]
 rw [e1];rw [GD] at hc Sf;have jv:de g.lim w sz (n+l'.length) ((l++l').map row) (xs++news):=by
  refine ⟨by simp [UY],λr hr=>?_,λj c u CG hu=>?_⟩
  ·rw [zdr] at hr;rcases zbm.1 hr with h|h
   ·exact Xm.row r h
   ·exact sC.rows r h
  ·rw [zdr,zeg] at CG;have Dd:=iK Xm.row;have vS:=j4.1;rw [Xm.len] at Dd;by_cases hj:j<xs.length
   ·rw [zan hj] at hu;rw [zan (by omega)] at CG;exact Xm.rep j c u CG hu
   ·rw [zav (by omega)] at hu;rw [zav (by omega)] at CG;have e2:((l.map row).flatten).length=xs.length:=by omega
    rw [e2] at CG;exact sC.rep _ u c hu CG
 obtain ⟨g',q1,q2,q3,q4⟩:=hinv.Oh (x':=⟨e,sz,n+l'.length,some ((l++l').map row)⟩) eN j0 hc (λhh=>by cases hh) (λrows _ bw _=>⟨rfl,Nat.le_add_right _ _,λe=>Sf (by simp only at e;omega)⟩) (λrows hh=>by cases hh;exact jv);refine ⟨v',g',w',gY,?_,q3,q4⟩;have hlen:tk<st.ar.length:=(zad.1 eN).1;obtain ⟨⟨A,c,hv⟩,_⟩:=iM j0;refine .vc _ _ _ (by simpa [St.bC] using hlen) ⟨A,_,c,hv⟩ λy rows hy ho=>?_
 have:y=⟨e,sz,n+l'.length,some ((l++l').map row)⟩:=by
  have:(⟨e,sz,n+l'.length,some ((l++l').map row)⟩:gD)=y:=by simpa [St.bC,zbj,hlen] using hy
  exact this.symm
 subst this;exact ⟨zap _,λ_=>.inl q1.symm⟩
theorem CO {l':List α} {zv v u:Value} {d2:TypeDesc} {g:bT} {w:World} {news:List Value} (ht:P.underlying t=some (.slice e)) (BQ:P.underlying t2=some d2) (FP:d2=.string∨∃ e2,d2=.slice e2)
  (hi:P.info? e=some inf) (hz:inf.zero=some zv) (ey:inf.size=sz) (qf:zv.cells.size=sz) (hb:inf.bytes<=100000) (hinv:Inv g base w st) (hv:bJ g w st (.vc tk n) v) (eN:st.ar[tk]?=some ⟨e,sz,n,some (l.map row)⟩)
  (hn:l.length+l'.length<=1000000000) (sC:zO P g.lim w sz u (l'.map row) news) :
  ∃ v' g' w',(Builtin.append_ #[t,t2] ty #[v,u]).run P w=.ok v' w'/\bJ g' w' (st.bC tk ⟨e,sz,(l++l').length,some ((l++l').map row)⟩) (.vc tk (l++l').length) v' /\
   Inv g' base w' (st.bC tk ⟨e,sz,(l++l').length,some ((l++l').map row)⟩)/\Step base g w st g' w' (st.bC tk ⟨e,sz,(l++l').length,some ((l++l').map row)⟩):=by
 rcases sk hinv eN hv with GD|⟨n0,r0,A,hA⟩
 ·exact HQ ht BQ FP hi hz ey qf hb hinv GD eN hn sC
 ·subst n0;have hl:l=[]:=by simpa using r0
  subst hl;have hlen:tk<st.ar.length:=(zad.1 eN).1;have hm:(l'.map row).length=l'.length:=by simp
  obtain ⟨q1,q2⟩:=vY (P:=P) (ty:=ty) ht BQ FP hi hz ey sC.src (by simp at hn ⊢;omega) (by rw [hm];exact BW (by simpa using hn) hb) A;by_cases h0:l'.length=0
  ·have RW:l'=[]:=zba h0;subst RW;have mc:st.bC tk ⟨e,sz,([]++[]:List α).length,some (([]++[]:List α).map row)⟩=st:=by
    have h3:st.ar[tk]=⟨e,sz,0,some (([]:List α).map row)⟩:=(zad.1 eN).2;unfold St.bC;show (⟨st.aP,st.ar.set tk ⟨e,sz,0,some (([]:List α).map row)⟩⟩:St)=st;rw [←h3,List.set_getElem_self]
   rw [mc];exact ⟨v,g,w,by rw [hA];exact q1 rfl,P5 hlen eN ⟨A,hA⟩,hinv,.refl _ _ _ _⟩
  ·obtain ⟨v',w',gY,j0,_,hc⟩:=kX (P:=P) (ty:=ty) w ht BQ FP hi hz ey qf (World.ownsRow_nil w base e sz) sC.src (by simp only [maxLen];rw [hm];simp at hn;omega) (by rw [hm];exact BW (by simpa using hn) hb) hinv.base;rw [hm] at j0;have rX:v'.ownBlock=some w.heap.size/\Below w.heap.size w w':=by
    rcases hc with ⟨h1,_⟩|h
    ·exfalso;rcases j0.2 with ⟨_,h2⟩|⟨gb,cap,cur,h2,_⟩
     ·exact h0 (by omega)
     ·rw [h2] at h1;cases h1
    ·exact h
   have e1:([]++l':List α).length=0+l'.length:=by simp
   rw [e1];have jv:de g.lim w sz (0+l'.length) (([]++l':List α).map row) ([]++news):=by
    refine ⟨by simp,λr hr=>sC.rows r (by simpa using hr),λj c u CG hu=>?_⟩;exact sC.rep j u c (by simpa using hu) (by simpa using CG)
   obtain ⟨g',q1',q2',q3,q4⟩:=hinv.Oh (x':=⟨e,sz,0+l'.length,some (([]++l':List α).map row)⟩) eN j0 (.inr rX) (λhh=>by cases hh) (λrows _ bw _=>⟨rfl,zfh _,λe=>absurd e (by simp only;omega)⟩) (λrows hh=>by cases hh;exact jv);refine ⟨v',g',w',by rw [hA,q2 (by rw [hm];exact h0)];exact gY,?_,q3,q4⟩;obtain ⟨⟨A',c,MY⟩,_⟩:=iM j0;refine .vc _ _ _ (by simpa [St.bC] using hlen) ⟨A',_,c,MY⟩ λy rows hy ho=>?_
   have:y=⟨e,sz,0+l'.length,some (([]++l':List α).map row)⟩:=by
    have:(⟨e,sz,0+l'.length,some (([]++l':List α).map row)⟩:gD)=y:=by simpa [St.bC,zbj,hlen] using hy
    exact this.symm
   subst this;exact ⟨zap _,λ_=>.inl q1'.symm⟩
theorem HR {l':List α} {zv:Value} {d2:TypeDesc} (ht:P.underlying t=some (.slice e)) (BQ:P.underlying t2=some d2) (FP:d2=.string∨∃ e2,d2=.slice e2)
  (hi:P.info? e=some inf) (hz:inf.zero=some zv) (ey:inf.size=sz) (qf:zv.cells.size=sz) (hb:inf.bytes<=100000) (hx:cP env x=some (.vc tk n)) (eN:st.ar[tk]?=some ⟨e,sz,n,some (l.map row)⟩)
  (hn:l.length+l'.length<=1000000000)
  (u9:∀ (g:bT) (w:World) (tmps:Array Value),Inv g base w st->dO g w st env tmps->∃ news,zO P g.lim w sz (Act.eval ⟨tmps,[]⟩ y) (l'.map row) news) :
  xl P base env st ⟨d,.call ⟨.builtin .append,#[x,y],#[t,t2]⟩,ty,pos,after,gd⟩ (.vc tk (l++l').length) (st.bC tk ⟨e,sz,(l++l').length,some ((l++l').map row)⟩):=by
 intro g w tmps hinv he;obtain ⟨news,sC⟩:=u9 g w tmps hinv he;obtain ⟨v',g',w',gY,h1,h2,h3⟩:=CO (ty:=ty) ht BQ FP hi hz ey qf hb hinv (aM he hx) eN hn sC;exact ⟨v',g',w',by simp [execOp,resolve,invoke,builtin,gY],h1,h2,h3⟩
theorem gq {l':List α} {zv:Value} {w:EV} (ht:P.underlying t=some (.slice e)) (hi:P.info? e=some inf) (hz:inf.zero=some zv) (ey:inf.size=sz) (qf:zv.cells.size=sz) (hb:inf.bytes<=100000)
  (hx:cP env x=some (.vc tk n)) (eN:st.ar[tk]?=some ⟨e,sz,n,some (l.map row)⟩) (hy:cP env y=some w) (hs:uD w=some (sz,l'.map row)) (hn:l.length+l'.length<=1000000000) :
  xl P base env st ⟨d,.call ⟨.builtin .append,#[x,y],#[t,t]⟩,ty,pos,after,gd⟩ (.vc tk (l++l').length) (st.bC tk ⟨e,sz,(l++l').length,some ((l++l').map row)⟩) :=
 HR ht ht (.inr ⟨e,rfl⟩) hi hz ey qf hb hx eN hn λg w tmps _ he=>sV (ru hs (aM he hy))
theorem vg (row:α->List D) (ht:P.underlying t=some (.slice e)) (hi:P.info? e=some inf) (fE:inf.size=sz) :
  xl P base env st ⟨d,.buildSlice t 0 #[],ty,pos,after,gd⟩ (.vc st.ar.length ([]:List α).length) (st.tok ⟨e,sz,([]:List α).length,some (([]:List α).map row)⟩):=by
 intro g w tmps hinv he;obtain ⟨g',h1,_,_,h2,h3⟩:=hinv.sB ⟨e,sz,0,some []⟩ (v:=.slice (some ⟨w.heap.size,0,none⟩) 0 0) (xs:=[]) ⟨by simp,.inr ⟨w.heap.size,0,#[],rfl,hinv.base,heap_alloc_new w _,zap _,by simp [maxLen],by simp,by simp⟩⟩
  (.inr ⟨rfl,(Below.refl _ w).alloc (zap _) _⟩) (λrows hh=>by cases hh;exact ⟨rfl,by simp,by simp⟩)
 refine ⟨.slice (some ⟨w.heap.size,0,none⟩) 0 0,g',_,?_,.vc _ _ _ (by simp [St.tok]) ⟨_,_,_,rfl⟩ λy rows hy ho=>?_,h2,h3⟩
 ·simp [execOp,Instr.buildSlice,run_underlying ht,pf hi,newRow,Instr.fill];rw [show Array.map (λ_=>(default:Value)) (Array.range 0)=#[] from by simp [Array.range_zero']]
 ·have:y=⟨e,sz,0,some []⟩:=by simpa [St.tok,zeq] using hy
  subst this;exact ⟨zap _,λ_=>.inl h1.symm⟩
end sl
end rules
section norm
variable {P:Program} {f:Ctx} {N:Nat} {S:Start} {Q:EV->St->Prop} {k:List Item} {todo:List Item} {env:Env} {st:St} {ops rest:List Oper}
theorem bq.wh {α:Type} {l:List α} {row:α->List D} {i tk e sz n:Nat} (hl:lookup i env=some (.vc tk n)) (eN:st.ar[tk]?=some ⟨e,sz,n,some (l.map row)⟩)
  (h:bq P f N S Q todo ((i,.cz sz (l.map row) tk)::env) (st.bC tk ⟨e,sz,l.length,none⟩)):bq P f N S Q todo env st :=
 .UZ eN λhn=>.freeze hl eN (by rw [hn];exact h)
theorem cd.wh {α:Type} {l:List α} {row:α->List D} {i tk e sz n:Nat} (hl:lookup i env=some (.vc tk n)) (eN:st.ar[tk]?=some ⟨e,sz,n,some (l.map row)⟩)
  (h:cd P f N S Q ops rest k ((i,.cz sz (l.map row) tk)::env) (st.bC tk ⟨e,sz,l.length,none⟩)):cd P f N S Q ops rest k env st :=
 λj hj=>.wh hl eN (h j hj)
theorem bq.JT {α:Type} {l:List α} {row:α->List D} {tk e sz n:Nat} (E:Nat->Env) (T:Nat->St) (eN:st.ar[tk]?=some ⟨e,sz,n,some (l.map row)⟩) (hE:cZ env (E n)) (hT:st=T n)
  (h:bq P f N S Q todo (E l.length) (T l.length)):bq P f N S Q todo env st :=
 .UZ eN λhn=>.sub hE (by rw [hT,hn];exact h)
end norm
theorem dX.Ox {es xs:List EV} (h:wg es xs):dX (.dV es) (.dV xs):=by
 intro g w st v hv;obtain ⟨h1,h2⟩:=h.get;cases hv with
 | dV _ vs hs hc =>
  refine .dV _ vs (by rw [hs,h1]) λi d u hd hu=>?_
  obtain ⟨e,he,hle⟩:=h2 i d hd;exact hle _ _ _ _ (hc i e u he hu)
theorem bd {n m:Nat} {κ α:Type} {ke:κ->Value} {val:α->D} {l:List (κ×α)}:kf n m (.map (jM ke val l))=true:=by
 unfold kf jM;rw [zbd];intro p hp;obtain ⟨q,_,rfl⟩:=zdj.1 hp;rfl
theorem dC {ρ τ:Nat->Nat} {κ α:Type} {ke:κ->Value} {val:α->D} {l:List (κ×α)}:dI.ren ρ τ (.map (jM ke val l))=.map (jM ke val l):=by
 simp [dI.ren,jM,EV.ren]
theorem dD {ρ τ:Nat->Nat} {T:TypeId} {α:Type} {l:List α} {c1:α->D}:dI.ren ρ τ (.row T (l.map λb=>EV.d (c1 b)))=.row T (l.map λb=>EV.d (c1 b)):=by
 have h:∀ l:List α,EV.ren.HL ρ τ (l.map λb=>EV.d (c1 b))=l.map λb=>EV.d (c1 b):=by
  intro l
  induction l with
  | nil=>rfl
  | cons x l ih=>rw [zao,EV.ren.HL,ih];rfl
 rw [dI.ren,h]
section drawn
variable {P:Program} {f:Ctx} {N:Nat} {S:Start} {Q:EV->St->Prop} {k:List Item}
def OpE (P:Program) (base:Nat) (l:List Oper) (env:Env) (st:St) (o:Oper) (x:EV) (st':St):Prop :=
 (st'=st/\ug P l env st o x)∨(o.guard=none/\xl P base env st o x st')∨(o.guard=none/\x=.d .any/\Hv P base env st o st')
theorem JU {l:List Oper} {p:Nat} {env:Env} {xs:List EV} (F:(Nat->Bool)->St->Prop) (hp:p<=l.length) (TK:xs.length=p)
  (X0:∀ i j t,i<p->j<p->i≠j->ek l i=some t->ek l j≠some t)
  (TF:∀ (i:Nat) o,i<p->l[i]?=some o->∀ t∈JG l o,∀ j,j<p->j≠i->ek l j=some t->(j<i/\((dS l []).getD i 0).testBit j=true)∨(i<j/\((dS l []).getD j 0).testBit i=true))
  (D8:∀ i,p<=i->i<l.length->∀ j,j<i->((dS l []).getD i 0).testBit j=true)
  (wQ:∀ (i:Nat) o,l[i]?=some o->∀ e∈o.after,Region.binds .any e=true->e.on<i)
  (oY:∀ (L:Nat->Bool) (st:St) (i:Nat) (o:Oper),i<p->l[i]?=some o->L i=false->(∀ j,((dS l []).getD i 0).testBit j=true->L j=true)->(∀ a,L a=true->∀ b,((dS l []).getD a 0).testBit b=true->L b=true)->F L st ->
   fV N o.dst=true/\∃ x st',xs[i]?=some x/\OpE P S.base l (mf l o (fY env ((l.take p).take i) (xs.take i))) st o x st'/\F (λj=>j==i || L j) st')
  (BT:∀ (L:Nat->Bool) (st:St),(∀ i,i<p->L i=true)->F L st->cd P f N S Q l (l.drop p) k (fY env (l.take p) xs) st) :
  ∀ (FR fuel t:Nat) (listed:Array Bool) (g:bT) (w:World) (tmps:Array Value) (st:St),F (λi=>listed.getD i false) st->listed.size=l.length->vZ l listed->(∀ i,p<=i->i<l.length->listed.getD i true=false) ->
   (((List.range p).filter λi=>!listed.getD i true).length=FR)->FR+(l.length-p)<=fuel->Inv g S.base w st->rm S g w st->tmps.size=N ->
   (∀ (s:Tmp),(∀ (j:Nat) x,j<p->listed.getD j false=true->ek l j=some s->xs[j]?=some x->∃ v,tmps[s]?=some v/\bJ g w st x v) /\
    ((∀ j,j<p->listed.getD j false=true->ek l j≠some s)->∀ y,lookup s env=some y->∃ v,tmps[s]?=some v/\bJ g w st y v)) ->
   ep P f (nC S Q) (.inRegion l.toArray (Region.linearise.go .any l.toArray fuel t listed [])::k) tmps w:=by
 have vS:xs.length=(l.take p).length:=by simp;omega
 have hxl':=TK;intro FR
 induction FR with
 | zero =>
  intro fuel t listed g w tmps st hF hs rp PQ AN JH hinv hh hN hJ;have oO:∀ i,i<p->listed.getD i true=true:=by
   intro i hi;have h0:=zba AN;have hn:i ∉ (List.range p).filter λi=>!listed.getD i true:=by rw [h0];simp
   rw [zcl,List.mem_range] at hn;cases hb:listed.getD i true with
   | true=>rfl
   | false=>exact absurd ⟨hi,by simp [hb]⟩ hn
  have X1:=yi D8 wQ fuel t p listed (zap _) hp (by omega) hs (λi hi=>by
   by_cases h:i<p
   ·rw [oO i h];simp [h]
   ·rw [PQ i (by omega) hi];simp [h])
  rw [X1];have Ax:(l.drop p).length=l.length-p:=by simp
  rw [←Ax];have M0:∀ i,i<p->listed.getD i false=true:=λi hi=>by
   have:=oO i hi;have cE:i<listed.size:=by omega
   simpa [zar,cE] using this
  refine BT _ st M0 hF p (λj=>by rw [zbb]) g w tmps hinv hh (λs y hy=>?_) hN;rcases jL vS hy with ⟨j,o,h1,h2,h3⟩|⟨h1,h2⟩
  ·have hj:j<p:=by have:=(zad.1 h2).1;omega
   have ho:l[j]?=some o:=by rw [zam] at h1;rw [zab hj] at h1;exact h1
   exact (hJ s).1 j y hj (M0 j hj) (by simp [ek,ho,h3]) h2
  ·refine (hJ s).2 (λj hj _ hd=>?_) y h2;cases ho:l[j]? with
   | none=>simp [ek,ho] at hd
   | some o=>exact h1 j o (by rw [zam,zab hj];exact ho) (by simpa [ek,ho] using hd)
 | succ FR ih =>
  intro fuel t listed g w tmps st hF hs rp PQ AN JH hinv hh hN hJ;obtain ⟨fuel,rfl⟩:∃ n,fuel=n+1:=⟨fuel-1,by omega⟩
  -- an operation of the beginning that has not come up
  have hex:∃ i,i<p/\listed.getD i true=false:=by
   have:(List.range p).filter (λi=>!listed.getD i true)≠[]:=λh=>by rw [h] at AN;simp at AN
   obtain ⟨i,hi⟩:=zex _ this;rw [zcl,List.mem_range] at hi;exact ⟨i,hi.1,by simpa using hi.2⟩
  have Oj:∀ i,i<l.length->listed.getD i false=listed.getD i true:=λi hi=>by
   have cE:i<listed.size:=by omega
   simp [zar,cE]
  have UE:((List.range l.toArray.size).filter λi=>!listed.getD i true && ((l.toArray[i]?).map (·.after.all λe=>!Region.binds .any e || listed.getD e.on false)).getD false)=Region.ready .any l.toArray listed:=rfl
  -- the least such is ready
  have eT:Region.ready .any l.toArray listed≠[]:=by
   have PR:∀ n i,i<=n->i<p->listed.getD i true=false->∃ i,i<p/\listed.getD i true=false/\∀ j,j<i->listed.getD j true=true:=by
    intro n
    induction n with
    | zero=>intro i hi Ol h;exact ⟨i,Ol,h,λj hj=>by omega⟩
    | succ n X2 =>
     intro i hi Ol h;by_cases LA:∃ j,j<i/\listed.getD j true=false
     ·obtain ⟨j,hj,FU⟩:=LA;exact X2 j (by omega) (by omega) FU
     ·refine ⟨i,Ol,h,λj hj=>?_⟩;cases hb:listed.getD j true with
      | true=>rfl
      | false=>exact absurd ⟨j,hj,hb⟩ LA
   obtain ⟨i0,h0,h1⟩:=hex;obtain ⟨i,HD,JI,nf⟩:=PR i0 i0 (zap _) h0 h1;have nL:i<l.length:=by omega
   have:i∈Region.ready .any l.toArray listed:=by
    rw [mem_ready];refine ⟨JI,l[i],by simp [nL],λe he hb=>?_⟩;have cE:=wQ i l[i] (zae nL) e he hb;rw [Oj _ (by omega)];exact nf _ cE
   intro FQ;rw [FQ] at this;cases this
  simp only [Region.linearise.go,UE];have hlen:0<(Region.ready .any l.toArray listed).length:=zcw.2 eT;have xp:=zed t hlen;generalize hi:(Region.ready .any l.toArray listed)[t % (Region.ready .any l.toArray listed).length]=i;have CK:(Region.ready .any l.toArray listed)[t % (Region.ready .any l.toArray listed).length]?=some i:=by rw [zae xp,hi]
  rw [CK];simp only [];rw [linearise_go_acc];have Xg:i∈Region.ready .any l.toArray listed:=zbh CK;obtain ⟨JI,o,ho,oO⟩:=mem_ready.1 Xg;have na:l[i]?=some o:=by simpa using ho
  have nL:=(zad.1 na).1;have tc:=v8 rp na (λe he hb=>oO e he hb);have HD:i<p:=by
   rcases zfp i p with h|h
   ·exact h
   ·obtain ⟨i0,h0,h1⟩:=hex;have:=tc i0 (D8 i h nL i0 (by omega));rw [Oj i0 (by omega),h1] at this;cases this
  obtain ⟨hd,x,st',hx,vd,hF'⟩:=oY _ st i o HD na (by show listed.getD i false=false;rw [Oj i nL,JI]) tc (λa ha b hb=>by
   have TG:=v7 rp l [] (by simp) (by simp);have X3:(dS l [])[a]?=some ((dS l []).getD a 0):=by
    cases hm:(dS l [])[a]? with
    | none=>rw [zcb,hm] at hb;simp at hb
    | some m=>rw [zcb,hm];rfl
   exact TG a _ X3 ha b hb) hF
  have hFn:(λj=>(listed.setIfInBounds i true).getD j false)=λj=>j==i || listed.getD j false:=by
   funext j;by_cases lR:j=i
   ·subst lR;simp [zar,hs,nL]
   ·rw [getD_set_ne false (zcf lR)];simp [lR]
  have TG:=v7 rp l [] (by simp) (by simp)
  -- what the operation looks at
  have he:dO g w st (mf l o (fY env ((l.take p).take i) (xs.take i))) tmps:=by
   intro s y hy;obtain ⟨Pq,Jl⟩:=tb hy;rcases jL (by simp [vS]) Jl with ⟨j,o',h1,h2,h3⟩|⟨h1,h2⟩
   ·have lR:j<i:=by have:=(zad.1 h2).1;simp at this;omega
    have AO:l[j]?=some o':=by
     rw [zam,zab lR,zam,zab (by omega)] at h1;exact h1
    have uh:ek l j=some s:=by simp [ek,AO,h3]
    rcases TF i o HD na s Pq j (by omega) (by omega) uh with ⟨_,hb⟩|⟨cE,_⟩
    ·exact (hJ s).1 j y (by omega) (tc j hb) uh (by rw [zam,zab lR] at h2;exact h2)
    ·omega
   ·refine (hJ s).2 (λj hj yj uh=>?_) y h2;by_cases lR:j=i
    ·subst lR;rw [Oj j nL,JI] at yj;cases yj
    ·rcases TF i o HD na s Pq j hj lR uh with ⟨cE,_⟩|⟨cE,hb⟩
     ·cases AO:l[j]? with
      | none=>simp [ek,AO] at uh
      | some o'=>exact h1 j o' (by rw [zam,zab cE,zam,zab hj];exact AO) (by simpa [ek,AO] using uh)
     ·have FU:j<l.length:=by omega
      have X3:(dS l [])[j]?=some ((dS l []).getD j 0):=by
       cases hm:(dS l [])[j]? with
       | none=>rw [zcb,hm] at hb;simp at hb
       | some m=>rw [zcb,hm];rfl
      have:=TG j _ X3 yj i hb;rw [Oj i nL,JI] at this;cases this
  -- what remains behind it
  have JJ:((List.range p).filter λj=>!(listed.setIfInBounds i true).getD j true).length=FR:=by
   have xq:∀ j,(listed.setIfInBounds i true).getD j true=(listed.getD j true || decide (j=i)):=by
    intro j;by_cases lR:j=i
    ·subst lR;simp [zar,hs,nL]
    ·rw [getD_set_ne true (zcf lR)];simp [lR]
   have PS:((List.range p).filter λj=>!(listed.setIfInBounds i true).getD j true)=((List.range p).filter λj=>!listed.getD j true).filter λj=>!decide (j=i):=by
    rw [List.filter_filter];refine zeb λj _=>?_
    rw [xq j];cases listed.getD j true <;> simp
   rw [PS];have TE:((List.range p).filter λj=>!listed.getD j true).Nodup:=List.nodup_range.filter _;have tV:i∈(List.range p).filter λj=>!listed.getD j true:=by rw [zcl,List.mem_range];exact ⟨HD,by simp [JI]⟩
   have D9:∀ (L:List Nat),L.Nodup->i∈L->(L.filter λj=>!decide (j=i)).length+1=L.length:=by
    intro L
    induction L with
    | nil=>intro _ h;cases h
    | cons a L X4 =>
     intro hn hm;rw [zby] at hn;by_cases ha:a=i
     ·subst ha;have:(L.filter λj=>!decide (j=a))=L:=by
       rw [zdn];intro b hb;have:b≠a:=λe=>hn.1 (e▸hb)
       simp [this]
      rw [zbo];simp [this]
     ·have yI:i∈L:=by
       rcases zaq.1 hm with h|h
       ·exact absurd h.symm ha
       ·exact h
      rw [zbo];simp only [ha,zey,zcj,zbu,zag];rw [X4 hn.2 yI]
   have:=D9 _ TE tV;omega
  have PT:vZ l (listed.setIfInBounds i true):=by
   intro j oj AO yj e Aw hb;by_cases lR:j=i
   ·subst lR;rw [na] at AO;cases AO;exact getD_set_true (oO e Aw hb)
   ·rw [getD_set_ne false (zcf lR)] at yj;exact getD_set_true (rp j oj AO yj e Aw hb)
  have PU:∀ j,p<=j->j<l.length->(listed.setIfInBounds i true).getD j true=false:=λj hj FU=>by rw [getD_set_ne true (by omega)];exact PQ j hj FU
  -- the step
  have next:∀ (g':bT) (w':World) (v:Value),bJ g' w' st' x v->Inv g' S.base w' st'->Step S.base g w st g' w' st' ->
    ep P f (nC S Q) (.inRegion l.toArray (Region.linearise.go .any l.toArray fuel (t / (Region.ready .any l.toArray listed).length) (listed.setIfInBounds i true) [])::k) (Act.put ⟨tmps,[]⟩ o.dst v).tmps w':=by
   intro g' w' v AK dR ma;refine ih fuel _ _ _ w' _ st' (by rw [hFn];exact hF') (by simpa using hs) PT PU JJ (by omega) dR (hh.step ma) (by rw [ia];exact hN) λs=>⟨λj y hj yj uh hy=>?_,λM1 y hy=>?_⟩
   ·by_cases lR:j=i
    ·subst lR;have JK:o.dst=some s:=by simpa [ek,na] using uh
     rw [hx] at hy;cases hy;rw [JK];have fE:s<tmps.size:=by
      rw [JK] at hd;have X5:s+1<=N:=zaf hd;rw [hN];exact X5
     exact ⟨v,by simp [Act.put,fE],AK⟩
    ·rw [getD_set_ne false (zcf lR)] at yj;obtain ⟨u,h1,h2⟩:=(hJ s).1 j y hj yj uh hy;have o9:o.dst≠some s:=λe=>X0 j i s hj HD lR uh (by simp [ek,na,e])
     refine ⟨u,?_,h2.mono ma.dy⟩;cases PV:o.dst with
     | none=>exact h1
     | some d =>
      have:d≠s:=λe=>o9 (by rw [PV,e])
      simp [Act.put,zcc,this,h1]
   ·have o9:o.dst≠some s:=λe=>M1 i HD (by simp [zar,hs,nL]) (by simp [ek,na,e])
    obtain ⟨u,h1,h2⟩:=(hJ s).2 (λj hj yj=>M1 j hj (by
     by_cases lR:j=i
     ·subst lR;simp [zar,hs,nL]
     ·rw [getD_set_ne false (zcf lR)];exact yj)) y hy
    refine ⟨u,?_,h2.mono ma.dy⟩;cases PV:o.dst with
    | none=>exact h1
    | some d =>
     have:d≠s:=λe=>o9 (by rw [PV,e])
     simp [Act.put,zcc,this,h1]
  have FG:l.toArray[i]?=some o:=ho;show ep P f (nC S Q) (.inRegion l.toArray (i::_)::k) tmps w;have xx:st'=st->∀ (dh:Nat->Nat) (w':World) (v:Value),Good g w st x dh w' v ->
    ep P f (nC S Q) (.inRegion l.toArray (Region.linearise.go .any l.toArray fuel (t / (Region.ready .any l.toArray listed).length) (listed.setIfInBounds i true) [])::k) (Act.put ⟨tmps,[]⟩ o.dst v).tmps w':=by
   rintro rfl dh w' v ⟨AK,hb,hl⟩;obtain ⟨dR,ma⟩:=hinv.grow (g':={ g with lim:=dh }) hb hl rfl rfl;exact next _ w' v AK dR ma
  rcases vd with ⟨Oo,vd⟩|⟨hg,vd⟩|⟨hg,rfl,vd⟩
  ·rcases vd with ⟨hg,vd⟩|⟨j,want,tt,c,b,y,env',hg,hj,X6,X7,rfl,hE,vd⟩
   ·have hw:Region.wanted o (yielded l.toArray tmps)=true:=by simp [Region.wanted,hg]
    rcases vd g S.base w tmps hinv he with ⟨v,dh,w',hr,xr⟩|⟨f',args,hr,hc⟩
    ·exact ep.value FG hw hr (xx Oo dh w' v xr)
    ·exact ep.call FG hw hr (hc.mono λe w' ⟨v,dh,h1,h2⟩=>⟨v,h1,xx Oo dh w' v h2⟩)
   ·obtain ⟨u,hu,X8⟩:=he tt c X6;have hw:Region.wanted o (yielded l.toArray tmps)=b:=by
     rw [←sU X7 X8];have Jm:((l.toArray)[j]?).bind (·.dst)=some tt:=by simpa using hj
     simp only [Region.wanted,hg,yielded,Jm,zac,hu];cases u <;> rfl
    cases b with
    | false=>exact ep.xk FG hw (xx Oo g.lim w undef ⟨.gd _ _ _ (λ_=>rfl) (λh=>by cases h),.refl _ _,λ_ _=>rfl⟩)
    | true =>
     have wrap:∀ dh w' v,Good g w st y dh w' v->Good g w st (.gd true y) dh w' v:=λdh w' v ⟨a,b,c⟩=>⟨.gd _ _ _ (λh=>by cases h) (λ_=>a),b,c⟩
     rcases vd rfl g S.base w tmps hinv (he.gd hE rfl) with ⟨v,dh,w',hr,xr⟩|⟨f',args,hr,hc⟩
     ·exact ep.value FG hw hr (xx Oo dh w' v (wrap _ _ _ xr))
     ·exact ep.call FG hw hr (hc.mono λe w' ⟨v,dh,h1,h2⟩=>⟨v,h1,xx Oo dh w' v (wrap _ _ _ h2)⟩)
  ·have hw:Region.wanted o (yielded l.toArray tmps)=true:=by simp [Region.wanted,hg]
   obtain ⟨v,g',w',hr,AK,dR,ma⟩:=vd g w tmps hinv he;exact ep.value FG hw hr (next g' w' v AK dR ma)
  ·have hw:Region.wanted o (yielded l.toArray tmps)=true:=by simp [Region.wanted,hg]
   obtain ⟨g',w',hr,dR,ma⟩:=vd g w tmps hinv he;exact ep.skip FG hw hr (next g' w' undef (.d _ _ (.any _)) dR ma)
theorem bq.U0 {id:Nat} {l:List Oper} {env:Env} {st:St} (p:Nat) (xs:List EV) (F:(Nat->Bool)->St->Prop) (hm:P.follows .mixedOrders=true) (hB:cr l p=true) (TK:xs.length=p) (hF0:F (λ_=>false) st)
  (oY:∀ (L:Nat->Bool) (st:St) (i:Nat) (o:Oper),i<p->l[i]?=some o->L i=false->(∀ j,((dS l []).getD i 0).testBit j=true->L j=true)->(∀ a,L a=true->∀ b,((dS l []).getD a 0).testBit b=true->L b=true)->F L st ->
   fV N o.dst=true/\∃ x st',xs[i]?=some x/\OpE P S.base l (mf l o (fY env ((l.take p).take i) (xs.take i))) st o x st'/\F (λj=>j==i || L j) st')
  (BT:∀ (L:Nat->Bool) (st:St),(∀ i,i<p->L i=true)->F L st->cd P f N S Q l (l.drop p) k (fY env (l.take p) xs) st):bq P f N S Q (.code (.region id l.toArray true)::k) env st:=by
 simp only [cr,zas] at hB;obtain ⟨⟨⟨⟨RZ,Xh⟩,Xi⟩,Xj⟩,UF⟩:=hB;have hp:p<=l.length:=by simpa using UF
 intro g w tmps hinv hh he hn;refine ep.zJ λt=>?_
 have PW:Region.schedule (P.follows .mixedOrders) l.toArray t=Region.linearise .any l.toArray t:=by simp [Region.schedule,hm]
 rw [PW];have hb:Below w.heap.size w { w with drawn:=w.drawn+1 }:=(Below.refl _ w).drew;obtain ⟨dR,ma⟩:=hinv.grow (g':=g) hb (λ_ _=>rfl) rfl rfl;unfold Region.linearise;refine JU (p:=p) (xs:=xs) F hp TK ?_ ?_ ?_ ?_ oY BT p _ t _ g _ tmps st (by
  have:(λi=>(Array.replicate l.toArray.size false).getD i false)=λ_=>false:=by
   funext i;simp [zar,Array.getElem?_replicate];split <;> rfl
  rw [this];exact hF0) (by simp) ?_ ?_ ?_ ?_ dR (hh.step ma) hn λs=>⟨λj x hj yj=>?_,λ_ y hy=>?_⟩
 ·intro i j t hi hj M3 X9 uh;have:=cJ (cJ Xh hi) hj;simp [M3,X9,uh] at this
 ·intro i o hi ho t ht j hj lR uh;have h1:=cJ RZ hi;rw [ho] at h1;simp only [zbd] at h1;have h2:=cJ (h1 t ht) hj;simp only [uh,zeo,zds,zbv,zas,zak,zdw] at h2;rcases h2 with (h2|h2)|h2
  ·exact absurd h2.symm lR
  ·exact .inl h2
  ·exact .inr h2
 ·intro i hi nL j hj;have h1:=cJ Xi nL;simp only [zbv,zak] at h1;rcases h1 with h1|h1
  ·omega
  ·exact cJ h1 hj
 ·intro i o ho e Aw ka;have nL:=(zad.1 ho).1;have h1:=cJ Xj nL;rw [ho] at h1;simp only [zbd] at h1;have:=h1 e (by simpa using Aw);simpa [ka] using this
 ·intro i o ho PO;simp [zar,Array.getElem?_replicate] at PO;split at PO <;> simp_all
 ·intro i hi nL;simp [zar,Array.getElem?_replicate,nL]
 ·have:((List.range p).filter λi=>!(Array.replicate l.toArray.size false).getD i true)=List.range p:=by
   rw [zdn];intro i hi;have hi':=List.mem_range.1 hi;have:i<l.length:=by omega
   simp [zar,Array.getElem?_replicate,this]
  rw [this];simp
 ·simp;omega
 ·simp [zar,Array.getElem?_replicate] at yj;split at yj <;> simp_all
 ·exact (he.mono ma.dy) s y hy
end drawn
structure vh (P:Program) (key:TypeId) (κ:Type) [BEq κ] [LawfulBEq κ] where
 ke:κ->Value
 find:∀ {α:Type} (k:κ) (l:List (κ×α)) (ms:List MapEntry) (w:World),ms.map (·.key)=l.map (λp=>ke p.1) ->
  (Instr.findKey key (ke k) ms).run P w=.ok ((dU l k).bind λj=>(ms[j]?).map λm=>(j,m.val)) w
 bits:∀ a,Instr.sameBits 10000 (ke a) (ke a)=true
 check:∀ a b w,(Instr.checkKey b 10000 key (ke a)).run P w=.ok () w
def AP.toF {P:Program} {key:TypeId} {κ:Type} [BEq κ] [LawfulBEq κ] (K:AP P key κ):vh P key κ where
 ke:=K.ke
 find k l ms w h:=JL K k h w
 bits:=K.bits
 check:=K.check
def gh {P:Program} {key:TypeId} (h:P.underlying key=some (.int .i64)):vh P key Int:=(Sp h).toF
def JV {P:Program} {key:TypeId} (h:P.underlying key=some .string):vh P key (List UInt8):=(strKeys h).toF
theorem fb {lim:Nat->Nat} {w:World} {u v:Value} (h:dw lim w (.ex u) v):v=u:=by cases h;rfl
def Yh {P:Program} {key:TypeId} {κ:Type} [BEq κ] [LawfulBEq κ] (ke:κ->Value) {kd:TypeDesc} (hu:P.underlying key=some kd)
  (hnow:∀ a b,Instr.sameNow kd (ke a) (ke b)=none) (heq:∀ a b w,(Op.equal key (ke a) (ke b)).run P w=.ok (a==b) w)
  (P6:∀ a,Instr.sameBits 10000 (ke a) (ke a)=true) (U4:∀ a b w,(Instr.checkKey b 10000 key (ke a)).run P w=.ok () w):vh P key κ where
 ke:=ke
 find:=by
  intro α k l ms w h;have ask:∀ (l:List (κ×α)) (ms:List MapEntry) (i:Nat),ms.map (·.key)=l.map (λp=>ke p.1) ->
    (Instr.findAsking key (ke k) ms i).run P w=.ok ((dU l k).bind λj=>(ms[j]?).map λm=>(i+j,m.val)) w:=by
   intro l
   induction l with
   | nil =>
    intro ms i h;have:ms=[]:=by simpa using h
    subst this;simp [Instr.findAsking,dU]
   | cons p l ih =>
    intro ms i h;cases ms with
    | nil=>simp at h
    | cons m ms =>
     simp only [zao,List.cons.injEq] at h;have h2:=ih ms (i+1) h.2;unfold Instr.findAsking;rw [h.1];simp only [Sem.run_bind,heq,Result.andThen_ok];by_cases hk:k==p.1
     ·simp [hk,dU,List.findIdx?_cons]
     ·have Sd:(k==p.1)=false:=by simpa using hk
      simp only [Sd,zaz,zbt,h2];unfold dU;rw [List.findIdx?_cons,Sd];simp only [zaz,zbt];cases List.findIdx? (λp=>k==p.1) l with
      | none=>rfl
      | some j =>
       simp only [zac,Option.map_some,List.getElem?_cons_succ];congr 2;funext m;congr 1;omega
  have hf:∀ (ms:List MapEntry) (l:List (κ×α)),ms.map (·.key)=l.map (λp=>ke p.1)->Instr.findNow kd (ke k) ms 0=none∨ms=[]:=by
   intro ms l h;cases ms with
   | nil=>exact .inr rfl
   | cons m ms =>
    cases l with
    | nil=>simp at h
    | cons p l =>
     simp only [zao,List.cons.injEq] at h;left;unfold Instr.findNow;rw [h.1,hnow]
  rcases hf ms l h with h0|h0
  ·simp only [Instr.findKey,Sem.run_bind,run_underlying hu,Result.andThen_ok,h0];have:=ask l ms 0 h;simpa using this
  ·subst h0;have:l=[]:=by simpa using h.symm
   subst this;simp [Instr.findKey,run_underlying hu,Instr.findNow,dU]
 bits:=P6
 check:=U4
def lA {κ:Type} (ke:κ->Value) (l:List (κ×EV)):List (Value×EV):=l.map λp=>(ke p.1,p.2)
def P7 {κ α:Type} (val:α->D) (l:List (κ×α)):List (κ×EV):=l.map λp=>(p.1,.d (val p.2))
theorem DE {κ α:Type} {ke:κ->Value} {val:α->D} {l:List (κ×α)}:jM ke val l=lA ke (P7 val l):=by
 simp [jM,lA,P7]
section alist
variable {κ α β:Type} [BEq κ] [LawfulBEq κ]
def ff (l:List (κ×α)) (k:κ):List (κ×α):=match dU l k with
 | some j=>l.eraseIdx j
 | none=>l
theorem GM (f:α->β) (l:List (κ×α)) (k:κ):dU (l.map λp=>(p.1,f p.2)) k=dU l k:=by
 unfold dU;rw [List.findIdx?_map];rfl
theorem Oy (f:α->β) (l:List (κ×α)) (k:κ):aB (l.map λp=>(p.1,f p.2)) k=(aB l k).map f:=by
 rw [mg,mg,GM];cases dU l k with
 | none=>rfl
 | some j=>simp only [zac,zbc];cases l[j]? <;> rfl
theorem P8 (f:α->β) (l:List (κ×α)) (k:κ) (a:α):da (l.map λp=>(p.1,f p.2)) k (f a)=(da l k a).map λp=>(p.1,f p.2):=by
 unfold da;rw [GM];cases dU l k with
 | none=>simp
 | some j=>simp [List.map_set]
theorem LR {l:List (κ×α)} {k:κ} (h:k ∉ l.map (·.1)):aB l k=none:=by
 unfold aB;rw [List.find?_eq_none.2]
 ·rfl
 ·intro p hp he;exact h (eq_of_beq he▸zcs (f:=(·.1)) hp)
end alist
section inv
variable {P:Program} {base:Nat} {g:bT} {w:World} {st:St}
theorem Inv.LS (hinv:Inv g base w st) {o:Nat} {es es':List (Value×EV)} (ho:st.aP[o]?=some (.map es)) {ms':Array MapEntry} {clock':Nat} (k1:ms'.size=es'.length)
  (k2:∀ (i:Nat) k x (m:MapEntry),es'[i]?=some (k,x)->ms'[i]?=some m->m.key=k/\bJ g w st x m.val)
  (k3:∀ (i:Nat) (m:MapEntry),ms'[i]?=some m->m.born<clock') (k4:∀ (i j:Nat) (m m':MapEntry),ms'[i]?=some m->ms'[j]?=some m'->m.born=m'.born->i=j) :
  Inv g base { w with heap:=w.heap.setIfInBounds (g.ob o) (.map ms' clock') } (st.set o (.map es'))/\Step base g w st g { w with heap:=w.heap.setIfInBounds (g.ob o) (.map ms' clock') } (st.set o (.map es')):=by
 obtain ⟨kb,ms,clock,hb,hl,mb,AR,CP⟩:=hinv.map o _ ho;have hblk:g.ob o<w.heap.size:=(zaw.1 hb).1;have xq:∀ ob:Obj,({ w with heap:=w.heap.setIfInBounds (g.ob o) ob }:World).heap.size=w.heap.size:=λob=>by simp
 have tU:∀ ob:Obj,∀ b,b≠g.ob o->({ w with heap:=w.heap.setIfInBounds (g.ob o) ob }:World).heap[b]?=w.heap[b]?:=λob b ka=>by simp [zcc,zcf ka]
 have mc:∀ ob:Obj,({ w with heap:=w.heap.setIfInBounds (g.ob o) ob }:World).heap[g.ob o]?=some ob:=λob=>by simp [hblk]
 have hnoc:∀ off,w.cell? ⟨g.ob o,off,none⟩=none:=λoff=>by simp [World.cell?,hb]
 have AI:Lm g.lim w g.lim { w with heap:=w.heap.setIfInBounds (g.ob o) (.map ms' clock') }:=by
  refine ⟨by rw [xq];exact zap _,λ_ _=>zap _,λb off ka na=>?_⟩
  by_cases hbo:b=g.ob o
  ·subst hbo;rw [hnoc];simp [World.cell?,hblk]
  ·exact World.cell?_of_block (w:=w) (a:=⟨b,off,none⟩) (tU _ b hbo)
 have nV:st.live o:=⟨_,ho,by simp⟩;have Us:o<st.aP.length:=(zad.1 ho).1;have hs:uB g w st g { w with heap:=w.heap.setIfInBounds (g.ob o) (.map ms' clock') } (st.set o (.map es')) :=
  ⟨AI,λ_ _=>rfl,by simp [St.set],λt e sz n ht=>⟨n,ht,zap _,λ_=>rfl⟩,zap _,u4 λ_ _ _ _ h _=>⟨h,rfl⟩⟩
 have gX:∀ o' y,o'≠o->(st.set o (.map es')).aP[o']?=some y->st.aP[o']?=some y:=by
  intro o' y eT Jl;simpa [St.set,zbj,zcf eT] using Jl
 have RX:∀ o' y,(st.set o (.map es')).aP[o']?=some (.raw y)->base<=g.ob o'/\g.lim (g.ob o')=0/\(w.heap.setIfInBounds (g.ob o) (.map ms' clock'))[g.ob o']?=some y:=by
  intro o' y jK;have eT:o'≠o:=by
   rintro rfl;simp [St.set,Us] at jK
  have Jl:=gX o' _ eT jK;obtain ⟨h1,h2,h3⟩:=hinv.raw o' y Jl;have o9:=hinv.ne o' o eT ⟨_,Jl,by simp⟩ nV;exact ⟨h1,h2,by rw [tU _ _ o9];exact h3⟩
 refine ⟨⟨by rw [xq];exact hinv.base,?_,?_,RX,?_,?_,hinv.nK,?_,hinv.C9.below ⟨rfl,rfl,rfl,by rw [xq];exact zap _,λb ka=>tU _ b (by omega)⟩,?_⟩,⟨hs,⟨rfl,rfl,rfl,by rw [xq];exact zap _,λb ka=>tU _ b (by omega)⟩,λ_ _=>rfl,
   λb _ hn=>⟨tU _ b (λe=>hn (.inl ⟨o,nV,e.symm⟩)),rfl⟩,λb _ hw=>hw.elim (λ⟨o',a1,a2⟩=>.inl ⟨o',rq nV a1,a2⟩) .inr⟩⟩
 ·intro o' LC cs jK;have eT:o'≠o:=by
   rintro rfl;simp [St.set,Us] at jK
  have Jl:=gX o' _ eT jK;obtain ⟨h1,h2,vs,h3,h4,h5⟩:=hinv.row o' LC cs Jl;have o9:=hinv.ne o' o eT ⟨_,Jl,by simp⟩ nV;exact ⟨h1,h2,vs,by rw [tU _ _ o9];exact h3,h4,λi c u hc hu=>⟨(h5 i c u hc hu).1.mono hs,(h5 i c u hc hu).2⟩⟩
 ·intro o' es2 jK;by_cases eT:o'=o
  ·subst eT;have hes:es'=es2:=by simpa [St.set,Us] using jK
   subst hes;exact ⟨kb,ms',clock',mc _,k1,λi kk yy m tW Sw=>⟨(k2 i kk yy m tW Sw).1,(k2 i kk yy m tW Sw).2.mono hs⟩,k3,k4⟩
  ·have Jl:=gX o' _ eT jK;obtain ⟨h1,ms2,c2,h3,h4,h5,h6⟩:=hinv.map o' es2 Jl;have o9:=hinv.ne o' o eT ⟨_,Jl,by simp⟩ nV;exact ⟨h1,ms2,c2,by rw [tU _ _ o9];exact h3,h4,λi kk yy m a b=>⟨(h5 i kk yy m a b).1,(h5 i kk yy m a b).2.mono hs⟩,h6⟩
 ·exact λo1 o2 eT h1 h2=>hinv.ne o1 o2 eT (rq nV h1) (rq nV h2)
 ·intro t' e' Jo n' r5;obtain ⟨xs,h1,h2⟩:=hinv.tail t' e' Jo n' r5;exact ⟨xs,e8 h1 λb ka=>tU _ b λe=>hinv.iv t' _ o r5 nV (by rw [ka,e]),h2⟩
 ·exact λt' x' o' r5 RW=>hinv.iv t' x' o' r5 (rq nV RW)
 ·intro t' e' Jo n' rows r5;obtain ⟨xs,h1,h2,h3⟩:=hinv.own t' e' Jo n' rows r5;exact ⟨xs,e8 h1 λb ka=>tU _ b λe=>hinv.iv t' _ o r5 nV (by rw [ka,e]),h2,h3.mono AI⟩
end inv
section rules
variable {P:Program} {base:Nat} {env:Env} {st:St} {d:Option Tmp} {ty:TypeId} {pos:String} {after:Array Edge} {gd:Option (Nat×Bool)} {t t2 e key:TypeId} {x y z:Operand}
 {κ α:Type} [BEq κ] [LawfulBEq κ]
theorem GN {g:bT} {w:World} {st:St} {l:List (κ×EV)} {ke:κ->Value} {ms:Array MapEntry} (hl:ms.size=(lA ke l).length)
  (h:∀ (i:Nat) k x (m:MapEntry),(lA ke l)[i]?=some (k,x)->ms[i]?=some m->m.key=k/\bJ g w st x m.val):ms.toList.map (·.key)=l.map λp=>ke p.1:=by
 apply zce;intro i;rw [zbc,zbc];have hlen:ms.size=l.length:=by simpa [lA] using hl
 by_cases hi:i<l.length
 ·have h1:ms[i]?=some (ms[i]'(by omega)):=zbg (by omega);have h2:l[i]?=some l[i]:=zae hi;have h3:=(h i (ke l[i].1) l[i].2 _ (by simp [lA,h2]) h1).1;rw [h2,zcd,h1];simp [h3]
 ·rw [zbl (by simp;omega),zbl (by omega)];rfl
theorem xy (K:vh P key κ) {o:Nat} {l:List (κ×EV)} {k:κ} {dk:D} {inf:TypeInfo} {zv:Value} {c:Bool} (ht:P.underlying t=some (.map key e)) (hi:P.info? e=some inf) (hz:inf.zero=some zv)
  (hx:cP env x=some (.mp o)) (ho:st.aP[o]?=some (.map (lA K.ke l))) (hy:cP env y=some (.d dk)) (hk:∀ lim w v,dw lim w dk v->v=K.ke k)
  {g:bT} {w:World} {tmps:Array Value} (hinv:Inv g base w st) (he:dO g w st env tmps) :
  ∃ v,(match aB l k with|some x=>bJ g w st x v|none=>v=zv) /\
   ∀ w',Below w.heap.size w w'->(execOp (Act.eval ⟨tmps,[]⟩) ⟨d,.lookup t x y c,ty,pos,after,gd⟩).run P w'=.ok (.value (if c=true then .tuple #[v,.bool (aB l k).isSome] else v)) w':=by
 have AK:=aM he hx;generalize hv:Act.eval ⟨tmps,[]⟩ x=v at AK;have PZ:Act.eval ⟨tmps,[]⟩ y=K.ke k:=by
  have:=aM he hy;cases this with|d _ _ h=>exact hk _ _ _ h
 cases AK with
 | mp _ cE =>
  obtain ⟨_,ms,clock,hb,hl,mb,_⟩:=hinv.map o _ ho;have GO:=GN hl mb;have hblk:g.ob o<w.heap.size:=(zaw.1 hb).1;rw [mg];cases hf:dU l k with
  | none =>
   refine ⟨zv,rfl,λw' ka=>?_⟩;have FF:w'.heap[g.ob o]?=some (.map ms clock):=(ka.block _ hblk).trans hb;have GP:=K.find k l ms.toList w' GO;rw [hf] at GP;simp [execOp,hv,PZ,Instr.lookup,run_underlying ht,getObj,Sem.run,FF,K.check,GP,ta hi hz]
  | some j =>
   have hj:=xu hf;have hlen:ms.size=l.length:=by simpa [lA] using hl
   have h1:ms[j]?=some (ms[j]'(by omega)):=zbg (by omega);have h2:l[j]?=some l[j]:=zae hj;have h3:=(mb j (K.ke l[j].1) l[j].2 _ (by simp [lA,h2]) h1).2;simp only [zac,h2,Option.map_some,Option.isSome_some];refine ⟨(ms[j]'(by omega)).val,h3,λw' ka=>?_⟩;have FF:w'.heap[g.ob o]?=some (.map ms clock):=(ka.block _ hblk).trans hb;have GP:=K.find k l ms.toList w' GO;rw [hf] at GP;have FO:ms.toList[j]?=some (ms[j]'(by omega)):=by rw [zcd];exact h1
   simp only [zac,FO,Option.map_some] at GP;simp [execOp,hv,PZ,Instr.lookup,run_underlying ht,getObj,Sem.run,FF,K.check,GP]
theorem JW {g:bT} {w:World} {st:St} {u:Value} {b:Bool} {c:D} (h:bJ g w st (.d c) u):bJ g w st (.d (.dV [c,.ex (.bool b)])) (.tuple #[u,.bool b]):=by
 have h':dw g.lim w c u:=by cases h with|d _ _ h=>exact h
 refine .d _ _ (.dV _ _ rfl ?_);intro i c' u' hc hu
 match i with
 | 0=>simp at hc hu;subst hc;subst hu;exact h'
 | 1=>simp at hc hu;subst hc;subst hu;exact .ex _
 | n+2=>simp at hc
theorem Em {val:α->D} {l:List (κ×α)} {k:κ}:aB (P7 val l) k=(aB l k).map λa=>.d (val a):=Oy (λa=>EV.d (val a)) l k
theorem fu (K:vh P key κ) {o:Nat} {l:List (κ×α)} {val:α->D} {k:κ} {dk:D} {inf:TypeInfo} {zv:Value} {a0:α} (ht:P.underlying t=some (.map key e)) (hi:P.info? e=some inf) (hz:inf.zero=some zv) (Xn:tT (cv zv) (val a0))
  (hx:cP env x=some (.mp o)) (ho:st.aP[o]?=some (.map (jM K.ke val l))) (hy:cP env y=some (.d dk)) (hk:∀ lim w v,dw lim w dk v->v=K.ke k) :
  aK P env st ⟨d,.lookup t x y false,ty,pos,after,gd⟩ (.d (val ((aB l k).getD a0))):=by
 intro g base w tmps hinv he;rw [DE] at ho;obtain ⟨v,h1,h2⟩:=xy (c:=false) (d:=d) (ty:=ty) (pos:=pos) (after:=after) (gd:=gd) K ht hi hz hx ho hy hk hinv he;rw [Em] at h1;refine ⟨v,?_,λw' hb=>by simpa using h2 w' hb⟩;cases hl:aB l k with
 | none=>rw [hl] at h1;simp only [Option.map_none] at h1;subst h1;exact .d _ _ (Xn _ _ _ (qj g.lim w v))
 | some a=>rw [hl] at h1;exact h1
theorem kY (K:vh P key κ) {o:Nat} {l:List (κ×α)} {val:α->D} {k:κ} {dk:D} {inf:TypeInfo} {zv:Value} {a0:α} (ht:P.underlying t=some (.map key e)) (hi:P.info? e=some inf) (hz:inf.zero=some zv) (Xn:tT (cv zv) (val a0))
  (hx:cP env x=some (.mp o)) (ho:st.aP[o]?=some (.map (jM K.ke val l))) (hy:cP env y=some (.d dk)) (hk:∀ lim w v,dw lim w dk v->v=K.ke k) :
  aK P env st ⟨d,.lookup t x y true,ty,pos,after,gd⟩ (.d (.dV [val ((aB l k).getD a0),.ex (.bool (aB l k).isSome)])):=by
 intro g base w tmps hinv he;rw [DE] at ho;obtain ⟨v,h1,h2⟩:=xy (c:=true) (d:=d) (ty:=ty) (pos:=pos) (after:=after) (gd:=gd) K ht hi hz hx ho hy hk hinv he;rw [Em] at h1 h2;refine ⟨_,?_,h2⟩;rw [zab rfl];cases hl:aB l k with
 | none=>rw [hl] at h1;simp only [Option.map_none] at h1;subst h1;exact JW (.d _ _ (Xn _ _ _ (qj g.lim w v)))
 | some a=>rw [hl] at h1;exact JW h1
theorem CQ (K:vh P key κ) {o:Nat} {l:List (κ×EV)} {k:κ} {dk:D} {ev:EV} (ht:P.underlying t=some (.map key e)) (hx:cP env x=some (.mp o)) (ho:st.aP[o]?=some (.map (lA K.ke l)))
  (hy:cP env y=some (.d dk)) (hk:∀ lim w v,dw lim w dk v->v=K.ke k) {g:bT} {w:World} {tmps:Array Value} (hinv:Inv g base w st) (he:dO g w st env tmps) (hz:bJ g w st ev (Act.eval ⟨tmps,[]⟩ z)) :
  ∃ w',(Instr.mapUpdate t (Act.eval ⟨tmps,[]⟩ x) (Act.eval ⟨tmps,[]⟩ y) (Act.eval ⟨tmps,[]⟩ z)).run P w=.ok () w'/\Inv g base w' (st.set o (.map (lA K.ke (da l k ev))))/\Step base g w st g w' (st.set o (.map (lA K.ke (da l k ev)))):=by
 have AK:=aM he hx;generalize hv:Act.eval ⟨tmps,[]⟩ x=v at AK;have PZ:Act.eval ⟨tmps,[]⟩ y=K.ke k:=by
  have:=aM he hy;cases this with|d _ _ h=>exact hk _ _ _ h
 generalize hu:Act.eval ⟨tmps,[]⟩ z=u at hz;cases AK with
 | mp _ cE =>
  obtain ⟨kb,ms,clock,hb,hl,mb,AR,CP⟩:=hinv.map o _ ho;have GO:=GN hl mb;have hblk:g.ob o<w.heap.size:=(zaw.1 hb).1;have hlen:ms.size=l.length:=by simpa [lA] using hl
  have GP:=K.find k l ms.toList w GO;have fin:∀ (ms':Array MapEntry) (clock':Nat),ms'.size=(da l k ev).length ->
    (∀ (i:Nat) (p:κ×EV) (m:MapEntry),(da l k ev)[i]?=some p->ms'[i]?=some m->m.key=K.ke p.1/\bJ g w st p.2 m.val) ->
    (∀ (i:Nat) (m:MapEntry),ms'[i]?=some m->m.born<clock')->(∀ (i j:Nat) (m m':MapEntry),ms'[i]?=some m->ms'[j]?=some m'->m.born=m'.born->i=j) ->
    (Instr.mapUpdate t (.map (some (g.ob o))) (K.ke k) u).run P w=.ok () { w with heap:=w.heap.setIfInBounds (g.ob o) (.map ms' clock') } ->
    ∃ w',(Instr.mapUpdate t (.map (some (g.ob o))) (Act.eval ⟨tmps,[]⟩ y) u).run P w=.ok () w'/\Inv g base w' (st.set o (.map (lA K.ke (da l k ev))))/\Step base g w st g w' (st.set o (.map (lA K.ke (da l k ev)))):=by
   intro ms' clock' k1 k2 k3 k4 k5;obtain ⟨q1,q2⟩:=hinv.LS (es':=lA K.ke (da l k ev)) ho (ms':=ms') (clock':=clock') (by simpa [lA] using k1) (λi kk yy m tW Sw=>by
    simp only [lA,zbc] at tW;cases hp:(da l k ev)[i]? with
    | none=>rw [hp] at tW;cases tW
    | some p=>rw [hp] at tW;cases tW;exact k2 i p m hp Sw) k3 k4
   exact ⟨_,by rw [PZ];exact k5,q1,q2⟩
  cases hf:dU l k with
  | none =>
   rw [hf] at GP;simp only [Option.bind_none] at GP;have JX:da l k ev=l++[(k,ev)]:=by unfold da;rw [hf]
   refine fin (ms.push ⟨K.ke k,u,clock⟩) (clock+1) (by simp [JX,hlen]) ?_ ?_ ?_ ?_
   ·intro i p m hp hm;rw [JX] at hp;by_cases hi:i<l.length
    ·rw [zan hi] at hp;rw [zdk (by omega)] at hm;exact mb i (K.ke p.1) p.2 m (by simp [lA,hp]) (by rw [zbg (by omega)];exact hm)
    ·have hi':i=l.length:=by
      have:=(zad.1 hp).1;simp at this;omega
     subst hi';simp at hp;subst hp;rw [←hlen] at hm;simp at hm;subst hm;exact ⟨rfl,hz⟩
   ·intro i m hm;by_cases hi:i<ms.size
    ·rw [zdk hi] at hm;have:=AR i m (by rw [zbg hi];exact hm);omega
    ·have kU:=(zaw.1 hm).1;simp at kU;have:i=ms.size:=by omega
     subst this;simp at hm;subst hm;exact zfj _
   ·intro i j m m' hm yI Ay;have get:∀ (i:Nat) m,(ms.push ⟨K.ke k,u,clock⟩)[i]?=some m->(i<ms.size/\ms[i]?=some m)∨(i=ms.size/\m.born=clock):=by
     intro i m hm;by_cases hi:i<ms.size
     ·rw [zdk hi] at hm;exact .inl ⟨hi,by rw [zbg hi];exact hm⟩
     ·have kU:=(zaw.1 hm).1;simp at kU;have:i=ms.size:=by omega
      subst this;simp at hm;subst hm;exact .inr ⟨rfl,rfl⟩
    rcases get i m hm with ⟨h1,h2⟩|⟨h1,h2⟩ <;> rcases get j m' yI with ⟨h3,h4⟩|⟨h3,h4⟩
    ·exact CP i j m m' h2 h4 Ay
    ·have:=AR i m h2;omega
    ·have:=AR j m' h4;omega
    ·omega
   ·simp [Instr.mapUpdate,run_underlying ht,getObj,setObj,Sem.run,hb,K.check,GP]
  | some j =>
   have hj:=xu hf;have JX:da l k ev=l.set j (k,ev):=by unfold da;rw [hf]
   have yj:(k==l[j].1)=true:=by
    unfold dU at hf;rw [List.findIdx?_eq_some_iff_getElem] at hf;exact hf.2.1
   have hkj:k=l[j].1:=eq_of_beq yj;have h1:ms[j]?=some (ms[j]'(by omega)):=zbg (by omega);have FO:ms.toList[j]?=some (ms[j]'(by omega)):=by rw [zcd];exact h1
   rw [hf] at GP;simp only [zac,FO,Option.map_some] at GP;have hkey:(ms[j]'(by omega)).key=K.ke k:=by
    have:=(mb j (K.ke l[j].1) l[j].2 _ (by simp [lA,zae hj]) h1).1;rw [this,hkj]
   have xp:∀ (i:Nat) m,(ms.modify j λe=>{ e with key:=K.ke k,val:=u })[i]?=some m->(i=j/\m={ (ms[j]'(by omega)) with key:=K.ke k,val:=u })∨(i≠j/\ms[i]?=some m):=by
    intro i m hm;rw [zfm] at hm;by_cases M3:j=i
    ·subst M3;rw [zab rfl,h1] at hm;cases hm;exact .inl ⟨rfl,rfl⟩
    ·rw [zaa M3] at hm;exact .inr ⟨zcf M3,hm⟩
   refine fin (ms.modify j λe=>{ e with key:=K.ke k,val:=u }) clock (by simp [JX,hlen]) ?_ ?_ ?_ ?_
   ·intro i p m hp hm;rw [JX,zbj] at hp;rcases xp i m hm with ⟨rfl,rfl⟩|⟨eT,yI⟩
    ·rw [zab rfl] at hp;simp [hj] at hp;subst hp;exact ⟨rfl,hz⟩
    ·rw [zaa (zcf eT)] at hp;exact mb i (K.ke p.1) p.2 m (by simp [lA,hp]) yI
   ·intro i m hm;rcases xp i m hm with ⟨rfl,rfl⟩|⟨eT,yI⟩
    ·exact AR _ (ms[i]'(by omega)) h1
    ·exact AR _ _ yI
   ·intro i i' m m' hm yI Ay;rcases xp i m hm with ⟨rfl,rfl⟩|⟨eT,h2⟩ <;> rcases xp i' m' yI with ⟨rfl,rfl⟩|⟨o9,BN⟩
    ·rfl
    ·exact CP _ _ (ms[i]'(by omega)) _ h1 BN Ay
    ·exact CP _ _ _ (ms[i']'(by omega)) h2 h1 Ay
    ·exact CP _ _ _ _ h2 BN Ay
   ·have P6:Instr.sameBits 10000 (K.ke k) (K.ke k)=true:=K.bits k;simp [Instr.mapUpdate,run_underlying ht,getObj,setObj,Sem.run,hb,K.check,GP,Instr.keyThatStays,h1,hkey,P6]
theorem HS (K:vh P key κ) {o:Nat} {l:List (κ×EV)} {k:κ} {dk:D} {ev:EV} (ht:P.underlying t=some (.map key e)) (hx:cP env x=some (.mp o)) (ho:st.aP[o]?=some (.map (lA K.ke l)))
  (hy:cP env y=some (.d dk)) (hk:∀ lim w v,dw lim w dk v->v=K.ke k) (hz:cP env z=some ev) :
  Hv P base env st ⟨d,.mapUpdate t x y z,ty,pos,after,gd⟩ (st.set o (.map (lA K.ke (da l k ev)))):=by
 intro g w tmps hinv he;obtain ⟨w',h1,h2,h3⟩:=CQ (z:=z) K ht hx ho hy hk hinv he (aM he hz);exact ⟨g,w',by simp [execOp,h1],h2,h3⟩
theorem dz (K:vh P key κ) {o:Nat} {l:List (κ×α)} {val:α->D} {k:κ} {dk:D} {a:α} {ev:EV} (ht:P.underlying t=some (.map key e)) (hx:cP env x=some (.mp o)) (ho:st.aP[o]?=some (.map (jM K.ke val l)))
  (hy:cP env y=some (.d dk)) (hk:∀ lim w v,dw lim w dk v->v=K.ke k) (hz:cP env z=some ev) (hle:dX ev (.d (val a))) :
  Hv P base env st ⟨d,.mapUpdate t x y z,ty,pos,after,gd⟩ (st.set o (.map (jM K.ke val (da l k a)))):=by
 intro g w tmps hinv he;rw [DE] at ho;obtain ⟨w',h1,h2,h3⟩:=CQ (z:=z) K ht hx ho hy hk hinv he (hle _ _ _ _ (aM he hz));have hs:lA K.ke (da (P7 val l) k (.d (val a)))=jM K.ke val (da l k a):=by
  rw [DE];unfold P7;rw [P8 (λa=>EV.d (val a))]
 rw [hs] at h2 h3;exact ⟨g,w',by simp [execOp,h1],h2,h3⟩
theorem BZ (K:vh P key κ) {o:Nat} {l:List (κ×α)} {val:α->D} {k:κ} {dk:D} (ht:P.underlying t=some (.map key e)) (hx:cP env x=some (.mp o)) (ho:st.aP[o]?=some (.map (jM K.ke val l)))
  (hy:cP env y=some (.d dk)) (hk:∀ lim w v,dw lim w dk v->v=K.ke k) :
  xl P base env st ⟨d,.call ⟨.builtin .delete,#[x,y],#[t,t2]⟩,ty,pos,after,gd⟩ (.d (.dV [])) (st.set o (.map (jM K.ke val (ff l k)))):=by
 intro g w tmps hinv he;have AK:=aM he hx;generalize hv:Act.eval ⟨tmps,[]⟩ x=v at AK;have PZ:Act.eval ⟨tmps,[]⟩ y=K.ke k:=by
  have:=aM he hy;cases this with|d _ _ h=>exact hk _ _ _ h
 cases AK with
 | mp _ cE =>
  obtain ⟨kb,ms,clock,hb,hl,mb,AR,CP⟩:=hinv.map o _ ho;have GO:=PY hl mb;have hblk:g.ob o<w.heap.size:=(zaw.1 hb).1;have hlen:ms.size=l.length:=by simpa [jM] using hl
  have GP:=K.find k l ms.toList w GO;have fin:∀ (ms':Array MapEntry),ms'.size=(ff l k).length ->
    (∀ (i:Nat) (p:κ×α) (m:MapEntry),(ff l k)[i]?=some p->ms'[i]?=some m->m.key=K.ke p.1/\bJ g w st (.d (val p.2)) m.val) ->
    (∀ (i:Nat) (m:MapEntry),ms'[i]?=some m->m.born<clock)->(∀ (i j:Nat) (m m':MapEntry),ms'[i]?=some m->ms'[j]?=some m'->m.born=m'.born->i=j) ->
    (execOp (Act.eval ⟨tmps,[]⟩) ⟨d,.call ⟨.builtin .delete,#[x,y],#[t,t2]⟩,ty,pos,after,gd⟩).run P w=.ok (.value (.tuple #[])) { w with heap:=w.heap.setIfInBounds (g.ob o) (.map ms' clock) } ->
    ∃ v g' w',(execOp (Act.eval ⟨tmps,[]⟩) ⟨d,.call ⟨.builtin .delete,#[x,y],#[t,t2]⟩,ty,pos,after,gd⟩).run P w=.ok (.value v) w'/\bJ g' w' (st.set o (.map (jM K.ke val (ff l k)))) (.d (.dV [])) v/\Inv g' base w' (st.set o (.map (jM K.ke val (ff l k))))/\Step base g w st g' w' (st.set o (.map (jM K.ke val (ff l k)))):=by
   intro ms' k1 k2 k3 k4 k5;obtain ⟨q1,q2⟩:=hinv.LS (es':=jM K.ke val (ff l k)) ho (ms':=ms') (clock':=clock) (by simpa [jM] using k1) (λi kk yy m tW Sw=>by
    simp only [jM,zbc] at tW;cases hp:(ff l k)[i]? with
    | none=>rw [hp] at tW;cases tW
    | some p=>rw [hp] at tW;cases tW;exact k2 i p m hp Sw) k3 k4
   exact ⟨_,g,_,k5,.d _ _ (.dV _ _ rfl (λi c u h=>by simp at h)),q1,q2⟩
  cases hf:dU l k with
  | none =>
   rw [hf] at GP;simp only [Option.bind_none] at GP;have Yi:ff l k=l:=by unfold ff;rw [hf]
   refine fin ms (by rw [Yi,hlen]) (λi p m hp hm=>?_) AR CP ?_
   ·rw [Yi] at hp;exact mb i (K.ke p.1) (.d (val p.2)) m (by simp [jM,hp]) hm
   ·simp [execOp,resolve,invoke,builtin,hv,PZ,Builtin.delete_,run_underlying ht,getObj,setObj,Sem.run,hb,K.check,GP]
  | some j =>
   have hj:=xu hf;have Yi:ff l k=l.eraseIdx j:=by unfold ff;rw [hf]
   have h1:ms[j]?=some (ms[j]'(by omega)):=zbg (by omega);have FO:ms.toList[j]?=some (ms[j]'(by omega)):=by rw [zcd];exact h1
   rw [hf] at GP;simp only [zac,FO,Option.map_some] at GP;have ZP:ms.eraseIdxIfInBounds j=(ms.toList.eraseIdx j).toArray:=by
    apply Array.toList_inj.1;unfold Array.eraseIdxIfInBounds;rw [dif_pos (by omega)];simp
   have we:∀ (i:Nat) m,(ms.eraseIdxIfInBounds j)[i]?=some m->ms[if i<j then i else i+1]?=some m:=by
    intro i m hm;rw [ZP] at hm;simp only [List.getElem?_toArray,List.getElem?_eraseIdx,zcd] at hm;split at hm
    ·rename_i h;rw [zab h];exact hm
    ·rename_i h;rw [zaa h];exact hm
   refine fin (ms.eraseIdxIfInBounds j) ?_ (λi p m hp hm=>?_) (λi m hm=>AR _ m (we i m hm)) (λi i' m m' hm yI Ay=>?_) ?_
   ·rw [Yi,ZP];simp [List.length_eraseIdx,hlen,hj]
   ·rw [Yi,List.getElem?_eraseIdx] at hp;have yI:=we i m hm;split at hp
    ·rename_i h;rw [zab h] at yI;exact mb i (K.ke p.1) (.d (val p.2)) m (by simp [jM,hp]) yI
    ·rename_i h;rw [zaa h] at yI;exact mb (i+1) (K.ke p.1) (.d (val p.2)) m (by simp [jM,hp]) yI
   ·have:=CP _ _ m m' (we i m hm) (we i' m' yI) Ay;split at this <;> split at this <;> omega
   ·simp [execOp,resolve,invoke,builtin,hv,PZ,Builtin.delete_,run_underlying ht,getObj,setObj,Sem.run,hb,K.check,GP]
end rules
section lit
variable {P:Program} {f:Ctx} {N:Nat} {S:Start} {Q:EV->St->Prop} {k:List Item} {κ:Type} [BEq κ] [LawfulBEq κ] {key:TypeId}
theorem bq.split {todo:List Item} {env:Env} {st:St} (b:Bool) (ht:b=true->bq P f N S Q todo env st) (hf:b=false->bq P f N S Q todo env st):bq P f N S Q todo env st:=by
 cases hb:b with
 | true=>exact ht hb
 | false=>exact hf hb
def Yj (P:Program) (N:Nat) (l:List Oper) (m:Nat) (t:TypeId) (K:vh P key κ) (ins:List (Nat×κ×EV)) (st0:St) (i:Nat) (o:Oper) (env:Env) (x:EV):Prop :=
  fV N o.dst=true /\
  (((Nat.beq i m || ins.any λe=>Nat.beq e.1 i)=false/\∀ st,(st=st0∨∃ es,st=st0.add (.map es))->ug P l env st o x) ∨
   (i=m/\o.guard=none/\x=.mp st0.aP.length/\∃ t,o.op=.makeMap t none) ∨
   (∃ kk v dk a b c,(i,kk,v)∈ins/\x=.d .any/\o.guard=none/\o.op=.insert t a b c/\cP env a=some (.mp st0.aP.length)/\cP env b=some (.d dk)/\(∀ lim w v,dw lim w dk v->v=K.ke kk)/\cP env c=some v /\
      ((dS l []).getD i 0).testBit m=true))
def P9 (P:Program) (N:Nat) (l:List Oper) (m:Nat) (t:TypeId) (K:vh P key κ) (ins:List (Nat×κ×EV)) (st0:St):Nat->List Oper->List EV->Env->Prop
 | _,[],[],_=>True
 | i,o::os,x::xs,env=>Yj P N l m t K ins st0 i o (mf l o env) x/\P9 P N l m t K ins st0 (i+1) os xs (env.put o.dst x)
 | _,_,_,_=>False
def Oz (P:Program) (f:Ctx) (N:Nat) (S:Start) (Q:EV->St->Prop) (l:List Oper) (p m:Nat) (t:TypeId) (K:vh P key κ) (ins:List (Nat×κ×EV)) (i:Nat) (os:List Oper) (k:List Item) (env:Env) (st:St):Prop :=
 ∃ xs,P9 P N l m t K ins st i os xs env/\∀ es,es.Perm (ins.map (·.2))->cd P f N S Q l (l.drop p) k (fY env os xs) (st.add (.map (lA K.ke es)))
variable {l:List Oper} {p m:Nat} {t:TypeId} {K:vh P key κ} {ins:List (Nat×κ×EV)} {i:Nat} {os:List Oper} {env:Env} {st:St} {d:Option Tmp} {op:Op} {ty:TypeId} {pos:String} {after:Array Edge} {x:EV}
theorem Oz.g (h:∀ s,(s=st∨∃ es,s=st.add (.map es))->zi P (mf l ⟨d,op,ty,pos,after,none⟩ env) s ⟨d,op,ty,pos,after,none⟩ x) (hb:(Nat.beq i m || ins.any λe=>Nat.beq e.1 i)=false) (hd:fV N d=true)
  (hk:Oz P f N S Q l p m t K ins (i+1) os k (env.put d x) st):Oz P f N S Q l p m t K ins i (⟨d,op,ty,pos,after,none⟩::os) k env st:=by
 obtain ⟨xs,h1,h2⟩:=hk;exact ⟨x::xs,⟨⟨hd,.inl ⟨hb,λs hs=>.inl ⟨rfl,h s hs⟩⟩⟩,h1⟩,h2⟩
theorem Oz.q (h:∀ s,(s=st∨∃ es,s=st.add (.map es))->aK P (mf l ⟨d,op,ty,pos,after,none⟩ env) s ⟨d,op,ty,pos,after,none⟩ x) (hb:(Nat.beq i m || ins.any λe=>Nat.beq e.1 i)=false) (hd:fV N d=true)
  (hk:Oz P f N S Q l p m t K ins (i+1) os k (env.put d x) st):Oz P f N S Q l p m t K ins i (⟨d,op,ty,pos,after,none⟩::os) k env st:=.g (λs hs=>(h s hs).g) hb hd hk
end lit
theorem HT {lim:Nat->Nat} {w:World} {ds:List D} {vs:List Value} {v:Value} (h:dw lim w (.agg ds) v) (he:R0 ds=some vs):v=.agg vs.toArray:=by
 have hm:=HF he;subst hm;cases h with
 | agg _ us hs ho hc =>
  congr 1;apply Array.ext';apply zce;intro i;simp only [zcu] at hs;by_cases hi:i<vs.length
  ·have h1:us[i]?=some (us[i]'(by omega)):=zbg (by omega);have h2:=hc i (.ex vs[i]) _ (by simp [hi]) h1;rw [zcd,h1,wa h2];simp [hi]
  ·rw [zbl (by simp;omega),zbl (by simpa using hi)]
section keys
variable {P:Program}
theorem HU {k:FK} {v:Value} (h:qo k v=true) (n:Nat):Instr.sameBits n v v=true:=by
 cases v <;> cases k <;> simp [qo] at h <;> simp [Instr.sameBits] <;> (rw [beq_toListBytes];simp)
theorem zn:∀ {ks:List FK} {vs:List Value},fitAll ks vs=true->∀ n,(vs.zip vs).all (λp=>Instr.sameBits n p.1 p.2)=true
 | [],[],_,n=>rfl
 | k::ks,v::vs,h,n=>by
  simp only [fitAll,zas] at h;simp only [List.zip_cons_cons,zej,HU h.1,zn h.2,Bool.and_self]
 | [],_::_,h,_=>by cases h
 | _::_,[],h,_=>by cases h
theorem HV {t:TypeId} {k:FK} (h:FW (P.underlying t)=some k) {v:Value} (hv:qo k v=true) (b:Bool) (n:Nat) (w:World):(Instr.checkKey b (n+1) t v).run P w=.ok () w:=by
 cases hd:P.underlying t with
 | none=>rw [hd] at h;cases h
 | some Lx =>
  rw [hd] at h;cases Lx <;> simp only [FW,Option.some.injEq,reduceCtorEq] at h <;> subst h <;> cases v <;> simp [qo] at hv <;> simp [Instr.checkKey,run_underlying hd]
theorem CR (b:Bool) (n:Nat) (w:World) (X:Array Value):∀ (fs:List Field) (k:Nat) (ks:List FK) (vs:List Value),rv P k fs=some ks->fitAll ks vs=true->(∀ (j:Nat) v,vs[j]?=some v->X[k+j]?=some v) ->
  (forIn fs PUnit.unit (λf _=>do
   if f.name ≠ "_" then do
    Instr.checkKey b (n+1) f.type (←part f.type X f.offset)
    pure (.yield PUnit.unit)
   else pure (.yield PUnit.unit)):Sem PUnit).run P w=.ok PUnit.unit w
 | [],k,ks,vs,h,hv,hX=>by simp
 | f::fs,k,ks,vs,h,hv,hX=>by
  unfold rv at h;split at h
  ·rename_i kk Yb h1 h2 h3 h4;simp only [Option.some.injEq] at h;subst h
   match vs with
   | []=>cases hv
   | v::vs =>
    simp only [fitAll,zas] at hv;have ho:=zau h1;have JM:f.name ≠ "_" := zcp h2;have px:=vf h3 (cs:=X) (off:=f.offset) (hX 0 v rfl |> λh=>by rw [ho];simpa using h) w;have pc:=HV h3 hv.1 b n w;have ih:=CR b n w X fs (k+1) Yb vs h4 hv.2 (λj v hv=>by have:=hX (j+1) v (by simpa using hv);rwa [show k+1+j=k+(j+1) by omega]);rw [List.forIn_cons];simp only [zab JM,Sem.run_bind,px,pc,Result.andThen_ok,Sem.run_pure];exact ih
  ·cases h
def Yk {κ:Type} [BEq κ] [LawfulBEq κ] {key:TypeId} {fs:Array Field} {ks:List FK} (bP:κ->List Value) (hu:P.underlying key=some (.struct fs)) (hk:gR P key=some ks) (hf:∀ a,fitAll ks (bP a)=true)
  (he:∀ a b,ew (bP a) (bP b)=(a==b)):vh P key κ :=
 Yh (λa=>.agg (bP a).toArray) hu (λ_ _=>rfl) (λa b w=>by
   have:=(HE (P:=P) hk (hf a) (hf b) w .eql (.const (.bool true)) (.const (.bool true))).2;rw [he a b] at this;exact this)
  (λa=>by
   have:=zn (hf a) 9999;show Instr.sameBits (9999+1) _ _=true;simp only [Instr.sameBits];simpa using this)
  (λa b w=>by
   have Dd:rv P 0 fs.toList=some ks:=by
    unfold gR at hk;rw [hu] at hk;simp only at hk;split at hk
    ·cases hk
    ·exact hk
   have:=CR (P:=P) b 9998 w (bP a).toArray fs.toList 0 ks (bP a) Dd (hf a) (λj v hv=>by simpa using hv);show (Instr.checkKey b (9999+1) key _).run P w=.ok () w;unfold Instr.checkKey;simp only [Sem.run_bind,run_underlying hu,Result.andThen_ok];rw [←Array.forIn_toList,show (9999:Nat)=9998+1 from rfl,this];rfl)
end keys
structure wR (l:List Oper) (p:Nat) (σ:List Nat):Prop where
 nodup:σ.Nodup
 mem:∀ i,i∈σ↔i<p
 mask:∀ pre i post,σ=pre++i::post->∀ j,((dS l []).getD i 0).testBit j=true->j∈pre
theorem Qa {l:List Oper} {p:Nat} (hp:p<=l.length)
  (D8:∀ i,p<=i->i<l.length->∀ j,j<i->((dS l []).getD i 0).testBit j=true)
  (wQ:∀ (i:Nat) o,l[i]?=some o->∀ e∈o.after,Region.binds .any e=true->e.on<i) :
  ∀ (FR fuel t:Nat) (listed:Array Bool),listed.size=l.length->vZ l listed->(∀ i,p<=i->i<l.length->listed.getD i true=false) ->
   (((List.range p).filter λi=>!listed.getD i true).length=FR)->FR+(l.length-p)<=fuel ->
   ∃ σ:List Nat,Region.linearise.go .any l.toArray fuel t listed []=σ++List.range' p (l.length-p)/\σ.Nodup/\(∀ i,i∈σ↔i<p/\listed.getD i true=false) /\
    ∀ pre i post,σ=pre++i::post->∀ j,((dS l []).getD i 0).testBit j=true->j∈pre∨listed.getD j false=true:=by
 intro FR
 induction FR with
 | zero =>
  intro fuel t listed hs rp PQ AN JH;have oO:∀ i,i<p->listed.getD i true=true:=by
   intro i hi;have h0:=zba AN;have hn:i ∉ (List.range p).filter λi=>!listed.getD i true:=by rw [h0];simp
   rw [zcl,List.mem_range] at hn;cases hb:listed.getD i true with
   | true=>rfl
   | false=>exact absurd ⟨hi,by simp [hb]⟩ hn
  have X1:=yi D8 wQ fuel t p listed (zap _) hp (by omega) hs (λi hi=>by
   by_cases h:i<p
   ·rw [oO i h];simp [h]
   ·rw [PQ i (by omega) hi];simp [h])
  refine ⟨[],by rw [X1];rfl,List.nodup_nil,λi=>⟨λh=>(by cases h),λh=>?_⟩,λpre i post h=>by simp at h⟩
  rw [oO i h.1] at h;cases h.2
 | succ FR ih =>
  intro fuel t listed hs rp PQ AN JH;obtain ⟨fuel,rfl⟩:∃ n,fuel=n+1:=⟨fuel-1,by omega⟩
  -- an operation of the beginning that has not come up
  have hex:∃ i,i<p/\listed.getD i true=false:=by
   have:(List.range p).filter (λi=>!listed.getD i true)≠[]:=λh=>by rw [h] at AN;simp at AN
   obtain ⟨i,hi⟩:=zex _ this;rw [zcl,List.mem_range] at hi;exact ⟨i,hi.1,by simpa using hi.2⟩
  have Oj:∀ i,i<l.length->listed.getD i false=listed.getD i true:=λi hi=>by
   have cE:i<listed.size:=by omega
   simp [zar,cE]
  have UE:((List.range l.toArray.size).filter λi=>!listed.getD i true && ((l.toArray[i]?).map (·.after.all λe=>!Region.binds .any e || listed.getD e.on false)).getD false)=Region.ready .any l.toArray listed:=rfl
  -- the least such is ready
  have eT:Region.ready .any l.toArray listed≠[]:=by
   have PR:∀ n i,i<=n->i<p->listed.getD i true=false->∃ i,i<p/\listed.getD i true=false/\∀ j,j<i->listed.getD j true=true:=by
    intro n
    induction n with
    | zero=>intro i hi Ol h;exact ⟨i,Ol,h,λj hj=>by omega⟩
    | succ n X2 =>
     intro i hi Ol h;by_cases LA:∃ j,j<i/\listed.getD j true=false
     ·obtain ⟨j,hj,FU⟩:=LA;exact X2 j (by omega) (by omega) FU
     ·refine ⟨i,Ol,h,λj hj=>?_⟩;cases hb:listed.getD j true with
      | true=>rfl
      | false=>exact absurd ⟨j,hj,hb⟩ LA
   obtain ⟨i0,h0,h1⟩:=hex;obtain ⟨i,HD,JI,nf⟩:=PR i0 i0 (zap _) h0 h1;have nL:i<l.length:=by omega
   have:i∈Region.ready .any l.toArray listed:=by
    rw [mem_ready];refine ⟨JI,l[i],by simp [nL],λe he hb=>?_⟩;have cE:=wQ i l[i] (zae nL) e he hb;rw [Oj _ (by omega)];exact nf _ cE
   intro FQ;rw [FQ] at this;cases this
  simp only [Region.linearise.go,UE];have hlen:0<(Region.ready .any l.toArray listed).length:=zcw.2 eT;have xp:=zed t hlen;generalize hi:(Region.ready .any l.toArray listed)[t % (Region.ready .any l.toArray listed).length]=i;have CK:(Region.ready .any l.toArray listed)[t % (Region.ready .any l.toArray listed).length]?=some i:=by rw [zae xp,hi]
  rw [CK];simp only [];rw [linearise_go_acc];have Xg:i∈Region.ready .any l.toArray listed:=zbh CK;obtain ⟨JI,o,ho,oO⟩:=mem_ready.1 Xg;have na:l[i]?=some o:=by simpa using ho
  have nL:=(zad.1 na).1;have tc:=v8 rp na (λe he hb=>oO e he hb);have HD:i<p:=by
   rcases zfp i p with h|h
   ·exact h
   ·obtain ⟨i0,h0,h1⟩:=hex;have:=tc i0 (D8 i h nL i0 (by omega));rw [Oj i0 (by omega),h1] at this;cases this
  -- what remains behind it
  have JJ:((List.range p).filter λj=>!(listed.setIfInBounds i true).getD j true).length=FR:=by
   have xq:∀ j,(listed.setIfInBounds i true).getD j true=(listed.getD j true || decide (j=i)):=by
    intro j;by_cases lR:j=i
    ·subst lR;simp [zar,hs,nL]
    ·rw [getD_set_ne true (zcf lR)];simp [lR]
   have PS:((List.range p).filter λj=>!(listed.setIfInBounds i true).getD j true)=((List.range p).filter λj=>!listed.getD j true).filter λj=>!decide (j=i):=by
    rw [List.filter_filter];refine zeb λj _=>?_
    rw [xq j];cases listed.getD j true <;> simp
   rw [PS];have TE:((List.range p).filter λj=>!listed.getD j true).Nodup:=List.nodup_range.filter _;have tV:i∈(List.range p).filter λj=>!listed.getD j true:=by rw [zcl,List.mem_range];exact ⟨HD,by simp [JI]⟩
   have D9:∀ (L:List Nat),L.Nodup->i∈L->(L.filter λj=>!decide (j=i)).length+1=L.length:=by
    intro L
    induction L with
    | nil=>intro _ h;cases h
    | cons a L X4 =>
     intro hn hm;rw [zby] at hn;by_cases ha:a=i
     ·subst ha;have:(L.filter λj=>!decide (j=a))=L:=by
       rw [zdn];intro b hb;have:b≠a:=λe=>hn.1 (e▸hb)
       simp [this]
      rw [zbo];simp [this]
     ·have yI:i∈L:=by
       rcases zaq.1 hm with h|h
       ·exact absurd h.symm ha
       ·exact h
      rw [zbo];simp only [ha,zey,zcj,zbu,zag];rw [X4 hn.2 yI]
   have:=D9 _ TE tV;omega
  have PT:vZ l (listed.setIfInBounds i true):=by
   intro j oj AO yj e Aw hb;by_cases lR:j=i
   ·subst lR;rw [na] at AO;cases AO;exact getD_set_true (oO e Aw hb)
   ·rw [getD_set_ne false (zcf lR)] at yj;exact getD_set_true (rp j oj AO yj e Aw hb)
  have PU:∀ j,p<=j->j<l.length->(listed.setIfInBounds i true).getD j true=false:=λj hj FU=>by rw [getD_set_ne true (by omega)];exact PQ j hj FU
  obtain ⟨σ,h1,h2,h3,h4⟩:=ih fuel (t / (Region.ready .any l.toArray listed).length) _ (by simpa using hs) PT PU JJ (by omega);have xq:∀ j,(listed.setIfInBounds i true).getD j true=(listed.getD j true || decide (j=i)):=by
   intro j;by_cases lR:j=i
   ·subst lR;simp [zar,hs,nL]
   ·rw [getD_set_ne true (zcf lR)];simp [lR]
  refine ⟨i::σ,?_,?_,?_,?_⟩
  ·rw [h1];rfl
  ·rw [zby];refine ⟨λhm=>?_,h2⟩;have:=((h3 i).1 hm).2;rw [xq] at this;simp at this
  ·intro j;rw [zaq,h3,xq];constructor
   ·rintro (rfl|⟨a,b⟩)
    ·exact ⟨HD,JI⟩
    ·refine ⟨a,?_⟩;cases hj:listed.getD j true with
     | false=>rfl
     | true=>rw [hj] at b;simp at b
   ·rintro ⟨a,b⟩;by_cases lR:j=i
    ·exact .inl lR
    ·exact .inr ⟨a,by simp [b,lR]⟩
  ·intro pre i' post he j hj;cases pre with
   | nil =>
    simp only [zbx,List.cons.injEq] at he;rw [←he.1] at hj;exact .inr (tc j hj)
   | cons a pre =>
    simp only [List.cons_append,List.cons.injEq] at he;rcases h4 pre i' post he.2 j hj with h|h
    ·exact .inl (zah _ h)
    ·by_cases lR:j=i
     ·left;rw [lR,he.1];exact zaj
     ·rw [getD_set_ne false (zcf lR)] at h;exact .inr h
section run
variable {P:Program} {f:Ctx} {N:Nat} {S:Start} {Q:EV->St->Prop} {k:List Item}
theorem bq.LU {id:Nat} {l:List Oper} {env:Env} {st:St} (p:Nat) (hm:P.follows .mixedOrders=true) (hB:cr l p=true)
  (h:∀ σ,wR l p σ->bq P f N S Q (.inRegion l.toArray (σ++List.range' p (l.length-p))::k) env st):bq P f N S Q (.code (.region id l.toArray true)::k) env st:=by
 simp only [cr,zas] at hB;obtain ⟨⟨⟨⟨RZ,Xh⟩,Xi⟩,Xj⟩,UF⟩:=hB;have hp:p<=l.length:=by simpa using UF
 intro g w tmps hinv hh he hn;refine ep.zJ λt=>?_
 have PW:Region.schedule (P.follows .mixedOrders) l.toArray t=Region.linearise .any l.toArray t:=by simp [Region.schedule,hm]
 rw [PW];have hb:Below w.heap.size w { w with drawn:=w.drawn+1 }:=(Below.refl _ w).drew;obtain ⟨dR,ma⟩:=hinv.grow (g':=g) hb (λ_ _=>rfl) rfl rfl;unfold Region.linearise;obtain ⟨σ,h1,h2,h3,h4⟩:=Qa (l:=l) (p:=p) hp (λi hi nL j hj=>by
   have h1:=cJ Xi nL;simp only [zbv,zak] at h1;rcases h1 with h1|h1
   ·omega
   ·exact cJ h1 hj) (λi o ho e Aw ka=>by
   have nL:=(zad.1 ho).1;have h1:=cJ Xj nL;rw [ho] at h1;simp only [zbd] at h1;have:=h1 e (by simpa using Aw);simpa [ka] using this) p l.toArray.size t (Array.replicate l.toArray.size false) (by simp) (λi o ho PO=>by
   simp [zar,Array.getElem?_replicate] at PO;split at PO <;> simp_all) (λi hi nL=>by simp [zar,Array.getElem?_replicate,nL]) (by
   have:((List.range p).filter λi=>!(Array.replicate l.toArray.size false).getD i true)=List.range p:=by
    rw [zdn];intro i hi;have hi':=List.mem_range.1 hi;have:i<l.length:=by omega
    simp [zar,Array.getElem?_replicate,this]
   rw [this];simp) (by simp;omega)
 rw [h1];refine h σ ⟨h2,λi=>?_,λpre i post he j hj=>?_⟩ g _ tmps dR (hh.step ma) (he.mono ma.dy) hn
 ·rw [h3];constructor
  ·exact λh=>h.1
  ·intro hi;have:i<l.length:=by omega
   exact ⟨hi,by simp [zar,Array.getElem?_replicate,this]⟩
 ·rcases h4 pre i post he j hj with h|h
  ·exact h
  ·simp [zar,Array.getElem?_replicate] at h;split at h <;> simp_all
def TM (P:Program) (base:Nat) (env:Env) (st:St) (o:Oper) (x:EV) (st':St):Prop :=
 ∀ g w tmps,Inv g base w st->dO g w st env tmps->∃ f' args,(execOp (Act.eval ⟨tmps,[]⟩) o).run P w=.ok (.enter f' args) w /\
  Calls P f' args w λe w'=>∃ v g',e=.returned v/\bJ g' w' st' x v/\Inv g' base w' st'/\Step base g w st g' w' st'
def OpF (P:Program) (base:Nat) (l:List Oper) (env:Env) (st:St) (o:Oper) (x:EV) (st':St):Prop:=OpE P base l env st o x st'∨(o.guard=none/\TM P base env st o x st')
theorem bq.runσ {l:List Oper} {p:Nat} {σ:List Nat} {env:Env} {st:St} (hs:wR l p σ) (hp:p<=l.length) (xs:List EV) (F:List Nat->St->Prop)
  (X0:∀ i j t,i<p->j<p->i≠j->ek l i=some t->ek l j≠some t)
  (TF:∀ (i:Nat) o,i<p->l[i]?=some o->∀ t∈JG l o,∀ j,j<p->j≠i->ek l j=some t->(j<i/\((dS l []).getD i 0).testBit j=true)∨(i<j/\((dS l []).getD j 0).testBit i=true))
  (TK:xs.length=p) (hF0:F [] st)
  (oY:∀ pre i post st o,σ=pre++i::post->l[i]?=some o->F pre st->fV N o.dst=true/\∃ x st',xs[i]?=some x/\OpF P S.base l (mf l o (fY env ((l.take p).take i) (xs.take i))) st o x st'/\F (pre++[i]) st')
  (BT:∀ st,F σ st->cd P f N S Q l (l.drop p) k (fY env (l.take p) xs) st):bq P f N S Q (.inRegion l.toArray (σ++List.range' p (l.length-p))::k) env st:=by
 have vS:xs.length=(l.take p).length:=by simp;omega
 suffices key:∀ (post pre:List Nat) (st:St) (g:bT) (w:World) (tmps:Array Value),σ=pre++post->F pre st->Inv g S.base w st->rm S g w st->tmps.size=N ->
   (∀ (s:Tmp),(∀ (j:Nat) x,j∈pre->ek l j=some s->xs[j]?=some x->∃ v,tmps[s]?=some v/\bJ g w st x v) /\
    ((∀ j,j∈pre->ek l j≠some s)->∀ y,lookup s env=some y->∃ v,tmps[s]?=some v/\bJ g w st y v)) ->
   ep P f (nC S Q) (.inRegion l.toArray (post++List.range' p (l.length-p))::k) tmps w by
  intro g w tmps hinv hh he hN;exact key σ [] st g w tmps rfl hF0 hinv hh hN λs=>⟨λj x hj=>by (cases hj),λ_ y hy=>he s y hy⟩
 intro post
 induction post with
 | nil =>
  intro pre st g w tmps hσ hF hinv hh hN hJ;rw [zbq] at hσ;subst hσ;have Ax:(l.drop p).length=l.length-p:=by simp
  rw [zbx,←Ax];refine BT st hF p (λj=>by rw [zbb]) g w tmps hinv hh (λs y hy=>?_) hN;rcases jL vS hy with ⟨j,o,h1,h2,h3⟩|⟨h1,h2⟩
  ·have hj:j<p:=by have:=(zad.1 h2).1;omega
   have ho:l[j]?=some o:=by rw [zam] at h1;rw [zab hj] at h1;exact h1
   exact (hJ s).1 j y ((hs.mem j).2 hj) (by simp [ek,ho,h3]) h2
  ·refine (hJ s).2 (λj hj hd=>?_) y h2;have Jm:=(hs.mem j).1 hj;cases ho:l[j]? with
   | none=>simp [ek,ho] at hd
   | some o=>exact h1 j o (by rw [zam,zab Jm];exact ho) (by simpa [ek,ho] using hd)
 | cons i post ih =>
  intro pre st g w tmps hσ hF hinv hh hN hJ;have hi:i<p:=(hs.mem i).1 (by rw [hσ];simp);have nL:i<l.length:=by omega
  obtain ⟨o,na⟩:∃ o,l[i]?=some o:=⟨_,zae nL⟩;have tc:=hs.mask pre i post hσ;have M7:i ∉ pre:=by
   have:=hs.nodup;rw [hσ,zdm] at this;exact λhm=>this.2.2 i hm i zaj rfl
  have hprelt:∀ j,j∈pre->j<p:=λj hj=>(hs.mem j).1 (by rw [hσ];simp [hj]);obtain ⟨hd,x,st',hx,vd,hF'⟩:=oY pre i post st o hσ na hF
  -- what the operation looks at
  have he:dO g w st (mf l o (fY env ((l.take p).take i) (xs.take i))) tmps:=by
   intro s y hy;obtain ⟨Pq,Jl⟩:=tb hy;rcases jL (by simp [vS]) Jl with ⟨j,o',h1,h2,h3⟩|⟨h1,h2⟩
   ·have lR:j<i:=by have:=(zad.1 h2).1;simp at this;omega
    have AO:l[j]?=some o':=by
     rw [zam,zab lR,zam,zab (by omega)] at h1;exact h1
    have uh:ek l j=some s:=by simp [ek,AO,h3]
    rcases TF i o hi na s Pq j (by omega) (by omega) uh with ⟨_,hb⟩|⟨cE,_⟩
    ·exact (hJ s).1 j y (tc j hb) uh (by rw [zam,zab lR] at h2;exact h2)
    ·omega
   ·refine (hJ s).2 (λj hj uh=>?_) y h2;have lR:j≠i:=λe=>M7 (e▸hj)
    rcases TF i o hi na s Pq j (hprelt j hj) lR uh with ⟨cE,_⟩|⟨cE,hb⟩
    ·cases AO:l[j]? with
     | none=>simp [ek,AO] at uh
     | some o'=>exact h1 j o' (by rw [zam,zab cE,zam,zab (hprelt j hj)];exact AO) (by simpa [ek,AO] using uh)
    ·-- j came ahead of i,though it must come behind it
     obtain ⟨a,b,BR⟩:=zea hj;have:=hs.mask a j (b++i::post) (by rw [hσ,BR];simp) i hb;exact absurd (by rw [BR];simp [this]:i∈pre) M7
  have next:∀ (g':bT) (w':World) (v:Value),bJ g' w' st' x v->Inv g' S.base w' st'->Step S.base g w st g' w' st' ->
    ep P f (nC S Q) (.inRegion l.toArray (post++List.range' p (l.length-p))::k) (Act.put ⟨tmps,[]⟩ o.dst v).tmps w':=by
   intro g' w' v AK dR ma;refine ih (pre++[i]) st' g' w' _ (by rw [hσ];simp) hF' dR (hh.step ma) (by rw [ia];exact hN) λs=>⟨λj y hj uh hy=>?_,λM1 y hy=>?_⟩
   ·by_cases lR:j=i
    ·subst lR;have JK:o.dst=some s:=by simpa [ek,na] using uh
     rw [hx] at hy;cases hy;rw [JK];have fE:s<tmps.size:=by
      rw [JK] at hd;have X5:s+1<=N:=zaf hd;rw [hN];exact X5
     exact ⟨v,by simp [Act.put,fE],AK⟩
    ·have Jm:j∈pre:=by
      rcases zbm.1 hj with h|h
      ·exact h
      ·exact absurd (zca.1 h) lR
     obtain ⟨u,h1,h2⟩:=(hJ s).1 j y Jm uh hy;have o9:o.dst≠some s:=λe=>X0 j i s (hprelt j Jm) hi lR uh (by simp [ek,na,e])
     refine ⟨u,?_,h2.mono ma.dy⟩;cases PV:o.dst with
     | none=>exact h1
     | some d =>
      have:d≠s:=λe=>o9 (by rw [PV,e])
      simp [Act.put,zcc,this,h1]
   ·have o9:o.dst≠some s:=λe=>M1 i (by simp) (by simp [ek,na,e])
    obtain ⟨u,h1,h2⟩:=(hJ s).2 (λj hj=>M1 j (by simp [hj])) y hy;refine ⟨u,?_,h2.mono ma.dy⟩;cases PV:o.dst with
    | none=>exact h1
    | some d =>
     have:d≠s:=λe=>o9 (by rw [PV,e])
     simp [Act.put,zcc,this,h1]
  have FG:l.toArray[i]?=some o:=by simpa using na
  show ep P f (nC S Q) (.inRegion l.toArray (i::_)::k) tmps w;have xx:st'=st->∀ (dh:Nat->Nat) (w':World) (v:Value),Good g w st x dh w' v ->
    ep P f (nC S Q) (.inRegion l.toArray (post++List.range' p (l.length-p))::k) (Act.put ⟨tmps,[]⟩ o.dst v).tmps w':=by
   rintro rfl dh w' v ⟨AK,hb,hl⟩;obtain ⟨dR,ma⟩:=hinv.grow (g':={ g with lim:=dh }) hb hl rfl rfl;exact next _ w' v AK dR ma
  rcases vd with (⟨Oo,vd⟩|⟨hg,vd⟩|⟨hg,rfl,vd⟩)|⟨hg,vd⟩
  ·rcases vd with ⟨hg,vd⟩|⟨j,want,tt,c,b,y,env',hg,hj,X6,X7,rfl,hE,vd⟩
   ·have hw:Region.wanted o (yielded l.toArray tmps)=true:=by simp [Region.wanted,hg]
    rcases vd g S.base w tmps hinv he with ⟨v,dh,w',hr,xr⟩|⟨f',args,hr,hc⟩
    ·exact ep.value FG hw hr (xx Oo dh w' v xr)
    ·exact ep.call FG hw hr (hc.mono λe w' ⟨v,dh,h1,h2⟩=>⟨v,h1,xx Oo dh w' v h2⟩)
   ·obtain ⟨u,hu,X8⟩:=he tt c X6;have hw:Region.wanted o (yielded l.toArray tmps)=b:=by
     rw [←sU X7 X8];have Jm:((l.toArray)[j]?).bind (·.dst)=some tt:=by simpa using hj
     simp only [Region.wanted,hg,yielded,Jm,zac,hu];cases u <;> rfl
    cases b with
    | false=>exact ep.xk FG hw (xx Oo g.lim w undef ⟨.gd _ _ _ (λ_=>rfl) (λh=>by cases h),.refl _ _,λ_ _=>rfl⟩)
    | true =>
     have wrap:∀ dh w' v,Good g w st y dh w' v->Good g w st (.gd true y) dh w' v:=λdh w' v ⟨a,b,c⟩=>⟨.gd _ _ _ (λh=>by cases h) (λ_=>a),b,c⟩
     rcases vd rfl g S.base w tmps hinv (he.gd hE rfl) with ⟨v,dh,w',hr,xr⟩|⟨f',args,hr,hc⟩
     ·exact ep.value FG hw hr (xx Oo dh w' v (wrap _ _ _ xr))
     ·exact ep.call FG hw hr (hc.mono λe w' ⟨v,dh,h1,h2⟩=>⟨v,h1,xx Oo dh w' v (wrap _ _ _ h2)⟩)
  ·have hw:Region.wanted o (yielded l.toArray tmps)=true:=by simp [Region.wanted,hg]
   obtain ⟨v,g',w',hr,AK,dR,ma⟩:=vd g w tmps hinv he;exact ep.value FG hw hr (next g' w' v AK dR ma)
  ·have hw:Region.wanted o (yielded l.toArray tmps)=true:=by simp [Region.wanted,hg]
   obtain ⟨g',w',hr,dR,ma⟩:=vd g w tmps hinv he;exact ep.skip FG hw hr (next g' w' undef (.d _ _ (.any _)) dR ma)
  ·have hw:Region.wanted o (yielded l.toArray tmps)=true:=by simp [Region.wanted,hg]
   obtain ⟨f',args,hr,hc⟩:=vd g w tmps hinv he;exact ep.call FG hw hr (hc.mono λe w' ⟨v,g',h1,AK,dR,ma⟩=>⟨v,h1,next g' w' v AK dR ma⟩)
def OA:List St->(St->Prop)->Prop
 | [],_=>True
 | s::r,p=>p s/\OA r p
theorem OA.get {p:St->Prop}:∀ {ss:List St} {i:Nat} {s:St},OA ss p->ss[i]?=some s->p s
 | s::r,0,s',h,hs=>by simp at hs;subst hs;exact h.1
 | s::r,i+1,s',h,hs=>OA.get h.2 (by simpa using hs)
 | [],i,s',h,hs=>by simp at hs
def U5 (l:List Oper) (E:List Nat) (i m:Nat):Bool:=E.zipIdx.all λe=>(!((dS l []).getD i 0).testBit e.1 || decide (e.2<m)) && (!((dS l []).getD e.1 0).testBit i || decide (m<=e.2))
def Qb (l:List Oper) (E:List Nat) (i lo hi:Nat):Bool:=(List.range (E.length+1)).all λm=>!U5 l E i m || (decide (lo<=m) && decide (m<=hi))
def TN (P:Program) (N base:Nat) (l:List Oper) (E:List Nat) (iA:List St) (i:Nat) (o:Oper) (env:Env) (x:EV):Prop :=
  fV N o.dst=true /\
  ((∃ lo hi,(!E.any λe=>Nat.beq e i)=true/\Qb l E i lo hi=true/\OA ((iA.take (hi+1)).drop lo) λs=>ug P l env s o x) ∨
   (∃ m s s',E[m]?=some i/\iA[m]?=some s/\iA[m+1]?=some s'/\o.guard=none/\(xl P base env s o x s'∨(x=.d .any/\Hv P base env s o s')∨TM P base env s o x s')))
def wi (P:Program) (N base:Nat) (l:List Oper) (E:List Nat) (iA:List St):Nat->List Oper->List EV->Env->Prop
 | _,[],[],_=>True
 | i,o::os,x::xs,env=>TN P N base l E iA i o (mf l o env) x/\wi P N base l E iA (i+1) os xs (env.put o.dst x)
 | _,_,_,_=>False
theorem wi.length {base:Nat} {l:List Oper} {E:List Nat} {iA:List St}:∀ {i:Nat} {os:List Oper} {xs:List EV} {env:Env},wi P N base l E iA i os xs env->xs.length=os.length
 | _,[],[],_,_=>rfl
 | _,o::os,x::xs,env,h=>by simp [wi.length h.2]
 | _,[],x::xs,_,h=>h.elim
 | _,o::os,[],_,h=>h.elim
theorem wi.get {base:Nat} {l:List Oper} {E:List Nat} {iA:List St}:∀ {i:Nat} {os:List Oper} {xs:List EV} {env:Env} {j:Nat} {o:Oper},wi P N base l E iA i os xs env->os[j]?=some o ->
  ∃ x,xs[j]?=some x/\TN P N base l E iA (i+j) o (mf l o (fY env (os.take j) (xs.take j))) x
 | i,o'::os,x::xs,env,0,o,h,ho=>by
  simp at ho;subst ho;exact ⟨x,rfl,by simpa [fY] using h.1⟩
 | i,o'::os,x::xs,env,j+1,o,h,ho=>by
  obtain ⟨y,h1,h2⟩:=wi.get (j:=j) h.2 (by simpa using ho);exact ⟨y,by simpa using h1,by simpa [fY,zch,zdd 1 j] using h2⟩
 | i,[],xs,env,j,o,h,ho=>by simp at ho
 | i,o'::os,[],_,_,_,h,_=>h.elim
theorem bq.effσ {l:List Oper} {p:Nat} {σ:List Nat} {env:Env} {st xz:St} (hB:cr l p=true) (hs:wR l p σ) (E:List Nat) (iA:List St) (hE:σ.filter (λi=>E.any λe=>Nat.beq e i)=E) {xs:List EV}
  (h0:iA[0]?=some st) (hF:iA[E.length]?=some xz) (Jp:wi P N S.base l E iA 0 (l.take p) xs env) (BT:cd P f N S Q l (l.drop p) k (fY env (l.take p) xs) xz) :
  bq P f N S Q (.inRegion l.toArray (σ++List.range' p (l.length-p))::k) env st:=by
 simp only [cr,zas] at hB;obtain ⟨⟨⟨⟨RZ,Xh⟩,Xi⟩,Xj⟩,UF⟩:=hB;have hp:p<=l.length:=by simpa using UF
 have TK:xs.length=p:=by rw [Jp.length];simp;omega
 refine bq.runσ hs hp xs (λpre s=>iA[(pre.filter λi=>E.any λe=>Nat.beq e i).length]?=some s) ?_ ?_ TK h0 ?_ ?_
 ·intro i j t hi hj M3 X9 uh;have:=cJ (cJ Xh hi) hj;simp [M3,X9,uh] at this
 ·intro i o hi ho t ht j hj lR uh;have h1:=cJ RZ hi;rw [ho] at h1;simp only [zbd] at h1;have h2:=cJ (h1 t ht) hj;simp only [uh,zeo,zds,zbv,zas,zak,zdw] at h2;rcases h2 with (h2|h2)|h2
  ·exact absurd h2.symm lR
  ·exact .inl h2
  ·exact .inr h2
 ·intro pre i post s o hσ ho M8;have hi:i<p:=(hs.mem i).1 (by rw [hσ];simp);obtain ⟨x,hx,ma⟩:=Jp.get (j:=i) (o:=o) (by rw [zam,zab hi];exact ho);rw [zbr] at ma;obtain ⟨hd,ma⟩:=ma;refine ⟨hd,x,?_⟩
  -- how far the turning operations have come
  have HW:E=(pre.filter λi=>E.any λe=>Nat.beq e i)++((i::post).filter λi=>E.any λe=>Nat.beq e i):=by
   have:=hE;rw [hσ,zdo] at this;exact this.symm
  generalize hm:(pre.filter λi=>E.any λe=>Nat.beq e i).length=m at M8;have hmE:m<=E.length:=by rw [HW,zai,hm];omega
  rcases ma with ⟨lo,hi',eT,hb,oO⟩|⟨m',s0,s1,ZQ,Lo,hs1,hg,vd⟩
  ·have U6:(E.any λe=>Nat.beq e i)=false:=by simpa using eT
   have U7:U5 l E i m=true:=by
    unfold U5;rw [zbd];rintro ⟨e,j⟩ hej;have Xo:E[j]?=some e:=by
     have:=zer.1 hej;simpa using this
    have Sx:(E.any λe'=>Nat.beq e' e)=true:=zew.2 ⟨e,zbh Xo,zep e⟩;simp only [zas,zbv,zdq,zak];have Qc:E.Nodup:=by rw [←hE];exact hs.nodup.filter _
    constructor
    ·cases Qd:((dS l []).getD i 0).testBit e with
     | false=>exact .inl rfl
     | true =>
      right;have CN:=hs.mask pre i post hσ e Qd;have Yl:e∈pre.filter λi=>E.any λe=>Nat.beq e i:=zcl.2 ⟨CN,Sx⟩
      obtain ⟨a,ha,hae⟩:=List.mem_iff_getElem.1 Yl;have:E[a]?=some e:=by rw [HW,zan ha,zae ha,hae]
      have haj:a=j:=by
       have h1:=(zad.1 this);have h2:=(zad.1 Xo);exact (List.getElem_inj Qc).1 (h1.2.trans h2.2.symm)
      omega
    ·cases Qd:((dS l []).getD e 0).testBit i with
     | false=>exact .inl rfl
     | true =>
      right
      -- e comes behind i
      rcases zfp j m with hjm|hjm
      ·have h1:(pre.filter λi=>E.any λe=>Nat.beq e i)[j]?=some e:=by
        rw [HW,zan (by omega)] at Xo;exact Xo
       have CN:e∈pre:=(zcl.1 (zbh h1)).1;obtain ⟨a,b,BR⟩:=zea CN;have:=hs.mask a e (b++i::post) (by rw [hσ,BR];simp) i Qd;have M7:i ∉ pre:=by
        have:=hs.nodup;rw [hσ,zdm] at this;exact λhm=>this.2.2 i hm i zaj rfl
       exact absurd (by rw [BR];simp [this]:i∈pre) M7
      ·exact hjm
   have hbd:=zbd.1 hb m (List.mem_range.2 (by omega));rw [U7] at hbd;simp only [zci,zdc,zas,zak] at hbd;refine ⟨s,hx,.inl (.inl ⟨rfl,oO.get (i:=m-lo) ?_⟩),?_⟩
   ·rw [zbb,zam,zab (by omega),show lo+(m-lo)=m by omega];exact M8
   ·rw [zdo,zbo,U6];simp only [zaz,zbt,List.filter_nil,zbq];rw [hm];exact M8
  ·have Sx:(E.any λe'=>Nat.beq e' i)=true:=zew.2 ⟨i,zbh ZQ,zep i⟩;have Qc:E.Nodup:=by rw [←hE];exact hs.nodup.filter _
   have hEm2:E[m]?=some i:=by
    rw [HW,zav (by omega),hm,Nat.sub_self,zbo,Sx];rfl
   have ZR:m=m':=by
    have h1:=(zad.1 hEm2);have h2:=(zad.1 ZQ);exact (List.getElem_inj Qc).1 (h1.2.trans h2.2.symm)
   subst ZR;rw [M8] at Lo;cases Lo;refine ⟨s1,hx,?_,?_⟩
   ·rcases vd with h|⟨h1,h2⟩|h
    ·exact .inl (.inr (.inl ⟨hg,h⟩))
    ·exact .inl (.inr (.inr ⟨hg,h1,h2⟩))
    ·exact .inr ⟨hg,h⟩
   ·rw [zdo,zbo,Sx];simp only [zbu,List.filter_nil,zai,zal,hm];exact hs1
 ·intro s M8;rw [hE,hF] at M8;cases M8;exact BT
theorem filter_one {σ:List Nat} (hn:σ.Nodup) {e:Nat} (he:e∈σ):σ.filter (λi=>i==e)=[e]:=by
 induction σ with
 | nil=>cases he
 | cons c r ih =>
  rw [zby] at hn;by_cases hc:c=e
  ·subst hc;have:r.filter (λi=>i==c)=[]:=zdl.2 λi hi h=>hn.1 (by rw [zdw] at h;exact h▸hi);rw [zbo,zfl,zab rfl,this]
  ·rw [zbo];have:(c==e)=false:=by simpa using hc
   rw [this];simpa using ih hn.2 ((zaq.1 he).resolve_left (zcf hc))
theorem wR.one {l:List Oper} {p:Nat} {σ:List Nat} (hs:wR l p σ) {e:Nat} (he:e<p):σ.filter (λi=>[e].any λe=>Nat.beq e i)=[e]:=by
 have h1:(λi=>[e].any λe=>Nat.beq e i)=λi=>i==e:=by
  funext i;simp only [zdt,zfq,zds];rw [zbz,Nat.beq_eq,zdw,zeq]
 rw [h1];exact filter_one hs.nodup ((hs.mem e).2 he)
theorem LV {σ:List Nat} (hn:σ.Nodup) {a b:Nat} (BR:a≠b) (ha:a∈σ) (hb:b∈σ) (q:Nat->Bool) (hq:∀ i,q i=(i==a || i==b)):σ.filter q=[a,b]∨σ.filter q=[b,a]:=by
 induction σ with
 | nil=>cases ha
 | cons c r ih =>
  rw [zby] at hn;by_cases TO:c=a
  ·subst TO;left;have hbr:b∈r:=(zaq.1 hb).resolve_left (zcf BR);rw [zbo,hq,zfl,zes,zab rfl];congr 1;have:r.filter q=r.filter λi=>i==b:=zeb λi hi=>by
    have:i≠c:=λe=>hn.1 (e▸hi)
    rw [hq];simp [this]
   rw [this];exact filter_one hn.2 hbr
  ·by_cases U8:c=b
   ·subst U8;right;have har:a∈r:=(zaq.1 ha).resolve_left (zcf TO);rw [zbo,hq,zfl,Bool.or_true,zab rfl];congr 1;have:r.filter q=r.filter λi=>i==a:=zeb λi hi=>by
     have:i≠c:=λe=>hn.1 (e▸hi)
     rw [hq];simp [this]
    rw [this];exact filter_one hn.2 har
   ·have har:a∈r:=(zaq.1 ha).resolve_left (zcf TO);have hbr:b∈r:=(zaq.1 hb).resolve_left (zcf U8);have:=ih hn.2 har hbr;rw [zbo,hq];simpa [TO,U8] using this
theorem wR.two {l:List Oper} {p:Nat} {σ:List Nat} (hs:wR l p σ) {a b:Nat} (BR:a≠b) (ha:a<p) (hb:b<p) :
  σ.filter (λi=>[a,b].any λe=>Nat.beq e i)=[a,b]∨σ.filter (λi=>[b,a].any λe=>Nat.beq e i)=[b,a]:=by
 have q1:∀ i,([a,b].any λe=>Nat.beq e i)=(i==a || i==b):=λi=>by
  simp only [zdt,zfq,zds];rw [zbz];simp only [zbv,Nat.beq_eq,zdw];exact ⟨λh=>h.elim (λh=>.inl h.symm) (λh=>.inr h.symm),λh=>h.elim (λh=>.inl h.symm) (λh=>.inr h.symm)⟩
 have q2:∀ i,([b,a].any λe=>Nat.beq e i)=(i==a || i==b):=λi=>by
  simp only [zdt,zfq,zds];rw [zbz];simp only [zbv,Nat.beq_eq,zdw];exact ⟨λh=>h.elim (λh=>.inr h.symm) (λh=>.inl h.symm),λh=>h.elim (λh=>.inr h.symm) (λh=>.inl h.symm)⟩
 rcases LV hs.nodup BR ((hs.mem a).2 ha) ((hs.mem b).2 hb) _ q1 with h|h
 ·exact .inl h
 ·right;have:(λi=>[b,a].any λe=>Nat.beq e i)=λi=>[a,b].any λe=>Nat.beq e i:=by
   funext i;rw [q1,q2]
  rw [this];exact h
theorem wR.two' {l:List Oper} {p:Nat} {σ:List Nat} (hs:wR l p σ) {a b:Nat} (ha:a<p) (hb:b<p) (hm:((dS l []).getD b 0).testBit a=true) :
  σ.filter (λi=>[a,b].any λe=>Nat.beq e i)=[a,b]:=by
 have BR:a≠b:=by
  rintro rfl;obtain ⟨x,y,LW⟩:=zea ((hs.mem a).2 ha);have h1:=hs.mask x a y LW a hm;have:=hs.nodup;rw [LW,zdm] at this;exact this.2.2 a h1 a zaj rfl
 rcases hs.two BR ha hb with h|h
 ·exact h
 ·exfalso;obtain ⟨x,y,LW⟩:=zea ((hs.mem b).2 hb);have h1:=hs.mask x b y LW a hm;rw [LW,zdo] at h;have q:([b,a].any λe=>Nat.beq e b)=true:=by simp
  rw [zbo,q] at h;have h2:a∈x.filter λi=>[b,a].any λe=>Nat.beq e i:=zcl.2 ⟨h1,by simp⟩
  obtain ⟨u,v,huv⟩:=zea h2;have hl:=zbn List.length h;have hbx:b ∉ x:=by
   have:=hs.nodup;rw [LW,zdm] at this;exact λhm=>this.2.2 b hm b zaj rfl
  cases hx:x.filter λi=>[b,a].any λe=>Nat.beq e i with
  | nil=>rw [hx] at h2;cases h2
  | cons c r =>
   rw [hx] at h;simp only [List.cons_append,List.cons.injEq] at h;have:b∈x.filter λi=>[b,a].any λe=>Nat.beq e i:=by rw [hx,h.1];exact zaj
   exact hbx (zcl.1 this).1
def lT (P:Program) (f:Ctx) (N:Nat) (S:Start) (Q:EV->St->Prop) (l:List Oper) (p:Nat) (E:List Nat) (iA:List St) (i:Nat) (os:List Oper) (k:List Item) (env:Env):Prop :=
 ∃ xs xz,iA[E.length]?=some xz/\wi P N S.base l E iA i os xs env/\cd P f N S Q l (l.drop p) k (fY env os xs) xz
variable {l:List Oper} {p:Nat} {E:List Nat} {iA:List St} {i:Nat} {os:List Oper} {env:Env} {st:St} {d:Option Tmp} {op:Op} {ty:TypeId} {pos:String} {after:Array Edge} {x:EV}
theorem lT.nil {xz:St} (hF:iA[E.length]?=some xz) (h:cd P f N S Q l (l.drop p) k env xz):lT P f N S Q l p E iA i [] k env:=⟨[],xz,hF,trivial,h⟩
def Qe (P:Program) (l:List Oper) (env:Env) (o:Oper) (x:EV):List St->Prop
 | []=>True
 | s::r=>zi P (mf l o env) s o x/\Qe P l env o x r
theorem Qe.all {o:Oper} {P:Program} {l:List Oper} {env:Env} {x:EV} (hg:o.guard=none):∀ {ss:List St},Qe P l env o x ss->OA ss λs=>ug P l (mf l o env) s o x
 | [],_=>trivial
 | s::r,h=>⟨.inl ⟨hg,h.1⟩,Qe.all hg h.2⟩
theorem lT.g (lo hi:Nat) (h:Qe P l env ⟨d,op,ty,pos,after,none⟩ x ((iA.take (hi+1)).drop lo)) (eT:(!E.any λe=>Nat.beq e i)=true) (hb:Qb l E i lo hi=true) (hd:fV N d=true)
  (hk:lT P f N S Q l p E iA (i+1) os k (env.put d x)):lT P f N S Q l p E iA i (⟨d,op,ty,pos,after,none⟩::os) k env:=by
 obtain ⟨xs,xz,h0,h1,h2⟩:=hk;exact ⟨x::xs,xz,h0,⟨⟨hd,.inl ⟨lo,hi,eT,hb,h.all rfl⟩⟩,h1⟩,h2⟩
theorem lT.v {s s':St} (m:Nat) (h:xl P S.base (mf l ⟨d,op,ty,pos,after,none⟩ env) s ⟨d,op,ty,pos,after,none⟩ x s') (hE:E[m]?=some i) (h1:iA[m]?=some s) (h2:iA[m+1]?=some s') (hd:fV N d=true)
  (hk:lT P f N S Q l p E iA (i+1) os k (env.put d x)):lT P f N S Q l p E iA i (⟨d,op,ty,pos,after,none⟩::os) k env:=by
 obtain ⟨xs,xz,h0,h3,h4⟩:=hk;exact ⟨x::xs,xz,h0,⟨⟨hd,.inr ⟨m,s,s',hE,h1,h2,rfl,.inl h⟩⟩,h3⟩,h4⟩
theorem lT.u {s s':St} (m:Nat) (h:Hv P S.base (mf l ⟨d,op,ty,pos,after,none⟩ env) s ⟨d,op,ty,pos,after,none⟩ s') (hE:E[m]?=some i) (h1:iA[m]?=some s) (h2:iA[m+1]?=some s') (hd:fV N d=true)
  (hk:lT P f N S Q l p E iA (i+1) os k (env.put d (.d .any))):lT P f N S Q l p E iA i (⟨d,op,ty,pos,after,none⟩::os) k env:=by
 obtain ⟨xs,xz,h0,h3,h4⟩:=hk;exact ⟨.d .any::xs,xz,h0,⟨⟨hd,.inr ⟨m,s,s',hE,h1,h2,rfl,.inr (.inl ⟨rfl,h⟩)⟩⟩,h3⟩,h4⟩
theorem lT.c {s s':St} (m:Nat) (h:TM P S.base (mf l ⟨d,op,ty,pos,after,none⟩ env) s ⟨d,op,ty,pos,after,none⟩ x s') (hE:E[m]?=some i) (h1:iA[m]?=some s) (h2:iA[m+1]?=some s') (hd:fV N d=true)
  (hk:lT P f N S Q l p E iA (i+1) os k (env.put d x)):lT P f N S Q l p E iA i (⟨d,op,ty,pos,after,none⟩::os) k env:=by
 obtain ⟨xs,xz,h0,h3,h4⟩:=hk;exact ⟨x::xs,xz,h0,⟨⟨hd,.inr ⟨m,s,s',hE,h1,h2,rfl,.inr (.inr h)⟩⟩,h3⟩,h4⟩
theorem bq.ZS {σ:List Nat} {env:Env} {st:St} (hB:cr l p=true) (hs:wR l p σ) (hE:σ.filter (λi=>E.any λe=>Nat.beq e i)=E) (h0:iA[0]?=some st) (h:lT P f N S Q l p E iA 0 (l.take p) k env) :
  bq P f N S Q (.inRegion l.toArray (σ++List.range' p (l.length-p))::k) env st:=by
 obtain ⟨xs,xz,h1,h2,h3⟩:=h;exact .effσ hB hs E iA hE h0 h1 h2 h3
theorem bq.reorder {todo:List Item} {env LX:Env} {st st0:St} (rs ts:List Nat) (hp:zm rs ts st0 st=true)
  (ho:rs.map (λr=>st.aP[r]?)=st0.aP.map (λx=>some (x.ren (cW rs st.aP.length) (cW ts st.ar.length)))) (ht:ts.map (λr=>st.ar[r]?)=st0.ar.map some)
  (hr:rs.take S.st.aP.length=List.range S.st.aP.length) (wP:ts.take S.st.ar.length=List.range S.st.ar.length) (hl:(Nat.ble S.st.aP.length rs.length && Nat.ble S.st.ar.length ts.length)=true)
  (h5:st0.aP.all (kf st0.aP.length st0.ar.length)=true) (xt:(LX.all λp=>ph st0.aP.length st0.ar.length p.2)=true)
  (hE:cZ env (LX.map λp=>(p.1,p.2.ren (cW rs st.aP.length) (cW ts st.ar.length)))) (h:bq P f N S Q todo LX st0):bq P f N S Q todo env st:=by
 obtain ⟨p,Xl,Lp,l1,l2⟩:=Part.of hp h5 ho ht;simp only [zas] at hl;have yJ:=zaf hl.1;have zl:=zaf hl.2;have same:∀ {l:List Nat} {n N:Nat},l.take n=List.range n->n<=l.length->∀ i,i<n->cW l N i=i:=fun {l n N} hl hn i hi=>by
  have e:(l.take n)[i]?=some i:=by rw [hl,List.getElem?_range hi]
  rw [zam,zab hi] at e;simp [cW,e]
 have so:=λi hi=>same (N:=st.aP.length) hr yJ i hi
 have M6:=λi hi=>same (N:=st.ar.length) wP zl i hi
 have CM:∀ {i:Nat},i<st0.ar.length->st0.ar[i]?=st.ar[cW ts st.ar.length i]?:=fun {i} hi=>by
  rw [p.ar i _ (zae hi),zae hi]
 intro g w tmps hinv hh he hN;refine h (g.sub _ _) w tmps (hinv.part p) ⟨⟨hh.dy.cP,λo na=>?_,by omega,λt e sz n hx=>?_,by omega,λt x' bw cE jK na=>?_⟩,hh.below,hh.lim,hh.frame,λb hb hw=>hh.fresh b hb (p.owned hw)⟩ (λi y hy=>?_) hN
 ·show g.ob (cW rs st.aP.length o)=S.g.ob o;rw [so o na];exact hh.dy.ob o na
 ·have cE:t<S.st.ar.length:=(zad.1 hx).1;obtain ⟨n',a1,a2,a3⟩:=hh.dy.ar t e sz n hx;refine ⟨n',?_,a2,λe'=>?_⟩
  ·rw [CM (by omega),M6 t cE];exact a1
  ·show g.tk (cW ts st.ar.length t)=S.g.tk t;rw [M6 t cE];exact a3 e'
 ·rw [CM (by have:=(zad.1 jK).1;exact this),M6 t cE] at jK;obtain ⟨y,rows,a1,a2,a3,a4,a5⟩:=hh.dy.own t x' bw cE jK na;refine ⟨y,rows,a1,a2,a3,a4,λe'=>?_⟩;show g.tk (cW ts st.ar.length t)=S.g.tk t;rw [M6 t cE];exact a5 e'
 ·have PB:∀ {e0:Env},lookup i e0=some y->lookup i (e0.map λp=>(p.1,p.2.ren (cW rs st.aP.length) (cW ts st.ar.length)))=some (y.ren (cW rs st.aP.length) (cW ts st.ar.length))/\(i,y)∈e0:=by
   intro e0
   induction e0 with
   | nil=>intro hh;cases hh
   | cons q r ih =>
    obtain ⟨j,z⟩:=q;intro hh;unfold lookup at hh;simp only [zao];unfold lookup;cases hb:Nat.beq i j with
    | true =>
     rw [hb] at hh;cases hh;have:=zau hb;subst this;exact ⟨rfl,zaj⟩
    | false =>
     rw [hb] at hh;exact ⟨(ih hh).1,zah _ (ih hh).2⟩
  obtain ⟨m1,m2⟩:=PB hy;obtain ⟨v,h1,h2⟩:=(he.sub hE) i _ m1;exact ⟨v,h1,h2.down p.ar (zbd.1 xt _ m2)⟩
theorem cd.reorder {ops rest:List Oper} {env LX:Env} {st st0:St} (rs ts:List Nat) (hp:zm rs ts st0 st=true)
  (ho:rs.map (λr=>st.aP[r]?)=st0.aP.map (λx=>some (x.ren (cW rs st.aP.length) (cW ts st.ar.length)))) (ht:ts.map (λr=>st.ar[r]?)=st0.ar.map some)
  (hr:rs.take S.st.aP.length=List.range S.st.aP.length) (wP:ts.take S.st.ar.length=List.range S.st.ar.length) (hl:(Nat.ble S.st.aP.length rs.length && Nat.ble S.st.ar.length ts.length)=true)
  (h5:st0.aP.all (kf st0.aP.length st0.ar.length)=true) (xt:(LX.all λp=>ph st0.aP.length st0.ar.length p.2)=true)
  (hE:cZ env (LX.map λp=>(p.1,p.2.ren (cW rs st.aP.length) (cW ts st.ar.length)))) (h:cd P f N S Q ops rest k LX st0):cd P f N S Q ops rest k env st :=
 λj hj=>.reorder rs ts hp ho ht hr wP hl h5 xt hE (h j hj)
theorem bq.sF {id:Nat} {l:List Oper} {env:Env} {st:St} (p a:Nat) (iA:List St) (hm:P.follows .mixedOrders=true) (hB:cr l p=true) (ha:a<p) (h0:iA[0]?=some st)
  (h:lT P f N S Q l p [a] iA 0 (l.take p) k env):bq P f N S Q (.code (.region id l.toArray true)::k) env st :=
 .LU p hm hB λ_ hσ=>.ZS hB hσ (hσ.one ha) h0 h
theorem bq.wj {id:Nat} {l:List Oper} {env:Env} {st:St} (p a b:Nat) (iA:List St) (hm:P.follows .mixedOrders=true) (hB:cr l p=true) (ha:a<p) (hb:b<p) (BR:((dS l []).getD b 0).testBit a=true) (h0:iA[0]?=some st)
  (h:lT P f N S Q l p [a,b] iA 0 (l.take p) k env):bq P f N S Q (.code (.region id l.toArray true)::k) env st :=
 .LU p hm hB λ_ hσ=>.ZS hB hσ (hσ.two' ha hb BR) h0 h
end run
section rules
variable {P:Program} {f:Ctx} {N:Nat} {S:Start} {Q:EV->St->Prop} {k:List Item} {todo:List Item} {base:Nat} {env:Env} {st:St} {ops rest:List Oper}
 {d:Option Tmp} {ty:TypeId} {pos:String} {after:Array Edge} {gd:Option (Nat×Bool)} {t t2 e:TypeId} {x y z:Operand}
section sl
variable {α:Type} {sz:Nat} {row:α->List D} {l:List α} {ev:EV} {inf:TypeInfo} {tk tk2 n n2:Nat}
theorem qs {l':List α} {zv:Value} {e0 w2:EV} (ht:P.underlying t=some (.slice e)) (hi:P.info? e=some inf) (hz:inf.zero=some zv) (ey:inf.size=sz) (qf:zv.cells.size=sz) (hb:inf.bytes<=100000)
  (hx:cP env x=some e0) (h0:e0=.d (.e0 sz)∨e0=.d aY) (eN:st.ar[tk]?=some ⟨e,sz,0,some (([]:List α).map row)⟩) (hy:cP env y=some w2) (hs:uD w2=some (sz,l'.map row)) (hn:l'.length<=1000000000) :
  xl P base env st ⟨d,.call ⟨.builtin .append,#[x,y],#[t,t]⟩,ty,pos,after,gd⟩ (.vc tk ([]++l').length) (st.bC tk ⟨e,sz,([]++l').length,some (([]++l').map row)⟩):=by
 intro g w tmps hinv he;have XX:dw g.lim w (.e0 sz) (Act.eval ⟨tmps,[]⟩ x):=by
  rcases h0 with rfl|rfl
  ·cases aM he hx with|d _ _ h=>exact h
  ·rw [(aM he hx).bK];exact .e0 sz none (.inl rfl)
 have hlen:tk<st.ar.length:=(zad.1 eN).1;have mb:bJ g w st (.vc tk 0) (Act.eval ⟨tmps,[]⟩ x):=by
  generalize hv:Act.eval ⟨tmps,[]⟩ x=v at XX;cases XX with|e0 _ A hA=>exact P5 hlen eN ⟨A,rfl⟩
 obtain ⟨news,sC⟩:=sV (P:=P) (ru hs (aM he hy));obtain ⟨v',g',w',gY,k1,k2,k3⟩:=CO (ty:=ty) (l:=([]:List α)) ht ht (.inr ⟨e,rfl⟩) hi hz ey qf hb hinv mb eN (by simpa using hn) sC;exact ⟨v',g',w',by simp [execOp,resolve,invoke,builtin,gY],k1,k2,k3⟩
end sl
theorem bq.U9 {e sz:Nat} (h:bq P f N S Q todo env (st.tok ⟨e,sz,0,some []⟩)):bq P f N S Q todo env st:=by
 intro g w tmps hinv hh he hN;obtain ⟨g',h1,_,_,h2,h3⟩:=hinv.sB ⟨e,sz,0,some []⟩ (World.ownsRow_nil w S.base _ _) (.inl ⟨rfl,rfl⟩) (λrows hr=>by cases hr;exact ⟨rfl,by simp,by simp⟩);exact h g' w tmps h2 (hh.step h3) (he.mono h3.dy) hN
end rules
def lW (L:Nat->Bool):List Nat->Nat
 | []=>0
 | e::r=>(if L e then 1 else 0)+2*lW L r
theorem B0 (L:Nat->Bool):∀ (E:List Nat) (j e:Nat),E[j]?=some e->(lW L E).testBit j=L e
 | e::r,0,e',h=>by
  simp at h;subst h;unfold lW;cases hL:L e <;> simp [Nat.testBit_zero] <;> omega
 | e::r,j+1,e',h=>by
  have ih:=B0 L r j e' (by simpa using h);unfold lW;rw [Nat.testBit_succ];have:((if L e then 1 else 0)+2*lW L r) / 2=lW L r:=by cases L e <;> simp <;> omega
  rw [this];exact ih
theorem JY (L:Nat->Bool):∀ E:List Nat,lW L E<2 ^ E.length
 | []=>by simp [lW]
 | e::r=>by
  have:=JY L r;unfold lW;rw [zag,Nat.pow_succ];cases L e <;> simp <;> omega
theorem zS {L L':Nat->Bool}:∀ {E:List Nat},(∀ e∈E,L' e=L e)->lW L' E=lW L E
 | [],_=>rfl
 | e::r,h=>by
  unfold lW;rw [h e zaj,zS λx hx=>h x (zah _ hx)]
theorem GQ {L:Nat->Bool} {i:Nat} (hi:L i=false):∀ {E:List Nat} {m:Nat},E.Nodup->E[m]?=some i->lW (λj=>j==i || L j) E=lW L E+2 ^ m
 | e::r,0,hn,h=>by
  simp at h;subst h;rw [zby] at hn;unfold lW;rw [zS (L:=L) (E:=r) λx hx=>by
   have:x≠e:=λhh=>hn.1 (hh▸hx)
   simp [this]]
  simp [hi];omega
 | e::r,m+1,hn,h=>by
  rw [zby] at hn;have h':r[m]?=some i:=by simpa using h
  have ih:=GQ hi hn.2 h';have eT:e≠i:=λhh=>hn.1 (hh▸zbh h')
  unfold lW;rw [ih,Nat.pow_succ];have:(e==i)=false:=by simpa using eT
  simp only [this,zdc];omega
def Va (l:List Oper) (E:List Nat) (i n:Nat):Bool :=
 E.zipIdx.all λe=>(!((dS l []).getD i 0).testBit e.1 || n.testBit e.2) && (!(((dS l []).getD e.1 0).testBit i || Nat.beq e.1 i) || !n.testBit e.2) && (!n.testBit e.2 || E.zipIdx.all λe'=>!((dS l []).getD e.1 0).testBit e'.1 || n.testBit e'.2)
def HX (l:List Oper) (E:List Nat) (i:Nat) (ns:List Nat):Bool:=(List.range (2 ^ E.length)).all λn=>!Va l E i n || ns.any λk=>Nat.beq k n
section run
variable {P:Program} {f:Ctx} {N:Nat} {S:Start} {Q:EV->St->Prop} {k:List Item}
def JZ (iA:List St):List Nat->(St->Prop)->Prop
 | [],_=>True
 | n::r,p=>(∃ s,iA[n]?=some s/\p s)/\JZ iA r p
theorem JZ.get {iA:List St} {p:St->Prop}:∀ {ns:List Nat} {n:Nat},JZ iA ns p->n∈ns->∃ s,iA[n]?=some s/\p s
 | a::r,n,h,hn=>by
  rcases zaq.1 hn with e|e
  ·rw [e];exact h.1
  ·exact JZ.get h.2 e
def J0 (iA:List St) (d:Nat):List Nat->(St->St->Prop)->Prop
 | [],_=>True
 | n::r,p=>(∃ s s',iA[n]?=some s/\iA[n+d]?=some s'/\p s s')/\J0 iA d r p
theorem J0.get {iA:List St} {d:Nat} {p:St->St->Prop}:∀ {ns:List Nat} {n:Nat},J0 iA d ns p->n∈ns->∃ s s',iA[n]?=some s/\iA[n+d]?=some s'/\p s s'
 | a::r,n,h,hn=>by
  rcases zaq.1 hn with e|e
  ·rw [e];exact h.1
  ·exact J0.get h.2 e
def TP (P:Program) (N base:Nat) (l:List Oper) (E:List Nat) (iA:List St) (i:Nat) (o:Oper) (env:Env) (x:EV):Prop :=
  fV N o.dst=true/\∃ ns,HX l E i ns=true /\
  (((!E.any λe=>Nat.beq e i)=true/\((∀ s,ug P l env s o x)∨JZ iA ns λs=>ug P l env s o x)) ∨
   (∃ m,E[m]?=some i/\o.guard=none/\J0 iA (2 ^ m) ns λs s'=>xl P base env s o x s'∨x=.d .any/\Hv P base env s o s'))
def wk (P:Program) (N base:Nat) (l:List Oper) (E:List Nat) (iA:List St):Nat->List Oper->List EV->Env->Prop
 | _,[],[],_=>True
 | i,o::os,x::xs,env=>TP P N base l E iA i o (mf l o env) x/\wk P N base l E iA (i+1) os xs (env.put o.dst x)
 | _,_,_,_=>False
theorem wk.length {base:Nat} {l:List Oper} {E:List Nat} {iA:List St}:∀ {i:Nat} {os:List Oper} {xs:List EV} {env:Env},wk P N base l E iA i os xs env->xs.length=os.length
 | _,[],[],_,_=>rfl
 | _,o::os,x::xs,env,h=>by simp [wk.length h.2]
 | _,[],x::xs,_,h=>h.elim
 | _,o::os,[],_,h=>h.elim
theorem wk.get {base:Nat} {l:List Oper} {E:List Nat} {iA:List St}:∀ {i:Nat} {os:List Oper} {xs:List EV} {env:Env} {j:Nat} {o:Oper},wk P N base l E iA i os xs env->os[j]?=some o ->
  ∃ x,xs[j]?=some x/\TP P N base l E iA (i+j) o (mf l o (fY env (os.take j) (xs.take j))) x
 | i,o'::os,x::xs,env,0,o,h,ho=>by
  simp at ho;subst ho;exact ⟨x,rfl,by simpa [fY] using h.1⟩
 | i,o'::os,x::xs,env,j+1,o,h,ho=>by
  obtain ⟨y,h1,h2⟩:=wk.get (j:=j) h.2 (by simpa using ho);exact ⟨y,by simpa using h1,by simpa [fY,zch,zdd 1 j] using h2⟩
 | i,[],xs,env,j,o,h,ho=>by simp at ho
 | i,o'::os,[],_,_,_,h,_=>h.elim
theorem bq.effN {id p:Nat} {l:List Oper} {env:Env} {st xz:St} (hm:P.follows .mixedOrders=true) (hB:cr l p=true) (E:List Nat) (iA:List St) (hn:E.Nodup) (hp:∀ e∈E,e<p) {xs:List EV}
  (h0:iA[0]?=some st) (hF:iA[2 ^ E.length-1]?=some xz) (Jp:wk P N S.base l E iA 0 (l.take p) xs env) (BT:cd P f N S Q l (l.drop p) k (fY env (l.take p) xs) xz) :
  bq P f N S Q (.code (.region id l.toArray true)::k) env st:=by
 have UA:p<=l.length:=by
  simp only [cr,zas] at hB;simpa using hB.2
 have TK:xs.length=p:=by rw [Jp.length];simp;omega
 have Vb:∀ E:List Nat,lW (λ_=>false) E=0:=by
  intro E
  induction E with
  | nil=>rfl
  | cons e r ih=>unfold lW;rw [ih];rfl
 have Vc:∀ (L:Nat->Bool) (E:List Nat),(∀ e∈E,L e=true)->lW L E=2 ^ E.length-1:=by
  intro L E
  induction E with
  | nil=>intro _;rfl
  | cons e r ih =>
   intro h;unfold lW;rw [h e zaj,ih λx hx=>h x (zah _ hx),zag,Nat.pow_succ];have:=Nat.two_pow_pos r.length;simp;omega
 refine bq.U0 p xs (λL s=>iA[lW L E]?=some s) hm hB TK (by rw [Vb];exact h0) ?_ ?_
 ·intro L s i o hi ho ZT tc M9 M8;obtain ⟨x,hx,ma⟩:=Jp.get (j:=i) (o:=o) (by rw [zam,zab hi];exact ho);rw [zbr] at ma;obtain ⟨hd,ns,hb,ma⟩:=ma;refine ⟨hd,x,?_⟩;have U7:Va l E i (lW L E)=true:=by
   unfold Va;rw [zbd];rintro ⟨e,j⟩ hej;have Xo:E[j]?=some e:=by
    have:=zer.1 hej;simpa using this
   have Qd:=B0 L E j e Xo;simp only [zas,zbv,zdq,Qd];refine ⟨⟨?_,?_⟩,?_⟩
   ·cases tW:((dS l []).getD i 0).testBit e with
    | false=>exact .inl rfl
    | true=>exact .inr (tc e tW)
   ·cases tW:((dS l []).getD e 0).testBit i with
    | false =>
     cases hei:Nat.beq e i with
     | false=>exact .inl rfl
     | true=>exact .inr (zau hei▸ZT)
    | true =>
     right;cases hLe:L e with
     | false=>rfl
     | true=>rw [M9 e hLe i tW] at ZT;cases ZT
   ·cases hLe:L e with
    | false=>exact .inl rfl
    | true =>
     right;rw [zbd];rintro ⟨e',j'⟩ hej';have hEj':E[j']?=some e':=by
      have:=zer.1 hej';simpa using this
     simp only [zbv,zdq,B0 L E j' e' hEj'];cases tW:((dS l []).getD e 0).testBit e' with
     | false=>exact .inl rfl
     | true=>exact .inr (M9 e hLe e' tW)
  have CN:lW L E∈ns:=by
   have:=zbd.1 hb (lW L E) (List.mem_range.2 (JY L E));rw [U7] at this;simp only [zci,zdc] at this;obtain ⟨a,ha,BR⟩:=zew.1 this;rw [←zau BR];exact ha
  rcases ma with ⟨eT,vd⟩|⟨m,ZQ,hg,vd⟩
  ·have U6:(E.any λe=>Nat.beq e i)=false:=by simpa using eT
   have hop':ug P l (mf l o (fY env ((l.take p).take i) (xs.take i))) s o x:=by
    rcases vd with h|h
    ·exact h s
    ·obtain ⟨s0,h1,h2⟩:=h.get CN;rw [M8] at h1;cases h1;exact h2
   refine ⟨s,hx,.inl ⟨rfl,hop'⟩,?_⟩;rw [zS (L:=L) λe he=>by
    have:e≠i:=λhh=>by
     have:=zfg.1 U6 e he;rw [hh,zep] at this;exact this rfl
    simp [this]]
   exact M8
  ·obtain ⟨s0,s1,h1,h2,h3⟩:=vd.get CN;rw [M8] at h1;cases h1;refine ⟨s1,hx,?_,?_⟩
   ·rcases h3 with h|⟨ha,ka⟩
    ·exact .inr (.inl ⟨hg,h⟩)
    ·exact .inr (.inr ⟨hg,ha,ka⟩)
   ·rw [GQ ZT hn ZQ];exact h2
 ·intro L s hL M8;rw [Vc L E λe he=>hL e (hp e he),hF] at M8;cases M8;exact BT
def B1 (P:Program) (f:Ctx) (N:Nat) (S:Start) (Q:EV->St->Prop) (l:List Oper) (p:Nat) (E:List Nat) (iA:List St) (i:Nat) (os:List Oper) (k:List Item) (env:Env):Prop :=
 ∃ xs xz,iA[2 ^ E.length-1]?=some xz/\wk P N S.base l E iA i os xs env/\cd P f N S Q l (l.drop p) k (fY env os xs) xz
variable {l:List Oper} {p:Nat} {E:List Nat} {iA:List St} {i:Nat} {os:List Oper} {env:Env} {st:St} {d:Option Tmp} {op:Op} {ty:TypeId} {pos:String} {after:Array Edge} {x:EV}
theorem B1.nil {xz:St} (hF:iA[2 ^ E.length-1]?=some xz) (h:cd P f N S Q l (l.drop p) k env xz):B1 P f N S Q l p E iA i [] k env:=⟨[],xz,hF,trivial,h⟩
theorem B1.s (h:∀ s,aK P (mf l ⟨d,op,ty,pos,after,none⟩ env) s ⟨d,op,ty,pos,after,none⟩ x) (eT:(!E.any λe=>Nat.beq e i)=true) (hd:fV N d=true)
  (hk:B1 P f N S Q l p E iA (i+1) os k (env.put d x)):B1 P f N S Q l p E iA i (⟨d,op,ty,pos,after,none⟩::os) k env:=by
 obtain ⟨xs,xz,h0,h1,h2⟩:=hk;refine ⟨x::xs,xz,h0,⟨⟨hd,List.range (2 ^ E.length),?_,.inl ⟨eT,.inl λs=>.inl ⟨rfl,(h s).g⟩⟩⟩,h1⟩,h2⟩;unfold HX;rw [zbd];intro n hn;simp only [zbv];exact .inr (zew.2 ⟨n,hn,zep n⟩)
theorem B1.g (ns:List Nat) (h:JZ iA ns λs=>zi P (mf l ⟨d,op,ty,pos,after,none⟩ env) s ⟨d,op,ty,pos,after,none⟩ x) (eT:(!E.any λe=>Nat.beq e i)=true) (hb:HX l E i ns=true) (hd:fV N d=true)
  (hk:B1 P f N S Q l p E iA (i+1) os k (env.put d x)):B1 P f N S Q l p E iA i (⟨d,op,ty,pos,after,none⟩::os) k env:=by
 obtain ⟨xs,xz,h0,h1,h2⟩:=hk;refine ⟨x::xs,xz,h0,⟨⟨hd,ns,hb,.inl ⟨eT,.inr ?_⟩⟩,h1⟩,h2⟩;have mk:∀ {ns:List Nat},(JZ iA ns λs=>zi P (mf l ⟨d,op,ty,pos,after,none⟩ env) s ⟨d,op,ty,pos,after,none⟩ x)->JZ iA ns λs=>ug P l (mf l ⟨d,op,ty,pos,after,none⟩ env) s ⟨d,op,ty,pos,after,none⟩ x:=by
  intro ns
  induction ns with
  | nil=>exact λ_=>trivial
  | cons a r ih=>exact λ⟨⟨s,a1,a2⟩,b⟩=>⟨⟨s,a1,.inl ⟨rfl,a2⟩⟩,ih b⟩
 exact mk h
theorem B1.v (m:Nat) (ns:List Nat) (h:J0 iA (2 ^ m) ns λs s'=>xl P S.base (mf l ⟨d,op,ty,pos,after,none⟩ env) s ⟨d,op,ty,pos,after,none⟩ x s') (hE:E[m]?=some i) (hb:HX l E i ns=true) (hd:fV N d=true)
  (hk:B1 P f N S Q l p E iA (i+1) os k (env.put d x)):B1 P f N S Q l p E iA i (⟨d,op,ty,pos,after,none⟩::os) k env:=by
 obtain ⟨xs,xz,h0,h3,h4⟩:=hk;refine ⟨x::xs,xz,h0,⟨⟨hd,ns,hb,.inr ⟨m,hE,rfl,?_⟩⟩,h3⟩,h4⟩;have mk:∀ {ns:List Nat},(J0 iA (2 ^ m) ns λs s'=>xl P S.base (mf l ⟨d,op,ty,pos,after,none⟩ env) s ⟨d,op,ty,pos,after,none⟩ x s') ->
   J0 iA (2 ^ m) ns λs s'=>xl P S.base (mf l ⟨d,op,ty,pos,after,none⟩ env) s ⟨d,op,ty,pos,after,none⟩ x s'∨x=.d .any/\Hv P S.base (mf l ⟨d,op,ty,pos,after,none⟩ env) s ⟨d,op,ty,pos,after,none⟩ s':=by
  intro ns
  induction ns with
  | nil=>exact λ_=>trivial
  | cons a r ih=>exact λ⟨⟨s,s',a1,a2,a3⟩,b⟩=>⟨⟨s,s',a1,a2,.inl a3⟩,ih b⟩
 exact mk h
theorem bq.parts {id:Nat} (p:Nat) (E:List Nat) (iA:List St) (hm:P.follows .mixedOrders=true) (hB:cr l p=true) (hn:(E.all λe=>decide (e<p))=true) (hd:E.Nodup) (h0:iA[0]?=some st)
  (h:B1 P f N S Q l p E iA 0 (l.take p) k env):bq P f N S Q (.code (.region id l.toArray true)::k) env st:=by
 obtain ⟨xs,xz,h1,h2,h3⟩:=h;exact .effN hm hB E iA hd (λe he=>by simpa using zbd.1 hn e he) h0 h1 h2 h3
end run
def CS (g:bT) (w:World) (st:St) (cs:List EV) (vs:Array Value):Prop :=
 vs.size=cs.length/\∀ (i:Nat) c (u:Value),cs[i]?=some c->vs[i]?=some u->bJ g w st c u/\u.oneCell'=true
theorem CS.lay {g:bT} {w:World} {st:St} {cs new:List EV} {vs us:Array Value} {off:Nat} (h:CS g w st cs vs) (hn:CS g w st new us) (hf:off+new.length<=cs.length):CS g w st (putCells cs off new) (lay vs us off):=by
 obtain ⟨h1,h2⟩:=MX vs us off (by rw [h.1,hn.1];exact hf);refine ⟨by rw [h1,h.1];simp [putCells];omega,λi c u hc hu=>?_⟩
 have hi:i<vs.size:=by rw [←h1];exact (zaw.1 hu).1
 rw [h2 i hi] at hu;unfold putCells at hc;have Db:=h.1;have Po:=hn.1;by_cases hA:i<off
 ·rw [zaa (by omega)] at hu;rw [zat,zan (by simp;omega),zam,zab hA] at hc;exact h.2 i c u hc hu
 ·by_cases hB:i<off+new.length
  ·rw [zab (by omega)] at hu;rw [zat,zav (by simp;omega),zan (by simp;omega)] at hc;have e1:(cs.take off).length=off:=by simp;omega
   rw [e1] at hc;exact hn.2 _ c u hc hu
  ·rw [zaa (by omega)] at hu;rw [zav (by simp;omega)] at hc;have e1:(cs.take off++new).length=off+new.length:=by simp;omega
   rw [e1,zbb] at hc;have e2:off+new.length+(i-(off+new.length))=i:=by omega
   rw [e2] at hc;exact h.2 i c u hc hu
def OB (place:Nat->Option (Nat×Nat)) (env:Env):List EV->List (Nat×Operand)->Option (List EV)
 | cs,[]=>some cs
 | cs,(i,x)::l=>match place i,cP env x with
  | some (off,size),some e=>match fX e with
   | some new=>match Nat.beq new.length size,Nat.ble (off+size) cs.length with
    | true,true=>OB place env (putCells cs off new) l
    | _,_=>none
   | none=>none
  | _,_=>none
theorem J1 {g:bT} {w:World} {st:St} {env:Env} {tmps:Array Value} (he:dO g w st env tmps) {place:Nat->Option (Nat×Nat)}:∀ (l:List (Nat×Operand)) (cs:List EV) (vs:Array Value) (r:List EV),OB place env cs l=some r->CS g w st cs vs ->
  ∃ us,Instr.fill place vs (l.map λp=>(p.1,Act.eval ⟨tmps,[]⟩ p.2))=some us/\CS g w st r us/\r.length=cs.length
 | [],cs,vs,r,h,hc=>by simp [OB] at h;subst h;exact ⟨vs,rfl,hc,rfl⟩
 | (i,x)::l,cs,vs,r,h,hc=>by
  unfold OB at h;split at h
  ·rename_i off size e hp hx;split at h
   ·rename_i new hn;split at h
    ·rename_i D2 FF;have h1:=zau D2;have h2:=zaf FF;have XY:CS g w st new (Act.eval ⟨tmps,[]⟩ x).cells:=qm hn (aM he hx);have Uz:=hc.lay XY (off:=off) (by omega);obtain ⟨us,k1,k2,k3⟩:=J1 he l _ _ r h Uz;refine ⟨us,?_,k2,by rw [k3];simp [putCells];omega⟩;have hs:=XY.1;have Db:=hc.1;simp only [zao,Instr.fill,hp];rw [zaa (by simp;omega)];exact k1
    ·cases h
   ·cases h
  ·cases h
section rules
variable {P:Program} {base:Nat} {env:Env} {st:St} {d:Option Tmp} {ty:TypeId} {pos:String} {after:Array Edge} {gd:Option (Nat×Bool)} {t:TypeId}
theorem OC {fs:Array Field} {inf:TypeInfo} {z:Value} {zs r:List EV} {l:List (Nat×Operand)} (ht:P.underlying t=some (.struct fs)) (hi:P.info? t=some inf) (hz:inf.zero=some z) (qf:fX (.d (cv z))=some zs)
  (Sn:fs.toList.all (λf=>(P.info? f.type).isSome)=true) (hl:OB (placeOf P fs) env zs l=some r):aK P env st ⟨d,.build t l.toArray,ty,pos,after,gd⟩ (.agg r):=by
 intro g base w tmps hinv he;have zN:CS g w st zs z.cells:=qm (g:=g) (w:=w) (st:=st) qf (.d _ _ (qj _ _ z));obtain ⟨us,h1,h2,h3⟩:=J1 he l zs z.cells r hl zN;refine ⟨.agg us,.agg r us h2.1 (λi u hu=>?_) λi c u hc hu=>(h2.2 i c u hc hu).1,λw' hb=>?_⟩
 ·have hi':i<r.length:=by rw [←h2.1];exact (zaw.1 hu).1
  exact (h2.2 i _ u (zae hi') hu).2
 ·have UA:(fs.mapM (λf=>do pure (f.offset,←sizeOf f.type):Field->Sem (Nat×Nat))).run P w'=.ok (fs.toList.map λf=>(f.offset,JF P f.type)).toArray w':=by
   rw [←Array.toArray_toList (xs:=fs),zfe];simp only [Sem.run_map,CI (P:=P) fs.toList (λf hf=>zbd.1 Sn f hf) w',Result.andThen_ok]
  have LK:(λi:Nat=>((fs.toList.map λf=>(f.offset,JF P f.type)).toArray)[i]?)=placeOf P fs:=by
   funext i;simp [placeOf]
  simp only [execOp,Instr.build,Sem.run_bind,ta hi hz,Result.andThen_ok,run_underlying ht,UA,zee];rw [LK];simp [h1]
theorem En {ps:List (Nat×Nat)} {inf:TypeInfo} {z:Value} {zs r:List EV} {l:List (Nat×Operand)} (hp:placesOf P t=some ps) (hi:P.info? t=some inf) (hz:inf.zero=some z) (qf:fX (.d (cv z))=some zs)
  (hl:OB (λi=>ps[i]?) env zs l=some r):aK P env st ⟨d,.build t l.toArray,ty,pos,after,gd⟩ (.agg r):=by
 unfold placesOf at hp;split at hp
 ·rename_i fs hu;split at hp
  ·rename_i oO;cases hp;refine OC hu hi hz qf oO ?_;rw [←hl];congr 1;funext i;simp [placeOf]
  ·cases hp
 ·cases hp
end rules
section cell
variable {P:Program} {f:Ctx} {N:Nat} {S:Start} {Q:EV->St->Prop} {todo:List Item} {env:Env} {st:St}
theorem Inv.nN {g:bT} {base o ci:Nat} {w:World} {T:TypeId} {cs:List EV} {x y:EV} (h:Inv g base w st) (ho:st.aP[o]?=some (.row T cs)) (hc:cs[ci]?=some x) (hle:dX x y) :
  Inv g base w (st.set o (.row T (cs.set ci y)))/\Step base g w st g w (st.set o (.row T (cs.set ci y))):=by
 obtain ⟨b1,b2,vs,b3,b4,b5⟩:=h.row o T cs ho;exact h.setBlock (o:=o) (x:=.row T (cs.set ci y)) (w':=w) ⟨_,ho,by simp⟩ b2 rfl (λ_ _=>rfl) rfl rfl rfl
  (λPC LC Dc jK=>by
   cases jK;refine ⟨vs,b3,by simpa using b4,λi c u qc hu=>?_⟩;rw [zbj] at qc;split at qc
   ·rename_i TJ;subst TJ;split at qc
    ·cases qc;have h0:=b5 ci _ u hc hu;exact ⟨hle _ _ _ _ (h0.1.mono PC),h0.2⟩
    ·cases qc
   ·have h0:=b5 i c u qc hu;exact ⟨h0.1.mono PC,h0.2⟩) (λ_ es jK=>by cases jK)
theorem bq.nN (o ci:Nat) {T:TypeId} {cs:List EV} {x y:EV} (ho:st.aP[o]?=some (.row T cs)) (hc:cs[ci]?=some x) (hle:dX x y)
  (h:bq P f N S Q todo env (st.set o (.row T (cs.set ci y)))):bq P f N S Q todo env st:=by
 intro g w tmps hinv hh he hn;obtain ⟨h1,h2⟩:=hinv.nN ho hc hle;exact h g w tmps h1 (hh.step h2) (he.mono h2.dy) hn
end cell
def J2 (P:Program) (t:TypeId) (n:Nat):Bool:=match P.info? t with
 | some i=>Nat.beq i.size n
 | none=>false
def Eo (P:Program) (g:TypeId->Option (List FK)):Nat->List Field->Option (List FK)
 | _,[]=>some []
 | n,f::fs=>match Nat.beq f.offset n,decide (f.name ≠ "_"),g f.type with
  | true,true,some k=>match J2 P f.type k.length,Eo P g (n+k.length) fs with
   | true,some ks=>some (k++ks)
   | _,_=>none
  | _,_,_=>none
def AS (P:Program):Nat->TypeId->Option (List FK)
 | 0,_=>none
 | d+1,t=>match P.underlying t with
  | some (.struct fs)=>match P.stoodInHeld t with
   | true=>none
   | false=>Eo P (AS P d) 0 fs.toList
  | some (.array n e)=>match d,FW (P.underlying e),J2 P e 1 with
   | d'+1,some k,true=>some (List.replicate n k)
   | _,_,_=>none
  | u=>match FW u with
   | some k=>some [k]
   | none=>none
def OD:Option TypeDesc->Bool
 | some (.struct _)=>true
 | some (.array _ _)=>true
 | _=>false
def B2 (P:Program) (t:TypeId) (xs:List Value):Value:=match OD (P.underlying t) with
 | true=>.agg xs.toArray
 | false=>xs.headD undef
theorem tf:∀ {ks:List FK} {xs:List Value},fitAll ks xs=true->xs.length=ks.length
 | [],[],_=>rfl
 | [],_::_,h=>by cases h
 | _::_,[],h=>by cases h
 | k::ks,x::xs,h=>by simp only [fitAll,zas] at h;simp [tf h.2]
theorem wm:∀ (ks ls:List FK) (xs:List Value),fitAll (ks++ls) xs=true->fitAll ks (xs.take ks.length)=true/\fitAll ls (xs.drop ks.length)=true
 | [],ls,xs,h=>⟨by simp [fitAll],by simpa using h⟩
 | k::ks,ls,[],h=>by cases h
 | k::ks,ls,x::xs,h=>by
  simp only [List.cons_append,fitAll,zas] at h;obtain ⟨h1,h2⟩:=wm ks ls xs h.2;exact ⟨by simp [fitAll,h.1,h1],by simpa using h2⟩
theorem Ep:∀ (n:Nat) (xs ys:List Value),xs.length=ys.length->ew xs ys=(ew (xs.take n) (ys.take n) && ew (xs.drop n) (ys.drop n))
 | 0,xs,ys,_=>by simp [ew]
 | n+1,[],[],_=>by simp [ew]
 | n+1,[],_::_,h=>by cases h
 | n+1,_::_,[],h=>by cases h
 | n+1,x::xs,y::ys,h=>by
  simp only [List.take_succ_cons,List.drop_succ_cons,ew];rw [Ep n xs ys (by simpa using h),Bool.and_assoc]
section eq
variable {P:Program}
theorem Sy (t:TypeId) (w:World) (u:TypeDesc) (hu:P.underlying t=some u):(isAgg t).run P w=.ok (OD (some u)) w:=by
 unfold isAgg;simp only [Sem.run_bind,run_underlying hu,Result.andThen_ok];cases u <;> rfl
theorem J3 {t:TypeId} {n:Nat} (h:J2 P t n=true):∃ i,P.info? t=some i/\i.size=n:=by
 unfold J2 at h;split at h
 ·rename_i i hi;exact ⟨i,hi,zau h⟩
 ·cases h
theorem GR {d:Nat} {t:TypeId} {ks:List FK} (h:AS P d t=some ks) (ha:OD (P.underlying t)=false):∃ k,FW (P.underlying t)=some k/\ks=[k]:=by
 cases d with
 | zero=>cases h
 | succ d =>
  unfold AS at h;split at h
  ·rename_i hu;rw [hu] at ha;cases ha
  ·rename_i hu;rw [hu] at ha;cases ha
  ·split at h
   ·rename_i k hk;cases h;exact ⟨k,hk,rfl⟩
   ·cases h
theorem GS {d:Nat} {t:TypeId} {ks:List FK} (h:AS P d t=some ks) {X:Array Value} {off:Nat} {xs:List Value} (hl:xs.length=ks.length) (hs:J2 P t ks.length=true)
  (hX:∀ (j:Nat) v,xs[j]?=some v->X[off+j]?=some v) (w:World):(part t X off).run P w=.ok (B2 P t xs) w:=by
 obtain ⟨i,hi,fE⟩:=J3 hs;cases ha:OD (P.underlying t) with
 | false =>
  obtain ⟨k,hk,rfl⟩:=GR h ha
  match xs,hl with
  | [v],_ =>
   have:=vf hk (cs:=X) (off:=off) (v:=v) (by simpa using hX 0 v rfl) w;simpa [B2,ha] using this
 | true =>
  cases hu:P.underlying t with
  | none=>rw [hu] at ha;cases ha
  | some u =>
   have hA:=Sy (P:=P) t w u hu;rw [hu] at ha;rw [ha] at hA;have Jw:B2 P t xs=.agg xs.toArray:=by unfold B2;rw [hu,ha]
   have hx:X.extract off (off+ks.length)=xs.toArray:=by
    apply Array.ext';apply zce;intro j;by_cases hj:j<xs.length
    ·have h1:=hX j _ (zae hj);have h2:=(zaw.1 h1).1;rw [zcd,Array.getElem?_extract];show _=xs[j]?;rw [zae hj,zab (by omega)];exact h1
    ·rw [zcd,Array.getElem?_eq_none (by simp;omega),zbl (by simp;omega)]
   simp only [part,Sem.run_bind,hA,Result.andThen_ok,zbu,pf hi,fE,hx,Jw,Sem.run_pure]
theorem GU {d:Nat} (n:Nat) (w:World) (ih:∀ (t:TypeId) (ks:List FK) (xs ys:List Value),AS P d t=some ks->fitAll ks xs=true->fitAll ks ys=true->(Op.equalIn (n+d) t (B2 P t xs) (B2 P t ys)).run P w=.ok (ew xs ys) w) :
  ∀ (fs:List Field) (k:Nat) (ks:List FK) (xs ys:List Value) (X Y:Array Value),Eo P (AS P d) k fs=some ks->fitAll ks xs=true->fitAll ks ys=true ->
  (∀ (j:Nat) v,xs[j]?=some v->X[k+j]?=some v)->(∀ (j:Nat) v,ys[j]?=some v->Y[k+j]?=some v)->(Op.eqFields (n+d) X Y fs).run P w=.ok (ew xs ys) w
 | [],k,ks,xs,ys,X,Y,h,hx,hy,_,_=>by
  simp only [Eo,Option.some.injEq] at h;subst h
  match xs,ys with
  | [],[]=>rfl
  | _::_,_=>cases hx
  | [],_::_=>cases hy
 | f::fs,k,ks,xs,ys,X,Y,h,hx,hy,hX,hY=>by
  unfold Eo at h;split at h
  ·rename_i kk h1 h2 h3;split at h
   ·rename_i Yb h4 h5;simp only [Option.some.injEq] at h;subst h;have ho:=zau h1;have JM:f.name ≠ "_" := zcp h2;obtain ⟨a1,a2⟩:=wm _ _ _ hx;obtain ⟨b1,b2⟩:=wm _ _ _ hy;have hlx:=tf hx;have hly:=tf hy;have px:=GS h3 (X:=X) (off:=f.offset) (tf a1) h4 (λj v hv=>by
     rw [zam] at hv;split at hv
     ·rw [ho];exact hX j v hv
     ·cases hv) w
    have py:=GS h3 (X:=Y) (off:=f.offset) (tf b1) h4 (λj v hv=>by
     rw [zam] at hv;split at hv
     ·rw [ho];exact hY j v hv
     ·cases hv) w
    have pe:=ih _ _ _ _ h3 a1 b1;have rest:=GU n w ih fs (k+kk.length) Yb _ _ X Y h5 a2 b2 (λj v hv=>by rw [zbb] at hv;have:=hX _ v hv;rwa [show k+kk.length+j=k+(kk.length+j) by omega])
     (λj v hv=>by rw [zbb] at hv;have:=hY _ v hv;rwa [show k+kk.length+j=k+(kk.length+j) by omega])
    rw [Ep kk.length xs ys (by omega)];simp only [Op.eqFields,zab JM,Sem.run_bind,px,py,pe,Result.andThen_ok,Sem.run_ite];cases ew (xs.take kk.length) (ys.take kk.length)
    ·rfl
    ·simpa using rest
   ·cases h
  ·cases h
theorem GV {e:TypeId} {k:FK} (hk:FW (P.underlying e)=some k) (hs:P.cellsOf e=1) (n:Nat) (w:World) (X Y:Array Value) :
  ∀ (m i:Nat) (xs ys:List Value),fitAll (List.replicate m k) xs=true->fitAll (List.replicate m k) ys=true ->
  (∀ (j:Nat) v,xs[j]?=some v->X[i+j]?=some v)->(∀ (j:Nat) v,ys[j]?=some v->Y[i+j]?=some v) ->
  (Op.eqItems (n+1) e (P.cellsOf e) X Y (List.range' i m)).run P w=.ok (ew xs ys) w
 | 0,i,xs,ys,hx,hy,_,_=>by
  match xs,ys with
  | [],[]=>rfl
  | _::_,_=>cases hx
  | [],_::_=>cases hy
 | m+1,i,[],ys,hx,_,_,_=>by cases hx
 | m+1,i,x::xs,[],_,hy,_,_=>by cases hy
 | m+1,i,x::xs,y::ys,hx,hy,hX,hY=>by
  simp only [List.replicate_succ,fitAll,zas] at hx hy;have px:=vf hk (cs:=X) (off:=i) (by simpa using hX 0 x rfl) w;have py:=vf hk (cs:=Y) (off:=i) (by simpa using hY 0 y rfl) w;have pe:=xv hk hx.1 hy.1 n w;have ih:=GV hk hs n w X Y m (i+1) xs ys hx.2 hy.2 (λj v hv=>by have:=hX (j+1) v (by simpa using hv);rwa [show i+1+j=i+(j+1) by omega]) (λj v hv=>by have:=hY (j+1) v (by simpa using hv);rwa [show i+1+j=i+(j+1) by omega]);rw [hs] at ih ⊢;simp only [List.range'_succ,Op.eqItems,Sem.run_bind,Nat.mul_one,px,py,pe,Result.andThen_ok,Sem.run_ite,ew];cases LO x y
  ·rfl
  ·simpa using ih
theorem J4 (n:Nat) (w:World):∀ (d:Nat) (t:TypeId) (ks:List FK) (xs ys:List Value),AS P d t=some ks->fitAll ks xs=true->fitAll ks ys=true->(Op.equalIn (n+d) t (B2 P t xs) (B2 P t ys)).run P w=.ok (ew xs ys) w
 | 0,t,ks,xs,ys,h,_,_=>by cases h
 | d+1,t,ks,xs,ys,h,hx,hy=>by
  cases ha:OD (P.underlying t) with
  | false =>
   obtain ⟨k,hk,rfl⟩:=GR h ha
   match xs,ys,hx,hy with
   | [x],[y],hx,hy =>
    simp only [fitAll,Bool.and_true] at hx hy;have:=xv hk hx hy (n+d) w;simp only [B2,ha,ew,List.headD_cons,Bool.and_true];exact this
   | [],_,hx,_=>cases hx
   | _::_::_,_,hx,_=>simp [fitAll] at hx
   | [x],[],_,hy=>cases hy
   | [x],_::_::_,_,hy=>simp [fitAll] at hy
  | true =>
   have Vd:∀ zs,B2 P t zs=.agg zs.toArray:=λzs=>by unfold B2;rw [ha]
   rw [Vd,Vd];unfold AS at h;cases hu:P.underlying t with
   | none=>rw [hu] at ha;cases ha
   | some u =>
    rw [hu] at h ha;cases u with
    | struct fs =>
     simp only at h;split at h
     ·cases h
     ·rename_i M1;have Sn:P.fieldsOf t=fs:=by simp [Program.fieldsOf,hu]
      rw [show n+(d+1)=(n+d)+1 by omega,run_equalIn_struct w (n+d) t _ _ (by rw [Sn];exact hu) M1,Sn];exact GU n w (J4 n w d) fs.toList 0 ks xs ys _ _ h hx hy (λj v hv=>by simpa using hv) (λj v hv=>by simpa using hv)
    | array m e =>
     simp only at h;split at h
     ·rename_i d' k hk hs;cases h;obtain ⟨i,hi,fE⟩:=J3 hs;have hc:P.cellsOf e=1:=by simp [Program.cellsOf,hi,fE]
      rw [show n+(d'+1+1)=(n+d'+1)+1 by omega,run_equalIn_array w (n+d'+1) _ _ hu hi,List.range_eq_range'];exact GV hk hc (n+d') w _ _ m 0 xs ys hx hy (λj v hv=>by simpa using hv) (λj v hv=>by simpa using hv)
     ·cases h
    | _=>cases ha
end eq
def Na (P:Program) (t:TypeId):Option (List FK):=match P.eqGuardType P.depth t,OD (P.underlying t) with
 | false,true=>AS P 4 t
 | _,_=>none
section rules
variable {P:Program} {base:Nat} {env:Env} {st:St} {d:Option Tmp} {ty:TypeId} {pos:String} {after:Array Edge} {gd:Option (Nat×Bool)} {t t2:TypeId} {x y:Operand}
variable {ks:List FK} {cs ds:List D} {xs ys:List Value}
theorem Qf (h:Na P t=some ks) (hx:fitAll ks xs=true) (hy:fitAll ks ys=true) (w:World) (op:BinOp) (x y:Operand) :
  (eqGuard op t x y (.agg xs.toArray) (.agg ys.toArray)).run P w=.ok () w/\(Op.equalIn 10000 t (.agg xs.toArray) (.agg ys.toArray)).run P w=.ok (ew xs ys) w:=by
 unfold Na at h;split at h
 ·rename_i hg ha;refine ⟨run_eqGuard_agg w op t x y _ _ hg,?_⟩;have:=J4 (P:=P) 9996 w 4 t ks xs ys h hx hy;have Vd:∀ zs,B2 P t zs=.agg zs.toArray:=λzs=>by unfold B2;rw [ha]
  rw [Vd,Vd] at this;exact this
 ·cases h
section steq
variable (hk:Na P t=some ks) (hx:cP env x=some (.d (.agg cs))) (hy:cP env y=some (.d (.agg ds))) (h1:R0 cs=some xs) (h2:R0 ds=some ys) (h3:fitAll ks xs=true) (h4:fitAll ks ys=true)
include hk hx hy h1 h2 h3 h4
theorem Sz:aK P env st ⟨d,.binOp .neq t x y t2,ty,pos,after,gd⟩ (.d (.ex (.bool (!ew xs ys)))):=ql λg w tmps w' he=>by
 obtain ⟨k1,k2⟩:=Qf hk h3 h4 w' .neq x y;have e1:Act.eval ⟨tmps,[]⟩ x=.agg xs.toArray:=by cases aM he hx with|d _ _ h=>exact sW h1 h
 have e2:Act.eval ⟨tmps,[]⟩ y=.agg ys.toArray:=by cases aM he hy with|d _ _ h=>exact sW h2 h
 simp only [execOp,e1,e2,Sem.run_bind,k1,Result.andThen_ok,run_neq_struct,k2,Sem.run_pure]
end steq
theorem Ve {a b:Int} {k:IntKind} {ts:Array TypeId} (hx:cP env x=some (.d (.ex (.int k a)))) (hy:cP env y=some (.d (.ex (.int k b)))) :
  aK P env st ⟨d,.call ⟨.builtin .min,#[x,y],ts⟩,ty,pos,after,gd⟩ (.d (.ex (.int k (if b<a then b else a)))):=ql λg w tmps w' he=>by
 simp [execOp,(aM he hx).bK,(aM he hy).bK,resolve,invoke,builtin,run_min_int2]
theorem Vf {a b:Int} {k:IntKind} {ts:Array TypeId} (hx:cP env x=some (.d (.ex (.int k a)))) (hy:cP env y=some (.d (.ex (.int k b)))) :
  aK P env st ⟨d,.call ⟨.builtin .max,#[x,y],ts⟩,ty,pos,after,gd⟩ (.d (.ex (.int k (if b > a then b else a)))):=ql λg w tmps w' he=>by
 simp [execOp,(aM he hx).bK,(aM he hy).bK,resolve,invoke,builtin,run_max_int2]
end rules
section freezeCell
variable {P:Program} {f:Ctx} {N:Nat} {S:Start} {Q:EV->St->Prop} {todo:List Item} {env:Env} {st:St}
theorem bq.freezeCell {α:Type} {l:List α} {row:α->List D} (o ci:Nat) {tk e sz n:Nat} {T:TypeId} {cs:List EV} (ho:st.aP[o]?=some (.row T cs)) (hc:cs[ci]?=some (.vc tk n)) (eN:st.ar[tk]?=some ⟨e,sz,n,some (l.map row)⟩)
  (h:bq P f N S Q todo env ((st.bC tk ⟨e,sz,l.length,none⟩).set o (.row T (cs.set ci (.d (.sl sz (l.map row))))))):bq P f N S Q todo env st:=by
 refine .UZ eN λhn=>?_
 subst hn;intro g w tmps hinv hh he hN;obtain ⟨g',h1,h2,h3,h4⟩:=hinv.freeze eN;have FE:(st.bC tk ⟨e,sz,l.length,none⟩).aP[o]?=some (.row T cs):=ho;obtain ⟨a1,a2,us0,a3,a4,a5⟩:=hinv.row o T cs ho;obtain ⟨b1,b2,vs,b3,b4,b5⟩:=h2.row o T cs FE;have AD:g'.ob o=g.ob o:=h3.dy.ob o (zad.1 ho).1;have Db:us0=vs:=by rw [AD,a3] at b3;cases b3;rfl
 subst Db;obtain ⟨k1,k2⟩:=h2.setBlock (o:=o) (x:=.row T (cs.set ci (.d (.sl sz (l.map row))))) (w':=w) ⟨_,FE,by simp⟩ b2 rfl (λ_ _=>rfl) rfl rfl rfl
  (λPC LC Dc jK=>by
   cases jK;refine ⟨us0,b3,by simpa using b4,λi c u qc hu=>?_⟩;rw [zbj] at qc;split at qc
   ·rename_i TJ;subst TJ;split at qc
    ·cases qc;have h0:=a5 ci _ u hc hu;refine ⟨?_,h0.2⟩;rcases sk hinv eN h0.1 with hv|⟨n0,r0,A,hv⟩
     ·rw [hv];exact .d _ _ (h4.mono PC.cP)
     ·rw [r0,hv];exact .d _ _ (.nil sz A)
    ·cases qc
   ·have h0:=b5 i c u qc hu;exact ⟨h0.1.mono PC,h0.2⟩) (λ_ es jK=>by cases jK)
 exact h g' w tmps k1 (hh.step (h3.trans k2)) ((he.mono h3.dy).mono k2.dy) hN
variable {ops rest:List Oper} {k:List Item}
theorem cd.freezeCell {α:Type} {l:List α} {row:α->List D} (o ci:Nat) {tk e sz n:Nat} {T:TypeId} {cs:List EV} (ho:st.aP[o]?=some (.row T cs)) (hc:cs[ci]?=some (.vc tk n)) (eN:st.ar[tk]?=some ⟨e,sz,n,some (l.map row)⟩)
  (h:cd P f N S Q ops rest k env ((st.bC tk ⟨e,sz,l.length,none⟩).set o (.row T (cs.set ci (.d (.sl sz (l.map row))))))):cd P f N S Q ops rest k env st :=
 λj hj=>.freezeCell o ci ho hc eN (h j hj)
theorem cd.nN (o ci:Nat) {T:TypeId} {cs:List EV} {x y:EV} (ho:st.aP[o]?=some (.row T cs)) (hc:cs[ci]?=some x) (hle:dX x y)
  (h:cd P f N S Q ops rest k env (st.set o (.row T (cs.set ci y)))):cd P f N S Q ops rest k env st :=
 λj hj=>.nN o ci ho hc hle (h j hj)
end freezeCell
theorem aD.ZU {P:Program} {f:FuncId} {ds:List D} {r:D} (h:aN P f (ds.map EV.d) ⟨[],[]⟩ (QE (.d r) ⟨[],[]⟩)):aD P f ds (·=r) :=
 .of (h.mono λx s hq=>⟨r,hq.1,rfl⟩)
def Qg (t:Nat):List Nat->Bool
 | []=>false
 | a::l=>match Nat.beq t a with
  | true=>true
  | false=>Qg t l
def SA {β:Type} (t:Nat):List (Nat×β)->Option β
 | []=>none
 | (a,y)::l=>match Nat.beq t a with
  | true=>some y
  | false=>SA t l
def r6:List Prop->Prop
 | []=>True
 | [p]=>p
 | p::q::l=>p/\r6 (q::l)
theorem r6.c {p:Prop} {l:List Prop} (h:r6 (p::l)):p/\r6 l:=by
 cases l with
 | nil=>exact ⟨h,trivial⟩
 | cons q l=>exact h
def Al {α:Type} (p:α->Prop):List α->Prop
 | []=>True
 | a::l=>p a/\Al p l
theorem HY {p:Nat->Prop} {t:Nat}:∀ {l:List Nat},Al p l->Qg t l=true->p t
 | [],_,h=>by cases h
 | a::l,⟨h1,h2⟩,h=>by
  unfold Qg at h;split at h
  ·rename_i hb;have:=zau hb;subst this;exact h1
  ·exact HY h2 h
theorem zT {β:Type} {p:Nat×β->Prop} {t:Nat} {y:β}:∀ {l:List (Nat×β)},Al p l->SA t l=some y->p (t,y)
 | [],_,h=>by cases h
 | (a,z)::l,⟨h1,h2⟩,h=>by
  unfold SA at h;split at h
  ·rename_i hb;have:=zau hb;subst this;cases h;exact h1
  ·exact zT h2 h
def mi {α β:Type _}:List α->(List α->β)->β
 | [],k=>k []
 | a::l,k=>mi l λl'=>k (a::l')
theorem qt {α β:Type _}:∀ (l:List α) (k:List α->β),mi l k=k l
 | [],_=>rfl
 | a::l,k=>qt l λl'=>k (a::l')
def Qh {β:Type _} (env:Env) (d:Option Tmp) (x:EV) (k:Env->β):β:=match d with
 | some d=>k ((d,x)::env)
 | none=>k env
theorem DF {β:Type _} (env:Env) (d:Option Tmp) (x:EV) (k:Env->β):Qh env d x k=k (env.put d x):=by cases d <;> rfl
structure FT where
 one:List Nat
 agg:List (Nat×Nat)
 sz:List (Nat×Nat)
 fo:List (Nat×List (Nat×Nat))
 zr:List (Nat×List D)
def FT.Ok (P:Program) (T:FT):Prop :=
 Al (λt=>(P.underlying t).map kT=some true) T.one/\Al (λx=>(P.underlying x.1).map kT=some false/\(P.info? x.1).map (·.size)=some x.2) T.agg/\Al (λx=>(P.info? x.1).map (·.size)=some x.2) T.sz /\
 Al (λx=>Al (λy=>fG P x.1 y.1=some y.2) x.2) T.fo/\Al (λx=>∃ z,(P.info? x.1).bind (·.zero)=some z/\fX (.d (cv z))=some (x.2.map EV.d)) T.zr
def ZV:Option D->Option EV
 | some x=>some (.d x)
 | none=>none
def isU8:IntKind->Bool
 | .u8=>true
 | _=>false
def Ym (op:BinOp) (a b:Int):Option Bool:=match op with
 | .lss=>some (decide (a<b))
 | .leq=>some (decide (a<=b))
 | .gtr=>some (decide (a > b))
 | .geq=>some (decide (a>=b))
 | .eql=>some (a==b)
 | .neq=>some (a != b)
 | _=>none
def Yn (op:BinOp) (a b:List UInt8):Option Bool:=match op with
 | .eql=>some (a==b)
 | .neq=>some (a != b)
 | _=>none
def ZW:Option Bool->Option D
 | some b=>some (.ex (.bool b))
 | none=>none
def Vg (op:BinOp) (x y:D):Option D:=match x with
 | .ex (.int k a)=>match isU8 k with
  | true=>none
  | false=>match y with
   | .ex (.int k' b)=>match decide (k=k') with
    | true=>ZW (Ym op a b)
    | false=>none
   | _=>none
 | .ex (.string ⟨⟨a⟩⟩)=>match y with
  | .ex (.string ⟨⟨b⟩⟩)=>ZW (Yn op a b)
  | _=>none
 | _=>none
def TQ (n:Nat) (cs:List EV) (off:Nat):Option EV:=match Nat.ble (off+n) cs.length with
 | true=>match Of ((cs.drop off).take n) with
  | some ds=>some (.d (.agg ds))
  | none=>none
 | false=>none
def TS (n:Nat) (cs:List D):Option EV:=match Nat.beq cs.length n with
 | true=>some (.d (.agg cs))
 | false=>match Nat.ble n cs.length with
  | true=>some (.d (.agg (cs.take n)))
  | false=>none
def rowOf (st:St) (o:Nat):Option (TypeId×List EV):=match st.aP[o]? with
 | some (.row ty cs)=>some (ty,cs)
 | _=>none
def qv (T:FT) (env:Env) (st:St):Op->Option EV
 | .move x=>cP env x
 | .assign x=>cP env x
 | .nilCheck x=>match cP env x with
  | some (.ref o f)=>some (.ref o f)
  | _=>none
 | .extract x i=>match cP env x with
  | some (.d (.dV cs))=>ZV cs[i]?
  | some (.dV cs)=>cs[i]?
  | _=>none
 | .binOp op t x y t2=>match cP env x with
  | some (.d a)=>match cP env y with
   | some (.d b)=>ZV (Vg op a b)
   | _=>none
  | _=>none
 | .unOp .not t x=>match cP env x with
  | some (.d (.ex (.bool a)))=>some (.d (.ex (.bool (!a))))
  | _=>none
 | .fieldAddr s x f=>match SA s T.fo with
  | some fs=>match SA f fs with
   | some off=>match cP env x with
    | some (.ref o o0)=>some (.ref o (o0+off))
    | some (.d (.ro cs))=>some (.d (.ro (cs.drop off)))
    | some (.vp t k i o)=>some (.vp t k i (o+off))
    | _=>none
   | none=>none
  | none=>none
 | .load t x=>match cP env x with
  | some (.ref o off)=>match rowOf st o with
   | some (_,cs)=>match Qg t T.one with
    | true=>cs[off]?
    | false=>match SA t T.agg with
     | some n=>TQ n cs off
     | none=>none
   | none=>none
  | some (.d (.ro cs))=>match Qg t T.one with
   | true=>match cs with
    | c::_=>some (.d c)
    | []=>none
   | false=>match SA t T.agg with
    | some n=>TS n cs
    | none=>none
  | _=>none
 | _=>none
def pk (env:Env):Op->Option (EV×Prop)
 | .pick x y z=>match cP env x with
  | some (.d (.ex (.bool a)))=>match cP env y with
   | some (.gd c (.d (.ex (.bool v))))=>match cP env z with
    | some (.d (.ex (.bool false)))=>some (.d (.ex (.bool (a && v))),c=a)
    | _=>none
   | some (.d (.ex (.bool true)))=>match cP env z with
    | some (.gd c (.d (.ex (.bool v))))=>some (.d (.ex (.bool (a || v))),c=(!a))
    | _=>none
   | _=>none
  | _=>none
 | _=>none
section q
variable {P:Program} {T:FT} {env:Env} {st:St} {d:Option Tmp} {ty:TypeId} {pos:String} {after:Array Edge} {gd:Option (Nat×Bool)}
theorem Vh {op:BinOp} {a b r:D} {x y:Operand} {t t2:TypeId} (hx:cP env x=some (.d a)) (hy:cP env y=some (.d b)) (h:Vg op a b=some r):aK P env st ⟨d,.binOp op t x y t2,ty,pos,after,gd⟩ (.d r):=by
 unfold Vg at h;split at h
 ·split at h
  ·cases h
  ·split at h
   ·split at h
    ·rename_i hk;have hk:=zcp hk;subst hk;unfold Ym ZW at h;cases op <;> simp at h <;> subst h
     ·exact XJ hx hy
     ·exact TA hx hy
     ·exact Tw hx hy
     ·exact Tx hx hy
     ·exact Ty hx hy
     ·exact Tz hx hy
    ·cases h
   ·cases h
 ·split at h
  ·unfold Yn ZW at h;cases op <;> simp at h <;> subst h
   ·exact Un hx hy
   ·exact Uo hx hy
  ·cases h
 ·cases h
theorem Er (hT:T.Ok P) {op:Op} {x:EV} (h:qv T env st op=some x):aK P env st ⟨d,op,ty,pos,after,gd⟩ x:=by
 obtain ⟨h1,h2,h3,h4,h5⟩:=hT;unfold qv at h;split at h
 ·exact ct h
 ·exact Ju h
 ·split at h
  ·rename_i hx;cases h;exact ez hx
  ·cases h
 ·split at h
  ·rename_i hx;unfold ZV at h;split at h
   ·rename_i hc;cases h;exact cq hx hc
   ·cases h
  ·rename_i hx;exact LB hx h
  ·cases h
 ·split at h
  ·rename_i a hx;split at h
   ·rename_i b hy;unfold ZV at h;split at h
    ·rename_i r hr;cases h;exact Vh hx hy hr
    ·cases h
   ·cases h
  ·cases h
 ·split at h
  ·rename_i hx;cases h;exact XM hx
  ·cases h
 ·split at h
  ·rename_i fs hl;split at h
   ·rename_i off hf;have:=zT (zT h4 hl) hf;split at h
    ·rename_i hx;cases h;exact br this hx
    ·rename_i hx;cases h;exact Og this hx
    ·rename_i hx;cases h;exact Ow this hx
    ·cases h
   ·cases h
  ·cases h
 ·split at h
  ·rename_i o off hx;split at h
   ·rename_i LC cs hr;unfold rowOf at hr;split at hr
    ·rename_i ty2 cs2 ho;cases hr;split at h
     ·rename_i hm;exact cg (HY h1 hm) hx ho h
     ·split at h
      ·rename_i n hl;unfold TQ at h;split at h
       ·rename_i hn;split at h
        ·rename_i ds hd;cases h;have:=zT h2 hl;exact ch this.1 this.2 hx ho (zaf hn) hd
        ·cases h
       ·cases h
      ·cases h
    ·cases hr
   ·cases h
  ·rename_i cs hx;split at h
   ·rename_i hm;split at h
    ·cases h;exact Up (HY h1 hm) hx
    ·cases h
   ·split at h
    ·rename_i n hl;have:=zT h2 hl;unfold TS at h;split at h
     ·rename_i hn;cases h;exact Om this.1 this.2 hx hn
     ·split at h
      ·rename_i hn;cases h;exact MT this.1 this.2 (zaf hn) hx
      ·cases h
    ·cases h
  ·cases h
 ·cases h
theorem J5 {op:Op} {x:EV} {p:Prop} (h:pk env op=some (x,p)) (hp:p):aK P env st ⟨d,op,ty,pos,after,gd⟩ x:=by
 unfold pk at h;split at h
 ·split at h
  ·rename_i a hx;split at h
   ·rename_i c v hy;split at h
    ·rename_i hz;simp only [Option.some.injEq,Prod.mk.injEq] at h;obtain ⟨rfl,rfl⟩:=h;subst hp;exact dv hx hy hz
    ·cases h
   ·rename_i hy;split at h
    ·rename_i c v hz;simp only [Option.some.injEq,Prod.mk.injEq] at h;obtain ⟨rfl,rfl⟩:=h;subst hp;exact yl hx hy hz
    ·cases h
   ·cases h
  ·cases h
 ·cases h
end q
inductive Hint where
 | g (x:EV)
 | v (x:EV) (st:St)
 | u (st:St)
 | t (x:EV) (tk:Nat) (tl:gD)
 | n (x:EV) (tl:gD)
 | r (o:Nat)
 | p (n:Nat)
  | f (k:Nat) (x:EV)
 | w (k:Nat) (st:St)
def forced (n:Nat):List Hint->Option (EV×List Hint)
 | .f k x::hs=>match Nat.beq k n with
  | true=>some (x,hs)
  | false=>none
 | _=>none
def SB (n:Nat):List Hint->Option (St×List Hint)
 | .w k s::hs=>match Nat.beq k n with
  | true=>some (s,hs)
  | false=>none
 | _=>none
inductive Cf where
 | run (k:List Item)
 | ops (l rest:List Oper) (k:List Item)
 | draw (l:List Oper) (p:Nat) (os:List Oper) (k:List Item)
@[reducible] def OE (P:Program) (f:Ctx) (N:Nat) (S:Start) (Q:EV->St->Prop):Cf->Env->St->Prop
 | .run k=>bq P f N S Q k
 | .ops l r k=>cd P f N S Q l r k
 | .draw l p os k=>uG P f N S Q l p os k
structure Out where
 cf:Cf
 env:Env
 st:St
 ps:List Prop
def Xp {β:Type _} (b:Bool) (env:Env):List Tmp->List Prop->(Env->List Prop->β)->β
 | [],ps,k=>k [] ps
 | t::ts,ps,k=>match lookup t env with
  | some (.gd c y)=>Xp b env ts ((c=b)::ps) λe ps=>k ((t,y)::e) ps
  | some x=>Xp b env ts ps λe ps=>k ((t,x)::e) ps
  | none=>Xp b env ts ps k
theorem AT {β:Type _} {b:Bool} {env:Env}:∀ (ts:List Tmp) (ps:List Prop) (k:Env->List Prop->β),∃ e HZ,Xp b env ts ps k=k e HZ/\(r6 HZ->r6 ps/\zg b env e)
 | [],ps,k=>⟨[],ps,rfl,λh=>⟨h,trivial⟩⟩
 | t::ts,ps,k=>by
  unfold Xp;split
  ·rename_i c y hl;obtain ⟨e,HZ,h1,h2⟩:=AT (b:=b) (env:=env) ts ((c=b)::ps) λe ps=>k ((t,y)::e) ps
   refine ⟨_,_,h1,λh=>?_⟩;obtain ⟨h34,h5⟩:=h2 h;obtain ⟨h3,h4⟩:=h34.c;exact ⟨h4,.inr (.inl (by rw [hl,h3])),h5⟩
  ·rename_i x eT hl;obtain ⟨e,HZ,h1,h2⟩:=AT (b:=b) (env:=env) ts ps λe ps=>k ((t,x)::e) ps
   exact ⟨_,_,h1,λh=>⟨(h2 h).1,.inl hl,(h2 h).2⟩⟩
  ·obtain ⟨e,HZ,h1,h2⟩:=AT (b:=b) (env:=env) ts ps k;exact ⟨e,HZ,h1,h2⟩
def stepG (P:Program) (T:FT) (n:Nat) (st:St) (o:Oper) (b:Bool) (hs:List Hint) (F:Option Out) (K:EV->List Hint->List Prop->Option Out) (e:Env) (ps:List Prop):Option Out :=
 match forced n hs with
 | some (x,hs)=>K (.gd b x) hs ((b=true->zi P e st o x)::ps)
 | none=>match qv T e st o.op with
  | some x=>K (.gd b x) hs ps
  | none=>match pk e o.op with
   | some (x,p)=>K (.gd b x) hs (p::ps)
   | none=>match hs with
    | .g x::hs=>K (.gd b x) hs ((b=true->zi P e st o x)::ps)
    | _=>F
def Nb (P:Program) (T:FT) (n:Nat) (l:List Oper) (e:Env) (st:St) (o:Oper) (hs:List Hint) (ps:List Prop) (F:Option Out) (K:EV->List Hint->List Prop->Option Out):Option Out :=
 match o.guard with
 | none=>match forced n hs with
  | some (x,hs)=>K x hs (zi P e st o x::ps)
  | none=>match qv T e st o.op with
   | some x=>K x hs ps
   | none=>match pk e o.op with
    | some (x,p)=>K x hs (p::ps)
    | none=>match hs with
     | .g x::hs=>K x hs (zi P e st o x::ps)
     | _=>F
 | some (j,want)=>match (l[j]?).bind (·.dst) with
  | some t=>match lookup t e with
   | some c=>match CF c want with
    | some b=>Xp b e (D7 o.op) ps (stepG P T n st o b hs F K)
    | none=>F
   | none=>F
  | none=>F
theorem Es {P:Program} {T:FT} (hT:T.Ok P) {n:Nat} {l:List Oper} {e:Env} {st:St} {o:Oper} {hs:List Hint} {ps:List Prop} {F:Option Out} {K:EV->List Hint->List Prop->Option Out} {out:Option Out} (h:Nb P T n l e st o hs ps F K=out) :
  out=F∨∃ x tX HZ,out=K x tX HZ/\(r6 HZ->r6 ps/\ug P l e st o x):=by
 obtain ⟨dst,op,ty,pos,after,guard⟩:=o;unfold Nb at h
 dsimp only at h
 split at h
 ·split at h
  ·exact .inr ⟨_,_,_,h.symm,λhp=>⟨hp.c.2,.inl ⟨rfl,hp.c.1⟩⟩⟩
  ·split at h
   ·rename_i x hq;exact .inr ⟨_,_,_,h.symm,λhp=>⟨hp,.inl ⟨rfl,(Er hT hq).g⟩⟩⟩
   ·split at h
    ·rename_i x p hq;exact .inr ⟨_,_,_,h.symm,λhp=>⟨hp.c.2,.inl ⟨rfl,(J5 hq hp.c.1).g⟩⟩⟩
    ·split at h
     ·exact .inr ⟨_,_,_,h.symm,λhp=>⟨hp.c.2,.inl ⟨rfl,hp.c.1⟩⟩⟩
     ·exact .inl h.symm
 ·rename_i j want;split at h
  ·rename_i t ht;split at h
   ·rename_i c hc;split at h
    ·rename_i b hb;obtain ⟨e',ps1,h1,h2⟩:=AT (b:=b) (env:=e) (D7 op) ps (stepG P T n st ⟨dst,op,ty,pos,after,some (j,want)⟩ b hs F K);rw [h1] at h;have mk:∀ x,(b=true->zi P e' st ⟨dst,op,ty,pos,after,some (j,want)⟩ x)->zg b e e'->ug P l e st ⟨dst,op,ty,pos,after,some (j,want)⟩ (.gd b x):=λx hx hE=>.inr ⟨j,want,t,c,b,x,e',rfl,ht,hc,hb,rfl,hE,hx⟩
     unfold stepG at h
     dsimp only at h
     split at h
     ·exact .inr ⟨_,_,_,h.symm,λhp=>⟨(h2 hp.c.2).1,mk _ hp.c.1 (h2 hp.c.2).2⟩⟩
     ·split at h
      ·rename_i x hq;exact .inr ⟨_,_,_,h.symm,λhp=>⟨(h2 hp).1,mk _ (λ_=>(Er hT hq).g) (h2 hp).2⟩⟩
      ·split at h
       ·rename_i x p hq;exact .inr ⟨_,_,_,h.symm,λhp=>⟨(h2 hp.c.2).1,mk _ (λ_=>(J5 hq hp.c.1).g) (h2 hp.c.2).2⟩⟩
       ·split at h
        ·exact .inr ⟨_,_,_,h.symm,λhp=>⟨(h2 hp.c.2).1,mk _ hp.c.1 (h2 hp.c.2).2⟩⟩
        ·exact .inl h.symm
    ·exact .inl h.symm
   ·exact .inl h.symm
  ·exact .inl h.symm
def Qi (P:Program) (base:Nat) (T:FT) (e:Env) (st:St) (o:Oper) (hs:List Hint) (ps:List Prop) (K:EV->St->List Hint->List Prop->Option Out):Option Out :=
  match o.guard with
  | some _=>none
  | none=>match st with
   | ⟨ob,tl⟩=>match hs with
    | .r n::hs=>match Nat.beq n ob.length with
      | false=>none
      | true=>match o.op with
        | .box t x=>match cP e x with
          | some y=>match fX y with
            | some cs=>mi cs λcs=>mi (ob++[.row t cs]) λos=>K (.ref n 0) ⟨os,tl⟩ hs ps
            | none=>none
          | none=>none
        | .alloc t=>match SA t T.zr with
          | some zs=>mi (zs.map EV.d) λcs=>mi (ob++[.row t cs]) λos=>K (.ref n 0) ⟨os,tl⟩ hs ps
          | none=>none
        | _=>none
    | .v x st'::hs=>K x st' hs (xl P base e st o x st'::ps)
    | .u st'::hs=>K (.d .any) st' hs (Hv P base e st o st'::ps)
    | .t x tk y::hs=>mi (tl.set tk y) λts=>K x ⟨ob,ts⟩ hs (xl P base e st o x (st.bC tk y)::ps)
    | .n x y::hs=>mi (tl++[y]) λts=>K x ⟨ob,ts⟩ hs (xl P base e st o x (st.tok y)::ps)
    | _=>none
def Qj (P:Program) (base:Nat) (T:FT) (n:Nat) (e:Env) (st:St) (o:Oper) (hs:List Hint) (ps:List Prop) (F:Option Out) (K:St->List Hint->List Prop->Option Out):Option Out :=
  match o.guard with
  | some _=>F
  | none=>match SB n hs with
   | some (st',hs)=>K st' hs (Hv P base e st o st'::ps)
   | none=>match o.op with
    | .store t x y=>match cP e x with
      | some (.ref ob off)=>match rowOf st ob with
        | some (ty,cs)=>match cP e y with
          | some y=>match fX y with
            | some new=>match SA t T.sz with
              | some n=>match Nat.beq n new.length with
                | true=>match Nat.ble (off+new.length) cs.length with
                  | true=>match st with
                    | ⟨os,tl⟩=>mi (putCells cs off new) λcs=>mi (os.set ob (.row ty cs)) λos=>K ⟨os,tl⟩ hs ps
                  | false=>F
                | false=>F
              | none=>F
            | none=>F
          | none=>F
        | none=>F
      | _=>F
    | _=>F
section e
variable {P:Program} {base:Nat} {T:FT} (hT:T.Ok P) {e:Env} {st:St} {o:Oper} {hs:List Hint} {ps:List Prop} {out:Out}
include hT
theorem LY {K:EV->St->List Hint->List Prop->Option Out} (h:Qi P base T e st o hs ps K=some out) :
  o.guard=none/\∃ x st' tX HZ,K x st' tX HZ=some out/\(r6 HZ->r6 ps/\(xl P base e st o x st'∨(x=.d .any/\Hv P base e st o st'))):=by
 obtain ⟨dst,op,ty,pos,after,guard⟩:=o;unfold Qi at h
 dsimp only at h
 split at h
 ·cases h
 ·refine ⟨rfl,?_⟩;simp only [qt] at h;split at h
  ·split at h
   ·cases h
   ·rename_i hn;have hn:=zau hn;split at h
    ·rename_i t x;split at h
     ·rename_i y hy;split at h
      ·rename_i cs hc;refine ⟨_,_,_,_,h,λhp=>⟨hp,.inl ?_⟩⟩;rw [hn];exact XS hy hc
      ·cases h
     ·cases h
    ·rename_i t;split at h
     ·rename_i zs hz;obtain ⟨z,LZ,Xq⟩:=zT hT.2.2.2.2 hz;refine ⟨_,_,_,_,h,λhp=>⟨hp,.inl ?_⟩⟩;rw [hn];exact jh LZ Xq
     ·cases h
    ·cases h
  ·exact ⟨_,_,_,_,h,λhp=>⟨hp.c.2,.inl hp.c.1⟩⟩
  ·exact ⟨_,_,_,_,h,λhp=>⟨hp.c.2,.inr ⟨rfl,hp.c.1⟩⟩⟩
  ·exact ⟨_,_,_,_,h,λhp=>⟨hp.c.2,.inl hp.c.1⟩⟩
  ·exact ⟨_,_,_,_,h,λhp=>⟨hp.c.2,.inl hp.c.1⟩⟩
  ·cases h
theorem L0 {n:Nat} {F r:Option Out} {K:St->List Hint->List Prop->Option Out} (h:Qj P base T n e st o hs ps F K=r):r=F∨(o.guard=none/\∃ st' tX HZ,r=K st' tX HZ/\(r6 HZ->r6 ps/\Hv P base e st o st')):=by
 obtain ⟨dst,op,ty,pos,after,guard⟩:=o;unfold Qj at h
 dsimp only at h
 split at h
 ·exact .inl h.symm
 ·split at h
  ·exact .inr ⟨rfl,_,_,_,h.symm,λhp=>⟨hp.c.2,hp.c.1⟩⟩
  simp only [qt] at h;split at h
  ·rename_i t x y;split at h
   ·rename_i ob off hx;split at h
    ·rename_i LC cs hr;have hr:st.aP[ob]?=some (.row LC cs):=by
      unfold rowOf at hr;split at hr
      ·rename_i h1;cases hr;exact h1
      ·cases hr
     split at h
     ·rename_i yv hy;split at h
      ·rename_i new hc;split at h
       ·rename_i n hl;split at h
        ·rename_i hn;have hn:=zau hn;split at h
         ·rename_i hle;have fE:=zT hT.2.2.1 hl;refine .inr ⟨rfl,_,_,_,h.symm,λhp=>⟨hp,sA hx hy hr hc (zaf hle) ?_⟩⟩;rw [←hn];exact fE
         ·exact .inl h.symm
        ·exact .inl h.symm
       ·exact .inl h.symm
      ·exact .inl h.symm
     ·exact .inl h.symm
    ·exact .inl h.symm
   ·exact .inl h.symm
  ·exact .inl h.symm
end e
def ctl (hs:List Hint) (ps:List Prop):List Item->(Cf->List Hint->List Prop->Option Out)->Option Out
 | .code (.seq x y)::k,K=>K (.run (.code x::.code y::k)) hs ps
 | .code .skip::k,K=>K (.run k) hs ps
 | .inBlock id::k,K=>K (.run k) hs ps
 | .code (.block id c)::k,K=>K (.run (.code c::.inBlock id::k)) hs ps
 | .code (.exit id)::k,K=>match exitTo id k with
  | some k'=>K (.run k') hs ps
  | none=>none
 | .code (.region id ⟨l⟩ false)::k,K=>K (.ops l l k) hs ps
 | .code (.region id ⟨l⟩ true)::k,K=>match hs with
  | .p p::hs=>mi (l.take p) λos=>K (.draw l p os k) hs ((cr l p=true)::ps)
  | _=>none
 | _,_=>none
def okO (N:Nat) (o:Oper):Bool:=match o.dst with
 | some d=>Nat.ble (d+1) N
 | none=>match o.guard with
  | none=>true
  | some _=>false
theorem Nc {N:Nat} {o:Oper} (h:okO N o=true):fV N o.dst=true/\(o.guard≠none->o.dst≠none):=by
 unfold okO at h;split at h
 ·rename_i d hd;rw [hd];exact ⟨h,λ_=>by simp⟩
 ·rename_i hd;rw [hd];split at h
  ·rename_i hg;exact ⟨rfl,λh=>absurd hg h⟩
  ·cases h
def go (P:Program) (base:Nat) (T:FT) (N:Nat):Nat->Cf->Env->St->List Hint->List Prop->Option Out
 | 0,cf,env,st,hs,ps=>match hs with
  | []=>some ⟨cf,env,st,ps⟩
  | _=>none
 | n+1,cf,env,st,hs,ps=>match cf with
  | .run k=>ctl hs ps k λcf hs ps=>go P base T N n cf env st hs ps
  | .ops l rest k=>match rest with
   | []=>go P base T N n (.run k) env st hs ps
   | o::rest=>match okO N o with
    | true=>Qj P base T (n+1) env st o hs ps
     (Nb P T (n+1) l env st o hs ps
      (Qi P base T env st o hs ps λx st hs ps=>Qh env o.dst x λenv=>go P base T N n (.ops l rest k) env st hs ps)
      λx hs ps=>Qh env o.dst x λenv=>go P base T N n (.ops l rest k) env st hs ps)
     λst hs ps=>Qh env o.dst (.d .any) λenv=>go P base T N n (.ops l rest k) env st hs ps
    | false=>none
  | .draw l p os k=>match os with
   | []=>mi (l.drop p) λr=>go P base T N n (.ops l r k) env st hs ps
   | o::os=>match okO N o with
    | true=>Nb P T (n+1) l (mf l o env) st o hs ps none λx hs ps=>Qh env o.dst x λenv=>go P base T N n (.draw l p os k) env st hs ps
    | false=>none
section sound
variable {P:Program} {f:Ctx} {N:Nat} {S:Start} {Q:EV->St->Prop} {T:FT}
theorem cd.any {ops rest:List Oper} {k:List Item} {env:Env} {st:St} {o:Oper} {x:EV} (h:ug P ops env st o x) (hd:fV N o.dst=true) (hs:o.guard≠none->o.dst≠none) (hk:cd P f N S Q ops rest k (env.put o.dst x) st) :
  cd P f N S Q ops (o::rest) k env st:=by
 obtain ⟨dst,op,ty,pos,after,guard⟩:=o;rcases h with ⟨hg,h⟩|⟨j,want,t,c,b,y,env',hg,hj,hl,hc,rfl,hE,h⟩
 ·have hg:guard=none:=hg;subst hg;exact .g h hd hk
 ·have hg:guard=_:=hg;subst hg;cases dst with
  | none=>exact absurd rfl (hs (by simp))
  | some d=>exact .gE hj hl hc hE hd h hk
theorem uG.any {l os:List Oper} {p:Nat} {k:List Item} {env:Env} {st:St} {o:Oper} {x:EV} (h:ug P l (mf l o env) st o x) (hd:fV N o.dst=true) (hk:uG P f N S Q l p os k (env.put o.dst x) st) :
  uG P f N S Q l p (o::os) k env st:=by
 obtain ⟨xs,h1,h2⟩:=hk;exact ⟨x::xs,⟨hd,h,h1⟩,h2⟩
theorem go_sound (hT:T.Ok P) (hm:P.follows .mixedOrders=true):∀ (n:Nat) (cf:Cf) (env:Env) (st:St) (hs:List Hint) (ps:List Prop) (out:Out),go P S.base T N n cf env st hs ps=some out->r6 out.ps ->
  r6 ps/\(OE P f N S Q out.cf out.env out.st->OE P f N S Q cf env st)
 | 0,cf,env,st,hs,ps,out,h,hp=>by
  unfold go at h;split at h
  ·cases h;exact ⟨hp,λh=>h⟩
  ·cases h
 | n+1,.run k,env,st,hs,ps,out,h,hp=>by
  unfold go at h
  dsimp only at h
  have ih:=λcf hs ps=>go_sound hT hm n cf env st hs ps out
  unfold ctl at h;split at h
  ·obtain ⟨h1,h2⟩:=ih _ _ _ h hp;exact ⟨h1,λh=>.seq (h2 h)⟩
  ·obtain ⟨h1,h2⟩:=ih _ _ _ h hp;exact ⟨h1,λh=>.skip (h2 h)⟩
  ·obtain ⟨h1,h2⟩:=ih _ _ _ h hp;exact ⟨h1,λh=>.inBlock (h2 h)⟩
  ·obtain ⟨h1,h2⟩:=ih _ _ _ h hp;exact ⟨h1,λh=>.block (h2 h)⟩
  ·split at h
   ·rename_i hk;obtain ⟨h1,h2⟩:=ih _ _ _ h hp;exact ⟨h1,λh=>.exit hk (h2 h)⟩
   ·cases h
  ·obtain ⟨h1,h2⟩:=ih _ _ _ h hp;exact ⟨h1,λh=>.region (h2 h)⟩
  ·split at h
   ·rw [qt] at h;obtain ⟨h1,h2⟩:=ih _ _ _ h hp;exact ⟨h1.c.2,λh=>.drawn _ hm h1.c.1 (h2 h)⟩
   ·cases h
  ·cases h
 | n+1,.ops l [] k,env,st,hs,ps,out,h,hp=>by
  unfold go at h
  dsimp only at h
  obtain ⟨h1,h2⟩:=go_sound hT hm n _ _ _ _ _ out h hp;exact ⟨h1,λh=>.nil (h2 h)⟩
 | n+1,.ops l (o::rest) k,env,st,hs,ps,out,h,hp=>by
  unfold go at h
  dsimp only at h
  split at h
  ·rename_i ho;obtain ⟨FE,Oe⟩:=Nc ho;rcases L0 (base:=S.base) hT h with h|⟨hg,st',tX,HZ,h,hu⟩
   ·rcases Es hT h.symm with h|⟨x,tX,HZ,h,ha⟩
    ·obtain ⟨hg,x,st',tX,HZ,h,ha⟩:=LY hT h.symm;rw [DF] at h;obtain ⟨h1,h2⟩:=go_sound hT hm n _ _ _ _ _ out h hp;obtain ⟨h3,h4⟩:=ha h1;refine ⟨h3,λhk=>?_⟩;rcases h4 with h4|⟨rfl,h4⟩
     ·exact .op hg FE h4 (h2 hk)
     ·exact .opU hg FE h4 (h2 hk)
    ·rw [DF] at h;obtain ⟨h1,h2⟩:=go_sound hT hm n _ _ _ _ _ out h.symm hp;obtain ⟨h3,h4⟩:=ha h1;exact ⟨h3,λh=>.any h4 FE Oe (h2 h)⟩
   ·rw [DF] at h;obtain ⟨h1,h2⟩:=go_sound hT hm n _ _ _ _ _ out h.symm hp;obtain ⟨h3,h4⟩:=hu h1;exact ⟨h3,λh=>.opU hg FE h4 (h2 h)⟩
  ·cases h
 | n+1,.draw l p [] k,env,st,hs,ps,out,h,hp=>by
  unfold go at h
  dsimp only at h
  rw [qt] at h;obtain ⟨h1,h2⟩:=go_sound hT hm n _ _ _ _ _ out h hp;exact ⟨h1,λh=>.nil (h2 h)⟩
 | n+1,.draw l p (o::os) k,env,st,hs,ps,out,h,hp=>by
  unfold go at h
  dsimp only at h
  split at h
  ·rename_i ho;obtain ⟨FE,Oe⟩:=Nc ho;rcases Es hT h with h|⟨x,tX,HZ,h,ha⟩
   ·cases h
   ·rw [DF] at h;obtain ⟨h1,h2⟩:=go_sound hT hm n _ _ _ _ _ out h.symm hp;obtain ⟨h3,h4⟩:=ha h1;exact ⟨h3,λh=>.any h4 FE (h2 h)⟩
  ·cases h
def L4 (T:FT) (env:Env) (st:St):List ResultVar->Option (List EV)
 | []=>some []
 | .tmp t::l=>match lookup t env with
  | some x=>match L4 T env st l with
   | some r=>some (x::r)
   | none=>none
  | none=>none
 | .cell a ty::l=>match lookup a env with
  | some (.ref o off)=>match qv T env st (.load ty (.tmp a)) with
   | some x=>match L4 T env st l with
    | some r=>some (x::r)
    | none=>none
   | none=>none
  | _=>none
theorem wo (hT:T.Ok P) {env:Env} {st:St}:∀ {l:List ResultVar} {es:List EV},L4 T env st l=some es->Eg P env st l es
 | [],es,h=>by cases h;trivial
 | .tmp t::l,es,h=>by
  unfold L4 at h;split at h
  ·rename_i x hx;split at h
   ·rename_i r hr;cases h;exact ⟨hx,wo hT hr⟩
   ·cases h
  ·cases h
 | .cell a ty::l,es,h=>by
  unfold L4 at h;split at h
  ·rename_i o off ha;split at h
   ·rename_i x hq;split at h
    ·rename_i r hr;cases h;exact ⟨⟨⟨o,off,ha⟩,Er hT hq⟩,wo hT hr⟩
    ·cases h
   ·cases h
  ·cases h
theorem bq.rc {f:FuncId} (hT:T.Ok P) {fn:Func} {xs:List ResultVar} {es:List EV} {k:List Item} {env:Env} {st:St} (hf:P.funcs[f]?=some fn) (hr:fn.results=xs.toArray) (h:L4 T env st xs=some es) (hQ:Q (Eh es) st) :
  bq P (.of f) N S Q (.code .ret::k) env st:=.UT xs es hf hr (wo hT h) hQ
theorem bq.ite {α:Type} {b:Bool} {d:Decidable (b=true)} {e1 e2:Option α} {r:α} {c:Operand} {x y:Code} {k:List Item} {env:Env} {st:St} (H:@ite _ (b=true) d e1 e2=some r) (hc:cP env c=some (.d (.ex (.bool b))))
  (ht:e1=some r->bq P f N S Q (.code x::k) env st) (hf:e2=some r->bq P f N S Q (.code y::k) env st):bq P f N S Q (.code (.cond c x y)::k) env st :=
 .cond hc (λh=>ht (by rw [zab h] at H;exact H)) (λh=>hf (by rw [zaa (by simp [h])] at H;exact H))
def L5 (env:Env):List (Nat×EV)->Option Env
 | []=>some []
 | (i,_)::l=>match lookup i env with
  | some x=>match L5 env l with
   | some r=>some ((i,x)::r)
   | none=>none
  | none=>none
theorem xA {env:Env}:∀ {l:List (Nat×EV)} {env':Env},L5 env l=some env'->cZ env env'
 | [],env',h=>by cases h;trivial
 | (i,y)::l,env',h=>by
  unfold L5 at h;split at h
  ·rename_i x hx;split at h
   ·rename_i r hr;cases h;exact .cons hx (.ak _) (xA hr)
   ·cases h
  ·cases h
section back
variable {todo:List Item} {env env':Env} {st st' s0:St}
theorem bq.z (h:bq P f N S Q todo env' st') (hs:st=st') (hE:L5 env env'=some env'):bq P f N S Q todo env st:=hs▸.sub (xA hE) h
theorem bq.y (h:bq P f N S Q todo env' st') (hs:st=st') (hE:cZ env env'):bq P f N S Q todo env st:=hs▸.sub hE h
theorem bq.t (n m:Nat) (h:bq P f N S Q todo env' st') (hE:L5 env env'=some env') (ho:st.aP.take n=st'.aP) (ht:st.ar.take m=st'.ar) (hn:(Nat.ble n st.aP.length && Nat.ble m st.ar.length)=true)
  (xt:(CL n m env' && st'.aP.all (kf n m))=true) (hS:S.st=s0) (hb:(Nat.ble s0.aP.length n && Nat.ble s0.ar.length m)=true):bq P f N S Q todo env st:=by
 simp only [zas] at hn hb;exact .to n m (xA hE) ho ht hn.1 hn.2 xt (by rw [hS];exact zaf hb.1) (by rw [hS];exact zaf hb.2) h
end back
end sound
theorem Hv.e {P:Program} {base:Nat} {env:Env} {st st1 st2:St} {o:Oper} (h:Hv P base env st o st1) (he:st1=st2):Hv P base env st o st2:=he▸h
theorem xl.e {P:Program} {base:Nat} {env:Env} {st st1 st2:St} {o:Oper} {x:EV} (h:xl P base env st o x st1) (he:st1=st2):xl P base env st o x st2:=he▸h
theorem QD.m {q:D->Prop} {r:EV} {st:St} {x:D} (hq:q x) (h:dX r (.d x)):QD q r st:=⟨x,h,hq⟩
theorem dX.kV {ds:List D} {es:List EV} (h:es=ds.map EV.d):dX (.dV es) (.d (.dV ds)):=by
 subst h;refine .qq ?_
 induction ds with
 | nil=>trivial
 | cons d ds ih=>exact ⟨.ak _,ih⟩
def ftB (P:Program) (T:FT):Bool :=
 T.one.all (λt=>decide ((P.underlying t).map kT=some true)) && T.agg.all (λx=>decide ((P.underlying x.1).map kT=some false) && decide ((P.info? x.1).map (·.size)=some x.2)) && T.sz.all (λx=>decide ((P.info? x.1).map (·.size)=some x.2)) &&
 T.fo.all (λx=>x.2.all λy=>decide (fG P x.1 y.1=some y.2))
theorem GW {α:Type} {p:α->Prop}:∀ {l:List α},(∀ x,x∈l->p x)->Al p l
 | [],_=>trivial
 | a::l,h=>⟨h a (by simp),GW λx hx=>h x (by simp [hx])⟩
theorem FT.Yo {P:Program} {T:FT} (h:ftB P T=true) (hz:Al (λx=>∃ z,(P.info? x.1).bind (·.zero)=some z/\fX (.d (cv z))=some (x.2.map EV.d)) T.zr):T.Ok P:=by
 simp only [ftB,zas,zbd,zak] at h;exact ⟨GW h.1.1.1,GW h.1.1.2,GW h.1.2,GW λx hx=>GW (h.2 x hx),hz⟩
def Nd (P:Program) (base:Nat) (T:FT) (N n:Nat) (cf:Cf) (env:Env) (st:St) (hs:List Hint):Option Out:=mi env λenv=>match st with
 | ⟨os,ts⟩=>mi os λos=>mi ts λts=>go P base T N n cf env ⟨os,ts⟩ hs []
theorem Vi {P:Program} {base N n:Nat} {T:FT} {cf:Cf} {env:Env} {st:St} {hs:List Hint}:Nd P base T N n cf env st hs=go P base T N n cf env st hs []:=by
 unfold Nd;simp only [qt]
theorem sX {P:Program} {f:Ctx} {N:Nat} {S:Start} {Q:EV->St->Prop} {T:FT} (hT:T.Ok P) (hm:P.follows .mixedOrders=true) {n:Nat} {cf:Cf} {env:Env} {st:St} {hs:List Hint} {out:Out} (h:Nd P S.base T N n cf env st hs=some out) (hp:r6 out.ps) :
  OE P f N S Q out.cf out.env out.st->OE P f N S Q cf env st:=(go_sound hT hm n cf env st hs [] out (Vi▸h) hp).2
structure J6 (P:Program) (t e sz:Nat):Prop where
 ht:P.underlying t=some (.slice e)
 hi:∃ inf z,P.info? e=some inf/\inf.zero=some z/\inf.size=sz/\z.cells.size=sz/\inf.bytes<=100000
theorem J6.of {P:Program} {t e sz b:Nat} {z:Value} (ht:P.underlying t=some (.slice e)) (h:∃ i,P.info? e=some i/\i.zero=some z/\i.size=sz/\i.bytes=b) (hz:z.cells.size=sz) (hb:Nat.ble b 100000=true):J6 P t e sz :=
 let ⟨i,h1,h2,h3,h4⟩:=h
 ⟨ht,i,z,h1,h2,h3,hz,by rw [h4];exact zaf hb⟩
section slt
variable {P:Program} {t e sz:Nat} (s:J6 P t e sz) {base:Nat} {env:Env} {st:St} {d:Option Tmp} {ty:TypeId} {pos:String} {after:Array Edge} {gd:Option (Nat×Bool)} {x y:Operand} {α:Type} {row:α->List D} {l l':List α} {ev w:EV}
include s
theorem J6.n (hx:cP env x=some ev) (hs:uD ev=some (sz,l.map row)):zi P env st ⟨d,.call ⟨.builtin .len,#[x],#[t]⟩,ty,pos,after,gd⟩ (.d (cI (l.length:Int))):=(US s.ht hx hs).g
theorem J6.ix [Inhabited α] {k:IntKind} {i:Int} (hx:cP env x=some ev) (hs:uD ev=some (sz,l.map row)) (hy:cP env y=some (.d (.ex (.int k i)))) (h:0<=i/\i<l.length) :
  zi P env st ⟨d,.indexAddr t x y,ty,pos,after,gd⟩ (.d (.ro (row (nth l i.toNat)))):=by
 obtain ⟨inf,z,h1,_,h3,_⟩:=s.hi;exact (UR s.ht h1 h3 hx hs hy h).g
theorem J6.a {tk:Nat} (hx:cP env x=some (.cz sz (l.map row) tk)) (eN:st.ar[tk]?=some ⟨e,sz,l.length,none⟩) (hy:cP env y=some w) (hs:uD w=some (sz,l'.map row)) (hn:l.length+l'.length<=1000000000) :
  xl P base env st ⟨d,.call ⟨.builtin .append,#[x,y],#[t,t]⟩,ty,pos,after,gd⟩ (.cz sz ((l++l').map row) tk) (st.bC tk ⟨e,sz,(l++l').length,none⟩):=by
 obtain ⟨inf,z,h1,h2,h3,h4,h5⟩:=s.hi;exact yk s.ht h1 h2 h3 h4 h5 hx eN hy hs hn
end slt
section ari
variable {P:Program} {env:Env} {st:St} {d:Option Tmp} {ty:TypeId} {pos:String} {after:Array Edge} {gd:Option (Nat×Bool)} {x y:Operand} {t t2:TypeId} {a b:Int}
theorem aG (hx:cP env x=some (.d (cI a))) (hy:cP env y=some (.d (cI b))) (h:-9223372036854775808<=a+b/\a+b<=9223372036854775807):zi P env st ⟨d,.binOp .add t x y t2,ty,pos,after,gd⟩ (.d (cI (a+b))):=(Ec hx hy h.1 h.2).g
theorem gF (hx:cP env x=some (.d (cI a))) (hy:cP env y=some (.d (cI b))) (h:-9223372036854775808<=a-b/\a-b<=9223372036854775807):zi P env st ⟨d,.binOp .sub t x y t2,ty,pos,after,gd⟩ (.d (cI (a-b))):=(UJ hx hy h.1 h.2).g
end ari
abbrev Hint.a {α:Type} (tk e sz:Nat) (row:α->List D) (l:List α):Hint:=.t (.cz sz (l.map row) tk) tk ⟨e,sz,l.length,none⟩
def Yp (P:Program) (f:Nat):Bool:=match P.funcs[f]? with
 | some fn=>(fn.name == "runtime.NumGoroutine")==false && fn.body.isNone==false
 | none=>false
theorem enters_of {P:Program} {l:List Nat} (hl:l.all (Yp P)=true) {i f:Nat} (h:l[i]?=some f):Enters P f:=by
 have:=zbd.1 hl f (zbh h);unfold Yp at this;split at this
 ·rename_i fn hf;simp only [zas,zdw] at this;exact ⟨fn,hf,this.1,this.2⟩
 ·cases this
abbrev Hint.i (n:Int):Hint:=.g (.d (cI n))
abbrev Hint.b (b:Bool):Hint:=.g (.d (cB b))
abbrev Hint.c (c:UInt8):Hint:=.g (.d (Yc c))
abbrev Hint.s (l:List UInt8):Hint:=.g (.d (cS l))
abbrev Hint.d (x:D):Hint:=.g (.d x)
section renew
variable {P:Program} {g:bT} {base:Nat} {w:World} {st:St}
def St.renew (st:St) (tk:Nat) (x x':gD):St:=(st.bC tk ⟨x.e,x.sz,0,none⟩).tok x'
theorem OF {tk t:Nat} {x x' y:gD} (hlen:tk<st.ar.length) (h:(st.renew tk x x').ar[t]?=some y) :
  (t=st.ar.length/\y=x')∨(t=tk/\y=⟨x.e,x.sz,0,none⟩)∨(t≠tk/\t<st.ar.length/\st.ar[t]?=some y):=by
 have hl:t<(st.renew tk x x').ar.length:=(zad.1 h).1;simp [St.renew,St.tok,St.bC] at hl;by_cases h1:t=st.ar.length
 ·subst h1;left;refine ⟨rfl,?_⟩;simpa [St.renew,St.tok,St.bC,zeq] using h
 ·right;have cE:t<st.ar.length:=by omega
  by_cases h2:t=tk
  ·left;subst h2;refine ⟨rfl,?_⟩;simpa [St.renew,St.tok,St.bC,cE,zan,zeq] using h
  ·right;refine ⟨h2,cE,?_⟩;simpa [St.renew,St.tok,St.bC,cE,zan,zbj,zcf h2] using h
theorem OG {tk t:Nat} {x x' y:gD} (ht:t≠tk) (h:st.ar[t]?=some y):(st.renew tk x x').ar[t]?=some y:=by
 have cE:t<st.ar.length:=(zad.1 h).1;rw [←h];simp [St.renew,St.tok,St.bC,zan,cE,zbj,zcf ht]
theorem GX {tk:Nat} {x x':gD}:(st.renew tk x x').ar[st.ar.length]?=some x':=by simp [St.renew,St.tok,St.bC]
theorem Inv.renew (h:Inv g base w st) {tk:Nat} {x x':gD} {rows bw:List (List D)} (eN:st.ar[tk]?=some x) (hx:x.own=some rows) (jK:x'.own=some bw)
  {v':Value} {w':World} {TD:List Value} (j0:w'.ownsRow base x'.e x'.sz v' x'.n TD)
  (hc:(v'.ownBlock=(g.tk tk).ownBlock/\w'.heap.size=w.heap.size/\w.grownBy w' (g.tk tk).ownBlock)∨(v'.ownBlock=some w.heap.size/\Below w.heap.size w w'))
  (mb:de g.lim w x'.sz x'.n bw TD) :
  ∃ g',g'.tk st.ar.length=v'/\Inv g' base w' (st.renew tk x x')/\Step base g w st g' w' (st.renew tk x x'):=by
 have D4:∀ b,(g.tk tk).ownBlock=some b->g.lim b=0:=λb hb=>(h.JA eN hb).trans (AF hx)
 have cE:∀ b,(g.tk tk).ownBlock=some b->base<=b/\b<w.heap.size:=λb hb=>h.vT eN hb
 have hlen:tk<st.ar.length:=(zad.1 eN).1;have ey:w.heap.size<=w'.heap.size:=by rcases hc with ⟨_,h1,_⟩|⟨_,h1⟩;omega;exact h1.size
 have MR:w'.os=w.os/\w'.tape=w.tape/\w'.output=w.output:=by rcases hc with ⟨_,_,h1⟩|⟨_,h1⟩ <;> exact ⟨h1.os,h1.tape,h1.output⟩
 have mc:∀ k,k<w.heap.size->(g.tk tk).ownBlock≠some k->w'.heap[k]?=w.heap[k]?:=by
  intro k hk eT;rcases hc with ⟨_,_,h1⟩|⟨_,h1⟩
  ·exact h1.block k hk (zcf eT)
  ·exact h1.block k hk
 have s6:∀ k,k<w.heap.size->(g.tk tk).ownBlock≠some k->v'.ownBlock≠some k:=by
  intro k hk eT;rcases hc with ⟨h1,_,_⟩|⟨h1,_⟩ <;> rw [h1]
  ·exact eT
  ·intro he;cases he;omega
 let g':bT:=⟨λb=>if v'.ownBlock=some b then 0 else g.lim b,g.ob,λt=>if t=tk then .slice none 0 0 else if t=st.ar.length then v' else g.tk t⟩
 have xn:∀ b,v'.ownBlock=some b->g'.lim b=0:=λb hb=>by show (if _ then _ else _)=_;rw [zab hb]
 have lV:∀ b,v'.ownBlock≠some b->g'.lim b=g.lim b:=λb hb=>by show (if _ then _ else _)=_;rw [zaa hb]
 have OH:g'.tk tk=.slice none 0 0:=by show (if tk=tk then _ else _)=_;rw [zab rfl]
 have yH:g'.tk st.ar.length=v':=by show (if st.ar.length=tk then _ else _)=_;rw [zaa (by omega),zab rfl]
 have vW:∀ t,t≠tk->t<st.ar.length->g'.tk t=g.tk t:=λt ht hl=>by show (if t=tk then _ else _)=_;rw [zaa ht,zaa (by omega)]
 have AG:∀ k,k<base->(g.tk tk).ownBlock≠some k:=λk hk he=>by have:=(cE k he).1;omega
 have nf:Below base w w':=⟨MR.1,MR.2.1,MR.2.2,ey,λk hk=>mc k (zbk hk h.base) (AG k hk)⟩;have AI:Lm g.lim w g'.lim w':=by
  refine ⟨ey,λb hb=>?_,λb off hb ho=>?_⟩
  ·by_cases he:v'.ownBlock=some b
   ·rw [xn b he];have ka:(g.tk tk).ownBlock=some b:=by
     rcases hc with ⟨h1,_,_⟩|⟨h1,_⟩
     ·rw [←h1];exact he
     ·rw [h1] at he;cases he;omega
    rw [D4 b ka];exact zfh _
   ·rw [lV b he];exact zap _
  ·by_cases he:(g.tk tk).ownBlock=some b
   ·rw [D4 b he] at ho;omega
   ·exact World.cell?_of_block (w:=w) (a:=⟨b,off,none⟩) (mc b hb he)
 have we:=λ(t:Nat) (y:gD) (hy:(st.renew tk x x').ar[t]?=some y)=>OF hlen hy
 have hs:uB g w st g' w' (st.renew tk x x'):=by
  refine ⟨AI,λ_ _=>rfl,zap _,λt e' Jo n' ht=>?_,by simp [St.renew,St.tok,St.bC],λt y J7 kU hy ho=>?_⟩
  ·have wP:t≠tk:=by
    intro e;subst e;rw [eN] at ht;cases ht;cases hx
   exact ⟨n',OG wP ht,zap _,λ_=>vW t wP (zad.1 ht).1⟩
  ·rcases we t y hy with ⟨h1,_⟩|⟨_,h2⟩|⟨h1,h2,h3⟩
   ·omega
   ·rw [h2] at ho;cases ho
   ·exact ⟨y,J7,h3,ho,rfl,zap _,λ_=>vW t h1 h2⟩
 have AJ:∀ o,st.live o->g.ob o<w.heap.size/\(g.tk tk).ownBlock≠some (g.ob o):=λo ho=>⟨(h.vV ho).1,h.iv tk _ o eN ho⟩
 have gX:∀ t y,t≠tk->st.ar[t]?=some y->∀ b,(g.tk t).ownBlock=some b->b<w.heap.size/\(g.tk tk).ownBlock≠some b/\v'.ownBlock≠some b:=λt y wP hy b hb=>by
  have h1:=(h.vT hy hb).2;have h2:=h.nK t tk _ _ b wP hy eN hb;exact ⟨h1,h2,s6 b h1 h2⟩
 refine ⟨g',yH,⟨zdg h.base ey,?_,?_,?_,h.ne,?_,?_,?_,h.C9.below nf,?_⟩,⟨hs,nf,λb hb=>lV b (s6 b (zbk hb h.base) (AG b hb)),λb hb hn=>?_,λb hb hw=>?_⟩⟩
 ·intro o ty cs hx;obtain ⟨h1,h2,vs,h3,h4,h5⟩:=h.row o ty cs hx;obtain ⟨k1,k2⟩:=AJ o ⟨_,hx,by simp⟩;exact ⟨h1,(lV _ (s6 _ k1 k2)).trans h2,vs,by show w'.heap[g.ob o]?=_;rw [mc _ k1 k2];exact h3,h4,λi c u hc hu=>⟨(h5 i c u hc hu).1.mono hs,(h5 i c u hc hu).2⟩⟩
 ·intro o es hx;obtain ⟨h1,ms,c,h3,h4,h5,h6⟩:=h.map o es hx;obtain ⟨k1,k2⟩:=AJ o ⟨_,hx,by simp⟩;exact ⟨h1,ms,c,by show w'.heap[g.ob o]?=_;rw [mc _ k1 k2];exact h3,h4,λi k y m a b=>⟨(h5 i k y m a b).1,(h5 i k y m a b).2.mono hs⟩,h6⟩
 ·intro o y hx;obtain ⟨h1,h2,h3⟩:=h.raw o y hx;obtain ⟨k1,k2⟩:=AJ o ⟨_,hx,by simp⟩;exact ⟨h1,(lV _ (s6 _ k1 k2)).trans h2,by show w'.heap[g.ob o]?=_;rw [mc _ k1 k2];exact h3⟩
 ·intro t e' Jo n' ht;rcases we t _ ht with ⟨h1,h2⟩|⟨h1,h2⟩|⟨h1,h2,h3⟩
  ·subst h2;cases jK
  ·subst h1;cases h2;rw [OH];exact ⟨[],World.ownsRow_nil w' base _ _,λb hb=>by cases hb⟩
  ·obtain ⟨ys,k1,k2⟩:=h.tail t e' Jo n' h3;rw [vW t h1 h2];exact ⟨ys,e8 k1 λb hb=>mc b (gX t _ h1 h3 b hb).1 (gX t _ h1 h3 b hb).2.1,λb hb=>by rw [lV b (gX t _ h1 h3 b hb).2.2];exact k2 b hb⟩
 ·intro t t' y y' b eT ht r5 hb;rcases we t _ ht with ⟨h1,h2⟩|⟨h1,h2⟩|⟨h1,h2,h3⟩
  ·subst h1;rw [yH] at hb;rcases we t' _ r5 with ⟨k1,k2⟩|⟨k1,k2⟩|⟨k1,k2,k3⟩
   ·exact absurd k1.symm eT
   ·rw [k1,OH];intro e;cases e
   ·rw [vW t' k1 k2];intro ka;exact (gX t' _ k1 k3 b ka).2.2 hb
  ·rw [h1,OH] at hb;cases hb
  ·rw [vW t h1 h2] at hb;rcases we t' _ r5 with ⟨k1,k2⟩|⟨k1,k2⟩|⟨k1,k2,k3⟩
   ·rw [k1,yH];exact (gX t _ h1 h3 b hb).2.2
   ·rw [k1,OH];intro e;cases e
   ·rw [vW t' k1 k2];exact h.nK t t' _ _ b eT h3 k3 hb
 ·intro t y o ht ho;have na:st.live o:=ho;obtain ⟨k1,k2⟩:=AJ o na;rcases we t _ ht with ⟨h1,h2⟩|⟨h1,h2⟩|⟨h1,h2,h3⟩
  ·rw [h1,yH];exact s6 _ k1 k2
  ·rw [h1,OH];intro e;cases e
  ·rw [vW t h1 h2];exact h.iv t y o h3 na
 ·intro t e' Jo n' J7 ht;rcases we t _ ht with ⟨h1,h2⟩|⟨h1,h2⟩|⟨h1,h2,h3⟩
  ·subst h1;subst h2;cases jK;rw [yH];exact ⟨_,j0,λb hb=>xn b hb,mb.mono AI⟩
  ·cases h2
  ·obtain ⟨ys,k1,k2,k3⟩:=h.own t e' Jo n' J7 h3;rw [vW t h1 h2];exact ⟨ys,e8 k1 λb hb=>mc b (gX t _ h1 h3 b hb).1 (gX t _ h1 h3 b hb).2.1,λb hb=>by rw [lV b (gX t _ h1 h3 b hb).2.2];exact k2 b hb,k3.mono AI⟩
 ·have eT:(g.tk tk).ownBlock≠some b:=λe=>hn (.inr ⟨tk,x,eN,e⟩)
  exact ⟨mc b hb eT,lV b (s6 b hb eT)⟩
 ·rcases hw with ⟨o,h1,h2⟩|⟨t,y,h1,h2⟩
  ·exact .inl ⟨o,h1,h2⟩
  ·rcases we t _ h1 with ⟨k1,k2⟩|⟨k1,k2⟩|⟨k1,k2,k3⟩
   ·rw [k1,yH] at h2;rcases hc with ⟨c1,_,_⟩|⟨c1,_⟩
    ·exact .inr ⟨tk,x,eN,by rw [←c1];exact h2⟩
    ·rw [c1] at h2;cases h2;omega
   ·rw [k1,OH] at h2;cases h2
   ·rw [vW t k1 k2] at h2;exact .inr ⟨t,y,k3,h2⟩
end renew
section rows
variable {P:Program} (w:World)
theorem qV {a b c:Nat} (h:min a b=c):Nat.min a b=c:=h
def laid (cur:List Value) (o:Nat) (cs:List Value):List Value:=cur.take o++cs++cur.drop (o+cs.length)
theorem iN {cur cs:List Value} {o:Nat} (h:o+cs.length<=cur.length):(laid cur o cs).length=cur.length:=by
 simp [laid];omega
theorem xB {cur cs:List Value} {o:Nat} (h:o+cs.length<=cur.length) (j:Nat):(laid cur o cs)[j]?=if o<=j/\j<o+cs.length then cs[j-o]? else cur[j]?:=by
 unfold laid;by_cases h1:j<o
 ·rw [zaa (by omega),zat,zan (by simp;omega),zam,zab h1]
 ·by_cases h2:j<o+cs.length
  ·rw [zab ⟨by omega,h2⟩,zat,zav (by simp;omega),zan (by simp;omega)];congr 1;simp;omega
  ·rw [zaa (by omega),zav (by simp;omega),zbb];congr 1;simp;omega
theorem nh {dT sT ty e:TypeId} {inf:TypeInfo} {sz b o H0 Vj L6 Vk:Nat} {cur:Array Value} {a:Addr} {cs:List Value} (ht:P.underlying dT=some (.slice e)) (hi:P.info? e=some inf) (fE:inf.size=sz)
  (hg:w.heap[b]?=some (.cells cur e (0,0))) (hl:cs.length=Nat.min L6 H0*sz) (u9:∀ j v,cs[j]?=some v->w.cell? (a.add j)=some v) (h1:∀ v∈cs,v.oneCell'=true) (AE:o+cs.length<=cur.size) :
  (Builtin.copy_ #[dT,sT] ty #[.slice (some ⟨b,o,none⟩) H0 Vj,.slice (some a) L6 Vk]).run P w=.ok (goInt (Nat.min L6 H0)) (w.setRow b (laid cur.toList o cs).toArray):=by
 subst fE;have hf:(Builtin.firstCells inf.size (Nat.min L6 H0) (.slice (some a) L6 Vk)).run P w=.ok cs.toArray w:=run_firstCells_some w inf.size (Nat.min L6 H0) a L6 Vk cs hl u9;have ma:=run_storeCells_at P b o e cs 0 cur w hg (by simpa using AE) h1;simp only [zde] at ma;simp [Builtin.copy_,run_underlying ht,Builtin.lenOf,sizeOf,typeInfo,hi,hf,ma,goInt,laid]
theorem zU {t ty e:TypeId} {inf:TypeInfo} {z:Value} {sz b o n c:Nat} {cur:Array Value} (ht:P.underlying t=some (.slice e)) (hi:P.info? e=some inf) (hz:inf.zero=some z) (qf:z.cells.size=sz)
  (hg:w.heap[b]?=some (.cells cur e (0,0))) (hn:0<n) (AE:o+n*sz<=cur.size) (h1:∀ v∈(Builtin.zeroCells z.cells n).toList,v.oneCell'=true) :
  (Builtin.clear_ #[t] ty #[.slice (some ⟨b,o,none⟩) n c]).run P w=.ok (.tuple #[]) (w.setRow b (laid cur.toList o (Builtin.zeroCells z.cells n).toList).toArray):=by
 have fE:(Builtin.zeroCells z.cells n).toList.length=n*sz:=by rw [zcr,size_zeroCells,qf]
 have ma:=run_storeCells_at P b o e (Builtin.zeroCells z.cells n).toList 0 cur w hg (by rw [zde,fE];exact AE) h1;simp only [zde] at ma;cases n with
 | zero=>simp at hn
 | succ n=>simp [Builtin.clear_,run_underlying ht,zeroValue,typeInfo,hi,hz,ma,laid]
theorem Et {t ty e:TypeId} {A:Option Addr} {c:Nat} (ht:P.underlying t=some (.slice e)):(Builtin.clear_ #[t] ty #[.slice A 0 c]).run P w=.ok (.tuple #[]) w:=by
 cases A <;> simp [Builtin.clear_,run_underlying ht]
theorem GY (w:World) {o:Oper} {a:Act} {K:Act->World->Prop} {Q:Exit->Act->World->Prop} (d s:Operand) (t t':TypeId)
  (ho:o.op=.call { callee:=.builtin .copy,args:=#[d,s],argTypes:=#[t,t'] }) (v u:Value) (hd:a.eval d=v) (hs:a.eval s=u) {v':Value} {w':World}
  (hr:(Builtin.copy_ #[t,t'] o.type #[v,u]).run P w=.ok v' w') (h:K (a.put o.dst v') w'):o.wp P a w K Q:=by
 unfold Oper.wp execOp;simp only [ho,resolve,invoke,builtin,Sem.run_bind,Sem.run_pure,Result.andThen_ok,zee,zao,zbf,hd,hs,hr];exact h
theorem jN (w:World) {ops:Array Oper} {rest:List Oper} {o:Oper} {a:Act} {Q:Exit->Act->World->Prop} (Xr:o.guard=none) (d s:Operand) (t t':TypeId)
  (ho:o.op=.call { callee:=.builtin .copy,args:=#[d,s],argTypes:=#[t,t'] }) (v u:Value) (hd:a.eval d=v) (hs:a.eval s=u) {v':Value} {w':World}
  (hr:(Builtin.copy_ #[t,t'] o.type #[v,u]).run P w=.ok v' w') (h:wpList P ops Q rest (a.put o.dst v') w'):wpList P ops Q (o::rest) a w :=
 wpList_plain Xr λ_ hK=>GY w d s t t' ho v u hd hs hr (hK _ _ h)
theorem mj {ops:Array Oper} {o:Oper} {a:Act} {w:World} {K:Act->World->Prop} {Q:Exit->Act->World->Prop} {E:Prop}
  (hg:o.guard=none) (d x:Operand) (dT sT:TypeId) (vd:o.op=Op.call { callee:=Callee.builtin Builtin.copy,args:=#[d,x],argTypes:=#[dT,sT] })
  (v u:Value) (hd:a.eval d=v) (hx:a.eval x=u) {v':Value} {w':World} (hr:(Builtin.copy_ #[dT,sT] o.type #[v,u]).run P w=.ok v' w') (hK:K (a.put o.dst v') w') :
  if Region.wanted o (yielded ops a.tmps)=true then Oper.wp P o a w K Q else E:=by
 rw [zab (by simp [Region.wanted,hg])];exact GY w d x dT sT vd v u hd hx hr hK
theorem kg (w:World) {ops:Array Oper} {rest:List Oper} {o:Oper} {a:Act} {Q:Exit->Act->World->Prop} (Xr:o.guard=none) (d:Operand) (t:TypeId)
  (ho:o.op=.call { callee:=.builtin .clear,args:=#[d],argTypes:=#[t] }) (v:Value) (hd:a.eval d=v) {v':Value} {w':World}
  (hr:(Builtin.clear_ #[t] o.type #[v]).run P w=.ok v' w') (h:wpList P ops Q rest (a.put o.dst v') w'):wpList P ops Q (o::rest) a w :=
 wpList_plain Xr λ_ hK=>by
  unfold Oper.wp execOp;simp only [ho,resolve,invoke,builtin,Sem.run_bind,Sem.run_pure,Result.andThen_ok,zee,zao,zbf,hd,hr];exact hK _ _ h
end rows
end Go.Abs
namespace Go.Abs
open Go.RowKit
section srcs
variable {P:Program} (w:World)
theorem OI {dT sT ty e:TypeId} {inf:TypeInfo} {sz b o H0 Vj m uc:Nat} {cur:Array Value} {A:Option Addr} {cs:List Value} (ht:P.underlying dT=some (.slice e)) (hi:P.info? e=some inf) (fE:inf.size=sz)
  (hg:w.heap[b]?=some (.cells cur e (0,0))) (hm:m<=H0) (hf:(Builtin.firstCells sz m (.slice A m uc)).run P w=.ok cs.toArray w) (h1:∀ v∈cs,v.oneCell'=true) (AE:o+cs.length<=cur.size) :
  (Builtin.copy_ #[dT,sT] ty #[.slice (some ⟨b,o,none⟩) H0 Vj,.slice A m uc]).run P w=.ok (goInt m) (w.setRow b (laid cur.toList o cs).toArray):=by
 subst fE;have SC:Nat.min m H0=m:=qV (by omega);have ma:=run_storeCells_at P b o e cs 0 cur w hg (by simpa using AE) h1;simp only [zde] at ma;simp [Builtin.copy_,run_underlying ht,Builtin.lenOf,sizeOf,typeInfo,hi,SC,hf,ma,goInt,laid]
theorem CT {t ty e:TypeId} {inf:TypeInfo} {sz b n c m uc:Nat} {cur:Array Value} {A:Option Addr} {cs:List Value} (ht:P.underlying t=some (.slice e)) (hi:P.info? e=some inf) (fE:inf.size=sz)
  (hg:w.heap[b]?=some (.cells cur e (0,0))) (ue:n+m<=c) (hf:(Builtin.firstCells sz m (.slice A m uc)).run P w=.ok cs.toArray w) (h1:∀ v∈cs,v.oneCell'=true) (AE:n*sz+cs.length<=cur.size) :
  (Builtin.append_ #[t,t] ty #[.slice (some ⟨b,0,none⟩) n c,.slice A m uc]).run P w=.ok (.slice (some ⟨b,0,none⟩) (n+m) c) (w.setRow b (laid cur.toList (n*sz) cs).toArray):=by
 subst fE;have ma:=run_storeCells_at P b (n*inf.size) e cs 0 cur w hg (by simpa using AE) h1;simp only [zde] at ma;simp [Builtin.append_,run_underlying ht,sizeOf,typeInfo,hi,Builtin.lenOf,ue,hf,Addr.add_lit,ma,laid]
end srcs
theorem zV {cur cs:List Value} {o:Nat} (h:o+cs.length<=cur.length) {k:Nat} (hk:k<=o):(laid cur o cs).take k=cur.take k:=by
 apply zce;intro j;rw [zam,zam,xB h];by_cases h1:j<k
 ·rw [zab h1,zab h1,zaa (by omega)]
 ·rw [zaa h1,zaa h1]
theorem jq {cur cs:List Value} {o:Nat} (h:o+cs.length<=cur.length) {k:Nat} (hk:o+cs.length<=k):(laid cur o cs).take k=cur.take o++cs++(cur.take k).drop (o+cs.length):=by
 apply zce;intro j;rw [zam,xB h];by_cases h1:j<o
 ·rw [zab (by omega),zaa (by omega),zat,zan (by simp;omega),zam,zab h1]
 ·by_cases h2:j<o+cs.length
  ·rw [zab (by omega),zab ⟨by omega,h2⟩,zat,zav (by simp;omega),zan (by simp;omega)];congr 1;simp;omega
  ·rw [zav (by simp;omega),zbb,zam];have e:o+cs.length+(j-(cur.take o++cs).length)=j:=by simp;omega
   rw [e];by_cases h3:j<k
   ·rw [zab h3,zaa (by omega),zab h3]
   ·rw [zaa h3,zaa h3]
theorem uJ {z:Array Value} {n:Nat} (h:∀ k,k<z.size->(z[k]!).oneCell'=true):∀ v∈(Builtin.zeroCells z n).toList,v.oneCell'=true:=λv hv=>by
 simp only [Builtin.zeroCells,Array.toList_map,Array.toList_range,zdj,List.mem_range] at hv;obtain ⟨i,hi,rfl⟩:=hv;refine h _ (zed _ ?_);rcases zek z.size with h0|h0
 ·rw [h0] at hi;omega
 ·exact h0
section parts
variable {lim:Nat->Nat} {w:World} {sz n m:Nat} {rows bw:List (List D)} {xs ys:List Value}
theorem de.take (h:de lim w sz n rows xs) {k:Nat} (hk:k<=n):de lim w sz k (rows.take k) (xs.take (k*sz)):=by
 have hl:=h.len;refine ⟨by rw [zbe];omega,λr hr=>h.row r (zev hr),λi c u hc hu=>?_⟩
 rw [zam] at hu;split at hu
 ·refine h.rep i c u ?_ hu;rw [←zet k rows,zeg,zan (zad.1 hc).1];exact hc
 ·cases hu
theorem de.drop (h:de lim w sz n rows xs) {k:Nat} (hk:k<=n):de lim w sz (n-k) (rows.drop k) (xs.drop (k*sz)):=by
 have hl:=h.len;refine ⟨by rw [zbi];omega,λr hr=>h.row r (zcz hr),λi c u hc hu=>?_⟩
 rw [zbb] at hu;refine h.rep (k*sz+i) c u ?_ hu;have Dd:(rows.take k).flatten.length=k*sz:=by
  rw [iK (λr hr=>h.row r (zev hr)),zbe];congr 1;omega
 rw [←zet k rows,zeg,zav (by omega),Dd,show k*sz+i-k*sz=i from by omega];exact hc
theorem de.app (h:de lim w sz n rows xs) (hx:xs.length=n*sz) (h':de lim w sz m bw ys):de lim w sz (n+m) (rows++bw) (xs++ys):=by
 refine ⟨by rw [zai,h.len,h'.len],λr hr=>?_,λi c u hc hu=>?_⟩
 ·rcases zbm.1 hr with hr|hr
  ·exact h.row r hr
  ·exact h'.row r hr
 ·have Dd:rows.flatten.length=xs.length:=by rw [iK h.row,h.len,hx]
  rw [zeg] at hc;by_cases hi:i<xs.length
  ·rw [zan (by omega)] at hc;rw [zan hi] at hu;exact h.rep i c u hc hu
  ·rw [zav (by omega)] at hc;rw [zav (by omega)] at hu;rw [Dd] at hc;exact h'.rep _ c u hc hu
theorem de.Vl (h:de lim w sz n rows xs) (hx:xs.length=n*sz) (h':de lim w sz m bw ys) (hy:ys.length=m*sz) {i j:Nat} (M3:i<=j) (hj:j<=n) :
  de lim w sz (i+m+(n-j)) (rows.take i++bw++rows.drop j) (xs.take (i*sz)++ys++xs.drop (j*sz)):=by
 have hle:i*sz<=n*sz:=zcq _ (by omega);refine ((h.take (by omega)).app (by rw [zbe];omega) h').app (by rw [zai,zbe,hy,zda];omega) (h.drop hj)
theorem de.one (h:de lim w sz n rows xs) (hx:xs.length=n*sz):∀ x∈xs,x.oneCell'=true:=λx hm=>by
 obtain ⟨j,hj⟩:=zcy.1 hm;have hl:=(zad.1 hj).1;exact (h.rep j _ x (zae (by rw [iK h.row,h.len];omega)) hj).2
end parts
section con
variable {P:Program} {f:Ctx} {g:bT} {base:Nat} {w:World} {st:St}
theorem wq {tk n':Nat} {x:gD} {rows bw:List (List D)} (h:Inv g base w st) (eN:st.ar[tk]?=some x) (hx:x.own=some rows) {v':Value} {w':World} {TD:List Value} (j0:w'.ownsRow base x.e x.sz v' n' TD)
  (hc:(v'.ownBlock=(g.tk tk).ownBlock/\w'.heap.size=w.heap.size/\w.grownBy w' (g.tk tk).ownBlock)∨(v'.ownBlock=some w.heap.size/\Below w.heap.size w w')) (mb:de g.lim w x.sz n' bw TD) :
  nC ⟨g,w,st,base⟩ (QE (.vc st.ar.length n') (st.renew tk x ⟨x.e,x.sz,n',some bw⟩)) (.returned v') w':=by
 obtain ⟨g',h1,h2,h3⟩:=h.renew (x':=⟨x.e,x.sz,n',some bw⟩) eN hx rfl j0 hc mb;refine ⟨v',_,_,g',rfl,⟨.ak _,rfl⟩,?_,h2,(rm.refl ⟨g,w,st,base⟩).step h3⟩;have hf:=(iM j0).1;refine .vc _ _ _ (by simp [St.renew,St.tok,St.bC]) (by obtain ⟨A,c,hv⟩:=hf;exact ⟨_,_,_,hv⟩) λy J7 hy ho=>?_;rw [GX] at hy;cases hy;exact ⟨zap _,λ_=>.inl h1.symm⟩
theorem Qk {args:List EV} {a b c:EV} (he:args=[a,b,c]) {vs:Array Value} (h:ub g w st args vs):∃ x y z,vs=#[x,y,z]/\bJ g w st a x/\bJ g w st b y/\bJ g w st c z:=by
 subst he;obtain ⟨h1,h2⟩:=h;obtain ⟨l⟩:=vs
 match l,h1 with
 | [x,y,z],_=>exact ⟨x,y,z,rfl,h2 0 _ _ rfl rfl,h2 1 _ _ rfl rfl,h2 2 _ _ rfl rfl⟩
theorem Yq {args:List EV} {a b c d:EV} (he:args=[a,b,c,d]) {vs:Array Value} (h:ub g w st args vs):∃ x y z u,vs=#[x,y,z,u]/\bJ g w st a x/\bJ g w st b y/\bJ g w st c z/\bJ g w st d u:=by
 subst he;obtain ⟨h1,h2⟩:=h;obtain ⟨l⟩:=vs
 match l,h1 with
 | [x,y,z,u],_=>exact ⟨x,y,z,u,rfl,h2 0 _ _ rfl rfl,h2 1 _ _ rfl rfl,h2 2 _ _ rfl rfl,h2 3 _ _ rfl rfl⟩
end con
section nilc
variable {P:Program} {f:Ctx} {N:Nat} {S:Start} {Q:EV->St->Prop} {k:List Item} {env:Env} {st:St} {ops rest:List Oper}
 {d:Option Tmp} {ty:TypeId} {pos:String} {after:Array Edge} {gd:Option (Nat×Bool)} {t t2 e:TypeId} {x y:Operand}
theorem cd.J8 {sz:Nat} {rows:List (List D)} (ht:P.underlying t=some (.slice e)) (hx:cP env x=some (.d (.sl sz rows))) (hd:fV N d=true)
  (h:∀ b:Bool,(b=true->rows=[])->cd P f N S Q ops rest k (env.put d (.d (.ex (.bool b)))) st) :
  cd P f N S Q ops (⟨d,.binOp .eql t x (.const (.slice none 0 0)) t2,ty,pos,after,none⟩::rest) k env st:=by
 intro i hi g w tmps hinv hh he hn;have hr:=aM he hx;generalize hv:Act.eval ⟨tmps,[]⟩ x=v at hr;cases hr with
 | d _ _ hr =>
  obtain ⟨A,c,vs,rfl,_,_,FQ,_⟩:=PF hr;have ho:ops.toArray[i]?=some (⟨d,.binOp .eql t x (.const (.slice none 0 0)) t2,ty,pos,after,none⟩:Oper):=by simpa using (hi 0).symm
  have gY:(execOp (Act.eval ⟨tmps,[]⟩) (⟨d,.binOp .eql t x (.const (.slice none 0 0)) t2,ty,pos,after,none⟩:Oper)).run P w=.ok (.value (.bool A.isNone)) w:=by
   have h1:Act.eval ⟨tmps,[]⟩ (.const (.slice none 0 0))=.slice none 0 0:=rfl;simp [execOp,hv,h1,eqGuard,Lib.run_eql_slice_nil w t e A rows.length c 0 0 ht]
  rw [zag,iw];refine ep.value ho (by simp [Region.wanted]) gY ?_;subst hn;refine h A.isNone (λhb=>?_) (i+1) (λj=>by have:=hi (j+1);simpa [zch,zdd 1 j] using this) g w _ hinv hh (qk he hd (.d _ _ (.ex _))) ia;cases A with
  | none=>exact zba (FQ rfl).1
  | some a=>cases hb
theorem aN.Nf {f:FuncId} {args:List EV} {n sz:Nat} {e:TypeId} {rows:List (List D)} (h:aN P f args ⟨[],[]⟩ (QE (.vc 0 n) ⟨[],[⟨e,sz,n,some rows⟩]⟩)):aN P f args ⟨[],[]⟩ (QD (·=.sl sz rows)):=by
 intro g w base vs hi ha;refine (h g w base vs hi ha).mono ?_;rintro e1 w' ⟨v,r,st',g',rfl,⟨hle,rfl⟩,hr,hinv,hh⟩;have Vm:=hle _ _ _ _ hr;obtain ⟨g2,k1,k2,k3,k4⟩:=hinv.freeze (tk:=0) rfl;refine ⟨v,.d (.sl sz rows),_,g2,rfl,⟨_,.ak _,rfl⟩,.d _ _ ?_,k2,hh.step k3⟩;rcases sk hinv rfl Vm with hv|⟨h0,PK,A,hv⟩
 ·rw [hv];exact k4
 ·rw [hv,PK];exact .nil sz A
section view
variable {α:Type} [Inhabited α] {sz:Nat} {row:α->List D} {l a:List α} {inf:TypeInfo} {tk n lo m:Nat}
theorem Ql (ht:P.underlying t=some (.slice e)) (hx:cP env x=some (.vw tk n lo m)):aK P env st ⟨d,.call ⟨.builtin .len,#[x],#[t]⟩,ty,pos,after,gd⟩ (.d (cI (m:Int))):=λg base w tmps hinv he=>by
 have h:=aM he hx;generalize hv:Act.eval ⟨tmps,[]⟩ x=v at h;cases h with
 | vw _ _ _ _ _ _ hf =>
  obtain ⟨A,c,rfl⟩:=hf;exact ⟨_,.d _ _ (.ex _),λw' _=>DB ht hv w'⟩
theorem H3 {kk:IntKind} {i:Int} {e':Nat} (ht:P.underlying t=some (.slice e)) (hi:P.info? e=some inf) (fE:inf.size=sz) (hx:cP env x=some (.vw tk n lo m)) (eN:st.ar[tk]?=some ⟨e',sz,n,some (l.map row)⟩) (hy:cP env y=some (.d (.ex (.int kk i)))) (h:0<=i/\i<(m:Int)) :
  aK P env st ⟨d,.indexAddr t x y,ty,pos,after,gd⟩ (.vp tk n (lo+i.toNat) 0):=λg base w tmps hinv he=>by
 have hr:=aM he hx;generalize hv:Act.eval ⟨tmps,[]⟩ x=v at hr;cases hr with
 | vw _ _ _ _ _ cE hf hh =>
  obtain ⟨_,h2⟩:=hh _ _ eN rfl;rcases h2 rfl with h0|⟨b,M,c,c',q1,q2⟩
  ·omega
  ·subst fE;refine ⟨.pointer (some ⟨b,lo*inf.size+i.toNat*inf.size,none⟩),.vp _ _ _ _ _ cE ⟨_,_,rfl⟩ λz rows hz ho=>?_,λw' _=>?_⟩
   ·rw [eN] at hz;cases hz;refine ⟨zap _,λ_=>⟨b,M,c,q1,?_⟩⟩;rw [zda,zde]
   ·rw [q2] at hv;have:=BL (d:=d) (ty:=ty) (pos:=pos) (after:=after) (gd:=gd) ht hi hv (aM he hy).bK h.1 h.2 w';rw [Addr.add_lit] at this;exact this
theorem AU (hw:(l.drop lo).take a.length=a) {i:Nat} (hi:i<a.length):lo+i<l.length/\nth l (lo+i)=nth a i:=by
 have h1:a[i]?=l[lo+i]?:=by
  have:=zbn (λz=>z[i]?) hw;simp only [zam,zbb,zab hi] at this;exact this.symm
 have h2:a[i]?=some a[i]:=zae hi;rw [h2] at h1;have h3:=(zad.1 h1.symm).1;exact ⟨h3,by simp [nth,←h1,h2]⟩
theorem OJ {i o e':Nat} {c:D} (hw:(l.drop lo).take a.length=a) (h1:(P.underlying t).map kT=some true) (hx:cP env x=some (.vp tk n (lo+i) o)) (eN:st.ar[tk]?=some ⟨e',sz,n,some (l.map row)⟩) (hi:i<a.length) (hc:(row (nth a i))[o]?=some c) :
  aK P env st ⟨d,.load t x,ty,pos,after,gd⟩ (.d c):=xw h1 hx eN (AU hw hi).1 (by rw [(AU hw hi).2];exact hc)
theorem zW {i o e' m:Nat} {cs:List D} (hw:(l.drop lo).take a.length=a) (h1:(P.underlying t).map kT=some false) (hs:(P.info? t).map (·.size)=some m) (hx:cP env x=some (.vp tk n (lo+i) o)) (eN:st.ar[tk]?=some ⟨e',sz,n,some (l.map row)⟩) (hi:i<a.length)
  (hm:o+m<=sz) (hc:((row (nth a i)).drop o).take m=cs):aK P env st ⟨d,.load t x,ty,pos,after,gd⟩ (.d (.agg cs)):=lL h1 hs hx eN (AU hw hi).1 hm (by rw [(AU hw hi).2];exact hc)
theorem L7 {z:Operand} {kl kh:IntKind} {i j:Int} {e':Nat} (ht:P.underlying t=some (.slice e)) (hi:P.info? e=some inf) (fE:inf.size=sz) (hx:cP env x=some (.vc tk n)) (eN:st.ar[tk]?=some ⟨e',sz,n,some (l.map row)⟩) (hy:cP env y=some (.d (.ex (.int kl i)))) (hz:cP env z=some (.d (.ex (.int kh j))))
  (h:0<=i/\i<=j/\j<=(l.length:Int)):aK P env st ⟨d,.slice t x (some y) (some z) none,ty,pos,after,gd⟩ (.vw tk n i.toNat ((l.take j.toNat).drop i.toNat).length):=λg base w tmps hinv he=>by
 have hm:((l.take j.toNat).drop i.toNat).length=j.toNat-i.toNat:=by rw [zbi,zbe];omega
 rw [hm];have cE:tk<st.ar.length:=(zad.1 eN).1;have hr:=aM he hx;generalize MY:Act.eval ⟨tmps,[]⟩ x=v' at hr;have gY:∀ A n' c,v'=.slice A n' c->(l.length:Int)<=c->∀ w':World,(execOp (Act.eval ⟨tmps,[]⟩) ⟨d,.slice t x (some y) (some z) none,ty,pos,after,gd⟩).run P w'=.ok (.value (sliced A i.toNat j.toNat c sz)) w':=λA n' c hv hc w'=>by
  rw [hv] at MY;simp only [execOp,MY,Sem.run_bind,run_sliceAt_slice w' t _ _ _ _ (by rw [ud ht];exact ht),Option.map_none,Option.map_some,(aM he hy).bK,(aM he hz).bK];rw [run_slice_lh w' t A n' c (by rw [ud ht];exact ht) kl kh i j h.1 h.2.1 (by omega)];simp [ud ht,pf hi,fE]
 rcases sk hinv eN hr with GD|⟨n0,r0,A,hA⟩
 ·obtain ⟨GD,xs,h2,_,h4⟩:=HP hinv eN GD;have hn:n=l.length:=by have:=h4.len;simpa using this.symm
  rcases h2.2 with ⟨hv,h0⟩|⟨b,c,cur,hv,Ay,hg,D3,yG,yh,CH⟩
  ·refine ⟨_,.vw _ _ _ _ _ cE ⟨_,_,rfl⟩ λq rows hq ho=>?_,λw' _=>gY _ _ _ hv (by omega) w'⟩;rw [eN] at hq;cases hq;exact ⟨zap _,λ_=>.inl (by omega)⟩
  ·refine ⟨_,.vw _ _ _ _ _ cE ⟨_,_,rfl⟩ λq rows hq ho=>?_,λw' _=>gY _ _ _ hv (by omega) w'⟩;rw [eN] at hq;cases hq;refine ⟨zap _,λ_=>?_⟩;rcases zek (j.toNat-i.toNat) with h0|h0
   ·exact .inl h0
   ·refine .inr ⟨b,n,c,c-i.toNat,by rw [←GD,hv],?_⟩;have qc:¬ (c=i.toNat):=by omega
    simp [qc,Addr.add_lit]
 ·have hl:l=[]:=by simpa using r0
  rw [hl] at h;simp at h;refine ⟨_,.vw _ _ _ _ _ cE ⟨_,_,rfl⟩ λq rows hq ho=>?_,λw' _=>gY _ _ _ hA (by rw [hl];simp) w'⟩;rw [eN] at hq;cases hq;exact ⟨zap _,λ_=>.inl (by omega)⟩
theorem Ng {i j:Nat} (hj:j<=l.length):(l.drop i).take ((l.take j).drop i).length=(l.take j).drop i:=by
 rw [List.drop_take,zbe,zbi];rcases zfp i j with h|h
 ·rw [show min (j-i) (l.length-i)=j-i from by omega]
 ·rw [show j-i=0 from by omega];simp
end view
end nilc
section build
variable {P:Program} {env:Env} {st:St} {d:Option Tmp} {ty:TypeId} {pos:String} {after:Array Edge} {gd:Option (Nat×Bool)} {t t2 e:TypeId} {x y:Operand}
theorem zo {α:Type} {base n sz:Nat} {l0:List α} {row:α->List D} {inf:TypeInfo} {z:Value} {zs:List D} {l:List (Nat×Operand)} (ht:P.underlying t=some (.slice e)) (hi:P.info? e=some inf) (fE:inf.size=sz) (hz:inf.zero=some z) (qf:Nat.beq z.cells.size sz=true)
  (xo:(Nat.ble (n*sz) 16777216 && Nat.blt 0 n && Nat.blt 0 sz)=true) (MZ:cellsD (.d (cv z))=some zs) (hl:De (λi=>some (i*sz,sz)) env (List.replicate n zs).flatten l=some (l0.map row).flatten)
  (hr:((l0.map row).all (λr=>Nat.beq r.length sz) && Nat.beq (l0.map row).length n)=true) :
  xl P base env st ⟨d,.buildSlice t n l.toArray,ty,pos,after,gd⟩ (.vc st.ar.length l0.length) (st.tok ⟨e,sz,l0.length,some (l0.map row)⟩):=by
 simp only [zas] at xo hr;have FV:=zau qf;have hn:=zau hr.2;have Ln:=iL xo.1.2;have Lo:=iL xo.2;have hbg:=zaf xo.1.1;intro g w tmps hinv he;have zN:=lj (g:=g) (w:=w) (st:=st) MZ (.d _ _ (qj _ _ z));have Pp:zs.length=sz:=by rw [←zN.1,FV]
 have CJ:(List.replicate n zs).flatten.length=n*sz:=by simp [Pp]
 have jv:∀ r∈l0.map row,r.length=sz:=by
  intro r hm;have:=hr.1;rw [zbd] at this;exact zau (this r hm)
 have r3:D6 g.lim w (List.replicate n zs).flatten ((Array.range (n*sz)).map (z.cells[· % z.cells.size]!)):=by
  refine ⟨by simp [CJ],λi c u hc hu=>?_⟩;have nL:i<n*sz:=by rw [←CJ];exact (zad.1 hc).1
  have xp:i % sz<sz:=zed _ Lo;have hdiv:i / sz<n:=zdp (by rw [zdi];exact nL);have LD:i=i / sz*sz+i % sz:=by rw [zdi];exact (zel i sz).symm
  have hf:=kc (rows:=List.replicate n zs) (sz:=sz) (i:=i / sz) (j:=i % sz) (row:=zs) (c:=zs[i % sz]'(by omega)) (by intro row hm;rw [List.eq_of_mem_replicate hm];exact Pp) (by simp [List.getElem?_replicate,hdiv]) (zae (by omega));rw [←LD,hc] at hf;have UB:zs[i % sz]?=some c:=by cases hf;exact zae (by omega)
  have XZ:z.cells[i % sz]?=some u:=by
   have kU:i % sz<z.cells.size:=by omega
   have:((Array.range (n*sz)).map (z.cells[· % z.cells.size]!))[i]?=some (z.cells[i % z.cells.size]!):=by simp [nL]
   rw [this] at hu;cases hu;rw [FV,zdv z.cells (i % sz) kU,zbg kU]
  exact zN.2 _ c u UB XZ
 obtain ⟨us,h1,h2,h3⟩:=s9 he l _ _ _ hl r3;have Dd:=iK jv;have Po:us.size=n*sz:=by rw [h2.1,Dd,hn]
 have hnm:n<=maxLen:=by
  have:n*1<=n*sz:=Nat.mul_le_mul_left n Lo;simp only [maxLen];omega
 have j4:(w.alloc (.cells us e)).ownsRow base e sz (.slice (some ⟨w.heap.size,0,none⟩) n n) n us.toList :=
  ⟨by simp [Po],.inr ⟨w.heap.size,n,us,rfl,hinv.base,heap_alloc_new w _,zap _,hnm,Po,by rw [zbw (by simp [Po])]⟩⟩
 obtain ⟨g',k1,_,_,k2,k3⟩:=hinv.sB ⟨e,sz,n,some (l0.map row)⟩ j4 (.inr ⟨rfl,(Below.refl _ w).alloc (zap _) _⟩) (λrows hh=>by
  cases hh;exact ⟨hn,jv,λi c u hc hu=>h2.2 i c u hc (by simpa using hu)⟩)
 have Vn:l0.length=n:=by simpa using hn
 rw [Vn];refine ⟨.slice (some ⟨w.heap.size,0,none⟩) n n,g',_,?_,.vc _ _ _ (by simp [St.tok]) ⟨_,_,_,rfl⟩ λy rows hy ho=>?_,k2,k3⟩
 ·subst fE;have GF:¬ (16777216<n*inf.size):=by omega
  have o9:¬ n*inf.size=0:=by
   intro h0;rcases Nat.mul_eq_zero.1 h0 with h|h <;> omega
  have FO:Instr.fill (λi=>some (i*inf.size,inf.size)) (Array.map (λx=>z.cells[x % z.cells.size]!) (Array.range (n*inf.size))) (List.map (λp=>(p.1,Act.eval ⟨tmps,[]⟩ p.2)) l)=some us:=h1;simp [execOp,Instr.buildSlice,run_underlying ht,pf hi,GF,o9,ta hi hz,FO,newRow]
 ·have:y=⟨e,sz,n,some (l0.map row)⟩:=by simpa [St.tok,zeq] using hy
  subst this;exact ⟨zap _,λ_=>.inl k1.symm⟩
end build
section move
variable {P:Program} {f:Ctx} {N:Nat} {S:Start} {Q:EV->St->Prop} {k todo:List Item} {env:Env} {st:St}
theorem bq.move {i tk e sz n:Nat} {rows:List (List D)} (hl:lookup i env=some (.vc tk n)) (eN:st.ar[tk]?=some ⟨e,sz,n,some rows⟩)
  (h:bq P f N S Q todo ((i,.vc st.ar.length n)::env) (st.renew tk ⟨e,sz,n,some rows⟩ ⟨e,sz,n,some rows⟩)):bq P f N S Q todo env st:=by
 intro g w tmps hinv hh he hN;obtain ⟨xs,o1,o2,o3⟩:=hinv.own tk e sz n rows eN;obtain ⟨g',k1,k2,k3⟩:=hinv.renew (x':=⟨e,sz,n,some rows⟩) eN rfl rfl o1 (.inl ⟨rfl,rfl,⟨rfl,rfl,rfl,zap _,λ_ _ _=>rfl⟩⟩) o3;refine h g' w tmps k2 (hh.step k3) (λj y hy=>?_) hN;unfold lookup at hy;have Aw:=he.mono k3.dy;cases hb:Nat.beq j i with
 | true =>
  rw [hb] at hy;cases hy;have:=zau hb;subst this;obtain ⟨v,m1,m2⟩:=he j _ hl;refine ⟨v,m1,?_⟩;have hf:∃ A m c,v=.slice A m c:=by cases m2 with|vc _ _ _ _ hf _=>exact hf
  refine .vc _ _ _ (by simp [St.renew,St.tok,St.bC]) hf λy J7 hy ho=>?_
  rw [GX] at hy;cases hy;refine ⟨zap _,λ_=>?_⟩;rcases sk hinv eN m2 with hv|⟨n0,r0,A,hv⟩
  ·exact .inl (by rw [k1];exact hv)
  ·exact .inr ⟨n0,A,hv⟩
 | false =>
  rw [hb] at hy;exact Aw j y hy
def L8 (ρ τ:Nat->Nat) (env:Env):Env:=env.map λp=>(p.1,p.2.ren ρ τ)
theorem Eu {ρ τ:Nat->Nat}:∀ (env:Env) (i:Nat) (y:EV),lookup i env=some y->lookup i (L8 ρ τ env)=some (y.ren ρ τ)
 | [],i,y,h=>by simp [lookup] at h
 | (j,x)::env,i,y,h=>by
  unfold lookup at h;unfold L8;rw [zao];unfold lookup;cases hb:Nat.beq i j with
  | true=>rw [hb] at h;cases h;rfl
  | false =>
   rw [hb] at h;exact Eu env i y h
theorem bq.Nh (rs ts:List Nat) {s0 st':St} {env':Env} (hS:S.st=s0) (hp:zm rs ts st' st=true) (h5:st'.aP.all (kf st'.aP.length st'.ar.length)=true) (xt:CL st'.aP.length st'.ar.length env'=true)
  (hl:(Nat.ble s0.aP.length rs.length && Nat.ble s0.ar.length ts.length)=true) (PK:rs.take s0.aP.length=List.range s0.aP.length) (Sj:ts.take s0.ar.length=List.range s0.ar.length)
  (ho:rs.map (λr=>st.aP[r]?)=st'.aP.map (λy=>some (y.ren (cW rs st.aP.length) (cW ts st.ar.length)))) (ht:ts.map (λr=>st.ar[r]?)=st'.ar.map some)
  (hE:cZ env (L8 (cW rs st.aP.length) (cW ts st.ar.length) env')) (h:bq P f N S Q todo env' st'):bq P f N S Q todo env st:=by
 obtain ⟨p,Xl,Lp,l1,l2⟩:=Part.of hp h5 ho ht;subst hS;simp only [zas] at hl;have yJ:=zaf hl.1;have zl:=zaf hl.2;have same:∀ {l:List Nat} {n N:Nat},l.take n=List.range n->n<=l.length->∀ i,i<n->cW l N i=i:=fun {l n N} hl hn i hi=>by
  have e:(l.take n)[i]?=some i:=by rw [hl,List.getElem?_range hi]
  rw [zam,zab hi] at e;simp [cW,e]
 have so:=λi hi=>same (N:=st.aP.length) PK yJ i hi
 have M6:=λi hi=>same (N:=st.ar.length) Sj zl i hi
 have CM:∀ {i:Nat},i<st'.ar.length->st'.ar[i]?=st.ar[cW ts st.ar.length i]?:=fun {i} hi=>by
  rw [p.ar i _ (zae hi),zae hi]
 intro g w tmps hinv hh he hN;refine h (g.sub _ _) w tmps (hinv.part p) ⟨⟨hh.dy.cP,λo na=>?_,(by show S.st.aP.length<=_;omega),λt e sz n hx=>?_,(by show S.st.ar.length<=_;omega),λt x' bw cE jK na=>?_⟩,hh.below,hh.lim,hh.frame,λb hb hw=>hh.fresh b hb (p.owned hw)⟩ (λi y hy=>?_) hN
 ·show g.ob (cW rs st.aP.length o)=S.g.ob o;rw [so o na];exact hh.dy.ob o na
 ·have cE:t<S.st.ar.length:=(zad.1 hx).1;obtain ⟨n',a1,a2,a3⟩:=hh.dy.ar t e sz n hx;refine ⟨n',?_,a2,λe'=>?_⟩
  ·rw [CM (by omega),M6 t cE];exact a1
  ·show g.tk (cW ts st.ar.length t)=S.g.tk t;rw [M6 t cE];exact a3 e'
 ·rw [CM (by have:=(zad.1 jK).1;exact this),M6 t cE] at jK;obtain ⟨y,rows,a1,a2,a3,a4,a5⟩:=hh.dy.own t x' bw cE jK na;refine ⟨y,rows,a1,a2,a3,a4,λe'=>?_⟩;show g.tk (cW ts st.ar.length t)=S.g.tk t;rw [M6 t cE];exact a5 e'
 ·obtain ⟨v,m1,m2⟩:=(he.sub hE) i _ (Eu env' i y hy);exact ⟨v,m1,m2.down p.ar (BU xt hy)⟩
theorem TM.fa {f':FuncId} {base:Nat} {l:List Operand} {ts:Array TypeId} {P4 es:List EV} {x r:EV} {s0 s1 st':St} {d:Option Tmp} {ty:TypeId} {pos:String} {after:Array Edge} (Da:Enters P f') (rs tk:List Nat)
  (h1:BM env l=some es) (hc:aN P f' P4 s0 (QE r s1)) (hle:wg es (P4.map (EV.ren (cW rs st.aP.length) (cW tk st.ar.length))))
  (hp:(zm rs tk s0 st && P4.all (ph s0.aP.length s0.ar.length))=true) (h5:s0.aP.all (kf s0.aP.length s0.ar.length)=true)
  (ho:rs.map (λr=>st.aP[r]?)=s0.aP.map (λx=>some (x.ren (cW rs st.aP.length) (cW tk st.ar.length)))) (ht:tk.map (λr=>st.ar[r]?)=s0.ar.map some)
  (hx:r.ren (cW rs st.aP.length) (cW tk st.ar.length)=x) (hs:ca st s1 rs tk=st') :
  TM P base env st ⟨d,.call ⟨.value (.func f'),l.toArray,ts⟩,ty,pos,after,none⟩ x st':=by
 simp only [zas] at hp;have rX:=(hc.frame rs tk hp.1 h5 hp.2 ho ht).le hle;intro g w tmps hinv he;obtain ⟨k1,k2⟩:=u6 he l es h1;refine ⟨f',_,BO Da w rfl,(rX g w base _ hinv ⟨by simp [k1],λj x v hx hv=>k2 j x v hx (by simpa using hv)⟩).mono ?_⟩;rintro e w' ⟨v,r',st2,g',rfl,⟨Vo,rfl⟩,hr,dR,LA⟩;rw [hx] at Vo;rw [hs] at dR hr LA;exact ⟨v,g',rfl,Vo _ _ _ _ hr,dR,LA.toStep⟩
end move
section ld
variable {P:Program} {env:Env} {st:St} {d:Option Tmp} {ty:TypeId} {pos:String} {after:Array Edge} {gd:Option (Nat×Bool)} {t:TypeId} {x:Operand}
theorem Ev {o off n:Nat} {T:TypeId} {cs ds:List EV} (h1:(P.underlying t).map kT=some false) (hs:(P.info? t).map (·.size)=some n) (hx:cP env x=some (.ref o off)) (ho:st.aP[o]?=some (.row T cs))
  (hn:off+n<=cs.length) (ZM:(cs.drop off).take n=ds):aK P env st ⟨d,.load t x,ty,pos,after,gd⟩ (.agg ds):=λg base w tmps hinv he=>by
 subst ZM;have h:=aM he hx;generalize hv:Act.eval ⟨tmps,[]⟩ x=v at h;cases h with
 | ref _ _ cE =>
  obtain ⟨_,_,vs,hb,fE,zh⟩:=hinv.row o T cs ho;obtain ⟨hl,Db⟩:=Jz (g:=g) (w:=w) (n:=n) (off:=off) hb fE hn;refine ⟨.agg ((vs.toList.drop off).take n).toArray,.agg _ _ ?_ ?_ ?_,λw' ka=>?_⟩
  ·simp at hl ⊢;omega
  ·intro i u hu;have u0:=Db i u (by simpa using hu);have kU:off+i<cs.length:=by rw [←fE];exact (zaw.1 u0.2).1
   exact (zh (off+i) cs[off+i] u (zae kU) u0.2).2
  ·intro i c u qc hu;have u0:=Db i u (by simpa using hu);rw [zam] at qc;split at qc
   ·rw [zbb] at qc;exact (zh (off+i) _ u qc u0.2).1
   ·cases qc
  ·obtain ⟨inf,lh,Hy⟩:∃ inf,P.info? t=some inf/\inf.size=n:=by
    cases hh:P.info? t with
    | none=>rw [hh] at hs;cases hs
    | some inf=>rw [hh] at hs;exact ⟨inf,rfl,by simpa using hs⟩
   have D1:=qS (P:=P) (w:=w') (b:=g.ob o) (off:=off) hl (λj u hu=>by
    have h3:=(Db j u hu).1;exact (ka.cell (World.block_lt_of_cell? w _ h3)).trans h3)
   simp [execOp,hv,Instr.loadAt,Instr.sureAddr,loadVar,yg h1,sizeOf,typeInfo,lh,Hy,D1]
end ld
theorem zp {P:Program} {ops:Array Oper} {o:Oper} {a:Act} {w:World} {K:Act->World->Prop} {Q:Exit->Act->World->Prop} {E:Prop}
  (hg:o.guard=none) (d x:Operand) (t:TypeId) (vd:o.op=Op.call { callee:=Callee.builtin Builtin.append,args:=#[d,x],argTypes:=#[t,t] })
  (v u:Value) (hd:a.eval d=v) (hx:a.eval x=u) {v':Value} {w':World} (hr:(Builtin.append_ #[t,t] o.type #[v,u]).run P w=.ok v' w') (hK:K (a.put o.dst v') w') :
  if Region.wanted o (yielded ops a.tmps)=true then Oper.wp P o a w K Q else E:=by
 rw [zab (by simp [Region.wanted,hg])];unfold Oper.wp execOp;simp only [vd,resolve,invoke,builtin,Sem.run_bind,Sem.run_pure,Result.andThen_ok,zee,zao,zbf,hd,hx,hr];exact hK
def J9:List EV->List EV->Prop
 | [],[]=>True
 | x::xs,y::ys=>dX x y/\J9 xs ys
 | _,_=>False
theorem J9.get:∀ {xs ys:List EV},J9 xs ys->xs.length=ys.length/\∀ (i:Nat) y,ys[i]?=some y->∃ x,xs[i]?=some x/\dX x y
 | [],[],_=>⟨rfl,λi y h=>by simp at h⟩
 | x::xs,y::ys,h=>by
  obtain ⟨h1,h2⟩:=J9.get h.2;refine ⟨by simp [h1],λi z hz=>?_⟩;cases i with
  | zero=>simp at hz;subst hz;exact ⟨x,rfl,h.1⟩
  | succ i=>simpa using h2 i z (by simpa using hz)
 | [],_::_,h=>h.elim
 | _::_,[],h=>h.elim
theorem dX.Yr {xs ys:List EV} (h:J9 xs ys):dX (.agg xs) (.agg ys):=by
 intro g w st v hv;obtain ⟨h1,h2⟩:=h.get;cases hv with
 | agg _ vs hs Df hc =>
  refine .agg _ vs (by rw [hs,h1]) Df λi y u hy hu=>?_
  obtain ⟨x,hx,hle⟩:=h2 i y hy;exact hle _ _ _ _ (hc i x u hx hu)
section gm
variable {κ α:Type} [BEq κ] [LawfulBEq κ]
def oQ (sz:Nat) (row:α->List D):Nat->List (κ×List α)->List (κ×EV)
 | _,[]=>[]
 | t,p::l=>(p.1,.cz sz (p.2.map row) t)::oQ sz row (t+1) l
def ln (e:TypeId) (sz:Nat) (l:List (κ×List α)):List gD:=l.map λp=>⟨e,sz,p.2.length,none⟩
def Ys (sz:Nat) (row:α->List D) (t:Nat) (l:List (κ×List α)) (k:κ):EV :=
 match dU l k with
 | some j=>.cz sz (((aB l k).getD []).map row) (t+j)
 | none=>.d aY
theorem Ka (sz:Nat) (row:α->List D):∀ (t:Nat) (l:List (κ×List α)),(oQ sz row t l).length=l.length
 | _,[]=>rfl
 | t,p::l=>by simp [oQ,Ka sz row (t+1) l]
theorem AV (sz:Nat) (row:α->List D):∀ (t:Nat) (l:List (κ×List α)) (i:Nat),(oQ sz row t l)[i]?=(l[i]?).map λp=>(p.1,.cz sz (p.2.map row) (t+i))
 | _,[],i=>by simp [oQ]
 | t,p::l,0=>by simp [oQ]
 | t,p::l,i+1=>by
  have:=AV sz row (t+1) l i;simp only [oQ,List.getElem?_cons_succ,this];rw [show t+1+i=t+(i+1) from by omega]
theorem zX (sz:Nat) (row:α->List D) (k:κ):∀ (t:Nat) (l:List (κ×List α)),dU (oQ sz row t l) k=dU l k
 | _,[]=>rfl
 | t,p::l=>by
  have:=zX sz row k (t+1) l;unfold dU at this ⊢;rw [oQ,List.findIdx?_cons,List.findIdx?_cons,this]
theorem L9 (sz:Nat) (row:α->List D) (t:Nat) (l:List (κ×List α)) (k:κ):aB (oQ sz row t l) k=match dU l k with
  | some j=>some (.cz sz (((aB l k).getD []).map row) (t+j))
  | none=>none:=by
 rw [mg,zX,mg l k];cases h:dU l k with
 | none=>rfl
 | some j =>
  have hj:=xu h;simp only [zac,AV,zae hj,Option.map_some,zcv]
theorem GZ (sz:Nat) (row:α->List D) (q:κ×List α):∀ (t:Nat) (l:List (κ×List α)),oQ sz row t (l++[q])=oQ sz row t l++[(q.1,.cz sz (q.2.map row) (t+l.length))]
 | t,[]=>by simp [oQ]
 | t,p::l=>by
  simp only [List.cons_append,oQ,GZ sz row q (t+1) l,zag];rw [show t+1+l.length=t+(l.length+1) from by omega]
theorem Kb (sz:Nat) (row:α->List D) (q:κ×List α):∀ (t:Nat) (l:List (κ×List α)) (j:Nat),oQ sz row t (l.set j q)=(oQ sz row t l).set j (q.1,.cz sz (q.2.map row) (t+j))
 | t,[],j=>by simp [oQ]
 | t,p::l,0=>by simp [oQ]
 | t,p::l,j+1=>by
  simp only [List.set_cons_succ,oQ,Kb sz row q (t+1) l j];rw [show t+1+j=t+(j+1) from by omega]
theorem OK (sz:Nat) (row:α->List D) (t:Nat) (l:List (κ×List α)) (k:κ) (v:List α):da (oQ sz row t l) k (.cz sz (v.map row) (t+(dU l k).getD l.length))=oQ sz row t (da l k v):=by
 unfold da;rw [zX];cases h:dU l k with
 | none=>simp only [Option.getD_none,GZ]
 | some j=>simp only [zcv,Kb]
theorem Kc (e:TypeId) (sz:Nat) (l:List (κ×List α)) (k:κ) (v:List α):ln e sz (da l k v)=match dU l k with
  | some j=>(ln e sz l).set j ⟨e,sz,v.length,none⟩
  | none=>ln e sz l++[⟨e,sz,v.length,none⟩]:=by
 unfold da;cases h:dU l k with
 | none=>simp [ln]
 | some j=>simp [ln,List.map_set]
theorem Ew (e:TypeId) (sz:Nat) (l:List (κ×List α)):(ln e sz l).length=l.length:=by simp [ln]
end gm
section rules
variable {P:Program} {base:Nat} {env:Env} {st:St} {d:Option Tmp} {ty:TypeId} {pos:String} {after:Array Edge} {gd:Option (Nat×Bool)} {t e key:TypeId} {x y z:Operand}
 {κ α:Type} [BEq κ] [LawfulBEq κ] {sz t0:Nat} {row:α->List D}
theorem OL (K:vh P key κ) {o:Nat} {l:List (κ×List α)} {k:κ} {dk:D} {inf:TypeInfo} {zv:Value} (ht:P.underlying t=some (.map key e)) (hi:P.info? e=some inf) (hz:inf.zero=some zv) (Xn:cv zv=aY)
  (hx:cP env x=some (.mp o)) (ho:st.aP[o]?=some (.map (lA K.ke (oQ sz row t0 l)))) (hy:cP env y=some (.d dk)) (hk:∀ lim w v,dw lim w dk v->v=K.ke k) :
  aK P env st ⟨d,.lookup t x y false,ty,pos,after,gd⟩ (Ys sz row t0 l k):=by
 intro g base w tmps hinv he;obtain ⟨v,h1,h2⟩:=xy (c:=false) (d:=d) (ty:=ty) (pos:=pos) (after:=after) (gd:=gd) K ht hi hz hx ho hy hk hinv he;refine ⟨v,?_,λw' hb=>by simpa using h2 w' hb⟩;rw [L9] at h1;unfold Ys;cases h:dU l k with
 | none =>
  rw [h] at h1;simp only at h1 ⊢;subst h1;exact .d _ _ (Xn▸qj g.lim w v)
 | some j=>rw [h] at h1;exact h1
theorem OM {l:List (κ×List α)} {k:κ} {l':List α} {T:List gD} {inf:TypeInfo} {zv:Value} {w:EV} (ht:P.underlying t=some (.slice e)) (hi:P.info? e=some inf) (hz:inf.zero=some zv) (ey:inf.size=sz) (qf:zv.cells.size=sz) (hb:inf.bytes<=100000)
  (hx:cP env x=some (Ys sz row t0 l k)) (hT:st.ar=T++ln e sz l) (h0:T.length=t0) (hy:cP env y=some w) (hs:uD w=some (sz,l'.map row)) (hn:((aB l k).getD []).length+l'.length<=1000000000) :
  xl P base env st ⟨d,.call ⟨.builtin .append,#[x,y],#[t,t]⟩,ty,pos,after,gd⟩ (.cz sz ((((aB l k).getD [])++l').map row) (t0+(dU l k).getD l.length)) ⟨st.aP,T++ln e sz (da l k (((aB l k).getD [])++l'))⟩:=by
 rw [Kc];unfold Ys at hx;cases h:dU l k with
 | none =>
  rw [h] at hx;have hl:aB l k=none:=by rw [mg,h];rfl
  rw [hl] at hn ⊢;simp only [Option.getD_none,zbx] at hn ⊢;have:=wc (base:=base) (st:=st) (d:=d) (ty:=ty) (pos:=pos) (after:=after) (gd:=gd) (row:=row) ht hi hz ey qf hb hx hy hs (by simpa using hn);have e1:st.ar.length=t0+l.length:=by rw [hT,zai,Ew,h0]
  have e2:(st.tok ⟨e,sz,0,none⟩).bC st.ar.length ⟨e,sz,l'.length,none⟩=⟨st.aP,T++(ln e sz l++[⟨e,sz,l'.length,none⟩])⟩:=by
   rw [←zat,←hT];simp [St.tok,St.bC]
  rw [e2,e1] at this;exact this
 | some j =>
  rw [h] at hx;have hj:=xu h;have hl:aB l k=some l[j].2:=by rw [mg,h];simp [zae hj]
  rw [hl] at hx hn ⊢;simp only [zcv] at hx hn ⊢;have:=yk (base:=base) (st:=st) (d:=d) (ty:=ty) (pos:=pos) (after:=after) (gd:=gd) (row:=row) (l:=l[j].2) ht hi hz ey qf hb hx (by
   rw [hT,zav (by omega),h0,zfc];simp [ln,zae hj]) hy hs hn
  have e2:st.bC (t0+j) ⟨e,sz,(l[j].2++l').length,none⟩=⟨st.aP,T++(ln e sz l).set j ⟨e,sz,(l[j].2++l').length,none⟩⟩:=by
   unfold St.bC;rw [hT,List.set_append_right _ _ (by omega),h0,zfc]
  rw [e2] at this;exact this
theorem H4 (K:vh P key κ) {o:Nat} {l:List (κ×List α)} {k:κ} {dk:D} {v:List α} (ht:P.underlying t=some (.map key e)) (hx:cP env x=some (.mp o)) (ho:st.aP[o]?=some (.map (lA K.ke (oQ sz row t0 l))))
  (hy:cP env y=some (.d dk)) (hk:∀ lim w v,dw lim w dk v->v=K.ke k) (hz:cP env z=some (.cz sz (v.map row) (t0+(dU l k).getD l.length))) :
  Hv P base env st ⟨d,.mapUpdate t x y z,ty,pos,after,gd⟩ (st.set o (.map (lA K.ke (oQ sz row t0 (da l k v))))):=by
 have:=HS (base:=base) (d:=d) (ty:=ty) (pos:=pos) (after:=after) (gd:=gd) K ht hx ho hy hk hz;rw [OK] at this;exact this
theorem okG {n:Nat} {T:List gD} {ke:κ->Value} {l:List (κ×List α)} (h0:T.length=t0):kf n (T++ln e sz l).length (.map (lA ke (oQ sz row t0 l)))=true:=by
 unfold kf lA;rw [zbd];intro p hp;obtain ⟨q,hq,rfl⟩:=zdj.1 hp;obtain ⟨i,hi⟩:=zcy.1 hq;rw [AV] at hi;cases hl:l[i]? with
 | none=>rw [hl] at hi;cases hi
 | some r =>
  rw [hl] at hi;cases hi;have:=(zad.1 hl).1;simp only [ph,Nat.blt_eq,zai,Ew,h0];omega
end rules
section run
variable {P:Program} {f:Ctx} {N:Nat} {S:Start} {Q:EV->St->Prop} {todo:List Item} {env env':Env} {st st':St} {κ α:Type} [BEq κ] [LawfulBEq κ]
theorem SD {w:World} {b:Nat} {o:Obj} (h:w.heap[b]?=some o):({ w with heap:=w.heap.setIfInBounds b o }:World)=w:=by
 have:w.heap.setIfInBounds b o=w.heap:=by
  apply Array.ext_getElem?;intro i;rw [zcc];split
  ·rename_i hbi;subst hbi;split
   ·exact h.symm
   ·rename_i hb;rw [Array.getElem?_eq_none (by omega)]
  ·rfl
 rw [this]
theorem Inv.Yt {g:bT} {base o:Nat} {w:World} {es es':List (Value×EV)} (h:Inv g base w st) (ho:st.aP[o]?=some (.map es)) (hl:es.length=es'.length)
  (hle:∀ (i:Nat) p q,es[i]?=some p->es'[i]?=some q->p.1=q.1/\dX p.2 q.2):Inv g base w (st.set o (.map es'))/\Step base g w st g w (st.set o (.map es')):=by
 obtain ⟨b1,ms,clock,b2,b3,b4,b5,b6⟩:=h.map o es ho;have:=h.LS (es':=es') ho (ms':=ms) (clock':=clock) (by omega) (λi k x m tW Sw=>by
  have hi:i<es.length:=by rw [hl];exact (zad.1 tW).1
  have h1:=zae hi;obtain ⟨a1,a2⟩:=hle i _ _ h1 tW;obtain ⟨c1,c2⟩:=b4 i es[i].1 es[i].2 m h1 Sw;exact ⟨c1.trans a1,a2 _ _ _ _ c2⟩) b5 b6
 rw [SD b2] at this;exact this
theorem bq.SE {e sz t0:Nat} {row:α->List D} (o:Nat) {T:List gD} {l:List (κ×List α)} {ke:κ->Value} (ho:st.aP[o]?=some (.map (lA ke (oQ sz row t0 l)))) (hT:st.ar=T++ln e sz l) (h0:T.length=t0)
  (hE:L5 env env'=some env') (hs:st'=⟨st.aP.set o (.map (jM ke (λx=>ai sz row x) l)),T⟩) (xt:(CL st'.aP.length st'.ar.length env' && st'.aP.all (kf st'.aP.length st'.ar.length))=true)
  (Xk:S.st.aP.length<=st.aP.length) (hS2:S.st.ar.length<=T.length) (h:bq P f N S Q todo env' st'):bq P f N S Q todo env st:=by
 subst hs;intro g w tmps hinv hh he hN;obtain ⟨h1,h2⟩:=hinv.Yt (es':=jM ke (λx=>ai sz row x) l) ho (by simp [lA,jM,Ka]) (λi p q hp hq=>by
  simp only [lA,jM,zbc,AV] at hp hq;cases hl:l[i]? with
  | none=>rw [hl] at hp;cases hp
  | some r=>rw [hl] at hp hq;cases hp;cases hq;exact ⟨rfl,.cz _ _ _⟩)
 have hlen:(st.set o (.map (jM ke (λx=>ai sz row x) l))).aP.length=st.aP.length:=by simp [St.set]
 refine bq.to (st:=st.set o (.map (jM ke (λx=>ai sz row x) l))) (st':=⟨st.aP.set o (.map (jM ke (λx=>ai sz row x) l)),T⟩) st.aP.length T.length (xA hE) ?_ ?_ ?_ ?_ ?_ Xk hS2 h g w tmps h1 (hh.step h2) (he.mono h2.dy) hN
 ·show (st.aP.set o _).take st.aP.length=st.aP.set o _;rw [zbw (by simp)]
 ·show st.ar.take T.length=T;rw [hT];simp
 ·rw [hlen];exact Nat.ble_self_eq_true _
 ·show Nat.ble T.length st.ar.length=true;rw [hT];exact Nat.ble_eq_true_of_le (by simp)
 ·simpa [zfr] using xt
theorem bq.tG {s0:St} (n:Nat) (h:bq P f N S Q todo env' st') (hE:L5 env env'=some env') (ho:st.aP.take n=st'.aP) (ht:st.ar=st'.ar) (hn:Nat.ble n st.aP.length=true)
  (xt:(CL n st'.ar.length env' && st'.aP.all (kf n st'.ar.length))=true) (hS:S.st=s0) (hb:Nat.ble s0.aP.length n=true) (FF:Nat.ble s0.ar.length st'.ar.length=true):bq P f N S Q todo env st :=
 .to n st'.ar.length (xA hE) ho (by rw [ht];simp) hn (by rw [ht];exact Nat.ble_self_eq_true _) xt (by rw [hS];exact zaf hb) (by rw [hS];exact zaf FF) h
end run
def nO (a b:List UInt8):Bool:=Op.bytesLess a b
section strings
variable {P:Program} {env:Env} {st:St} {d:Option Tmp} {ty:TypeId} {pos:String} {after:Array Edge} {gd:Option (Nat×Bool)} {t t2:TypeId} {x y:Operand} {a b:List UInt8} (hx:cP env x=some (.d (cS a))) (hy:cP env y=some (.d (cS b)))
include hx hy
theorem Qm:aK P env st ⟨d,.binOp .lss t x y t2,ty,pos,after,gd⟩ (.d (cB (nO a b))):=ql λg w tmps w' he=>by
 simp [execOp,(aM he hx).bK,(aM he hy).bK,eqGuard,binOp,Op.stringOp,nO]
end strings
def SF (P:Program) (base:Nat) (T:FT) (N n:Nat) (cf:Cf) (env:Env) (st:St) (hs:List Hint):Option Out:=mi env λenv=>match st with
 | ⟨os,ts⟩=>mi os λos=>go P base T N n cf env ⟨os,ts⟩ hs []
theorem Vp {P:Program} {base N n:Nat} {T:FT} {cf:Cf} {env:Env} {st:St} {hs:List Hint}:SF P base T N n cf env st hs=go P base T N n cf env st hs []:=by
 unfold SF;simp only [qt]
theorem B3 {P:Program} {f:Ctx} {N:Nat} {S:Start} {Q:EV->St->Prop} {T:FT} (hT:T.Ok P) (hm:P.follows .mixedOrders=true) {n:Nat} {cf:Cf} {env:Env} {st:St} {hs:List Hint} {out:Out} (h:SF P S.base T N n cf env st hs=some out) (hp:r6 out.ps) :
  OE P f N S Q out.cf out.env out.st->OE P f N S Q cf env st:=(go_sound hT hm n cf env st hs [] out (Vp▸h) hp).2
theorem tT.nil0 (sz:Nat):tT (.ex (.slice none 0 0)) (.e0 sz):=λ_ _ _ h=>by cases h;exact .e0 sz none (.inl rfl)
section tok
variable {P:Program} {f:Ctx} {N:Nat} {S:Start} {Q:EV->St->Prop} {todo:List Item} {env:Env} {st:St}
theorem Inv.Ex {g:bT} {base o ci sz:Nat} {w:World} {T:TypeId} {cs:List EV} (h:Inv g base w st) (ho:st.aP[o]?=some (.row T cs)) (hc:cs[ci]?=some (.d (.e0 sz))) (e:Nat) :
  ∃ g',Inv g' base w ((st.tok ⟨e,sz,0,none⟩).set o (.row T (cs.set ci (.cz sz [] st.ar.length))))/\Step base g w st g' w ((st.tok ⟨e,sz,0,none⟩).set o (.row T (cs.set ci (.cz sz [] st.ar.length)))):=by
 obtain ⟨g1,h1,h2,h3⟩:=h.HB e sz;have FE:(st.tok ⟨e,sz,0,none⟩).aP[o]?=some (.row T cs):=ho;obtain ⟨b1,b2,vs,b3,b4,b5⟩:=h2.row o T cs FE;obtain ⟨hi,hs⟩:=h2.setBlock (o:=o) (x:=.row T (cs.set ci (.cz sz [] st.ar.length))) (w':=w) ⟨_,FE,by simp⟩ b2 rfl (λ_ _=>rfl) rfl rfl rfl
  (λPC LC Dc jK=>by
   cases jK;refine ⟨vs,b3,by simpa using b4,λi c u qc hu=>?_⟩;rw [zbj] at qc;split at qc
   ·rename_i TJ;subst TJ;split at qc
    ·cases qc;have h0:=b5 ci _ u hc hu;refine ⟨?_,h0.2⟩;cases h0.1 with
     | d _ _ hd =>
      cases hd with
      | e0 _ A _=>exact .cz sz [] _ _ e 0 (.nil sz _) (by simp [St.tok,St.set]) (zap _) (λ_=>.inr ⟨rfl,A,rfl⟩)
    ·cases qc
   ·have h0:=b5 i c u qc hu;exact ⟨h0.1.mono PC,h0.2⟩) (λ_ es jK=>by cases jK)
 exact ⟨g1,hi,h3.trans hs⟩
theorem bq.Ex {o ci e sz:Nat} {T:TypeId} {cs:List EV} (ho:st.aP[o]?=some (.row T cs)) (hc:cs[ci]?=some (.d (.e0 sz)))
  (h:bq P f N S Q todo env ((st.tok ⟨e,sz,0,none⟩).set o (.row T (cs.set ci (.cz sz [] st.ar.length))))):bq P f N S Q todo env st:=by
 intro g w tmps hinv hh he hn;obtain ⟨g',h1,h2⟩:=hinv.Ex ho hc e;exact h g' w tmps h1 (hh.step h2) (he.mono h2.dy) hn
end tok
section fwp
variable {P:Program} {R:Ending->World->Prop} {k:List Item} {tmps:Array Value} {w:World}
theorem ep.beginRound {f:FuncId} {ds:List Deferred} {l:Nat} {w':World} (hr:(Instr.beginRound l).run P w=.ok () w') (h:ep P ⟨f,ds,some l⟩ R k tmps w'):ep P ⟨f,ds,some l⟩ R (.beginRound::k) tmps w :=
 ep.step (λ_=>stepR_beginRound rfl hr) h
theorem ep.round {f:Ctx} {ops:Array Oper} {i l:Nat} {rest:List Nat} {o:Oper} {f':FuncId} {tm:Array Value} {assign body:Code} {w':World}
  (ho:ops[i]?=some o) (hw:Region.wanted o (yielded ops tmps)=true) (hr:(execOp (Act.eval ⟨tmps,[]⟩) o).run P w=.ok (.round l f' tm assign body) w')
  (h:ep P ⟨f',[],some l⟩ (λ_ w2=>∃ w3,(Instr.endRound l none).run P w2=.ok (.bool true) w3/\ep P f R (.inRegion ops rest::k) (Act.put ⟨tmps,[]⟩ o.dst (.bool true)).tmps w3) [.code assign,.beginRound,.code body] tm w') :
  ep P f R (.inRegion ops (i::rest)::k) tmps w:=by
 intro cs;have hg:=stepGR_op (P:=P) (b:=bf f) (a:=⟨tmps,f.ds⟩) (k:=k) (cs:=cs) (w:=w) (rest:=rest) ho hw;rw [AA,Az hr (by simp)] at hg;have o8:∀ v,((bf f).atR ⟨tmps,f.ds⟩ (.inRegion ops (i::rest)::k)).finish v=(bf f).atR (Act.put ⟨tmps,f.ds⟩ o.dst v) (.inRegion ops rest::k):=by
  intro v;rw [Frame.finish_atR,ho];rfl
 obtain ⟨e,w2,fr,⟨w3,he,hF⟩,DV,Yu⟩:=h ((bf f).atR ⟨tmps,f.ds⟩ (.inRegion ops (i::rest)::k)::cs);obtain ⟨rfl,tm2,rfl⟩:=Yu;have Vq:Frame.round l f' tm assign body .normal=(bf ⟨f',[],some l⟩).atR ⟨tm,[]⟩ [.code assign,.beginRound,.code body]:=by simp [Frame.round,Frame.atR,bf]
 have zI:Go.step P (lone ((bf f).atR ⟨tmps,f.ds⟩ (.inRegion ops (i::rest)::k)) cs w) =
   .next (lone ((bf ⟨f',[],some l⟩).atR ⟨tm,[]⟩ [.code assign,.beginRound,.code body]) ((bf f).atR ⟨tmps,f.ds⟩ (.inRegion ops (i::rest)::k)::cs) w'):=by
  rw [←Vq];exact step_lone_go (by rw [hg];simp [stepG.apply,hr,Frame.atR])
 obtain ⟨e,w4,XG,hR,hc,h1⟩:=hF cs;refine ⟨e,w4,XG,hR,Comes.of_steps (.head zI (Steps.trans DV (.one ?_))) hc,h1⟩;rw [←put_eq,←o8];exact stepR_round_end rfl rfl he
theorem ep.rangeFunc {f it:FuncId} {g:Operand} {ps:Array Tmp} {assign body:Code} {vs:Array Value} (hg:Act.eval ⟨tmps,[]⟩ g=.func (.func it) #[] vs) (Da:Enters P it)
  (h:Calls P it (#[.func (.yield (w.heap.size+1)) #[] #[]]++vs) ((w.alloc (.deferred (some []))).alloc (.loop { state:=.ready,pending:=none,fn:=f,tmps:=tmps,params:=ps,assign,body,defers:=w.heap.size }))
   λe w2=>(∃ v,e=.returned v)/\∃ w3,(Instr.endLoop (w.heap.size+1)).run P w2=.ok none w3/\ep P ⟨f,[{ target:=.collected w.heap.size,args:=#[] }],none⟩ R k tmps w3) :
  ep P (.of f) R (.code (.rangeFunc g ps assign body)::k) tmps w:=by
 intro cs;have he:=run_enterLoop_outer (P:=P) (w:=w) f tmps ps assign body;generalize hW:(w.alloc (.deferred (some []))).alloc (.loop { state:=.ready,pending:=none,fn:=f,tmps:=tmps,params:=ps,assign,body,defers:=w.heap.size })=W1 at he h;have SG:(resolve (Act.eval ⟨tmps,[]⟩) (rangeCall g (w.heap.size+1)) 0).run P W1=.ok { target:=.fn (.func it) vs,args:=#[.func (.yield (w.heap.size+1)) #[] #[]] } W1:=by
  simp only [rangeCall,resolve];rw [hg];simp [Deferred.ofValue,Act.eval]
 have hinv:(invoke (.fn (.func it) vs) #[.func (.yield (w.heap.size+1)) #[] #[]]).run P W1=.ok (.enter it (#[.func (.yield (w.heap.size+1)) #[] #[]]++vs)) W1:=by
  simp only [invoke];exact vU Da _ _
 have zI:=stepR_rangeFunc (P:=P) (b:=bf (.of f)) (a:=⟨tmps,[]⟩) (k:=k) (cs:=cs) (w:=w) he SG hinv;obtain ⟨e,w2,fr,⟨⟨v,rfl⟩,w3,hend,hF⟩,DV,_,Lw⟩:=h ((bf (.of f)).atR ⟨tmps,[{ target:=.collected w.heap.size,args:=#[] }]⟩ (.inRangeFunc (w.heap.size+1)::k)::cs);obtain ⟨e,w4,XG,hR,hc,h1⟩:=hF cs;refine ⟨e,w4,XG,hR,Comes.of_steps (.head zI (Steps.trans DV (.head (step_leave_returned Lw) (.one ?_)))) hc,h1⟩;rw [finish_atR_inRangeFunc];exact stepR_endRangeFunc hend
theorem ep.Vr {f:FuncId} {D:Nat} {fn:Func} {v:Value} {w':World} (hf:P.funcs[f]?=some fn) (ht:(Instr.takeDeferred D).run P w=.ok [] w') (hr:(results fn tmps).run P w'=.ok v w') (hR:R (.returned v) w') :
  ep P ⟨f,[{ target:=.collected D,args:=#[] }],none⟩ R (.code .ret::k) tmps w :=
 λcs=>⟨.returned v,w',_,hR,.head (stepR_ret rfl) (.one (step_collected (by simp) rfl rfl ht)),rfl,rfl,rfl,rfl,fn,hf,hr⟩
end fwp
section inv
variable {P:Program} {base:Nat} {g:bT} {w:World} {st:St}
theorem Inv.H5 (hinv:Inv g base w st) {o:Nat} {y:Obj} (ho:st.aP[o]?=some (.raw y)) (y':Obj):Inv g base (w.putObj (g.ob o) y') (st.set o (.raw y'))/\Step base g w st g (w.putObj (g.ob o) y') (st.set o (.raw y')):=by
 obtain ⟨hb,hl,Jn⟩:=hinv.raw o _ ho;exact hinv.setBlock (o:=o) (x:=.raw y') (w':=w.putObj (g.ob o) y')
   ⟨_,ho,by simp⟩ hl (by simp [World.putObj]) (λb ka=>World.putObj_heap_other ka) rfl rfl rfl (λ_ LC Dc e=>by cases e) (λ_ es e=>by cases e)
   (λy e=>by
    cases e;exact World.putObj_heap_same (zaw.1 Jn).1)
end inv
section run
variable {P:Program} {f:FuncId} {N:Nat} {S:Start} {Q:EV->St->Prop} {k:List Item} {env:Env} {st:St}
theorem rm.Vs {S:Start} {g:bT} {w:World} {st:St} (h:rm S g w st) {o l:Nat} (hS:S.g.ob o=l) (cE:o<S.st.aP.length):g.ob o=l:=(h.dy.ob o cE).trans hS
theorem bq.beginRound {l o:Nat} {r:Loop} (hS:S.g.ob o=l) (cE:o<S.st.aP.length) (ho:st.aP[o]?=some (.raw (.loop r))) (hr:r.state=.ready)
  (h:bq P ⟨f,[],some l⟩ N S Q k env (st.set o (.raw (.loop { r with state:=.busy })))):bq P ⟨f,[],some l⟩ N S Q (.beginRound::k) env st:=by
 intro g w tmps hinv hh he hN;have AD:=hh.Vs hS cE;obtain ⟨_,_,Jn⟩:=hinv.raw o _ ho;obtain ⟨h1,h2⟩:=hinv.H5 ho (.loop { r with state:=.busy });rw [AD] at Jn h1 h2;exact ep.beginRound (run_beginRound Jn hr) (h g _ tmps h1 (hh.step h2) (he.mono h2.dy) hN)
theorem bq.DW {l:Nat} (hQ:Q (.d (cB true)) st):bq P ⟨f,[],some l⟩ N S Q [] env st :=
 λg w tmps hinv hh he hN=>ep.DW ⟨_,_,st,g,rfl,hQ,.d _ _ (.ex _),hinv,hh⟩
theorem bq.rangeFunc {i:Nat} {it:FuncId} {R9:List EV} {ps:Array Tmp} {assign body:Code} {st':St} (hx:lookup i env=some (.vR it R9)) (Da:Enters P it) (hlen:st'.aP.length=st.aP.length)
  (Yv:∀ (S1:Start) (tm:Array Value) (D l:Nat),S1.base=S.base->Inv S1.g S1.base S1.w S1.st->tm.size=N->dO S1.g S1.w S1.st env tm->S1.g.ob (st.aP.length+1)=l ->
   S1.st=⟨st.aP++[.raw (.deferred (some [])),.raw (.loop { state:=.ready,pending:=none,fn:=f,tmps:=tm,params:=ps,assign,body,defers:=D })],st.ar⟩ ->
   ∀ vs,ub S1.g S1.w S1.st (.d (.ex (.func (.yield l) #[] #[]))::R9) vs ->
   Calls P it vs S1.w (nC S1 λ_ st2=>st2=⟨st'.aP++[.raw (.deferred (some [])),.raw (.loop { state:=.ready,pending:=none,fn:=f,tmps:=tm,params:=ps,assign,body,defers:=D })],st'.ar⟩))
  (hk:∀ (S1:Start) (D:Nat) (x:Obj),S1.base=S.base->S1.g.ob st.aP.length=D->S1.st=⟨st'.aP++[.raw (.deferred (some [])),.raw x],st'.ar⟩ ->
   bq P ⟨f,[{ target:=.collected D,args:=#[] }],none⟩ N S1 Q k env ⟨st'.aP++[.raw (.deferred (some [])),.raw x],st'.ar⟩) :
  bq P (.of f) N S Q (.code (.rangeFunc (.tmp i) ps assign body)::k) env st:=by
 intro g w tmps hinv hh he hN;obtain ⟨v,XR,hv2⟩:=he i _ hx;cases hv2 with
 | vR _ _ vs Db rp =>
 have hg:Act.eval ⟨tmps,[]⟩ (.tmp i)=.func (.func it) #[] vs:=by simp [Act.eval,zar,XR]
 obtain ⟨g1,i1,s1,ob1⟩:=hinv.newObj (.raw (.deferred (some []))) (.deferred (some [])) (λLC Dc e=>by cases e) (λes e=>by cases e) (λy e=>by cases e;rfl);obtain ⟨g2,i2,s2,ob2⟩:=i1.newObj (.raw (.loop { state:=.ready,pending:=none,fn:=f,tmps:=tmps,params:=ps,assign,body,defers:=w.heap.size })) (.loop { state:=.ready,pending:=none,fn:=f,tmps:=tmps,params:=ps,assign,body,defers:=w.heap.size }) (λLC Dc e=>by cases e) (λes e=>by cases e) (λy e=>by cases e;rfl);have ma:(st.add (.raw (.deferred (some [])))).add (.raw (.loop { state:=.ready,pending:=none,fn:=f,tmps:=tmps,params:=ps,assign,body,defers:=w.heap.size })) =
   ⟨st.aP++[.raw (.deferred (some [])),.raw (.loop { state:=.ready,pending:=none,fn:=f,tmps:=tmps,params:=ps,assign,body,defers:=w.heap.size })],st.ar⟩:=by simp [St.add]
 rw [ma] at i2 s2;have zl:g2.ob (st.aP.length+1)=w.heap.size+1:=by
  have:(st.add (.raw (.deferred (some [])))).aP.length=st.aP.length+1:=by simp [St.add]
  rw [←this,ob2];simp [World.size_alloc]
 have Vt:=s1.trans s2;have hD2:g2.ob st.aP.length=w.heap.size:=by
  have:st.aP.length<(st.add (.raw (.deferred (some [])))).aP.length:=by simp [St.add]
  rw [s2.dy.ob _ this,ob1]
 have Xs:=he.mono Vt.dy;have Kd:ub g2 ((w.alloc (.deferred (some []))).alloc (.loop { state:=.ready,pending:=none,fn:=f,tmps:=tmps,params:=ps,assign,body,defers:=w.heap.size })) ⟨st.aP++[.raw (.deferred (some [])),.raw (.loop { state:=.ready,pending:=none,fn:=f,tmps:=tmps,params:=ps,assign,body,defers:=w.heap.size })],st.ar⟩ (.d (.ex (.func (.yield (w.heap.size+1)) #[] #[]))::R9) (#[.func (.yield (w.heap.size+1)) #[] #[]]++vs):=by
  refine ⟨by simp [Db,zdd],λj y u hy hu=>?_⟩;cases j with
  | zero =>
   rw [zdh (by simp)] at hu;simp at hy hu;subst hy;subst hu;exact .d _ _ (.ex _)
  | succ j =>
   simp only [List.getElem?_cons_succ] at hy;rw [Array.getElem?_append_right (by simp)] at hu;exact (rp j y u hy (by simpa using hu)).mono Vt.dy
 refine ep.rangeFunc hg Da ?_;refine (Yv ⟨g2,_,_,S.base⟩ tmps w.heap.size (w.heap.size+1) rfl i2 hN Xs zl rfl _ Kd).mono ?_;rintro e w2 ⟨v,r,st2,g3,rfl,rfl,hr,TT,hh3⟩;refine ⟨⟨v,rfl⟩,?_⟩;have hoL:(⟨st'.aP++[.raw (.deferred (some [])),.raw (.loop { state:=.ready,pending:=none,fn:=f,tmps:=tmps,params:=ps,assign,body,defers:=w.heap.size })],st'.ar⟩:St).aP[st.aP.length+1]?=some (.raw (.loop { state:=.ready,pending:=none,fn:=f,tmps:=tmps,params:=ps,assign,body,defers:=w.heap.size })):=by
  rw [zav (by omega)];simp [hlen]
 have Yw:g3.ob (st.aP.length+1)=w.heap.size+1:=(hh3.dy.ob _ (by simp)).trans zl;have Yx:g3.ob st.aP.length=w.heap.size:=(hh3.dy.ob _ (by simp)).trans hD2;obtain ⟨_,_,Jn⟩:=TT.raw _ _ hoL;rw [Yw] at Jn;obtain ⟨q1,q2⟩:=TT.H5 hoL (.loop { state:=.exhausted,pending:=none,fn:=f,tmps:=tmps,params:=ps,assign,body,defers:=w.heap.size });rw [Yw] at q1 q2;refine ⟨_,run_endLoop Jn (by simp),?_⟩;have xq:(⟨st'.aP++[.raw (.deferred (some [])),.raw (.loop { state:=.ready,pending:=none,fn:=f,tmps:=tmps,params:=ps,assign,body,defers:=w.heap.size })],st'.ar⟩:St).set (st.aP.length+1) (.raw (.loop { state:=.exhausted,pending:=none,fn:=f,tmps:=tmps,params:=ps,assign,body,defers:=w.heap.size })) =
   ⟨st'.aP++[.raw (.deferred (some [])),.raw (.loop { state:=.exhausted,pending:=none,fn:=f,tmps:=tmps,params:=ps,assign,body,defers:=w.heap.size })],st'.ar⟩:=by
  unfold St.set;simp only;rw [List.set_append_right _ _ (by omega),←hlen,zfc];rfl
 rw [xq] at q1 q2;have oY:=(Vt.trans hh3.toStep).trans q2;refine (hk ⟨g3,_,_,S.base⟩ w.heap.size _ rfl Yx rfl g3 _ tmps q1 (rm.refl ⟨g3,_,_,S.base⟩) (he.mono oY.dy) hN).mono ?_;rintro e w4 ⟨v4,r4,st4,g4,e1,e2,e3,e4,e5⟩;exact ⟨v4,r4,st4,g4,e1,e2,e3,e4,(hh.step oY).step e5.toStep⟩
theorem bq.Vr {fn:Func} {D o:Nat} (xs:List ResultVar) (es:List EV) (hf:P.funcs[f]?=some fn) (hr:fn.results=xs.toArray) (hS:S.g.ob o=D) (cE:o<S.st.aP.length) (ho:st.aP[o]?=some (.raw (.deferred (some []))))
  (h:Eg P env (st.set o (.raw (.deferred none))) xs es) (hQ:Q (Eh es) (st.set o (.raw (.deferred none)))):bq P ⟨f,[{ target:=.collected D,args:=#[] }],none⟩ N S Q (.code .ret::k) env st:=by
 intro g w tmps hi hh he hn;have AD:=hh.Vs hS cE;obtain ⟨_,_,Jn⟩:=hi.raw o _ ho;obtain ⟨q1,q2⟩:=hi.H5 ho (.deferred none);rw [AD] at Jn q1 q2;have Xs:=he.mono q2.dy;obtain ⟨vs,h1,h2,h3⟩:=HJ q1 Xs h;have gY:(results fn tmps).run P (w.putObj D (.deferred none))=.ok (if h:vs.toArray.size=1 then vs.toArray[0] else .tuple vs.toArray) (w.putObj D (.deferred none)):=by
  have UU:(results fn tmps)=(do let vs ←fn.results.mapM (GH tmps);pure (if h:vs.size=1 then vs[0] else .tuple vs)):=by
   unfold results;congr 1
  rw [UU,hr,zfe];simp only [Sem.run_bind,Sem.run_map,h1,Result.andThen_ok,Sem.run_pure]
 refine ep.Vr hf (run_takeDeferred Jn) gY ⟨_,Eh es,_,g,rfl,hQ,?_,q1,hh.step q2⟩;by_cases hl:vs.toArray.size=1
 ·rw [dif_pos hl]
  match vs,es,h2,hl,h3 with
  | [v],[e],_,_,h3=>exact h3 0 e v rfl rfl
  | [],_,_,hl,_=>simp at hl
  | _::_::_,_,_,hl,_=>simp at hl
 ·rw [dif_neg hl]
  match vs,es,h2,hl,h3 with
  | [v],_,_,hl,_=>simp at hl
  | [],[],_,_,_=>exact .dV _ _ rfl (by simp)
  | a::b::l,a'::b'::l',h2,_,h3=>exact .dV _ _ (by simpa using h2) (λi e v he hv=>h3 i e v he (by simpa using hv))
end run
theorem Calls.Vu {P:Program} {f:FuncId} {fn:Func} {c:Code} {N:Nat} {S:Start} {Q:EV->St->Prop} {args:List EV} {vs:Array Value} (hf:P.funcs[f]?=some fn) (hb:fn.body=some c) (hN:fn.ntmps=N) (hl:Nat.ble args.length N=true)
  (hi:Inv S.g S.base S.w S.st) (ha:ub S.g S.w S.st args vs) (h:bq P (.of f) N S Q [.code c] (zK 0 args) S.st):Calls P f vs S.w (nC S Q):=by
 have RW:=zaf hl;have fE:=ha.1;refine ep.calls hf hb ?_;refine h S.g S.w _ hi (rm.refl S) ?_ (by simp [hN];omega);intro j y hy;obtain ⟨k,rfl,hk⟩:=uC args 0 j y hy;have MQ:=(zad.1 hk).1;refine ⟨vs[k]'(by omega),?_,ha.2 k y _ hk (by simp [fE,MQ])⟩;rw [zbr,zdh (by omega)];simp [fE,MQ]
section yield
variable {P:Program} {f:Ctx} {N:Nat} {S:Start} {Q:EV->St->Prop} {k:List Item} {env:Env} {st:St} {ops rest:List Oper} {ty:TypeId} {pos:String} {after:Array Edge}
theorem cd.Vv {b:Bool} {d t x y:Tmp} {j o l p:Nat} {c:EV} {r:Loop} {a:D} {ts:Array TypeId} {st':St} (hj:(ops[j]?).bind (·.dst)=some t) (hl:lookup t env=some c) (hc:CF c true=some b) (hbt:b=true) (hd:fV N (some d)=true)
  (hx:lookup x env=some (.gd b (.d (.ex (.func (.yield l) #[] #[]))))) (hy:lookup y env=some (.gd b (.d a))) (ho:st.aP[o]?=some (.raw (.loop r))) (cE:o<S.st.aP.length) (hS:S.g.ob o=l) (hp:r.params=#[p])
  (Ma:∀ S2:Start,uB S.g S.w S.st S2.g S2.w S2.st->S2.base=S.base->S2.st=st->Inv S2.g S2.base S2.w S2.st->∀ v,dw S2.g.lim S2.w a v ->
   ep P ⟨r.fn,[],some l⟩ (nC S2 λ_ st2=>∃ r2,st2.aP[o]?=some (.raw (.loop r2))/\st'=st2.set o (.raw (.loop { r2 with state:=.ready,pending:=none }))) [.code r.assign,.beginRound,.code r.body] (r.tmps.setIfInBounds p v) S2.w)
  (hk:cd P f N S Q ops rest k ((d,.gd b (.d (cB true)))::env) st') :
  cd P f N S Q ops (⟨some d,.call ⟨.value (.tmp x),#[.tmp y],ts⟩,ty,pos,after,some (j,true)⟩::rest) k env st:=by
 subst hbt;intro i hi g w tmps hinv hh he hn;have na:ops.toArray[i]?=some ⟨some d,.call ⟨.value (.tmp x),#[.tmp y],ts⟩,ty,pos,after,some (j,true)⟩:=by simpa using (hi 0).symm
 obtain ⟨v,hv,hr⟩:=he t c hl;have hw:Region.wanted ⟨some d,.call ⟨.value (.tmp x),#[.tmp y],ts⟩,ty,pos,after,some (j,true)⟩ (yielded ops.toArray tmps)=true:=by
  have Ux:=sU hc hr;have Jm:((ops.toArray)[j]?).bind (·.dst)=some t:=by simpa using hj
  simp only [Region.wanted,yielded,Jm,zac,hv];revert Ux;cases v <;> exact λh=>h
 rw [zag,iw];have hi':∀ j:Nat,rest[j]?=ops[i+1+j]?:=λj=>by have:=hi (j+1);simpa [zch,zdd 1 j] using this
 obtain ⟨vx,hx1,ZX⟩:=he x _ hx;obtain ⟨vy,cQ,fD⟩:=he y _ hy;have Vd:vx=.func (.yield l) #[] #[]:=by
  cases ZX with
  | gd _ _ _ _ h=>cases h rfl with|d _ _ h=>exact wa h
 have hvy:dw g.lim w a vy:=by
  cases fD with
  | gd _ _ _ _ h=>cases h rfl with|d _ _ h=>exact h
 subst Vd;have AD:=hh.Vs hS cE;obtain ⟨_,_,Jn⟩:=hinv.raw o _ ho;rw [AD] at Jn;have vi:=run_yield (P:=P) (args:=#[vy]) Jn (by rw [hp];rfl);have gY:(execOp (Act.eval ⟨tmps,[]⟩) ⟨some d,.call ⟨.value (.tmp x),#[.tmp y],ts⟩,ty,pos,after,some (j,true)⟩).run P w=.ok (.round l r.fn (r.tmps.setIfInBounds p vy) r.assign r.body) w:=by
  have e1:Act.eval ⟨tmps,[]⟩ (.tmp x)=.func (.yield l) #[] #[]:=by simp [Act.eval,zar,hx1]
  have e2:Act.eval ⟨tmps,[]⟩ (.tmp y)=vy:=by simp [Act.eval,zar,cQ]
  rw [hp] at vi;simp only [execOp,resolve];rw [e1];simp only [Deferred.ofValue,Sem.run_bind,Sem.run_pure,Result.andThen_ok,invoke];simpa [e2] using vi
 refine ep.round na hw gY ?_;refine (Ma ⟨g,w,st,S.base⟩ hh.dy rfl rfl hinv vy hvy).mono ?_;rintro e w2 ⟨v2,r2,st2,g2,rfl,⟨rr,hor,UW⟩,Xm,TU,Yy⟩;obtain ⟨_,_,Yz⟩:=TU.raw o _ hor;obtain ⟨q1,q2⟩:=TU.H5 hor (.loop { rr with state:=.ready,pending:=none });have hob2:g2.ob o=l:=(Yy.dy.ob o (zad.1 ho).1).trans AD;rw [hob2] at Yz q1 q2;rw [←UW] at q1 q2;refine ⟨_,run_endRound none Yz,?_⟩;have oY:=Yy.toStep.trans q2;subst hn;exact hk (i+1) hi' g2 _ _ q1 (hh.step oY) (qk (d:=some d) (he.mono oY.dy) hd (.gd _ _ _ (λh=>by cases h) (λ_=>.d _ _ (.ex _)))) ia
end yield
theorem wR.three {l:List Oper} {p:Nat} {σ:List Nat} (hs:wR l p σ) {a b c:Nat} (BR:a≠b) (ha:a<p) (hb:b<p) (hc:c<p) (TO:((dS l []).getD c 0).testBit a=true) (U8:((dS l []).getD c 0).testBit b=true) :
  σ.filter (λi=>[a,b,c].any λe=>Nat.beq e i)=[a,b,c]∨σ.filter (λi=>[b,a,c].any λe=>Nat.beq e i)=[b,a,c]:=by
 obtain ⟨x,y,LW⟩:=zea ((hs.mem c).2 hc);have h1:=hs.mask x c y LW;have ax:=h1 a TO;have bx:=h1 b U8;have nd:=hs.nodup;rw [LW,zdm,zby] at nd;obtain ⟨_,⟨cy,_⟩,dis⟩:=nd;have cx:∀ i,i∈x->i≠c:=λi hi=>dis i hi c (zaj ..)
 have ay:∀ i,i∈y->i≠a/\i≠b/\i≠c:=λi hi=>⟨λe=>dis a ax i (zah _ hi) e.symm,λe=>dis b bx i (zah _ hi) e.symm,λe=>cy (e▸hi)⟩
 have key:∀ (u v:Nat),((u=a/\v=b)∨(u=b/\v=a))->σ.filter (λi=>[u,v].any λe=>Nat.beq e i)=[u,v]->σ.filter (λi=>[u,v,c].any λe=>Nat.beq e i)=[u,v,c]:=by
  intro u v huv h;have q2:∀ i,([u,v].any λe=>Nat.beq e i)=true↔i=u∨i=v:=λi=>by
   simp only [zdt,zfq,zds,zbv,Nat.beq_eq];exact ⟨λh=>h.imp zfa zfa,λh=>h.imp zfa zfa⟩
  have q3:∀ i,([u,v,c].any λe=>Nat.beq e i)=true↔i=u∨i=v∨i=c:=λi=>by
   simp only [zdt,zfq,zds,zbv,Nat.beq_eq];exact ⟨λh=>h.imp zfa λh=>h.imp zfa zfa,λh=>h.imp zfa λh=>h.imp zfa zfa⟩
  have ny:∀ i,i∈y->i≠u/\i≠v/\i≠c:=λi hi=>by
   obtain ⟨p1,p2,p3⟩:=ay i hi;rcases huv with ⟨rfl,rfl⟩|⟨rfl,rfl⟩
   ·exact ⟨p1,p2,p3⟩
   ·exact ⟨p2,p1,p3⟩
  have cu:¬(c=u∨c=v):=by
   rcases huv with ⟨rfl,rfl⟩|⟨rfl,rfl⟩
   ·rintro (e|e)
    ·exact cx _ ax e.symm
    ·exact cx _ bx e.symm
   ·rintro (e|e)
    ·exact cx _ bx e.symm
    ·exact cx _ ax e.symm
  have y2:y.filter (λi=>[u,v].any λe=>Nat.beq e i)=[]:=zdl.2 λi hi k=>by
   obtain ⟨p1,p2,_⟩:=ny i hi;rcases (q2 i).1 k with e|e
   ·exact p1 e
   ·exact p2 e
  have y3:y.filter (λi=>[u,v,c].any λe=>Nat.beq e i)=[]:=zdl.2 λi hi k=>by
   obtain ⟨p1,p2,p3⟩:=ny i hi;rcases (q3 i).1 k with e|e|e
   ·exact p1 e
   ·exact p2 e
   ·exact p3 e
  have x3:x.filter (λi=>[u,v,c].any λe=>Nat.beq e i)=x.filter (λi=>[u,v].any λe=>Nat.beq e i):=zeb λi hi=>by
   rw [zbz,q2,q3];exact ⟨λh=>h.imp id λh=>h.elim id λe=>absurd e (cx i hi),λh=>h.imp id .inl⟩
  rw [LW,zdo,zbo,zaa (λk=>cu ((q2 c).1 k)),y2,zbq] at h;rw [LW,zdo,zbo,zab ((q3 c).2 (.inr (.inr rfl))),y3,x3,h];rfl
 rcases hs.two BR ha hb with h|h
 ·exact .inl (key a b (.inl ⟨rfl,rfl⟩) h)
 ·exact .inr (key b a (.inr ⟨rfl,rfl⟩) h)
section run
variable {P:Program} {f:Ctx} {N:Nat} {S:Start} {Q:EV->St->Prop} {k:List Item}
theorem bq.SH {id:Nat} {l:List Oper} {env E0:Env} {st st0:St} (p a b c:Nat) (YA YB:List St) (hm:P.follows .mixedOrders=true) (hB:cr l p=true) (BR:a≠b) (ha:a<p) (hb:b<p) (hc:c<p)
  (TO:((dS l []).getD c 0).testBit a=true) (U8:((dS l []).getD c 0).testBit b=true) (h1:YA[0]?=some st) (h2:YB[0]?=some st)
  (H1:cd P f N S Q l (l.drop p) k E0 st0->lT P f N S Q l p [a,b,c] YA 0 (l.take p) k env) (H2:cd P f N S Q l (l.drop p) k E0 st0->lT P f N S Q l p [b,a,c] YB 0 (l.take p) k env)
  (h:cd P f N S Q l (l.drop p) k E0 st0):bq P f N S Q (.code (.region id l.toArray true)::k) env st :=
 .LU p hm hB λ_ hσ=>(hσ.three BR ha hb hc TO U8).elim (λhE=>.ZS hB hσ hE h1 (H1 h)) (λhE=>.ZS hB hσ hE h2 (H2 h))
end run
end Go.Abs
namespace Go.Proofs.YtimkfiaffohhkaaGreatDoor
open Go.RowKit Go.Abs
theorem nP:Tryz.prog.follows .mixedOrders=true:=by kernel_rfl
theorem YC:(Tryz.prog.info? 3).map (·.size)=some 1:=by kernel_rfl
theorem AW:∃ i,Tryz.prog.info? 3=some i/\i.zero=some (.int .i64 0)/\i.size=1/\i.bytes=8:=info_parts (by kernel_rfl)
theorem sz_4:(Tryz.prog.info? 4).map (·.size)=some 1:=by kernel_rfl
theorem Mb:∃ i,Tryz.prog.info? 4=some i/\i.zero=some (.bool false)/\i.size=1/\i.bytes=1:=info_parts (by kernel_rfl)
theorem ON:∃ i,Tryz.prog.info? 9=some i/\i.zero=some (.string ⟨#[]⟩)/\i.size=1/\i.bytes=16:=info_parts (by kernel_rfl)
theorem Qn:∃ i,Tryz.prog.info? 23=some i/\i.zero=some (.slice none 0 0)/\i.size=1/\i.bytes=24:=info_parts (by kernel_rfl)
theorem YD:(Tryz.prog.info? 26).map (·.size)=some 3:=by kernel_rfl
theorem Ey:∃ i,Tryz.prog.info? 26=some i/\i.zero=some (.agg #[.slice none 0 0,.slice none 0 0,.slice none 0 0])/\i.size=3/\i.bytes=72:=info_parts (by kernel_rfl)
theorem G0:(Tryz.prog.info? 30).map (·.size)=some 6:=by kernel_rfl
theorem Qo:∃ i,Tryz.prog.info? 30=some i/\i.zero=some (.agg #[.slice none 0 0,.slice none 0 0,.slice none 0 0,.slice none 0 0,.slice none 0 0,.slice none 0 0])/\i.size=6/\i.bytes=144:=info_parts (by kernel_rfl)
theorem Qp:∃ i,Tryz.prog.info? 34=some i/\i.zero=some (.agg #[.int .i64 0,.int .i64 0,.int .i64 0,.int .i64 0,.int .i64 0,.int .i64 0])/\i.size=6/\i.bytes=48:=info_parts (by kernel_rfl)
theorem YE:∃ i,Tryz.prog.info? 38=some i/\i.zero=some (.agg #[.int .i64 0,.int .i64 0,.int .i64 0,.slice none 0 0])/\i.size=4/\i.bytes=48:=info_parts (by kernel_rfl)
theorem Ni:(Tryz.prog.info? 40).map (·.size)=some 2:=by kernel_rfl
theorem YF:∃ i,Tryz.prog.info? 40=some i/\i.zero=some (.agg #[.int .i64 0,.int .i64 0])/\i.size=2/\i.bytes=16:=info_parts (by kernel_rfl)
theorem Nj:(Tryz.prog.info? 54).map (·.size)=some 12:=by kernel_rfl
theorem CU:∃ i,Tryz.prog.info? 54=some i/\i.zero=some (.agg #[.int .i64 0,.int .i64 0,.int .i64 0,.int .i64 0,.string ⟨#[]⟩,.string ⟨#[]⟩,.int .i64 0,.int .i64 0,.int .i64 0,.bool false,.int .i64 0,.int .i64 0])/\i.size=12/\i.bytes=112:=info_parts (by kernel_rfl)
theorem gz:(Tryz.prog.info? 58).map (·.size)=some 12:=by kernel_rfl
theorem gG:∃ i,Tryz.prog.info? 58=some i/\i.zero=some (.agg #[.int .i64 0,.int .i64 0,.int .i64 0,.string ⟨#[]⟩,.string ⟨#[]⟩,.int .i64 0,.int .i64 0,.int .i64 0,.int .i64 0,.bool false,.int .i64 0,.bool false])/\i.size=12/\i.bytes=112:=info_parts (by kernel_rfl)
theorem CV:∃ i,Tryz.prog.info? 66=some i/\i.zero=some (.agg #[.int .i64 0,.int .i64 0,.int .i64 0,.int .i64 0])/\i.size=4/\i.bytes=32:=info_parts (by kernel_rfl)
theorem Ez:∃ i,Tryz.prog.info? 76=some i/\i.zero=some (.agg #[.int .i64 0,.int .i64 0,.int .i64 0,.int .i64 0])/\i.size=4/\i.bytes=32:=info_parts (by kernel_rfl)
theorem YG:(Tryz.prog.info? 79).map (·.size)=some 7:=by kernel_rfl
theorem TV:∃ i,Tryz.prog.info? 79=some i/\i.zero=some (.agg #[.int .i64 0,.int .i64 0,.int .i64 0,.int .i64 0,.string ⟨#[]⟩,.string ⟨#[]⟩,.int .i64 0])/\i.size=7/\i.bytes=72:=info_parts (by kernel_rfl)
theorem TW:∃ i,Tryz.prog.info? 89=some i/\i.zero=some (.agg #[.slice none 0 0,.slice none 0 0,.slice none 0 0,.slice none 0 0,.slice none 0 0,.slice none 0 0,.slice none 0 0])/\i.size=7/\i.bytes=168:=info_parts (by kernel_rfl)
theorem Nk:(Tryz.prog.info? 98).map (·.size)=some 8:=by kernel_rfl
theorem CW:∃ i,Tryz.prog.info? 98=some i/\i.zero=some (.agg #[.int .i64 0,.int .i64 0,.int .i64 0,.string ⟨#[]⟩,.slice none 0 0,.slice none 0 0,.bool false,.bool false])/\i.size=8/\i.bytes=96:=info_parts (by kernel_rfl)
theorem EA:(Tryz.prog.info? 106).map (·.size)=some 3:=by kernel_rfl
theorem qu:∃ i,Tryz.prog.info? 106=some i/\i.zero=some (.agg #[.int .i64 0,.int .i64 0,.int .i64 0])/\i.size=3/\i.bytes=24:=info_parts (by kernel_rfl)
theorem Vw:∃ i,Tryz.prog.info? 114=some i/\i.zero=some (.agg #[.int .i64 0,.int .i64 0])/\i.size=2/\i.bytes=16:=info_parts (by kernel_rfl)
theorem Vx:∃ i,Tryz.prog.info? 121=some i/\i.zero=some (.slice none 0 0)/\i.size=1/\i.bytes=24:=info_parts (by kernel_rfl)
theorem Mc:∃ i,Tryz.prog.info? 123=some i/\i.zero=some (.agg #[.slice none 0 0,.slice none 0 0,.slice none 0 0])/\i.size=3/\i.bytes=72:=info_parts (by kernel_rfl)
theorem Vy:∃ i,Tryz.prog.info? 147=some i/\i.zero=some (.agg #[.slice none 0 0,.slice none 0 0])/\i.size=2/\i.bytes=48:=info_parts (by kernel_rfl)
theorem Vz:∃ i,Tryz.prog.info? 164=some i/\i.zero=some (.agg #[.int .i64 0,.int .i64 0])/\i.size=2/\i.bytes=16:=info_parts (by kernel_rfl)
theorem VA:∃ i,Tryz.prog.info? 171=some i/\i.zero=some (.agg #[.bool false,.bool false,.bool false,.bool false,.bool false])/\i.size=5/\i.bytes=5:=info_parts (by kernel_rfl)
theorem VB:(Tryz.prog.info? 175).map (·.size)=some 6:=by kernel_rfl
theorem EB:∃ i,Tryz.prog.info? 175=some i/\i.zero=some (.agg #[.int .i64 0,.int .i64 0,.int .i64 0,.bool false,.bool false,.slice none 0 0])/\i.size=6/\i.bytes=56:=info_parts (by kernel_rfl)
theorem VD:∃ i,Tryz.prog.info? 189=some i/\i.zero=some (.agg #[.int .i64 0,.int .i64 0])/\i.size=2/\i.bytes=16:=info_parts (by kernel_rfl)
theorem VE:∃ i,Tryz.prog.info? 192=some i/\i.zero=some (.agg #[.int .i64 0,.int .i64 0,.int .i64 0,.string ⟨#[]⟩,.string ⟨#[]⟩,.int .i64 0,.int .i64 0,.int .i64 0,.int .i64 0,.bool false,.int .i64 0,.bool false])/\i.size=12/\i.bytes=112:=info_parts (by kernel_rfl)
theorem VF:∃ i,Tryz.prog.info? 194=some i/\i.zero=some (.agg #[.int .i64 0,.int .i64 0,.int .i64 0,.string ⟨#[]⟩,.string ⟨#[]⟩,.int .i64 0,.int .i64 0,.int .i64 0,.int .i64 0,.bool false,.int .i64 0,.bool false,.slice none 0 0])/\i.size=13/\i.bytes=136:=info_parts (by kernel_rfl)
theorem VG:∃ i,Tryz.prog.info? 236=some i/\i.zero=some (.agg #[.int .i64 0,.int .i64 0,.int .i64 0,.string ⟨#[]⟩,.string ⟨#[]⟩,.int .i64 0,.bool false])/\i.size=7/\i.bytes=72:=info_parts (by kernel_rfl)
theorem VH:∃ i,Tryz.prog.info? 275=some i/\i.zero=some (.agg #[.map none,.map none,.map none,.map none,.map none,.slice none 0 0,.slice none 0 0])/\i.size=7/\i.bytes=88:=info_parts (by kernel_rfl)
theorem ym:fG Tryz.prog 30 1=some 3:=by kernel_rfl
theorem Nl:fG Tryz.prog 30 2=some 4:=by kernel_rfl
theorem DG:fG Tryz.prog 79 2=some 2:=by kernel_rfl
theorem yn:fG Tryz.prog 79 3=some 3:=by kernel_rfl
theorem ui:fG Tryz.prog 89 0=some 0:=by kernel_rfl
theorem DH:fG Tryz.prog 89 1=some 6:=by kernel_rfl
theorem H6:fG Tryz.prog 98 1=some 1:=by kernel_rfl
theorem Qq:fG Tryz.prog 123 0=some 0:=by kernel_rfl
theorem Qr:fG Tryz.prog 123 1=some 1:=by kernel_rfl
theorem Qs:fG Tryz.prog 123 2=some 2:=by kernel_rfl
theorem AX:fG Tryz.prog 275 0=some 0:=by kernel_rfl
theorem vj:fG Tryz.prog 275 1=some 1:=by kernel_rfl
theorem ry:(Tryz.prog.underlying 3).map kT=some true:=by kernel_rfl
theorem TX:(Tryz.prog.underlying 4).map kT=some true:=by kernel_rfl
theorem Qt:(Tryz.prog.underlying 23).map kT=some true:=by kernel_rfl
theorem VI:(Tryz.prog.underlying 26).map kT=some false:=by kernel_rfl
theorem B4:(Tryz.prog.underlying 27).map kT=some true:=by kernel_rfl
theorem H7:(Tryz.prog.underlying 30).map kT=some false:=by kernel_rfl
theorem H8:(Tryz.prog.underlying 36).map kT=some true:=by kernel_rfl
theorem Ia:(Tryz.prog.underlying 40).map kT=some false:=by kernel_rfl
theorem Qu:(Tryz.prog.underlying 54).map kT=some false:=by kernel_rfl
theorem eJ:(Tryz.prog.underlying 58).map kT=some false:=by kernel_rfl
theorem VJ:(Tryz.prog.underlying 79).map kT=some false:=by kernel_rfl
theorem Qv:(Tryz.prog.underlying 98).map kT=some false:=by kernel_rfl
theorem AY:(Tryz.prog.underlying 106).map kT=some false:=by kernel_rfl
theorem Nn:(Tryz.prog.underlying 119).map kT=some true:=by kernel_rfl
theorem yo:(Tryz.prog.underlying 120).map kT=some true:=by kernel_rfl
theorem yp:(Tryz.prog.underlying 121).map kT=some true:=by kernel_rfl
theorem DI:(Tryz.prog.underlying 272).map kT=some true:=by kernel_rfl
theorem yq:(Tryz.prog.underlying 273).map kT=some true:=by kernel_rfl
theorem zq:placesOf Tryz.prog 26=some [(0,1),(1,1),(2,1)]:=by kernel_rfl
theorem G1:placesOf Tryz.prog 30=some [(0,3),(3,1),(4,1),(5,1)]:=by kernel_rfl
theorem No:placesOf Tryz.prog 34=some [(0,1),(1,1),(2,1),(3,1),(4,1),(5,1)]:=by kernel_rfl
theorem Np:placesOf Tryz.prog 38=some [(0,1),(1,1),(2,1),(3,1)]:=by kernel_rfl
theorem YH:placesOf Tryz.prog 40=some [(0,1),(1,1)]:=by kernel_rfl
theorem zt:placesOf Tryz.prog 54=some [(0,1),(1,1),(2,1),(3,1),(4,1),(5,1),(6,1),(7,1),(8,1),(9,1),(10,1),(11,1)]:=by kernel_rfl
theorem xC:placesOf Tryz.prog 58=some [(0,1),(1,1),(2,1),(3,1),(4,1),(5,1),(6,1),(7,1),(8,1),(9,1),(10,1),(11,1)]:=by kernel_rfl
theorem Qw:placesOf Tryz.prog 66=some [(0,1),(1,1),(2,1),(3,1)]:=by kernel_rfl
theorem Qx:placesOf Tryz.prog 76=some [(0,1),(1,1),(2,1),(3,1)]:=by kernel_rfl
theorem Nq:placesOf Tryz.prog 79=some [(0,1),(1,1),(2,1),(3,1),(4,1),(5,1),(6,1)]:=by kernel_rfl
theorem TY:placesOf Tryz.prog 89=some [(0,6),(6,1)]:=by kernel_rfl
theorem Ke:placesOf Tryz.prog 98=some [(0,1),(1,1),(2,1),(3,1),(4,1),(5,1),(6,1),(7,1)]:=by kernel_rfl
theorem Qy:placesOf Tryz.prog 106=some [(0,1),(1,1),(2,1)]:=by kernel_rfl
theorem VK:placesOf Tryz.prog 114=some [(0,1),(1,1)]:=by kernel_rfl
theorem Md:placesOf Tryz.prog 123=some [(0,1),(1,1),(2,1)]:=by kernel_rfl
theorem VL:placesOf Tryz.prog 147=some [(0,1),(1,1)]:=by kernel_rfl
theorem VM:placesOf Tryz.prog 164=some [(0,1),(1,1)]:=by kernel_rfl
theorem Qz:placesOf Tryz.prog 175=some [(0,1),(1,1),(2,1),(3,1),(4,1),(5,1)]:=by kernel_rfl
theorem VN:placesOf Tryz.prog 189=some [(0,1),(1,1)]:=by kernel_rfl
theorem VO:placesOf Tryz.prog 192=some [(0,12)]:=by kernel_rfl
theorem VP:placesOf Tryz.prog 194=some [(0,12),(12,1)]:=by kernel_rfl
theorem VQ:placesOf Tryz.prog 236=some [(0,2),(2,1),(3,1),(4,1),(5,1),(6,1)]:=by kernel_rfl
theorem VR:placesOf Tryz.prog 275=some [(0,1),(1,1),(2,1),(3,1),(4,1),(5,1),(6,1)]:=by kernel_rfl
theorem YI:(Tryz.prog.info? 26).bind (·.zero)=some (.agg #[.slice none 0 0,.slice none 0 0,.slice none 0 0]):=by kernel_rfl
theorem YJ:(Tryz.prog.info? 28).bind (·.zero)=some (.slice none 0 0):=by kernel_rfl
theorem Nr:(Tryz.prog.info? 30).bind (·.zero)=some (.agg #[.slice none 0 0,.slice none 0 0,.slice none 0 0,.slice none 0 0,.slice none 0 0,.slice none 0 0]):=by kernel_rfl
theorem YK:(Tryz.prog.info? 34).bind (·.zero)=some (.agg #[.int .i64 0,.int .i64 0,.int .i64 0,.int .i64 0,.int .i64 0,.int .i64 0]):=by kernel_rfl
theorem YL:(Tryz.prog.info? 40).bind (·.zero)=some (.agg #[.int .i64 0,.int .i64 0]):=by kernel_rfl
theorem QA:(Tryz.prog.info? 54).bind (·.zero)=some (.agg #[.int .i64 0,.int .i64 0,.int .i64 0,.int .i64 0,.string ⟨#[]⟩,.string ⟨#[]⟩,.int .i64 0,.int .i64 0,.int .i64 0,.bool false,.int .i64 0,.int .i64 0]):=by kernel_rfl
theorem Kf:(Tryz.prog.info? 58).bind (·.zero)=some (.agg #[.int .i64 0,.int .i64 0,.int .i64 0,.string ⟨#[]⟩,.string ⟨#[]⟩,.int .i64 0,.int .i64 0,.int .i64 0,.int .i64 0,.bool false,.int .i64 0,.bool false]):=by kernel_rfl
theorem YM:(Tryz.prog.info? 66).bind (·.zero)=some (.agg #[.int .i64 0,.int .i64 0,.int .i64 0,.int .i64 0]):=by kernel_rfl
theorem YN:(Tryz.prog.info? 76).bind (·.zero)=some (.agg #[.int .i64 0,.int .i64 0,.int .i64 0,.int .i64 0]):=by kernel_rfl
theorem YO:(Tryz.prog.info? 79).bind (·.zero)=some (.agg #[.int .i64 0,.int .i64 0,.int .i64 0,.int .i64 0,.string ⟨#[]⟩,.string ⟨#[]⟩,.int .i64 0]):=by kernel_rfl
theorem QB:(Tryz.prog.info? 98).bind (·.zero)=some (.agg #[.int .i64 0,.int .i64 0,.int .i64 0,.string ⟨#[]⟩,.slice none 0 0,.slice none 0 0,.bool false,.bool false]):=by kernel_rfl
theorem VS:(Tryz.prog.info? 106).bind (·.zero)=some (.agg #[.int .i64 0,.int .i64 0,.int .i64 0]):=by kernel_rfl
theorem VT:(Tryz.prog.info? 114).bind (·.zero)=some (.agg #[.int .i64 0,.int .i64 0]):=by kernel_rfl
theorem EC:(Tryz.prog.info? 123).bind (·.zero)=some (.agg #[.slice none 0 0,.slice none 0 0,.slice none 0 0]):=by kernel_rfl
theorem VU:(Tryz.prog.info? 147).bind (·.zero)=some (.agg #[.slice none 0 0,.slice none 0 0]):=by kernel_rfl
theorem VV:(Tryz.prog.info? 164).bind (·.zero)=some (.agg #[.int .i64 0,.int .i64 0]):=by kernel_rfl
theorem VW:(Tryz.prog.info? 171).bind (·.zero)=some (.agg #[.bool false,.bool false,.bool false,.bool false,.bool false]):=by kernel_rfl
theorem Me:(Tryz.prog.info? 175).bind (·.zero)=some (.agg #[.int .i64 0,.int .i64 0,.int .i64 0,.bool false,.bool false,.slice none 0 0]):=by kernel_rfl
theorem VX:(Tryz.prog.info? 189).bind (·.zero)=some (.agg #[.int .i64 0,.int .i64 0]):=by kernel_rfl
theorem VY:(Tryz.prog.info? 194).bind (·.zero)=some (.agg #[.int .i64 0,.int .i64 0,.int .i64 0,.string ⟨#[]⟩,.string ⟨#[]⟩,.int .i64 0,.int .i64 0,.int .i64 0,.int .i64 0,.bool false,.int .i64 0,.bool false,.slice none 0 0]):=by kernel_rfl
theorem VZ:(Tryz.prog.info? 236).bind (·.zero)=some (.agg #[.int .i64 0,.int .i64 0,.int .i64 0,.string ⟨#[]⟩,.string ⟨#[]⟩,.int .i64 0,.bool false]):=by kernel_rfl
theorem V0:(Tryz.prog.info? 261).bind (·.zero)=some (.pointer none):=by kernel_rfl
theorem TZ:gR Tryz.prog 34=some [.i .i64,.i .i64,.i .i64,.i .i64,.i .i64,.i .i64]:=by kernel_rfl
theorem YP:gR Tryz.prog 54=some [.i .i64,.i .i64,.i .i64,.i .i64,.s,.s,.i .i64,.i .i64,.i .i64,.b,.i .i64,.i .i64]:=by kernel_rfl
theorem T0:gR Tryz.prog 58=some [.i .i64,.i .i64,.i .i64,.s,.s,.i .i64,.i .i64,.i .i64,.i .i64,.b,.i .i64,.b]:=by kernel_rfl
theorem YQ:gR Tryz.prog 66=some [.i .i64,.i .i64,.i .i64,.i .i64]:=by kernel_rfl
theorem QC:gR Tryz.prog 76=some [.i .i64,.i .i64,.i .i64,.i .i64]:=by kernel_rfl
theorem V3:gR Tryz.prog 106=some [.i .i64,.i .i64,.i .i64]:=by kernel_rfl
theorem V4:gR Tryz.prog 114=some [.i .i64,.i .i64]:=by kernel_rfl
theorem V5:gR Tryz.prog 164=some [.i .i64,.i .i64]:=by kernel_rfl
theorem QF:gR Tryz.prog 189=some [.i .i64,.i .i64]:=by kernel_rfl
theorem V6:Na Tryz.prog 236=some [.i .i64,.i .i64,.i .i64,.s,.s,.i .i64,.b]:=by kernel_rfl
def ens:List Nat:=[17,163,189,150,151,114,115,116,123,124,72,125,86,48,85,149,148,110,113,164,165,166,126,70,127,130,83,177,134,186,71,144,40,187,143,139,180,141,181,182,132,133,131,76,77,78,79,80,81,84,227,228,223,224,213,214,222,215,216,203,202,183,184,185,135,136,87,88,89,46,47,49,43,111,65,67,66,68,112,69,39,42,73,37,36,35,38,41,13,30,18,23,12,103,64,108,109,63,145,33,147,107,105,106,104,61,60,59,58,34,62,44,31,32,14,9,10,11,118,156,157,158,100,121,99,159,97,160,117,119,120,161,162,122,74,75,45,137,138,90,91,94,92,93,98,96,54,55,24,50,51,25,95,53,22,52,16,15,20,19,21,26,140,142,101,56,188,146,102,57,29,28,27]
theorem en (i:Nat) {f:Nat} (h:ens[i]?=some f):Go.Abs.Enters Tryz.prog f:=Go.Abs.enters_of (by kernel_rfl) h
def Ib:FT:=⟨[3,4,9,22,23,24,27,28,36,45,96,108,119,120,121,234,249,261,272,273],[(26,3),(30,6),(34,6),(38,4),(40,2),(54,12),(58,12),(66,4),(76,4),(79,7),(98,8),(106,3),(114,2),(123,3),(147,2),(164,2),(171,5),(175,6),(189,2),(192,12),(194,13),(236,7)],[(3,1),(4,1),(9,1),(22,1),(23,1),(24,1),(26,3),(27,1),(28,1),(30,6),(34,6),(40,2),(54,12),(58,12),(66,4),(76,4),(79,7),(96,1),(98,8),(106,3),(114,2),(119,1),(120,1),(121,1),(123,3),(147,2),(164,2),(171,5),(175,6),(189,2),(194,13),(236,7),(261,1)],[(26,[(0,0),(1,1),(2,2)]),(30,[(0,0),(1,3),(2,4),(3,5)]),(34,[(0,0),(1,1),(2,2),(3,3),(4,4),(5,5)]),(38,[(0,0),(1,1),(2,2),(3,3)]),(40,[(0,0),(1,1)]),(42,[(0,0),(1,4)]),(54,[(0,0),(1,1),(2,2),(3,3),(4,4),(5,5),(6,6),(7,7),(8,8),(9,9),(10,10),(11,11)]),(58,[(0,0),(1,1),(2,2),(3,3),(4,4),(5,5),(6,6),(7,7),(8,8),(9,9),(10,10),(11,11)]),(66,[(2,2),(3,3)]),(76,[(0,0),(1,1),(2,2),(3,3)]),(79,[(0,0),(1,1),(2,2),(3,3),(4,4),(5,5),(6,6)]),(89,[(0,0)]),(98,[(0,0),(1,1),(3,3),(4,4),(5,5),(6,6),(7,7)]),(106,[(0,0),(1,1),(2,2)]),(123,[(0,0),(1,1),(2,2)]),(147,[(0,0),(1,1)]),(175,[(0,0),(3,3),(4,4),(5,5)]),(192,[(0,0)]),(194,[(0,0),(1,12)]),(275,[(0,0),(1,1),(2,2),(3,3),(4,4),(5,5),(6,6)])],[(26,[aY,aY,aY]),(28,[aY]),(30,[aY,aY,aY,aY,aY,aY]),(34,[cI 0,cI 0,cI 0,cI 0,cI 0,cI 0]),(40,[cI 0,cI 0]),(54,[cI 0,cI 0,cI 0,cI 0,cS ([]:List UInt8),cS ([]:List UInt8),cI 0,cI 0,cI 0,cB false,cI 0,cI 0]),(58,[cI 0,cI 0,cI 0,cS ([]:List UInt8),cS ([]:List UInt8),cI 0,cI 0,cI 0,cI 0,cB false,cI 0,cB false]),(66,[cI 0,cI 0,cI 0,cI 0]),(76,[cI 0,cI 0,cI 0,cI 0]),(79,[cI 0,cI 0,cI 0,cI 0,cS ([]:List UInt8),cS ([]:List UInt8),cI 0]),(98,[cI 0,cI 0,cI 0,cS ([]:List UInt8),aY,aY,cB false,cB false]),(106,[cI 0,cI 0,cI 0]),(114,[cI 0,cI 0]),(123,[aY,aY,aY]),(147,[aY,aY]),(164,[cI 0,cI 0]),(171,[cB false,cB false,cB false,cB false,cB false]),(175,[cI 0,cI 0,cI 0,cB false,cB false,aY]),(189,[cI 0,cI 0]),(194,[cI 0,cI 0,cI 0,cS ([]:List UInt8),cS ([]:List UInt8),cI 0,cI 0,cI 0,cI 0,cB false,cI 0,cB false,aY]),(236,[cI 0,cI 0,cI 0,cS ([]:List UInt8),cS ([]:List UInt8),cI 0,cB false]),(261,[.ex (.pointer none)])]⟩
theorem ED:Ib.Ok Tryz.prog:=FT.Yo (by kernel_rfl) ⟨⟨_,YI,rfl⟩,⟨_,YJ,rfl⟩,⟨_,Nr,rfl⟩,⟨_,YK,rfl⟩,⟨_,YL,rfl⟩,⟨_,QA,rfl⟩,⟨_,Kf,rfl⟩,⟨_,YM,rfl⟩,⟨_,YN,rfl⟩,⟨_,YO,rfl⟩,⟨_,QB,rfl⟩,⟨_,VS,rfl⟩,⟨_,VT,rfl⟩,⟨_,EC,rfl⟩,⟨_,VU,rfl⟩,⟨_,VV,rfl⟩,⟨_,VW,rfl⟩,⟨_,Me,rfl⟩,⟨_,VX,rfl⟩,⟨_,VY,rfl⟩,⟨_,VZ,rfl⟩,⟨_,V0,rfl⟩,trivial⟩
theorem wu:J6 Tryz.prog 22 106 3:=.of Tryz.underlying22 qu rfl rfl
theorem fp:J6 Tryz.prog 23 58 12:=.of Tryz.underlying23 gG rfl rfl
theorem BI:J6 Tryz.prog 24 76 4:=.of Tryz.underlying24 Ez rfl rfl
theorem B5:J6 Tryz.prog 27 54 12:=.of Tryz.underlying27 CU rfl rfl
theorem Ic:J6 Tryz.prog 28 66 4:=.of Tryz.underlying28 CV rfl rfl
theorem Mf:J6 Tryz.prog 36 79 7:=.of Tryz.underlying36 TV rfl rfl
theorem Dg:J6 Tryz.prog 96 9 1:=.of Tryz.underlying96 ON rfl rfl
theorem Ie:J6 Tryz.prog 119 175 6:=.of Tryz.underlying119 EB rfl rfl
theorem tg:J6 Tryz.prog 120 98 8:=.of Tryz.underlying120 CW rfl rfl
theorem r7:J6 Tryz.prog 121 3 1:=.of Tryz.underlying121 AW rfl rfl
theorem SI:J6 Tryz.prog 165 23 1:=.of Tryz.underlying165 Qn rfl rfl
end Go.Proofs.YtimkfiaffohhkaaGreatDoor
namespace Go.Abs
open Go.Proofs Go.Proofs.YtimkfiaffohhkaaGreatDoor
section
variable {f:Ctx} {N p p':Nat} {S:Start} {Q:EV->St->Prop} {k k':List Item} {l o l' o':List Oper} {env env':Env} {st st':St} {ps:List Prop}
theorem bq.A (n:Nat) (hs:List Hint) (h:Nd Tryz.prog S.base Ib N n (.run k) env st hs=some ⟨.run k',env',st',ps⟩) (hp:r6 ps) (hk:bq Tryz.prog f N S Q k' env' st'):bq Tryz.prog f N S Q k env st:=sX ED nP h hp hk
theorem bq.E (n:Nat) (h:Nd Tryz.prog S.base Ib N n (.run k) env st []=some ⟨.run k',env',st',[]⟩) (hk:bq Tryz.prog f N S Q k' env' st'):bq Tryz.prog f N S Q k env st:=.A n [] h trivial hk
theorem bq.AH (n:Nat) (hs:List Hint) (h:SF Tryz.prog S.base Ib N n (.run k) env st hs=some ⟨.run k',env',st',ps⟩) (hp:r6 ps) (hk:bq Tryz.prog f N S Q k' env' st'):bq Tryz.prog f N S Q k env st:=B3 ED nP h hp hk
theorem bq.EH (n:Nat) (h:SF Tryz.prog S.base Ib N n (.run k) env st []=some ⟨.run k',env',st',[]⟩) (hk:bq Tryz.prog f N S Q k' env' st'):bq Tryz.prog f N S Q k env st:=.AH n [] h trivial hk
theorem bq.B (n:Nat) (hs:List Hint) (h:Nd Tryz.prog S.base Ib N n (.run k) env st hs=some ⟨.ops l' o' k',env',st',ps⟩) (hp:r6 ps) (hk:cd Tryz.prog f N S Q l' o' k' env' st'):bq Tryz.prog f N S Q k env st:=sX ED nP h hp hk
theorem bq.F (n:Nat) (h:Nd Tryz.prog S.base Ib N n (.run k) env st []=some ⟨.ops l' o' k',env',st',[]⟩) (hk:cd Tryz.prog f N S Q l' o' k' env' st'):bq Tryz.prog f N S Q k env st:=.B n [] h trivial hk
theorem bq.BH (n:Nat) (hs:List Hint) (h:SF Tryz.prog S.base Ib N n (.run k) env st hs=some ⟨.ops l' o' k',env',st',ps⟩) (hp:r6 ps) (hk:cd Tryz.prog f N S Q l' o' k' env' st'):bq Tryz.prog f N S Q k env st:=B3 ED nP h hp hk
theorem bq.FH (n:Nat) (h:SF Tryz.prog S.base Ib N n (.run k) env st []=some ⟨.ops l' o' k',env',st',[]⟩) (hk:cd Tryz.prog f N S Q l' o' k' env' st'):bq Tryz.prog f N S Q k env st:=.BH n [] h trivial hk
theorem bq.C (n:Nat) (hs:List Hint) (h:Nd Tryz.prog S.base Ib N n (.run k) env st hs=some ⟨.draw l' p' o' k',env',st',ps⟩) (hp:r6 ps) (hk:uG Tryz.prog f N S Q l' p' o' k' env' st'):bq Tryz.prog f N S Q k env st:=sX ED nP h hp hk
theorem cd.A (n:Nat) (hs:List Hint) (h:Nd Tryz.prog S.base Ib N n (.ops l o k) env st hs=some ⟨.run k',env',st',ps⟩) (hp:r6 ps) (hk:bq Tryz.prog f N S Q k' env' st'):cd Tryz.prog f N S Q l o k env st:=sX ED nP h hp hk
theorem cd.E (n:Nat) (h:Nd Tryz.prog S.base Ib N n (.ops l o k) env st []=some ⟨.run k',env',st',[]⟩) (hk:bq Tryz.prog f N S Q k' env' st'):cd Tryz.prog f N S Q l o k env st:=.A n [] h trivial hk
theorem cd.AH (n:Nat) (hs:List Hint) (h:SF Tryz.prog S.base Ib N n (.ops l o k) env st hs=some ⟨.run k',env',st',ps⟩) (hp:r6 ps) (hk:bq Tryz.prog f N S Q k' env' st'):cd Tryz.prog f N S Q l o k env st:=B3 ED nP h hp hk
theorem cd.EH (n:Nat) (h:SF Tryz.prog S.base Ib N n (.ops l o k) env st []=some ⟨.run k',env',st',[]⟩) (hk:bq Tryz.prog f N S Q k' env' st'):cd Tryz.prog f N S Q l o k env st:=.AH n [] h trivial hk
theorem cd.B (n:Nat) (hs:List Hint) (h:Nd Tryz.prog S.base Ib N n (.ops l o k) env st hs=some ⟨.ops l' o' k',env',st',ps⟩) (hp:r6 ps) (hk:cd Tryz.prog f N S Q l' o' k' env' st'):cd Tryz.prog f N S Q l o k env st:=sX ED nP h hp hk
theorem cd.F (n:Nat) (h:Nd Tryz.prog S.base Ib N n (.ops l o k) env st []=some ⟨.ops l' o' k',env',st',[]⟩) (hk:cd Tryz.prog f N S Q l' o' k' env' st'):cd Tryz.prog f N S Q l o k env st:=.B n [] h trivial hk
theorem uG.A (n:Nat) (hs:List Hint) (h:Nd Tryz.prog S.base Ib N n (.draw l p o k) env st hs=some ⟨.run k',env',st',ps⟩) (hp:r6 ps) (hk:bq Tryz.prog f N S Q k' env' st'):uG Tryz.prog f N S Q l p o k env st:=sX ED nP h hp hk
theorem uG.E (n:Nat) (h:Nd Tryz.prog S.base Ib N n (.draw l p o k) env st []=some ⟨.run k',env',st',[]⟩) (hk:bq Tryz.prog f N S Q k' env' st'):uG Tryz.prog f N S Q l p o k env st:=.A n [] h trivial hk
theorem bq.R {f:FuncId} {fn:Func} {xs:List ResultVar} {es:List EV} (hf:Tryz.prog.funcs[f]?=some fn) (hr:fn.results=xs.toArray) (h:L4 Ib env st xs=some es) (hQ:Q (Eh es) st):bq Tryz.prog (.of f) N S Q (.code .ret::k) env st:=.rc ED hf hr h hQ
end
end Go.Abs
namespace Go.Proofs.YtimkfiaffohhkaaGreatDoor
end Go.Proofs.YtimkfiaffohhkaaGreatDoor
