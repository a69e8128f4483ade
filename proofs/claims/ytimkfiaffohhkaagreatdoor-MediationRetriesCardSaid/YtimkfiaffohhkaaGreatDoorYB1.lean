/- Our own texts of this seat. -/
import Derived.Test.YtimkfiaffohhkaaGreatDoorYB0
import Derived.Laws.CopyRow
import Derived.ChangeKeysEq
import Derived.Laws.MakeOwn
import Derived.Lib.AppendZerosOnto
import Derived.WalkKit
import Derived.Lib.Walk
import Derived.Shelf.RegionOpenPlain
import Derived.Lib.Overlaps
import Derived.Lib.SliceRun
import Derived.Lib.JoinLaws
import Derived.RangeFuncLeaves
import Derived.RangeFuncRecord
import Derived.Test.YtimkfiaffohhkaaGreatDoorRows
set_option linter.unusedSimpArgs false
set_option linter.unusedVariables false
set_option linter.unusedSectionVars false
set_option maxRecDepth 100000
set_option maxHeartbeats 1000000
namespace Go.Abs
open Go.RowKit
section rules
variable {P:Program} {f:Ctx} {N:Nat} {S:Start} {Q:EV->St->Prop} {k:List Item} {todo:List Item} {base:Nat} {env:Env} {st:St} {ops rest:List Oper}
 {d:Option Tmp} {ty:TypeId} {pos:String} {after:Array Edge} {gd:Option (Nat×Bool)} {t t2 e:TypeId} {x y z:Operand}
section sl
variable {α:Type} {sz:Nat} {row:α->List D} {l:List α} {ev:EV} {inf:TypeInfo} {tk n:Nat}
theorem H0 {l':List α} {zv v u:Value} {d2:TypeDesc} {g:bY} {w:World} {news:List Value} (ht:P.underlying t=some (.slice e)) (B9:P.underlying t2=some d2) (F9:d2=.string∨∃ e2,d2=.slice e2)
  (hi:P.info? e=some inf) (hz:inf.zero=some zv) (eO:inf.size=sz) (p9:zv.cells.size=sz) (hb:inf.bytes<=100000) (hinv:Inv g base w st) (hv:v=g.tk tk) (e9:st.au[tk]?=some ⟨e,sz,n,some (l.map row)⟩)
  (hn:l.length+l'.length<=1000000000) (tD:Ad P g.lim w sz u (l'.map row) news) :
  ∃ v' g' w',(Builtin.append_ #[t,t2] ty #[v,u]).run P w=.ok v' w'/\bM g' w' (st.bD tk ⟨e,sz,(l++l').length,some ((l++l').map row)⟩) (.vc tk (l++l').length) v' /\
   Inv g' base w' (st.bD tk ⟨e,sz,(l++l').length,some ((l++l').map row)⟩)/\Step base g w st g' w' (st.bD tk ⟨e,sz,(l++l').length,some ((l++l').map row)⟩):=by
 obtain ⟨GY,xs,j5,Aa,RC⟩:=HZ hinv e9 hv;have Uz:n=l.length:=by have:=RC.len;simpa using this.symm
 have hm:(l'.map row).length=l'.length:=by simp
 obtain ⟨v',w',hC,j1,RO,hc⟩:=kR (P:=P) (ty:=ty) w ht B9 F9 hi hz eO p9 j5 tD.src (by simp only [maxLen];rw [hm];omega) (by rw [hm,Uz];exact Ch hn hb) hinv.base;rw [hm] at j1 RO;have e1:(l++l').length=n+l'.length:=by rw [zai,Uz]
 rw [e1];rw [GY] at hc RO;have jv:dt g.lim w sz (n+l'.length) ((l++l').map row) (xs++news):=by
  refine ⟨by simp [Uz],λr hr=>?_,λj c u Dc hu=>?_⟩
  ·rw [zdm] at hr;rcases zbi.1 hr with h|h
   ·exact RC.row r h
   ·exact tD.rows r h
  ·rw [zdm,zeh] at Dc;have DL:=iQ RC.row;have wu:=j5.1;rw [RC.len] at DL;by_cases hj:j<xs.length
   ·rw [zak hj] at hu;rw [zak (by omega)] at Dc;exact RC.rep j c u Dc hu
   ·rw [zat (by omega)] at hu;rw [zat (by omega)] at Dc;have e2:((l.map row).flatten).length=xs.length:=by omega
    rw [e2] at Dc;exact tD.rep _ u c hu Dc
 obtain ⟨g',q1,q2,q3,q4⟩:=hinv.NW (x':=⟨e,sz,n+l'.length,some ((l++l').map row)⟩) e9 j1 hc (λhh=>by cases hh) (λrows _ bw _=>⟨rfl,Nat.le_add_right _ _,λe=>RO (by simp only at e;omega)⟩) (λrows hh=>by cases hh;exact jv);refine ⟨v',g',w',hC,?_,q3,q4⟩;have hlen:tk<st.au.length:=(zad.1 e9).1;obtain ⟨⟨A,c,hv⟩,_⟩:=iS j1;refine .vc _ _ _ (by simpa [St.bD] using hlen) ⟨A,_,c,hv⟩ λy rows hy ho=>?_
 have:y=⟨e,sz,n+l'.length,some ((l++l').map row)⟩:=by
  have:(⟨e,sz,n+l'.length,some ((l++l').map row)⟩:gK)=y:=by simpa [St.bD,zbj,hlen] using hy
  exact this.symm
 subst this;exact ⟨zam _,λ_=>.inl q1.symm⟩
theorem Dk {l':List α} {zv v u:Value} {d2:TypeDesc} {g:bY} {w:World} {news:List Value} (ht:P.underlying t=some (.slice e)) (B9:P.underlying t2=some d2) (F9:d2=.string∨∃ e2,d2=.slice e2)
  (hi:P.info? e=some inf) (hz:inf.zero=some zv) (eO:inf.size=sz) (p9:zv.cells.size=sz) (hb:inf.bytes<=100000) (hinv:Inv g base w st) (hv:bM g w st (.vc tk n) v) (e9:st.au[tk]?=some ⟨e,sz,n,some (l.map row)⟩)
  (hn:l.length+l'.length<=1000000000) (tD:Ad P g.lim w sz u (l'.map row) news) :
  ∃ v' g' w',(Builtin.append_ #[t,t2] ty #[v,u]).run P w=.ok v' w'/\bM g' w' (st.bD tk ⟨e,sz,(l++l').length,some ((l++l').map row)⟩) (.vc tk (l++l').length) v' /\
   Inv g' base w' (st.bD tk ⟨e,sz,(l++l').length,some ((l++l').map row)⟩)/\Step base g w st g' w' (st.bD tk ⟨e,sz,(l++l').length,some ((l++l').map row)⟩):=by
 rcases sI hinv e9 hv with GY|⟨n0,r0,A,hA⟩
 ·exact H0 ht B9 F9 hi hz eO p9 hb hinv GY e9 hn tD
 ·subst n0;have hl:l=[]:=by simpa using r0
  subst hl;have hlen:tk<st.au.length:=(zad.1 e9).1;have hm:(l'.map row).length=l'.length:=by simp
  obtain ⟨q1,q2⟩:=wB (P:=P) (ty:=ty) ht B9 F9 hi hz eO tD.src (by simp at hn ⊢;omega) (by rw [hm];exact Ch (by simpa using hn) hb) A;by_cases h0:l'.length=0
  ·have Rv:l'=[]:=zaw h0;subst Rv;have lY:st.bD tk ⟨e,sz,([]++[]:List α).length,some (([]++[]:List α).map row)⟩=st:=by
    have h3:st.au[tk]=⟨e,sz,0,some (([]:List α).map row)⟩:=(zad.1 e9).2;unfold St.bD;show (⟨st.aO,st.au.set tk ⟨e,sz,0,some (([]:List α).map row)⟩⟩:St)=st;rw [←h3,List.set_getElem_self]
   rw [lY];exact ⟨v,g,w,by rw [hA];exact q1 rfl,PO hlen e9 ⟨A,hA⟩,hinv,.refl _ _ _ _⟩
  ·obtain ⟨v',w',hC,j1,_,hc⟩:=kR (P:=P) (ty:=ty) w ht B9 F9 hi hz eO p9 (World.ownsRow_nil w base e sz) tD.src (by simp only [maxLen];rw [hm];simp at hn;omega) (by rw [hm];exact Ch (by simpa using hn) hb) hinv.base;rw [hm] at j1;have sH:v'.ownBlock=some w.heap.size/\Below w.heap.size w w':=by
    rcases hc with ⟨h1,_⟩|h
    ·exfalso;rcases j1.2 with ⟨_,h2⟩|⟨gb,cap,cur,h2,_⟩
     ·exact h0 (by omega)
     ·rw [h2] at h1;cases h1
    ·exact h
   have e1:([]++l':List α).length=0+l'.length:=by simp
   rw [e1];have jv:dt g.lim w sz (0+l'.length) (([]++l':List α).map row) ([]++news):=by
    refine ⟨by simp,λr hr=>tD.rows r (by simpa using hr),λj c u Dc hu=>?_⟩;exact tD.rep j u c (by simpa using hu) (by simpa using Dc)
   obtain ⟨g',q1',q2',q3,q4⟩:=hinv.NW (x':=⟨e,sz,0+l'.length,some (([]++l':List α).map row)⟩) e9 j1 (.inr sH) (λhh=>by cases hh) (λrows _ bw _=>⟨rfl,zfg _,λe=>absurd e (by simp only;omega)⟩) (λrows hh=>by cases hh;exact jv);refine ⟨v',g',w',by rw [hA,q2 (by rw [hm];exact h0)];exact hC,?_,q3,q4⟩;obtain ⟨⟨A',c,ML⟩,_⟩:=iS j1;refine .vc _ _ _ (by simpa [St.bD] using hlen) ⟨A',_,c,ML⟩ λy rows hy ho=>?_
   have:y=⟨e,sz,0+l'.length,some (([]++l':List α).map row)⟩:=by
    have:(⟨e,sz,0+l'.length,some (([]++l':List α).map row)⟩:gK)=y:=by simpa [St.bD,zbj,hlen] using hy
    exact this.symm
   subst this;exact ⟨zam _,λ_=>.inl q1'.symm⟩
theorem H3 {l':List α} {zv:Value} {d2:TypeDesc} (ht:P.underlying t=some (.slice e)) (B9:P.underlying t2=some d2) (F9:d2=.string∨∃ e2,d2=.slice e2)
  (hi:P.info? e=some inf) (hz:inf.zero=some zv) (eO:inf.size=sz) (p9:zv.cells.size=sz) (hb:inf.bytes<=100000) (hx:cY env x=some (.vc tk n)) (e9:st.au[tk]?=some ⟨e,sz,n,some (l.map row)⟩)
  (hn:l.length+l'.length<=1000000000)
  (Gb:∀ (g:bY) (w:World) (tmps:Array Value),Inv g base w st->eh g w st env tmps->∃ news,Ad P g.lim w sz (Act.eval ⟨tmps,[]⟩ y) (l'.map row) news) :
  xG P base env st ⟨d,.call ⟨.builtin .append,#[x,y],#[t,t2]⟩,ty,pos,after,gd⟩ (.vc tk (l++l').length) (st.bD tk ⟨e,sz,(l++l').length,some ((l++l').map row)⟩):=by
 intro g w tmps hinv he;obtain ⟨news,tD⟩:=Gb g w tmps hinv he;obtain ⟨v',g',w',hC,h1,h2,h3⟩:=Dk (ty:=ty) ht B9 F9 hi hz eO p9 hb hinv (aN he hx) e9 hn tD;exact ⟨v',g',w',by simp [execOp,resolve,invoke,builtin,hC],h1,h2,h3⟩
theorem fC {l':List α} {zv:Value} {w:EV} (ht:P.underlying t=some (.slice e)) (hi:P.info? e=some inf) (hz:inf.zero=some zv) (eO:inf.size=sz) (p9:zv.cells.size=sz) (hb:inf.bytes<=100000)
  (hx:cY env x=some (.vc tk n)) (e9:st.au[tk]?=some ⟨e,sz,n,some (l.map row)⟩) (hy:cY env y=some w) (hs:uy w=some (sz,l'.map row)) (hn:l.length+l'.length<=1000000000) :
  xG P base env st ⟨d,.call ⟨.builtin .append,#[x,y],#[t,t]⟩,ty,pos,after,gd⟩ (.vc tk (l++l').length) (st.bD tk ⟨e,sz,(l++l').length,some ((l++l').map row)⟩) :=
 H3 ht ht (.inr ⟨e,rfl⟩) hi hz eO p9 hb hx e9 hn λg w tmps _ he=>tg (rp hs (aN he hy))
theorem vL (row:α->List D) (ht:P.underlying t=some (.slice e)) (hi:P.info? e=some inf) (fB:inf.size=sz) :
  xG P base env st ⟨d,.buildSlice t 0 #[],ty,pos,after,gd⟩ (.vc st.au.length ([]:List α).length) (st.tok ⟨e,sz,([]:List α).length,some (([]:List α).map row)⟩):=by
 intro g w tmps hinv he;obtain ⟨g',h1,_,_,h2,h3⟩:=hinv.sV ⟨e,sz,0,some []⟩ (v:=.slice (some ⟨w.heap.size,0,none⟩) 0 0) (xs:=[]) ⟨by simp,.inr ⟨w.heap.size,0,#[],rfl,hinv.base,heap_alloc_new w _,zam _,by simp [maxLen],by simp,by simp⟩⟩
  (.inr ⟨rfl,(Below.refl _ w).alloc (zam _) _⟩) (λrows hh=>by cases hh;exact ⟨rfl,by simp,by simp⟩)
 refine ⟨.slice (some ⟨w.heap.size,0,none⟩) 0 0,g',_,?_,.vc _ _ _ (by simp [St.tok]) ⟨_,_,_,rfl⟩ λy rows hy ho=>?_,h2,h3⟩
 ·simp [execOp,Instr.buildSlice,run_underlying ht,ov hi,newRow,Instr.fill];rw [show Array.map (λ_=>(default:Value)) (Array.range 0)=#[] from by simp [Array.range_zero']]
 ·have:y=⟨e,sz,0,some []⟩:=by simpa [St.tok,zeo] using hy
  subst this;exact ⟨zam _,λ_=>.inl h1.symm⟩
end sl
end rules
section norm
variable {P:Program} {f:Ctx} {N:Nat} {S:Start} {Q:EV->St->Prop} {k:List Item} {todo:List Item} {env:Env} {st:St} {ops rest:List Oper}
theorem bp.wJ {α:Type} {l:List α} {row:α->List D} {i tk e sz n:Nat} (hl:lookup i env=some (.vc tk n)) (e9:st.au[tk]?=some ⟨e,sz,n,some (l.map row)⟩)
  (h:bp P f N S Q todo ((i,.cE sz (l.map row) tk)::env) (st.bD tk ⟨e,sz,l.length,none⟩)):bp P f N S Q todo env st :=
 .UB e9 λhn=>.freeze hl e9 (by rw [hn];exact h)
theorem cm.wJ {α:Type} {l:List α} {row:α->List D} {i tk e sz n:Nat} (hl:lookup i env=some (.vc tk n)) (e9:st.au[tk]?=some ⟨e,sz,n,some (l.map row)⟩)
  (h:cm P f N S Q ops rest k ((i,.cE sz (l.map row) tk)::env) (st.bD tk ⟨e,sz,l.length,none⟩)):cm P f N S Q ops rest k env st :=
 λj hj=>.wJ hl e9 (h j hj)
theorem bp.ER {α:Type} {l:List α} {row:α->List D} {tk e sz n:Nat} (E:Nat->Env) (T:Nat->St) (e9:st.au[tk]?=some ⟨e,sz,n,some (l.map row)⟩) (hE:dp env (E n)) (hT:st=T n)
  (h:bp P f N S Q todo (E l.length) (T l.length)):bp P f N S Q todo env st :=
 .UB e9 λhn=>.sub hE (by rw [hT,hn];exact h)
end norm
theorem eG.N9 {es xs:List EV} (h:wI es xs):eG (.dN es) (.dN xs):=by
 intro g w st v hv;obtain ⟨h1,h2⟩:=h.get;cases hv with
 | dN _ vs hs hc =>
  refine .dN _ vs (by rw [hs,h1]) λi d u hd hu=>?_
  obtain ⟨e,he,hle⟩:=h2 i d hd;exact hle _ _ _ _ (hc i e u he hu)
theorem bg {n m:Nat} {κ α:Type} {ke:κ->Value} {val:α->D} {l:List (κ×α)}:ki n m (.map (jO ke val l))=true:=by
 unfold ki jO;rw [zbb];intro p hp;obtain ⟨q,_,rfl⟩:=zdh.1 hp;rfl
theorem dQ {ρ τ:Nat->Nat} {κ α:Type} {ke:κ->Value} {val:α->D} {l:List (κ×α)}:dL.ren ρ τ (.map (jO ke val l))=.map (jO ke val l):=by
 simp [dL.ren,jO,EV.ren]
theorem dR {ρ τ:Nat->Nat} {T:TypeId} {α:Type} {l:List α} {c1:α->D}:dL.ren ρ τ (.row T (l.map λb=>EV.d (c1 b)))=.row T (l.map λb=>EV.d (c1 b)):=by
 have h:∀ l:List α,EV.ren.HV ρ τ (l.map λb=>EV.d (c1 b))=l.map λb=>EV.d (c1 b):=by
  intro l
  induction l with
  | nil=>rfl
  | cons x l ih=>rw [zap,EV.ren.HV,ih];rfl
 rw [dL.ren,h]
section drawn
variable {P:Program} {f:Ctx} {N:Nat} {S:Start} {Q:EV->St->Prop} {k:List Item}
def ZR (P:Program) (base:Nat) (l:List Oper) (env:Env) (st:St) (o:Oper) (x:EV) (st':St):Prop :=
 (st'=st/\uJ P l env st o x)∨(o.guard=none/\xG P base env st o x st')∨(o.guard=none/\x=.d .any/\HE P base env st o st')
theorem JM {l:List Oper} {p:Nat} {env:Env} {xs:List EV} (F:(Nat->Bool)->St->Prop) (hp:p<=l.length) (Tk:xs.length=p)
  (Xy:∀ i j t,i<p->j<p->i≠j->eH l i=some t->eH l j≠some t)
  (Tf:∀ (i:Nat) o,i<p->l[i]?=some o->∀ t∈Jz l o,∀ j,j<p->j≠i->eH l j=some t->(j<i/\((eo l []).getD i 0).testBit j=true)∨(i<j/\((eo l []).getD j 0).testBit i=true))
  (EF:∀ i,p<=i->i<l.length->∀ j,j<i->((eo l []).getD i 0).testBit j=true)
  (xi:∀ (i:Nat) o,l[i]?=some o->∀ e∈o.after,Region.binds .any e=true->e.on<i)
  (oT:∀ (L:Nat->Bool) (st:St) (i:Nat) (o:Oper),i<p->l[i]?=some o->L i=false->(∀ j,((eo l []).getD i 0).testBit j=true->L j=true)->(∀ a,L a=true->∀ b,((eo l []).getD a 0).testBit b=true->L b=true)->F L st ->
   fZ N o.dst=true/\∃ x st',xs[i]?=some x/\ZR P S.base l (lZ l o (gg env ((l.take p).take i) (xs.take i))) st o x st'/\F (λj=>j==i || L j) st')
  (Cc:∀ (L:Nat->Bool) (st:St),(∀ i,i<p->L i=true)->F L st->cm P f N S Q l (l.drop p) k (gg env (l.take p) xs) st) :
  ∀ (Gc fuel t:Nat) (listed:Array Bool) (g:bY) (w:World) (tmps:Array Value) (st:St),F (λi=>listed.getD i false) st->listed.size=l.length->wC l listed->(∀ i,p<=i->i<l.length->listed.getD i true=false) ->
   (((List.range p).filter λi=>!listed.getD i true).length=Gc)->Gc+(l.length-p)<=fuel->Inv g S.base w st->rl S g w st->tmps.size=N ->
   (∀ (s:Tmp),(∀ (j:Nat) x,j<p->listed.getD j false=true->eH l j=some s->xs[j]?=some x->∃ v,tmps[s]?=some v/\bM g w st x v) /\
    ((∀ j,j<p->listed.getD j false=true->eH l j≠some s)->∀ y,lookup s env=some y->∃ v,tmps[s]?=some v/\bM g w st y v)) ->
   eK P f (nt S Q) (.inRegion l.toArray (Region.linearise.go .any l.toArray fuel t listed [])::k) tmps w:=by
 have wu:xs.length=(l.take p).length:=by simp;omega
 have ZH:=Tk;intro Gc
 induction Gc with
 | zero =>
  intro fuel t listed g w tmps st hF hs r7 Py A6 JA hinv hh hN hJ;have oG:∀ i,i<p->listed.getD i true=true:=by
   intro i hi;have h0:=zaw A6;have hn:i ∉ (List.range p).filter λi=>!listed.getD i true:=by rw [h0];simp
   rw [zcj,List.mem_range] at hn;cases hb:listed.getD i true with
   | true=>rfl
   | false=>exact absurd ⟨hi,by simp [hb]⟩ hn
  have Xz:=yD EF xi fuel t p listed (zam _) hp (by omega) hs (λi hi=>by
   by_cases h:i<p
   ·rw [oG i h];simp [h]
   ·rw [Py i (by omega) hi];simp [h])
  rw [Xz];have AS:(l.drop p).length=l.length-p:=by simp
  rw [←AS];have MN:∀ i,i<p->listed.getD i false=true:=λi hi=>by
   have:=oG i hi;have cZ:i<listed.size:=by omega
   simpa [zaq,cZ] using this
  refine Cc _ st MN hF p (λj=>by rw [zaz]) g w tmps hinv hh (λs y hy=>?_) hN;rcases jN wu hy with ⟨j,o,h1,h2,h3⟩|⟨h1,h2⟩
  ·have hj:j<p:=by have:=(zad.1 h2).1;omega
   have ho:l[j]?=some o:=by rw [zaj] at h1;rw [zab hj] at h1;exact h1
   exact (hJ s).1 j y hj (MN j hj) (by simp [eH,ho,h3]) h2
  ·refine (hJ s).2 (λj hj _ hd=>?_) y h2;cases ho:l[j]? with
   | none=>simp [eH,ho] at hd
   | some o=>exact h1 j o (by rw [zaj,zab hj];exact ho) (by simpa [eH,ho] using hd)
 | succ Gc ih =>
  intro fuel t listed g w tmps st hF hs r7 Py A6 JA hinv hh hN hJ;obtain ⟨fuel,rfl⟩:∃ n,fuel=n+1:=⟨fuel-1,by omega⟩
  -- an operation of the beginning that has not come up
  have hex:∃ i,i<p/\listed.getD i true=false:=by
   have:(List.range p).filter (λi=>!listed.getD i true)≠[]:=λh=>by rw [h] at A6;simp at A6
   obtain ⟨i,hi⟩:=zew _ this;rw [zcj,List.mem_range] at hi;exact ⟨i,hi.1,by simpa using hi.2⟩
  have NY:∀ i,i<l.length->listed.getD i false=listed.getD i true:=λi hi=>by
   have cZ:i<listed.size:=by omega
   simp [zaq,cZ]
  have Uj:((List.range l.toArray.size).filter λi=>!listed.getD i true && ((l.toArray[i]?).map (·.after.all λe=>!Region.binds .any e || listed.getD e.on false)).getD false)=Region.ready .any l.toArray listed:=rfl
  -- the least such is ready
  have fh:Region.ready .any l.toArray listed≠[]:=by
   have Pz:∀ n i,i<=n->i<p->listed.getD i true=false->∃ i,i<p/\listed.getD i true=false/\∀ j,j<i->listed.getD j true=true:=by
    intro n
    induction n with
    | zero=>intro i hi NZ h;exact ⟨i,NZ,h,λj hj=>by omega⟩
    | succ n XA =>
     intro i hi NZ h;by_cases Ls:∃ j,j<i/\listed.getD j true=false
     ·obtain ⟨j,hj,Gd⟩:=Ls;exact XA j (by omega) (by omega) Gd
     ·refine ⟨i,NZ,h,λj hj=>?_⟩;cases hb:listed.getD j true with
      | true=>rfl
      | false=>exact absurd ⟨j,hj,hb⟩ Ls
   obtain ⟨i0,h0,h1⟩:=hex;obtain ⟨i,HM,JB,mT⟩:=Pz i0 i0 (zam _) h0 h1;have nQ:i<l.length:=by omega
   have:i∈Region.ready .any l.toArray listed:=by
    rw [mem_ready];refine ⟨JB,l[i],by simp [nQ],λe he hb=>?_⟩;have cZ:=xi i l[i] (zaf nQ) e he hb;rw [NY _ (by omega)];exact mT _ cZ
   intro Ga;rw [Ga] at this;cases this
  simp only [Region.linearise.go,Uj];have hlen:0<(Region.ready .any l.toArray listed).length:=zdt.2 fh;have xK:=zec t hlen;generalize hi:(Region.ready .any l.toArray listed)[t % (Region.ready .any l.toArray listed).length]=i;have Dg:(Region.ready .any l.toArray listed)[t % (Region.ready .any l.toArray listed).length]?=some i:=by rw [zaf xK,hi]
  rw [Dg];simp only [];rw [linearise_go_acc];have WO:i∈Region.ready .any l.toArray listed:=zbg Dg;obtain ⟨JB,o,ho,oG⟩:=mem_ready.1 WO;have ox:l[i]?=some o:=by simpa using ho
  have nQ:=(zad.1 ox).1;have tI:=wE r7 ox (λe he hb=>oG e he hb);have HM:i<p:=by
   rcases zfq i p with h|h
   ·exact h
   ·obtain ⟨i0,h0,h1⟩:=hex;have:=tI i0 (EF i h nQ i0 (by omega));rw [NY i0 (by omega),h1] at this;cases this
  obtain ⟨hd,x,st',hx,vJ,ZS⟩:=oT _ st i o HM ox (by show listed.getD i false=false;rw [NY i nQ,JB]) tI (λa ha b hb=>by
   have XB:=wD r7 l [] (by simp) (by simp);have XC:(eo l [])[a]?=some ((eo l []).getD a 0):=by
    cases hm:(eo l [])[a]? with
    | none=>rw [zbt,hm] at hb;simp at hb
    | some m=>rw [zbt,hm];rfl
   exact XB a _ XC ha b hb) hF
  have hFn:(λj=>(listed.setIfInBounds i true).getD j false)=λj=>j==i || listed.getD j false:=by
   funext j;by_cases lM:j=i
   ·subst lM;simp [zaq,hs,nQ]
   ·rw [getD_set_ne false (zcb lM)];simp [lM]
  have XB:=wD r7 l [] (by simp) (by simp)
  -- what the operation looks at
  have he:eh g w st (lZ l o (gg env ((l.take p).take i) (xs.take i))) tmps:=by
   intro s y hy;obtain ⟨Tg,Jd⟩:=tH hy;rcases jN (by simp [wu]) Jd with ⟨j,o',h1,h2,h3⟩|⟨h1,h2⟩
   ·have lM:j<i:=by have:=(zad.1 h2).1;simp at this;omega
    have A7:l[j]?=some o':=by
     rw [zaj,zab lM,zaj,zab (by omega)] at h1;exact h1
    have uK:eH l j=some s:=by simp [eH,A7,h3]
    rcases Tf i o HM ox s Tg j (by omega) (by omega) uK with ⟨_,hb⟩|⟨cZ,_⟩
    ·exact (hJ s).1 j y (by omega) (tI j hb) uK (by rw [zaj,zab lM] at h2;exact h2)
    ·omega
   ·refine (hJ s).2 (λj hj yE uK=>?_) y h2;by_cases lM:j=i
    ·subst lM;rw [NY j nQ,JB] at yE;cases yE
    ·rcases Tf i o HM ox s Tg j hj lM uK with ⟨cZ,_⟩|⟨cZ,hb⟩
     ·cases A7:l[j]? with
      | none=>simp [eH,A7] at uK
      | some o'=>exact h1 j o' (by rw [zaj,zab cZ,zaj,zab hj];exact A7) (by simpa [eH,A7] using uK)
     ·have Gd:j<l.length:=by omega
      have XC:(eo l [])[j]?=some ((eo l []).getD j 0):=by
       cases hm:(eo l [])[j]? with
       | none=>rw [zbt,hm] at hb;simp at hb
       | some m=>rw [zbt,hm];rfl
      have:=XB j _ XC yE i hb;rw [NY i nQ,JB] at this;cases this
  -- what remains behind it
  have JC:((List.range p).filter λj=>!(listed.setIfInBounds i true).getD j true).length=Gc:=by
   have xL:∀ j,(listed.setIfInBounds i true).getD j true=(listed.getD j true || decide (j=i)):=by
    intro j;by_cases lM:j=i
    ·subst lM;simp [zaq,hs,nQ]
    ·rw [getD_set_ne true (zcb lM)];simp [lM]
   have PA:((List.range p).filter λj=>!(listed.setIfInBounds i true).getD j true)=((List.range p).filter λj=>!listed.getD j true).filter λj=>!decide (j=i):=by
    rw [List.filter_filter];refine zea λj _=>?_
    rw [xL j];cases listed.getD j true <;> simp
   rw [PA];have Te:((List.range p).filter λj=>!listed.getD j true).Nodup:=List.nodup_range.filter _;have sW:i∈(List.range p).filter λj=>!listed.getD j true:=by rw [zcj,List.mem_range];exact ⟨HM,by simp [JB]⟩
   have EG:∀ (L:List Nat),L.Nodup->i∈L->(L.filter λj=>!decide (j=i)).length+1=L.length:=by
    intro L
    induction L with
    | nil=>intro _ h;cases h
    | cons a L XD =>
     intro hn hm;rw [zbs] at hn;by_cases ha:a=i
     ·subst ha;have:(L.filter λj=>!decide (j=a))=L:=by
       rw [zdg];intro b hb;have:b≠a:=λe=>hn.1 (e▸hb)
       simp [this]
      rw [zbo];simp [this]
     ·have zd:i∈L:=by
       rcases zav.1 hm with h|h
       ·exact absurd h.symm ha
       ·exact h
      rw [zbo];simp only [ha,zex,zcs,zcf,zag];rw [XD hn.2 zd]
   have:=EG _ Te sW;omega
  have PB:wC l (listed.setIfInBounds i true):=by
   intro j oj A7 yE e AR hb;by_cases lM:j=i
   ·subst lM;rw [ox] at A7;cases A7;exact getD_set_true (oG e AR hb)
   ·rw [getD_set_ne false (zcb lM)] at yE;exact getD_set_true (r7 j oj A7 yE e AR hb)
  have PC:∀ j,p<=j->j<l.length->(listed.setIfInBounds i true).getD j true=false:=λj hj Gd=>by rw [getD_set_ne true (by omega)];exact Py j hj Gd
  -- the step
  have next:∀ (g':bY) (w':World) (v:Value),bM g' w' st' x v->Inv g' S.base w' st'->Step S.base g w st g' w' st' ->
    eK P f (nt S Q) (.inRegion l.toArray (Region.linearise.go .any l.toArray fuel (t / (Region.ready .any l.toArray listed).length) (listed.setIfInBounds i true) [])::k) (Act.put ⟨tmps,[]⟩ o.dst v).tmps w':=by
   intro g' w' v A3 ek lX;refine ih fuel _ _ _ w' _ st' (by rw [hFn];exact ZS) (by simpa using hs) PB PC JC (by omega) ek (hh.step lX) (by rw [ia];exact hN) λs=>⟨λj y hj yE uK hy=>?_,λMO y hy=>?_⟩
   ·by_cases lM:j=i
    ·subst lM;have JD:o.dst=some s:=by simpa [eH,ox] using uK
     rw [hx] at hy;cases hy;rw [JD];have fB:s<tmps.size:=by
      rw [JD] at hd;have XE:s+1<=N:=zae hd;rw [hN];exact XE
     exact ⟨v,by simp [Act.put,fB],A3⟩
    ·rw [getD_set_ne false (zcb lM)] at yE;obtain ⟨u,h1,h2⟩:=(hJ s).1 j y hj yE uK hy;have o4:o.dst≠some s:=λe=>Xy j i s hj HM lM uK (by simp [eH,ox,e])
     refine ⟨u,?_,h2.mono lX.dO⟩;cases PD:o.dst with
     | none=>exact h1
     | some d =>
      have:d≠s:=λe=>o4 (by rw [PD,e])
      simp [Act.put,zbv,this,h1]
   ·have o4:o.dst≠some s:=λe=>MO i HM (by simp [zaq,hs,nQ]) (by simp [eH,ox,e])
    obtain ⟨u,h1,h2⟩:=(hJ s).2 (λj hj yE=>MO j hj (by
     by_cases lM:j=i
     ·subst lM;simp [zaq,hs,nQ]
     ·rw [getD_set_ne false (zcb lM)];exact yE)) y hy
    refine ⟨u,?_,h2.mono lX.dO⟩;cases PD:o.dst with
    | none=>exact h1
    | some d =>
     have:d≠s:=λe=>o4 (by rw [PD,e])
     simp [Act.put,zbv,this,h1]
  have F4:l.toArray[i]?=some o:=ho;show eK P f (nt S Q) (.inRegion l.toArray (i::_)::k) tmps w;have xR:st'=st->∀ (dv:Nat->Nat) (w':World) (v:Value),Good g w st x dv w' v ->
    eK P f (nt S Q) (.inRegion l.toArray (Region.linearise.go .any l.toArray fuel (t / (Region.ready .any l.toArray listed).length) (listed.setIfInBounds i true) [])::k) (Act.put ⟨tmps,[]⟩ o.dst v).tmps w':=by
   rintro rfl dv w' v ⟨A3,hb,hl⟩;obtain ⟨ek,lX⟩:=hinv.grow (g':={ g with lim:=dv }) hb hl rfl rfl;exact next _ w' v A3 ek lX
  rcases vJ with ⟨N3,vJ⟩|⟨hg,vJ⟩|⟨hg,rfl,vJ⟩
  ·rcases vJ with ⟨hg,vJ⟩|⟨j,want,tt,c,b,y,env',hg,hj,XF,XG,rfl,hE,vJ⟩
   ·have hw:Region.wanted o (yielded l.toArray tmps)=true:=by simp [Region.wanted,hg]
    rcases vJ g S.base w tmps hinv he with ⟨v,dv,w',hr,xM⟩|⟨f',args,hr,hc⟩
    ·exact eK.value F4 hw hr (xR N3 dv w' v xM)
    ·exact eK.call F4 hw hr (hc.mono λe w' ⟨v,dv,h1,h2⟩=>⟨v,h1,xR N3 dv w' v h2⟩)
   ·obtain ⟨u,hu,XH⟩:=he tt c XF;have hw:Region.wanted o (yielded l.toArray tmps)=b:=by
     rw [←tf XG XH];have Je:((l.toArray)[j]?).bind (·.dst)=some tt:=by simpa using hj
     simp only [Region.wanted,hg,yielded,Je,zac,hu];cases u <;> rfl
    cases b with
    | false=>exact eK.xF F4 hw (xR N3 g.lim w undef ⟨.gd _ _ _ (λ_=>rfl) (λh=>by cases h),.refl _ _,λ_ _=>rfl⟩)
    | true =>
     have wrap:∀ dv w' v,Good g w st y dv w' v->Good g w st (.gd true y) dv w' v:=λdv w' v ⟨a,b,c⟩=>⟨.gd _ _ _ (λh=>by cases h) (λ_=>a),b,c⟩
     rcases vJ rfl g S.base w tmps hinv (he.gd hE rfl) with ⟨v,dv,w',hr,xM⟩|⟨f',args,hr,hc⟩
     ·exact eK.value F4 hw hr (xR N3 dv w' v (wrap _ _ _ xM))
     ·exact eK.call F4 hw hr (hc.mono λe w' ⟨v,dv,h1,h2⟩=>⟨v,h1,xR N3 dv w' v (wrap _ _ _ h2)⟩)
  ·have hw:Region.wanted o (yielded l.toArray tmps)=true:=by simp [Region.wanted,hg]
   obtain ⟨v,g',w',hr,A3,ek,lX⟩:=vJ g w tmps hinv he;exact eK.value F4 hw hr (next g' w' v A3 ek lX)
  ·have hw:Region.wanted o (yielded l.toArray tmps)=true:=by simp [Region.wanted,hg]
   obtain ⟨g',w',hr,ek,lX⟩:=vJ g w tmps hinv he;exact eK.skip F4 hw hr (next g' w' undef (.d _ _ (.any _)) ek lX)
theorem bp.UC {id:Nat} {l:List Oper} {env:Env} {st:St} (p:Nat) (xs:List EV) (F:(Nat->Bool)->St->Prop) (hm:P.follows .mixedOrders=true) (hB:cw l p=true) (Tk:xs.length=p) (ZT:F (λ_=>false) st)
  (oT:∀ (L:Nat->Bool) (st:St) (i:Nat) (o:Oper),i<p->l[i]?=some o->L i=false->(∀ j,((eo l []).getD i 0).testBit j=true->L j=true)->(∀ a,L a=true->∀ b,((eo l []).getD a 0).testBit b=true->L b=true)->F L st ->
   fZ N o.dst=true/\∃ x st',xs[i]?=some x/\ZR P S.base l (lZ l o (gg env ((l.take p).take i) (xs.take i))) st o x st'/\F (λj=>j==i || L j) st')
  (Cc:∀ (L:Nat->Bool) (st:St),(∀ i,i<p->L i=true)->F L st->cm P f N S Q l (l.drop p) k (gg env (l.take p) xs) st):bp P f N S Q (.code (.region id l.toArray true)::k) env st:=by
 simp only [cw,zar] at hB;obtain ⟨⟨⟨⟨Rz,WQ⟩,WR⟩,WS⟩,Uk⟩:=hB;have hp:p<=l.length:=by simpa using Uk
 intro g w tmps hinv hh he hn;refine eK.z7 λt=>?_
 have PE:Region.schedule (P.follows .mixedOrders) l.toArray t=Region.linearise .any l.toArray t:=by simp [Region.schedule,hm]
 rw [PE];have hb:Below w.heap.size w { w with drawn:=w.drawn+1 }:=(Below.refl _ w).drew;obtain ⟨ek,lX⟩:=hinv.grow (g':=g) hb (λ_ _=>rfl) rfl rfl;unfold Region.linearise;refine JM (p:=p) (xs:=xs) F hp Tk ?_ ?_ ?_ ?_ oT Cc p _ t _ g _ tmps st (by
  have:(λi=>(Array.replicate l.toArray.size false).getD i false)=λ_=>false:=by
   funext i;simp [zaq,Array.getElem?_replicate];split <;> rfl
  rw [this];exact ZT) (by simp) ?_ ?_ ?_ ?_ ek (hh.step lX) hn λs=>⟨λj x hj yE=>?_,λ_ y hy=>?_⟩
 ·intro i j t hi hj N0 XI uK;have:=cQ (cQ WQ hi) hj;simp [N0,XI,uK] at this
 ·intro i o hi ho t ht j hj lM uK;have h1:=cQ Rz hi;rw [ho] at h1;simp only [zbb] at h1;have h2:=cQ (h1 t ht) hj;simp only [uK,zfe,zdj,zbr,zar,zah,zee] at h2;rcases h2 with (h2|h2)|h2
  ·exact absurd h2.symm lM
  ·exact .inl h2
  ·exact .inr h2
 ·intro i hi nQ j hj;have h1:=cQ WR nQ;simp only [zbr,zah] at h1;rcases h1 with h1|h1
  ·omega
  ·exact cQ h1 hj
 ·intro i o ho e AR kc;have nQ:=(zad.1 ho).1;have h1:=cQ WS nQ;rw [ho] at h1;simp only [zbb] at h1;have:=h1 e (by simpa using AR);simpa [kc] using this
 ·intro i o ho Px;simp [zaq,Array.getElem?_replicate] at Px;split at Px <;> simp_all
 ·intro i hi nQ;simp [zaq,Array.getElem?_replicate,nQ]
 ·have:((List.range p).filter λi=>!(Array.replicate l.toArray.size false).getD i true)=List.range p:=by
   rw [zdg];intro i hi;have hi':=List.mem_range.1 hi;have:i<l.length:=by omega
   simp [zaq,Array.getElem?_replicate,this]
  rw [this];simp
 ·simp;omega
 ·simp [zaq,Array.getElem?_replicate] at yE;split at yE <;> simp_all
 ·exact (he.mono lX.dO) s y hy
end drawn
structure vM (P:Program) (key:TypeId) (κ:Type) [BEq κ] [LawfulBEq κ] where
 ke:κ->Value
 find:∀ {α:Type} (k:κ) (l:List (κ×α)) (ms:List MapEntry) (w:World),ms.map (·.key)=l.map (λp=>ke p.1) ->
  (Instr.findKey key (ke k) ms).run P w=.ok ((er l k).bind λj=>(ms[j]?).map λm=>(j,m.val)) w
 bits:∀ a,Instr.sameBits 10000 (ke a) (ke a)=true
 check:∀ a b w,(Instr.checkKey b 10000 key (ke a)).run P w=.ok () w
def A9.toF {P:Program} {key:TypeId} {κ:Type} [BEq κ] [LawfulBEq κ] (K:A9 P key κ):vM P key κ where
 ke:=K.ke
 find k l ms w h:=JE K k h w
 bits:=K.bits
 check:=K.check
def fv {P:Program} {key:TypeId} (h:P.underlying key=some (.int .i64)):vM P key Int:=(RU h).toF
def JN {P:Program} {key:TypeId} (h:P.underlying key=some .string):vM P key (List UInt8):=(strKeys h).toF
theorem eQ {lim:Nat->Nat} {w:World} {u v:Value} (h:dK lim w (.ex u) v):v=u:=by cases h;rfl
def XS {P:Program} {key:TypeId} {κ:Type} [BEq κ] [LawfulBEq κ] (ke:κ->Value) {kd:TypeDesc} (hu:P.underlying key=some kd)
  (ZU:∀ a b,Instr.sameNow kd (ke a) (ke b)=none) (heq:∀ a b w,(Op.equal key (ke a) (ke b)).run P w=.ok (a==b) w)
  (PQ:∀ a,Instr.sameBits 10000 (ke a) (ke a)=true) (UD:∀ a b w,(Instr.checkKey b 10000 key (ke a)).run P w=.ok () w):vM P key κ where
 ke:=ke
 find:=by
  intro α k l ms w h;have ask:∀ (l:List (κ×α)) (ms:List MapEntry) (i:Nat),ms.map (·.key)=l.map (λp=>ke p.1) ->
    (Instr.findAsking key (ke k) ms i).run P w=.ok ((er l k).bind λj=>(ms[j]?).map λm=>(i+j,m.val)) w:=by
   intro l
   induction l with
   | nil =>
    intro ms i h;have:ms=[]:=by simpa using h
    subst this;simp [Instr.findAsking,er]
   | cons p l ih =>
    intro ms i h;cases ms with
    | nil=>simp at h
    | cons m ms =>
     simp only [zap,List.cons.injEq] at h;have h2:=ih ms (i+1) h.2;unfold Instr.findAsking;rw [h.1];simp only [Sem.run_bind,heq,Result.andThen_ok];by_cases hk:k==p.1
     ·simp [hk,er,List.findIdx?_cons]
     ·have RM:(k==p.1)=false:=by simpa using hk
      simp only [RM,zbf,zbw,h2];unfold er;rw [List.findIdx?_cons,RM];simp only [zbf,zbw];cases List.findIdx? (λp=>k==p.1) l with
      | none=>rfl
      | some j =>
       simp only [zac,Option.map_some,List.getElem?_cons_succ];congr 2;funext m;congr 1;omega
  have hf:∀ (ms:List MapEntry) (l:List (κ×α)),ms.map (·.key)=l.map (λp=>ke p.1)->Instr.findNow kd (ke k) ms 0=none∨ms=[]:=by
   intro ms l h;cases ms with
   | nil=>exact .inr rfl
   | cons m ms =>
    cases l with
    | nil=>simp at h
    | cons p l =>
     simp only [zap,List.cons.injEq] at h;left;unfold Instr.findNow;rw [h.1,ZU]
  rcases hf ms l h with h0|h0
  ·simp only [Instr.findKey,Sem.run_bind,run_underlying hu,Result.andThen_ok,h0];have:=ask l ms 0 h;simpa using this
  ·subst h0;have:l=[]:=by simpa using h.symm
   subst this;simp [Instr.findKey,run_underlying hu,Instr.findNow,er]
 bits:=PQ
 check:=UD
def lA {κ:Type} (ke:κ->Value) (l:List (κ×EV)):List (Value×EV):=l.map λp=>(ke p.1,p.2)
def PR {κ α:Type} (val:α->D) (l:List (κ×α)):List (κ×EV):=l.map λp=>(p.1,.d (val p.2))
theorem Ec {κ α:Type} {ke:κ->Value} {val:α->D} {l:List (κ×α)}:jO ke val l=lA ke (PR val l):=by
 simp [jO,lA,PR]
section alist
variable {κ α β:Type} [BEq κ] [LawfulBEq κ]
def fx (l:List (κ×α)) (k:κ):List (κ×α):=match er l k with
 | some j=>l.eraseIdx j
 | none=>l
theorem G4 (f:α->β) (l:List (κ×α)) (k:κ):er (l.map λp=>(p.1,f p.2)) k=er l k:=by
 unfold er;rw [List.findIdx?_map];rfl
theorem Oa (f:α->β) (l:List (κ×α)) (k:κ):aC (l.map λp=>(p.1,f p.2)) k=(aC l k).map f:=by
 rw [l7,l7,G4];cases er l k with
 | none=>rfl
 | some j=>simp only [zac,zba];cases l[j]? <;> rfl
theorem PS (f:α->β) (l:List (κ×α)) (k:κ) (a:α):dj (l.map λp=>(p.1,f p.2)) k (f a)=(dj l k a).map λp=>(p.1,f p.2):=by
 unfold dj;rw [G4];cases er l k with
 | none=>simp
 | some j=>simp [List.map_set]
theorem LL {l:List (κ×α)} {k:κ} (h:k ∉ l.map (·.1)):aC l k=none:=by
 unfold aC;rw [List.find?_eq_none.2]
 ·rfl
 ·intro p hp he;exact h (eq_of_beq he▸zcn (f:=(·.1)) hp)
end alist
section inv
variable {P:Program} {base:Nat} {g:bY} {w:World} {st:St}
theorem Inv.LM (hinv:Inv g base w st) {o:Nat} {es es':List (Value×EV)} (ho:st.aO[o]?=some (.map es)) {ms':Array MapEntry} {clock':Nat} (k1:ms'.size=es'.length)
  (k2:∀ (i:Nat) k x (m:MapEntry),es'[i]?=some (k,x)->ms'[i]?=some m->m.key=k/\bM g w st x m.val)
  (k3:∀ (i:Nat) (m:MapEntry),ms'[i]?=some m->m.born<clock') (k4:∀ (i j:Nat) (m m':MapEntry),ms'[i]?=some m->ms'[j]?=some m'->m.born=m'.born->i=j) :
  Inv g base { w with heap:=w.heap.setIfInBounds (g.ob o) (.map ms' clock') } (st.set o (.map es'))/\Step base g w st g { w with heap:=w.heap.setIfInBounds (g.ob o) (.map ms' clock') } (st.set o (.map es')):=by
 obtain ⟨kf,ms,clock,hb,hl,nG,Bc,Dl⟩:=hinv.map o _ ho;have hblk:g.ob o<w.heap.size:=(zau.1 hb).1;have xL:∀ ob:Obj,({ w with heap:=w.heap.setIfInBounds (g.ob o) ob }:World).heap.size=w.heap.size:=λob=>by simp
 have ux:∀ ob:Obj,∀ b,b≠g.ob o->({ w with heap:=w.heap.setIfInBounds (g.ob o) ob }:World).heap[b]?=w.heap[b]?:=λob b kc=>by simp [zbv,zcb kc]
 have lY:∀ ob:Obj,({ w with heap:=w.heap.setIfInBounds (g.ob o) ob }:World).heap[g.ob o]?=some ob:=λob=>by simp [hblk]
 have ZV:∀ off,w.cell? ⟨g.ob o,off,none⟩=none:=λoff=>by simp [World.cell?,hb]
 have A1:Lf g.lim w g.lim { w with heap:=w.heap.setIfInBounds (g.ob o) (.map ms' clock') }:=by
  refine ⟨by rw [xL];exact zam _,λ_ _=>zam _,λb off kc ox=>?_⟩
  by_cases hbo:b=g.ob o
  ·subst hbo;rw [ZV];simp [World.cell?,hblk]
  ·exact World.cell?_of_block (w:=w) (a:=⟨b,off,none⟩) (ux _ b hbo)
 have nR:st.live o:=⟨_,ho,by simp⟩;have T7:o<st.aO.length:=(zad.1 ho).1;have hs:u4 g w st g { w with heap:=w.heap.setIfInBounds (g.ob o) (.map ms' clock') } (st.set o (.map es')) :=
  ⟨A1,λ_ _=>rfl,by simp [St.set],λt e sz n ht=>⟨n,ht,zam _,λ_=>rfl⟩,zam _,vE λ_ _ _ _ h _=>⟨h,rfl⟩⟩
 have gY:∀ o' y,o'≠o->(st.set o (.map es')).aO[o']?=some y->st.aO[o']?=some y:=by
  intro o' y fh Jd;simpa [St.set,zbj,zcb fh] using Jd
 have Rw:∀ o' y,(st.set o (.map es')).aO[o']?=some (.raw y)->base<=g.ob o'/\g.lim (g.ob o')=0/\(w.heap.setIfInBounds (g.ob o) (.map ms' clock'))[g.ob o']?=some y:=by
  intro o' y jL;have fh:o'≠o:=by
   rintro rfl;simp [St.set,T7] at jL
  have Jd:=gY o' _ fh jL;obtain ⟨h1,h2,h3⟩:=hinv.raw o' y Jd;have o4:=hinv.ne o' o fh ⟨_,Jd,by simp⟩ nR;exact ⟨h1,h2,by rw [ux _ _ o4];exact h3⟩
 refine ⟨⟨by rw [xL];exact hinv.base,?_,?_,Rw,?_,?_,hinv.nF,?_,hinv.DH.below ⟨rfl,rfl,rfl,by rw [xL];exact zam _,λb kc=>ux _ b (by omega)⟩,?_⟩,⟨hs,⟨rfl,rfl,rfl,by rw [xL];exact zam _,λb kc=>ux _ b (by omega)⟩,λ_ _=>rfl,
   λb _ hn=>⟨ux _ b (λe=>hn (.inl ⟨o,nR,e.symm⟩)),rfl⟩,λb _ hw=>hw.elim (λ⟨o',a1,a2⟩=>.inl ⟨o',rn nR a1,a2⟩) .inr⟩⟩
 ·intro o' Lv cs jL;have fh:o'≠o:=by
   rintro rfl;simp [St.set,T7] at jL
  have Jd:=gY o' _ fh jL;obtain ⟨h1,h2,vs,h3,h4,h5⟩:=hinv.row o' Lv cs Jd;have o4:=hinv.ne o' o fh ⟨_,Jd,by simp⟩ nR;exact ⟨h1,h2,vs,by rw [ux _ _ o4];exact h3,h4,λi c u hc hu=>⟨(h5 i c u hc hu).1.mono hs,(h5 i c u hc hu).2⟩⟩
 ·intro o' es2 jL;by_cases fh:o'=o
  ·subst fh;have ZK:es'=es2:=by simpa [St.set,T7] using jL
   subst ZK;exact ⟨kf,ms',clock',lY _,k1,λi kk yy m rv PT=>⟨(k2 i kk yy m rv PT).1,(k2 i kk yy m rv PT).2.mono hs⟩,k3,k4⟩
  ·have Jd:=gY o' _ fh jL;obtain ⟨h1,ms2,c2,h3,h4,h5,h6⟩:=hinv.map o' es2 Jd;have o4:=hinv.ne o' o fh ⟨_,Jd,by simp⟩ nR;exact ⟨h1,ms2,c2,by rw [ux _ _ o4];exact h3,h4,λi kk yy m a b=>⟨(h5 i kk yy m a b).1,(h5 i kk yy m a b).2.mono hs⟩,h6⟩
 ·exact λo1 o2 fh h1 h2=>hinv.ne o1 o2 fh (rn nR h1) (rn nR h2)
 ·intro t' e' Jg n' uH;obtain ⟨xs,h1,h2⟩:=hinv.tail t' e' Jg n' uH;exact ⟨xs,fu h1 λb kc=>ux _ b λe=>hinv.iu t' _ o uH nR (by rw [kc,e]),h2⟩
 ·exact λt' x' o' uH Rv=>hinv.iu t' x' o' uH (rn nR Rv)
 ·intro t' e' Jg n' rows uH;obtain ⟨xs,h1,h2,h3⟩:=hinv.own t' e' Jg n' rows uH;exact ⟨xs,fu h1 λb kc=>ux _ b λe=>hinv.iu t' _ o uH nR (by rw [kc,e]),h2,h3.mono A1⟩
end inv
section rules
variable {P:Program} {base:Nat} {env:Env} {st:St} {d:Option Tmp} {ty:TypeId} {pos:String} {after:Array Edge} {gd:Option (Nat×Bool)} {t t2 e key:TypeId} {x y z:Operand}
 {κ α:Type} [BEq κ] [LawfulBEq κ]
theorem G5 {g:bY} {w:World} {st:St} {l:List (κ×EV)} {ke:κ->Value} {ms:Array MapEntry} (hl:ms.size=(lA ke l).length)
  (h:∀ (i:Nat) k x (m:MapEntry),(lA ke l)[i]?=some (k,x)->ms[i]?=some m->m.key=k/\bM g w st x m.val):ms.toList.map (·.key)=l.map λp=>ke p.1:=by
 apply zby;intro i;rw [zba,zba];have hlen:ms.size=l.length:=by simpa [lA] using hl
 by_cases hi:i<l.length
 ·have h1:ms[i]?=some (ms[i]'(by omega)):=zbe (by omega);have h2:l[i]?=some l[i]:=zaf hi;have h3:=(h i (ke l[i].1) l[i].2 _ (by simp [lA,h2]) h1).1;rw [h2,zbx,h1];simp [h3]
 ·rw [zbl (by simp;omega),zbl (by omega)];rfl
theorem xS (K:vM P key κ) {o:Nat} {l:List (κ×EV)} {k:κ} {dk:D} {inf:TypeInfo} {zv:Value} {c:Bool} (ht:P.underlying t=some (.map key e)) (hi:P.info? e=some inf) (hz:inf.zero=some zv)
  (hx:cY env x=some (.mp o)) (ho:st.aO[o]?=some (.map (lA K.ke l))) (hy:cY env y=some (.d dk)) (hk:∀ lim w v,dK lim w dk v->v=K.ke k)
  {g:bY} {w:World} {tmps:Array Value} (hinv:Inv g base w st) (he:eh g w st env tmps) :
  ∃ v,(match aC l k with|some x=>bM g w st x v|none=>v=zv) /\
   ∀ w',Below w.heap.size w w'->(execOp (Act.eval ⟨tmps,[]⟩) ⟨d,.lookup t x y c,ty,pos,after,gd⟩).run P w'=.ok (.value (if c=true then .tuple #[v,.bool (aC l k).isSome] else v)) w':=by
 have A3:=aN he hx;generalize hv:Act.eval ⟨tmps,[]⟩ x=v at A3;have PH:Act.eval ⟨tmps,[]⟩ y=K.ke k:=by
  have:=aN he hy;cases this with|d _ _ h=>exact hk _ _ _ h
 cases A3 with
 | mp _ cZ =>
  obtain ⟨_,ms,clock,hb,hl,nG,_⟩:=hinv.map o _ ho;have G6:=G5 hl nG;have hblk:g.ob o<w.heap.size:=(zau.1 hb).1;rw [l7];cases hf:er l k with
  | none =>
   refine ⟨zv,rfl,λw' kc=>?_⟩;have Lg:w'.heap[g.ob o]?=some (.map ms clock):=(kc.block _ hblk).trans hb;have G7:=K.find k l ms.toList w' G6;rw [hf] at G7;simp [execOp,hv,PH,Instr.lookup,run_underlying ht,getObj,Sem.run,Lg,K.check,G7,tF hi hz]
  | some j =>
   have hj:=xN hf;have hlen:ms.size=l.length:=by simpa [lA] using hl
   have h1:ms[j]?=some (ms[j]'(by omega)):=zbe (by omega);have h2:l[j]?=some l[j]:=zaf hj;have h3:=(nG j (K.ke l[j].1) l[j].2 _ (by simp [lA,h2]) h1).2;simp only [zac,h2,Option.map_some,Option.isSome_some];refine ⟨(ms[j]'(by omega)).val,h3,λw' kc=>?_⟩;have Lg:w'.heap[g.ob o]?=some (.map ms clock):=(kc.block _ hblk).trans hb;have G7:=K.find k l ms.toList w' G6;rw [hf] at G7;have O2:ms.toList[j]?=some (ms[j]'(by omega)):=by rw [zbx];exact h1
   simp only [zac,O2,Option.map_some] at G7;simp [execOp,hv,PH,Instr.lookup,run_underlying ht,getObj,Sem.run,Lg,K.check,G7]
theorem JO {g:bY} {w:World} {st:St} {u:Value} {b:Bool} {c:D} (h:bM g w st (.d c) u):bM g w st (.d (.dN [c,.ex (.bool b)])) (.tuple #[u,.bool b]):=by
 have h':dK g.lim w c u:=by cases h with|d _ _ h=>exact h
 refine .d _ _ (.dN _ _ rfl ?_);intro i c' u' hc hu
 match i with
 | 0=>simp at hc hu;subst hc;subst hu;exact h'
 | 1=>simp at hc hu;subst hc;subst hu;exact .ex _
 | n+2=>simp at hc
theorem ES {val:α->D} {l:List (κ×α)} {k:κ}:aC (PR val l) k=(aC l k).map λa=>.d (val a):=Oa (λa=>EV.d (val a)) l k
theorem ff (K:vM P key κ) {o:Nat} {l:List (κ×α)} {val:α->D} {k:κ} {dk:D} {inf:TypeInfo} {zv:Value} {a0:α} (ht:P.underlying t=some (.map key e)) (hi:P.info? e=some inf) (hz:inf.zero=some zv) (WV:sX (cv zv) (val a0))
  (hx:cY env x=some (.mp o)) (ho:st.aO[o]?=some (.map (jO K.ke val l))) (hy:cY env y=some (.d dk)) (hk:∀ lim w v,dK lim w dk v->v=K.ke k) :
  aG P env st ⟨d,.lookup t x y false,ty,pos,after,gd⟩ (.d (val ((aC l k).getD a0))):=by
 intro g base w tmps hinv he;rw [Ec] at ho;obtain ⟨v,h1,h2⟩:=xS (c:=false) (d:=d) (ty:=ty) (pos:=pos) (after:=after) (gd:=gd) K ht hi hz hx ho hy hk hinv he;rw [ES] at h1;refine ⟨v,?_,λw' hb=>by simpa using h2 w' hb⟩;cases hl:aC l k with
 | none=>rw [hl] at h1;simp only [Option.map_none] at h1;subst h1;exact .d _ _ (WV _ _ _ (qf g.lim w v))
 | some a=>rw [hl] at h1;exact h1
theorem iE (K:vM P key κ) {o:Nat} {l:List (κ×α)} {val:α->D} {k:κ} {dk:D} {inf:TypeInfo} {zv:Value} {a0:α} (ht:P.underlying t=some (.map key e)) (hi:P.info? e=some inf) (hz:inf.zero=some zv) (WV:sX (cv zv) (val a0))
  (hx:cY env x=some (.mp o)) (ho:st.aO[o]?=some (.map (jO K.ke val l))) (hy:cY env y=some (.d dk)) (hk:∀ lim w v,dK lim w dk v->v=K.ke k) :
  aG P env st ⟨d,.lookup t x y true,ty,pos,after,gd⟩ (.d (.dN [val ((aC l k).getD a0),.ex (.bool (aC l k).isSome)])):=by
 intro g base w tmps hinv he;rw [Ec] at ho;obtain ⟨v,h1,h2⟩:=xS (c:=true) (d:=d) (ty:=ty) (pos:=pos) (after:=after) (gd:=gd) K ht hi hz hx ho hy hk hinv he;rw [ES] at h1 h2;refine ⟨_,?_,h2⟩;rw [zab rfl];cases hl:aC l k with
 | none=>rw [hl] at h1;simp only [Option.map_none] at h1;subst h1;exact JO (.d _ _ (WV _ _ _ (qf g.lim w v)))
 | some a=>rw [hl] at h1;exact JO h1
theorem Dm (K:vM P key κ) {o:Nat} {l:List (κ×EV)} {k:κ} {dk:D} {ev:EV} (ht:P.underlying t=some (.map key e)) (hx:cY env x=some (.mp o)) (ho:st.aO[o]?=some (.map (lA K.ke l)))
  (hy:cY env y=some (.d dk)) (hk:∀ lim w v,dK lim w dk v->v=K.ke k) {g:bY} {w:World} {tmps:Array Value} (hinv:Inv g base w st) (he:eh g w st env tmps) (hz:bM g w st ev (Act.eval ⟨tmps,[]⟩ z)) :
  ∃ w',(Instr.mapUpdate t (Act.eval ⟨tmps,[]⟩ x) (Act.eval ⟨tmps,[]⟩ y) (Act.eval ⟨tmps,[]⟩ z)).run P w=.ok () w'/\Inv g base w' (st.set o (.map (lA K.ke (dj l k ev))))/\Step base g w st g w' (st.set o (.map (lA K.ke (dj l k ev)))):=by
 have A3:=aN he hx;generalize hv:Act.eval ⟨tmps,[]⟩ x=v at A3;have PH:Act.eval ⟨tmps,[]⟩ y=K.ke k:=by
  have:=aN he hy;cases this with|d _ _ h=>exact hk _ _ _ h
 generalize hu:Act.eval ⟨tmps,[]⟩ z=u at hz;cases A3 with
 | mp _ cZ =>
  obtain ⟨kf,ms,clock,hb,hl,nG,Bc,Dl⟩:=hinv.map o _ ho;have G6:=G5 hl nG;have hblk:g.ob o<w.heap.size:=(zau.1 hb).1;have hlen:ms.size=l.length:=by simpa [lA] using hl
  have G7:=K.find k l ms.toList w G6;have fin:∀ (ms':Array MapEntry) (clock':Nat),ms'.size=(dj l k ev).length ->
    (∀ (i:Nat) (p:κ×EV) (m:MapEntry),(dj l k ev)[i]?=some p->ms'[i]?=some m->m.key=K.ke p.1/\bM g w st p.2 m.val) ->
    (∀ (i:Nat) (m:MapEntry),ms'[i]?=some m->m.born<clock')->(∀ (i j:Nat) (m m':MapEntry),ms'[i]?=some m->ms'[j]?=some m'->m.born=m'.born->i=j) ->
    (Instr.mapUpdate t (.map (some (g.ob o))) (K.ke k) u).run P w=.ok () { w with heap:=w.heap.setIfInBounds (g.ob o) (.map ms' clock') } ->
    ∃ w',(Instr.mapUpdate t (.map (some (g.ob o))) (Act.eval ⟨tmps,[]⟩ y) u).run P w=.ok () w'/\Inv g base w' (st.set o (.map (lA K.ke (dj l k ev))))/\Step base g w st g w' (st.set o (.map (lA K.ke (dj l k ev)))):=by
   intro ms' clock' k1 k2 k3 k4 k5;obtain ⟨q1,q2⟩:=hinv.LM (es':=lA K.ke (dj l k ev)) ho (ms':=ms') (clock':=clock') (by simpa [lA] using k1) (λi kk yy m rv PT=>by
    simp only [lA,zba] at rv;cases hp:(dj l k ev)[i]? with
    | none=>rw [hp] at rv;cases rv
    | some p=>rw [hp] at rv;cases rv;exact k2 i p m hp PT) k3 k4
   exact ⟨_,by rw [PH];exact k5,q1,q2⟩
  cases hf:er l k with
  | none =>
   rw [hf] at G7;simp only [Option.bind_none] at G7;have JP:dj l k ev=l++[(k,ev)]:=by unfold dj;rw [hf]
   refine fin (ms.push ⟨K.ke k,u,clock⟩) (clock+1) (by simp [JP,hlen]) ?_ ?_ ?_ ?_
   ·intro i p m hp hm;rw [JP] at hp;by_cases hi:i<l.length
    ·rw [zak hi] at hp;rw [zdd (by omega)] at hm;exact nG i (K.ke p.1) p.2 m (by simp [lA,hp]) (by rw [zbe (by omega)];exact hm)
    ·have hi':i=l.length:=by
      have:=(zad.1 hp).1;simp at this;omega
     subst hi';simp at hp;subst hp;rw [←hlen] at hm;simp at hm;subst hm;exact ⟨rfl,hz⟩
   ·intro i m hm;by_cases hi:i<ms.size
    ·rw [zdd hi] at hm;have:=Bc i m (by rw [zbe hi];exact hm);omega
    ·have kQ:=(zau.1 hm).1;simp at kQ;have:i=ms.size:=by omega
     subst this;simp at hm;subst hm;exact zfh _
   ·intro i j m m' hm zd AT;have get:∀ (i:Nat) m,(ms.push ⟨K.ke k,u,clock⟩)[i]?=some m->(i<ms.size/\ms[i]?=some m)∨(i=ms.size/\m.born=clock):=by
     intro i m hm;by_cases hi:i<ms.size
     ·rw [zdd hi] at hm;exact .inl ⟨hi,by rw [zbe hi];exact hm⟩
     ·have kQ:=(zau.1 hm).1;simp at kQ;have:i=ms.size:=by omega
      subst this;simp at hm;subst hm;exact .inr ⟨rfl,rfl⟩
    rcases get i m hm with ⟨h1,h2⟩|⟨h1,h2⟩ <;> rcases get j m' zd with ⟨h3,h4⟩|⟨h3,h4⟩
    ·exact Dl i j m m' h2 h4 AT
    ·have:=Bc i m h2;omega
    ·have:=Bc j m' h4;omega
    ·omega
   ·simp [Instr.mapUpdate,run_underlying ht,getObj,setObj,Sem.run,hb,K.check,G7]
  | some j =>
   have hj:=xN hf;have JP:dj l k ev=l.set j (k,ev):=by unfold dj;rw [hf]
   have yE:(k==l[j].1)=true:=by
    unfold er at hf;rw [List.findIdx?_eq_some_iff_getElem] at hf;exact hf.2.1
   have hkj:k=l[j].1:=eq_of_beq yE;have h1:ms[j]?=some (ms[j]'(by omega)):=zbe (by omega);have O2:ms.toList[j]?=some (ms[j]'(by omega)):=by rw [zbx];exact h1
   rw [hf] at G7;simp only [zac,O2,Option.map_some] at G7;have ZW:(ms[j]'(by omega)).key=K.ke k:=by
    have:=(nG j (K.ke l[j].1) l[j].2 _ (by simp [lA,zaf hj]) h1).1;rw [this,hkj]
   have xK:∀ (i:Nat) m,(ms.modify j λe=>{ e with key:=K.ke k,val:=u })[i]?=some m->(i=j/\m={ (ms[j]'(by omega)) with key:=K.ke k,val:=u })∨(i≠j/\ms[i]?=some m):=by
    intro i m hm;rw [zfl] at hm;by_cases N0:j=i
    ·subst N0;rw [zab rfl,h1] at hm;cases hm;exact .inl ⟨rfl,rfl⟩
    ·rw [zaa N0] at hm;exact .inr ⟨zcb N0,hm⟩
   refine fin (ms.modify j λe=>{ e with key:=K.ke k,val:=u }) clock (by simp [JP,hlen]) ?_ ?_ ?_ ?_
   ·intro i p m hp hm;rw [JP,zbj] at hp;rcases xK i m hm with ⟨rfl,rfl⟩|⟨fh,zd⟩
    ·rw [zab rfl] at hp;simp [hj] at hp;subst hp;exact ⟨rfl,hz⟩
    ·rw [zaa (zcb fh)] at hp;exact nG i (K.ke p.1) p.2 m (by simp [lA,hp]) zd
   ·intro i m hm;rcases xK i m hm with ⟨rfl,rfl⟩|⟨fh,zd⟩
    ·exact Bc _ (ms[i]'(by omega)) h1
    ·exact Bc _ _ zd
   ·intro i i' m m' hm zd AT;rcases xK i m hm with ⟨rfl,rfl⟩|⟨fh,h2⟩ <;> rcases xK i' m' zd with ⟨rfl,rfl⟩|⟨o4,T5⟩
    ·rfl
    ·exact Dl _ _ (ms[i]'(by omega)) _ h1 T5 AT
    ·exact Dl _ _ _ (ms[i']'(by omega)) h2 h1 AT
    ·exact Dl _ _ _ _ h2 T5 AT
   ·have PQ:Instr.sameBits 10000 (K.ke k) (K.ke k)=true:=K.bits k;simp [Instr.mapUpdate,run_underlying ht,getObj,setObj,Sem.run,hb,K.check,G7,Instr.keyThatStays,h1,ZW,PQ]
theorem H4 (K:vM P key κ) {o:Nat} {l:List (κ×EV)} {k:κ} {dk:D} {ev:EV} (ht:P.underlying t=some (.map key e)) (hx:cY env x=some (.mp o)) (ho:st.aO[o]?=some (.map (lA K.ke l)))
  (hy:cY env y=some (.d dk)) (hk:∀ lim w v,dK lim w dk v->v=K.ke k) (hz:cY env z=some ev) :
  HE P base env st ⟨d,.mapUpdate t x y z,ty,pos,after,gd⟩ (st.set o (.map (lA K.ke (dj l k ev)))):=by
 intro g w tmps hinv he;obtain ⟨w',h1,h2,h3⟩:=Dm (z:=z) K ht hx ho hy hk hinv he (aN he hz);exact ⟨g,w',by simp [execOp,h1],h2,h3⟩
theorem dr (K:vM P key κ) {o:Nat} {l:List (κ×α)} {val:α->D} {k:κ} {dk:D} {a:α} {ev:EV} (ht:P.underlying t=some (.map key e)) (hx:cY env x=some (.mp o)) (ho:st.aO[o]?=some (.map (jO K.ke val l)))
  (hy:cY env y=some (.d dk)) (hk:∀ lim w v,dK lim w dk v->v=K.ke k) (hz:cY env z=some ev) (hle:eG ev (.d (val a))) :
  HE P base env st ⟨d,.mapUpdate t x y z,ty,pos,after,gd⟩ (st.set o (.map (jO K.ke val (dj l k a)))):=by
 intro g w tmps hinv he;rw [Ec] at ho;obtain ⟨w',h1,h2,h3⟩:=Dm (z:=z) K ht hx ho hy hk hinv he (hle _ _ _ _ (aN he hz));have hs:lA K.ke (dj (PR val l) k (.d (val a)))=jO K.ke val (dj l k a):=by
  rw [Ec];unfold PR;rw [PS (λa=>EV.d (val a))]
 rw [hs] at h2 h3;exact ⟨g,w',by simp [execOp,h1],h2,h3⟩
theorem Ck (K:vM P key κ) {o:Nat} {l:List (κ×α)} {val:α->D} {k:κ} {dk:D} (ht:P.underlying t=some (.map key e)) (hx:cY env x=some (.mp o)) (ho:st.aO[o]?=some (.map (jO K.ke val l)))
  (hy:cY env y=some (.d dk)) (hk:∀ lim w v,dK lim w dk v->v=K.ke k) :
  xG P base env st ⟨d,.call ⟨.builtin .delete,#[x,y],#[t,t2]⟩,ty,pos,after,gd⟩ (.d (.dN [])) (st.set o (.map (jO K.ke val (fx l k)))):=by
 intro g w tmps hinv he;have A3:=aN he hx;generalize hv:Act.eval ⟨tmps,[]⟩ x=v at A3;have PH:Act.eval ⟨tmps,[]⟩ y=K.ke k:=by
  have:=aN he hy;cases this with|d _ _ h=>exact hk _ _ _ h
 cases A3 with
 | mp _ cZ =>
  obtain ⟨kf,ms,clock,hb,hl,nG,Bc,Dl⟩:=hinv.map o _ ho;have G6:=PG hl nG;have hblk:g.ob o<w.heap.size:=(zau.1 hb).1;have hlen:ms.size=l.length:=by simpa [jO] using hl
  have G7:=K.find k l ms.toList w G6;have fin:∀ (ms':Array MapEntry),ms'.size=(fx l k).length ->
    (∀ (i:Nat) (p:κ×α) (m:MapEntry),(fx l k)[i]?=some p->ms'[i]?=some m->m.key=K.ke p.1/\bM g w st (.d (val p.2)) m.val) ->
    (∀ (i:Nat) (m:MapEntry),ms'[i]?=some m->m.born<clock)->(∀ (i j:Nat) (m m':MapEntry),ms'[i]?=some m->ms'[j]?=some m'->m.born=m'.born->i=j) ->
    (execOp (Act.eval ⟨tmps,[]⟩) ⟨d,.call ⟨.builtin .delete,#[x,y],#[t,t2]⟩,ty,pos,after,gd⟩).run P w=.ok (.value (.tuple #[])) { w with heap:=w.heap.setIfInBounds (g.ob o) (.map ms' clock) } ->
    ∃ v g' w',(execOp (Act.eval ⟨tmps,[]⟩) ⟨d,.call ⟨.builtin .delete,#[x,y],#[t,t2]⟩,ty,pos,after,gd⟩).run P w=.ok (.value v) w'/\bM g' w' (st.set o (.map (jO K.ke val (fx l k)))) (.d (.dN [])) v/\Inv g' base w' (st.set o (.map (jO K.ke val (fx l k))))/\Step base g w st g' w' (st.set o (.map (jO K.ke val (fx l k)))):=by
   intro ms' k1 k2 k3 k4 k5;obtain ⟨q1,q2⟩:=hinv.LM (es':=jO K.ke val (fx l k)) ho (ms':=ms') (clock':=clock) (by simpa [jO] using k1) (λi kk yy m rv PT=>by
    simp only [jO,zba] at rv;cases hp:(fx l k)[i]? with
    | none=>rw [hp] at rv;cases rv
    | some p=>rw [hp] at rv;cases rv;exact k2 i p m hp PT) k3 k4
   exact ⟨_,g,_,k5,.d _ _ (.dN _ _ rfl (λi c u h=>by simp at h)),q1,q2⟩
  cases hf:er l k with
  | none =>
   rw [hf] at G7;simp only [Option.bind_none] at G7;have XT:fx l k=l:=by unfold fx;rw [hf]
   refine fin ms (by rw [XT,hlen]) (λi p m hp hm=>?_) Bc Dl ?_
   ·rw [XT] at hp;exact nG i (K.ke p.1) (.d (val p.2)) m (by simp [jO,hp]) hm
   ·simp [execOp,resolve,invoke,builtin,hv,PH,Builtin.delete_,run_underlying ht,getObj,setObj,Sem.run,hb,K.check,G7]
  | some j =>
   have hj:=xN hf;have XT:fx l k=l.eraseIdx j:=by unfold fx;rw [hf]
   have h1:ms[j]?=some (ms[j]'(by omega)):=zbe (by omega);have O2:ms.toList[j]?=some (ms[j]'(by omega)):=by rw [zbx];exact h1
   rw [hf] at G7;simp only [zac,O2,Option.map_some] at G7;have Zg:ms.eraseIdxIfInBounds j=(ms.toList.eraseIdx j).toArray:=by
    apply Array.toList_inj.1;unfold Array.eraseIdxIfInBounds;rw [dif_pos (by omega)];simp
   have wH:∀ (i:Nat) m,(ms.eraseIdxIfInBounds j)[i]?=some m->ms[if i<j then i else i+1]?=some m:=by
    intro i m hm;rw [Zg] at hm;simp only [List.getElem?_toArray,List.getElem?_eraseIdx,zbx] at hm;split at hm
    ·rename_i h;rw [zab h];exact hm
    ·rename_i h;rw [zaa h];exact hm
   refine fin (ms.eraseIdxIfInBounds j) ?_ (λi p m hp hm=>?_) (λi m hm=>Bc _ m (wH i m hm)) (λi i' m m' hm zd AT=>?_) ?_
   ·rw [XT,Zg];simp [List.length_eraseIdx,hlen,hj]
   ·rw [XT,List.getElem?_eraseIdx] at hp;have zd:=wH i m hm;split at hp
    ·rename_i h;rw [zab h] at zd;exact nG i (K.ke p.1) (.d (val p.2)) m (by simp [jO,hp]) zd
    ·rename_i h;rw [zaa h] at zd;exact nG (i+1) (K.ke p.1) (.d (val p.2)) m (by simp [jO,hp]) zd
   ·have:=Dl _ _ m m' (wH i m hm) (wH i' m' zd) AT;split at this <;> split at this <;> omega
   ·simp [execOp,resolve,invoke,builtin,hv,PH,Builtin.delete_,run_underlying ht,getObj,setObj,Sem.run,hb,K.check,G7]
end rules
section lit
variable {P:Program} {f:Ctx} {N:Nat} {S:Start} {Q:EV->St->Prop} {k:List Item} {κ:Type} [BEq κ] [LawfulBEq κ] {key:TypeId}
theorem bp.split {todo:List Item} {env:Env} {st:St} (b:Bool) (ht:b=true->bp P f N S Q todo env st) (hf:b=false->bp P f N S Q todo env st):bp P f N S Q todo env st:=by
 cases hb:b with
 | true=>exact ht hb
 | false=>exact hf hb
def XU (P:Program) (N:Nat) (l:List Oper) (m:Nat) (t:TypeId) (K:vM P key κ) (ins:List (Nat×κ×EV)) (st0:St) (i:Nat) (o:Oper) (env:Env) (x:EV):Prop :=
  fZ N o.dst=true /\
  (((Nat.beq i m || ins.any λe=>Nat.beq e.1 i)=false/\∀ st,(st=st0∨∃ es,st=st0.add (.map es))->uJ P l env st o x) ∨
   (i=m/\o.guard=none/\x=.mp st0.aO.length/\∃ t,o.op=.makeMap t none) ∨
   (∃ kk v dk a b c,(i,kk,v)∈ins/\x=.d .any/\o.guard=none/\o.op=.insert t a b c/\cY env a=some (.mp st0.aO.length)/\cY env b=some (.d dk)/\(∀ lim w v,dK lim w dk v->v=K.ke kk)/\cY env c=some v /\
      ((eo l []).getD i 0).testBit m=true))
def PU (P:Program) (N:Nat) (l:List Oper) (m:Nat) (t:TypeId) (K:vM P key κ) (ins:List (Nat×κ×EV)) (st0:St):Nat->List Oper->List EV->Env->Prop
 | _,[],[],_=>True
 | i,o::os,x::xs,env=>XU P N l m t K ins st0 i o (lZ l o env) x/\PU P N l m t K ins st0 (i+1) os xs (env.put o.dst x)
 | _,_,_,_=>False
def Ob (P:Program) (f:Ctx) (N:Nat) (S:Start) (Q:EV->St->Prop) (l:List Oper) (p m:Nat) (t:TypeId) (K:vM P key κ) (ins:List (Nat×κ×EV)) (i:Nat) (os:List Oper) (k:List Item) (env:Env) (st:St):Prop :=
 ∃ xs,PU P N l m t K ins st i os xs env/\∀ es,es.Perm (ins.map (·.2))->cm P f N S Q l (l.drop p) k (gg env os xs) (st.add (.map (lA K.ke es)))
variable {l:List Oper} {p m:Nat} {t:TypeId} {K:vM P key κ} {ins:List (Nat×κ×EV)} {i:Nat} {os:List Oper} {env:Env} {st:St} {d:Option Tmp} {op:Op} {ty:TypeId} {pos:String} {after:Array Edge} {x:EV}
theorem Ob.g (h:∀ s,(s=st∨∃ es,s=st.add (.map es))->zF P (lZ l ⟨d,op,ty,pos,after,none⟩ env) s ⟨d,op,ty,pos,after,none⟩ x) (hb:(Nat.beq i m || ins.any λe=>Nat.beq e.1 i)=false) (hd:fZ N d=true)
  (hk:Ob P f N S Q l p m t K ins (i+1) os k (env.put d x) st):Ob P f N S Q l p m t K ins i (⟨d,op,ty,pos,after,none⟩::os) k env st:=by
 obtain ⟨xs,h1,h2⟩:=hk;exact ⟨x::xs,⟨⟨hd,.inl ⟨hb,λs hs=>.inl ⟨rfl,h s hs⟩⟩⟩,h1⟩,h2⟩
theorem Ob.q (h:∀ s,(s=st∨∃ es,s=st.add (.map es))->aG P (lZ l ⟨d,op,ty,pos,after,none⟩ env) s ⟨d,op,ty,pos,after,none⟩ x) (hb:(Nat.beq i m || ins.any λe=>Nat.beq e.1 i)=false) (hd:fZ N d=true)
  (hk:Ob P f N S Q l p m t K ins (i+1) os k (env.put d x) st):Ob P f N S Q l p m t K ins i (⟨d,op,ty,pos,after,none⟩::os) k env st:=.g (λs hs=>(h s hs).g) hb hd hk
end lit
theorem H5 {lim:Nat->Nat} {w:World} {ds:List D} {vs:List Value} {v:Value} (h:dK lim w (.agg ds) v) (he:RA ds=some vs):v=.agg vs.toArray:=by
 have hm:=HO he;subst hm;cases h with
 | agg _ us hs ho hc =>
  congr 1;apply Array.ext';apply zby;intro i;simp only [zdy] at hs;by_cases hi:i<vs.length
  ·have h1:us[i]?=some (us[i]'(by omega)):=zbe (by omega);have h2:=hc i (.ex vs[i]) _ (by simp [hi]) h1;rw [zbx,h1,wF h2];simp [hi]
  ·rw [zbl (by simp;omega),zbl (by simpa using hi)]
section keys
variable {P:Program}
theorem H6 {k:FK} {v:Value} (h:qk k v=true) (n:Nat):Instr.sameBits n v v=true:=by
 cases v <;> cases k <;> simp [qk] at h <;> simp [Instr.sameBits] <;> (rw [beq_toListBytes];simp)
theorem zJ:∀ {ks:List FK} {vs:List Value},fitAll ks vs=true->∀ n,(vs.zip vs).all (λp=>Instr.sameBits n p.1 p.2)=true
 | [],[],_,n=>rfl
 | k::ks,v::vs,h,n=>by
  simp only [fitAll,zar] at h;simp only [List.zip_cons_cons,zej,H6 h.1,zJ h.2,Bool.and_self]
 | [],_::_,h,_=>by cases h
 | _::_,[],h,_=>by cases h
theorem H7 {t:TypeId} {k:FK} (h:Gf (P.underlying t)=some k) {v:Value} (hv:qk k v=true) (b:Bool) (n:Nat) (w:World):(Instr.checkKey b (n+1) t v).run P w=.ok () w:=by
 cases hd:P.underlying t with
 | none=>rw [hd] at h;cases h
 | some Lq =>
  rw [hd] at h;cases Lq <;> simp only [Gf,Option.some.injEq,reduceCtorEq] at h <;> subst h <;> cases v <;> simp [qk] at hv <;> simp [Instr.checkKey,run_underlying hd]
theorem Dn (b:Bool) (n:Nat) (w:World) (X:Array Value):∀ (fs:List Field) (k:Nat) (ks:List FK) (vs:List Value),ru P k fs=some ks->fitAll ks vs=true->(∀ (j:Nat) v,vs[j]?=some v->X[k+j]?=some v) ->
  (forIn fs PUnit.unit (λf _=>do
   if f.name ≠ "_" then do
    Instr.checkKey b (n+1) f.type (←part f.type X f.offset)
    pure (.yield PUnit.unit)
   else pure (.yield PUnit.unit)):Sem PUnit).run P w=.ok PUnit.unit w
 | [],k,ks,vs,h,hv,hX=>by simp
 | f::fs,k,ks,vs,h,hv,hX=>by
  unfold ru at h;split at h
  ·rename_i kk XL h1 h2 h3 h4;simp only [Option.some.injEq] at h;subst h
   match vs with
   | []=>cases hv
   | v::vs =>
    simp only [fitAll,zar] at hv;have ho:=zas h1;have JF:f.name ≠ "_" := zds h2;have px:=vK h3 (cs:=X) (off:=f.offset) (hX 0 v rfl |> λh=>by rw [ho];simpa using h) w;have pc:=H7 h3 hv.1 b n w;have ih:=Dn b n w X fs (k+1) XL vs h4 hv.2 (λj v hv=>by have:=hX (j+1) v (by simpa using hv);rwa [show k+1+j=k+(j+1) by omega]);rw [List.forIn_cons];simp only [zab JF,Sem.run_bind,px,pc,Result.andThen_ok,Sem.run_pure];exact ih
  ·cases h
def XV {κ:Type} [BEq κ] [LawfulBEq κ] {key:TypeId} {fs:Array Field} {ks:List FK} (bR:κ->List Value) (hu:P.underlying key=some (.struct fs)) (hk:gR P key=some ks) (hf:∀ a,fitAll ks (bR a)=true)
  (he:∀ a b,eI (bR a) (bR b)=(a==b)):vM P key κ :=
 XS (λa=>.agg (bR a).toArray) hu (λ_ _=>rfl) (λa b w=>by
   have:=(HN (P:=P) hk (hf a) (hf b) w .eql (.const (.bool true)) (.const (.bool true))).2;rw [he a b] at this;exact this)
  (λa=>by
   have:=zJ (hf a) 9999;show Instr.sameBits (9999+1) _ _=true;simp only [Instr.sameBits];simpa using this)
  (λa b w=>by
   have DL:ru P 0 fs.toList=some ks:=by
    unfold gR at hk;rw [hu] at hk;simp only at hk;split at hk
    ·cases hk
    ·exact hk
   have:=Dn (P:=P) b 9998 w (bR a).toArray fs.toList 0 ks (bR a) DL (hf a) (λj v hv=>by simpa using hv);show (Instr.checkKey b (9999+1) key _).run P w=.ok () w;unfold Instr.checkKey;simp only [Sem.run_bind,run_underlying hu,Result.andThen_ok];rw [←Array.forIn_toList,show (9999:Nat)=9998+1 from rfl,this];rfl)
end keys
structure xj (l:List Oper) (p:Nat) (σ:List Nat):Prop where
 nodup:σ.Nodup
 mem:∀ i,i∈σ↔i<p
 mask:∀ pre i post,σ=pre++i::post->∀ j,((eo l []).getD i 0).testBit j=true->j∈pre
theorem PV {l:List Oper} {p:Nat} (hp:p<=l.length)
  (EF:∀ i,p<=i->i<l.length->∀ j,j<i->((eo l []).getD i 0).testBit j=true)
  (xi:∀ (i:Nat) o,l[i]?=some o->∀ e∈o.after,Region.binds .any e=true->e.on<i) :
  ∀ (Gc fuel t:Nat) (listed:Array Bool),listed.size=l.length->wC l listed->(∀ i,p<=i->i<l.length->listed.getD i true=false) ->
   (((List.range p).filter λi=>!listed.getD i true).length=Gc)->Gc+(l.length-p)<=fuel ->
   ∃ σ:List Nat,Region.linearise.go .any l.toArray fuel t listed []=σ++List.range' p (l.length-p)/\σ.Nodup/\(∀ i,i∈σ↔i<p/\listed.getD i true=false) /\
    ∀ pre i post,σ=pre++i::post->∀ j,((eo l []).getD i 0).testBit j=true->j∈pre∨listed.getD j false=true:=by
 intro Gc
 induction Gc with
 | zero =>
  intro fuel t listed hs r7 Py A6 JA;have oG:∀ i,i<p->listed.getD i true=true:=by
   intro i hi;have h0:=zaw A6;have hn:i ∉ (List.range p).filter λi=>!listed.getD i true:=by rw [h0];simp
   rw [zcj,List.mem_range] at hn;cases hb:listed.getD i true with
   | true=>rfl
   | false=>exact absurd ⟨hi,by simp [hb]⟩ hn
  have Xz:=yD EF xi fuel t p listed (zam _) hp (by omega) hs (λi hi=>by
   by_cases h:i<p
   ·rw [oG i h];simp [h]
   ·rw [Py i (by omega) hi];simp [h])
  refine ⟨[],by rw [Xz];rfl,List.nodup_nil,λi=>⟨λh=>(by cases h),λh=>?_⟩,λpre i post h=>by simp at h⟩
  rw [oG i h.1] at h;cases h.2
 | succ Gc ih =>
  intro fuel t listed hs r7 Py A6 JA;obtain ⟨fuel,rfl⟩:∃ n,fuel=n+1:=⟨fuel-1,by omega⟩
  -- an operation of the beginning that has not come up
  have hex:∃ i,i<p/\listed.getD i true=false:=by
   have:(List.range p).filter (λi=>!listed.getD i true)≠[]:=λh=>by rw [h] at A6;simp at A6
   obtain ⟨i,hi⟩:=zew _ this;rw [zcj,List.mem_range] at hi;exact ⟨i,hi.1,by simpa using hi.2⟩
  have NY:∀ i,i<l.length->listed.getD i false=listed.getD i true:=λi hi=>by
   have cZ:i<listed.size:=by omega
   simp [zaq,cZ]
  have Uj:((List.range l.toArray.size).filter λi=>!listed.getD i true && ((l.toArray[i]?).map (·.after.all λe=>!Region.binds .any e || listed.getD e.on false)).getD false)=Region.ready .any l.toArray listed:=rfl
  -- the least such is ready
  have fh:Region.ready .any l.toArray listed≠[]:=by
   have Pz:∀ n i,i<=n->i<p->listed.getD i true=false->∃ i,i<p/\listed.getD i true=false/\∀ j,j<i->listed.getD j true=true:=by
    intro n
    induction n with
    | zero=>intro i hi NZ h;exact ⟨i,NZ,h,λj hj=>by omega⟩
    | succ n XA =>
     intro i hi NZ h;by_cases Ls:∃ j,j<i/\listed.getD j true=false
     ·obtain ⟨j,hj,Gd⟩:=Ls;exact XA j (by omega) (by omega) Gd
     ·refine ⟨i,NZ,h,λj hj=>?_⟩;cases hb:listed.getD j true with
      | true=>rfl
      | false=>exact absurd ⟨j,hj,hb⟩ Ls
   obtain ⟨i0,h0,h1⟩:=hex;obtain ⟨i,HM,JB,mT⟩:=Pz i0 i0 (zam _) h0 h1;have nQ:i<l.length:=by omega
   have:i∈Region.ready .any l.toArray listed:=by
    rw [mem_ready];refine ⟨JB,l[i],by simp [nQ],λe he hb=>?_⟩;have cZ:=xi i l[i] (zaf nQ) e he hb;rw [NY _ (by omega)];exact mT _ cZ
   intro Ga;rw [Ga] at this;cases this
  simp only [Region.linearise.go,Uj];have hlen:0<(Region.ready .any l.toArray listed).length:=zdt.2 fh;have xK:=zec t hlen;generalize hi:(Region.ready .any l.toArray listed)[t % (Region.ready .any l.toArray listed).length]=i;have Dg:(Region.ready .any l.toArray listed)[t % (Region.ready .any l.toArray listed).length]?=some i:=by rw [zaf xK,hi]
  rw [Dg];simp only [];rw [linearise_go_acc];have WO:i∈Region.ready .any l.toArray listed:=zbg Dg;obtain ⟨JB,o,ho,oG⟩:=mem_ready.1 WO;have ox:l[i]?=some o:=by simpa using ho
  have nQ:=(zad.1 ox).1;have tI:=wE r7 ox (λe he hb=>oG e he hb);have HM:i<p:=by
   rcases zfq i p with h|h
   ·exact h
   ·obtain ⟨i0,h0,h1⟩:=hex;have:=tI i0 (EF i h nQ i0 (by omega));rw [NY i0 (by omega),h1] at this;cases this
  -- what remains behind it
  have JC:((List.range p).filter λj=>!(listed.setIfInBounds i true).getD j true).length=Gc:=by
   have xL:∀ j,(listed.setIfInBounds i true).getD j true=(listed.getD j true || decide (j=i)):=by
    intro j;by_cases lM:j=i
    ·subst lM;simp [zaq,hs,nQ]
    ·rw [getD_set_ne true (zcb lM)];simp [lM]
   have PA:((List.range p).filter λj=>!(listed.setIfInBounds i true).getD j true)=((List.range p).filter λj=>!listed.getD j true).filter λj=>!decide (j=i):=by
    rw [List.filter_filter];refine zea λj _=>?_
    rw [xL j];cases listed.getD j true <;> simp
   rw [PA];have Te:((List.range p).filter λj=>!listed.getD j true).Nodup:=List.nodup_range.filter _;have sW:i∈(List.range p).filter λj=>!listed.getD j true:=by rw [zcj,List.mem_range];exact ⟨HM,by simp [JB]⟩
   have EG:∀ (L:List Nat),L.Nodup->i∈L->(L.filter λj=>!decide (j=i)).length+1=L.length:=by
    intro L
    induction L with
    | nil=>intro _ h;cases h
    | cons a L XD =>
     intro hn hm;rw [zbs] at hn;by_cases ha:a=i
     ·subst ha;have:(L.filter λj=>!decide (j=a))=L:=by
       rw [zdg];intro b hb;have:b≠a:=λe=>hn.1 (e▸hb)
       simp [this]
      rw [zbo];simp [this]
     ·have zd:i∈L:=by
       rcases zav.1 hm with h|h
       ·exact absurd h.symm ha
       ·exact h
      rw [zbo];simp only [ha,zex,zcs,zcf,zag];rw [XD hn.2 zd]
   have:=EG _ Te sW;omega
  have PB:wC l (listed.setIfInBounds i true):=by
   intro j oj A7 yE e AR hb;by_cases lM:j=i
   ·subst lM;rw [ox] at A7;cases A7;exact getD_set_true (oG e AR hb)
   ·rw [getD_set_ne false (zcb lM)] at yE;exact getD_set_true (r7 j oj A7 yE e AR hb)
  have PC:∀ j,p<=j->j<l.length->(listed.setIfInBounds i true).getD j true=false:=λj hj Gd=>by rw [getD_set_ne true (by omega)];exact Py j hj Gd
  obtain ⟨σ,h1,h2,h3,h4⟩:=ih fuel (t / (Region.ready .any l.toArray listed).length) _ (by simpa using hs) PB PC JC (by omega);have xL:∀ j,(listed.setIfInBounds i true).getD j true=(listed.getD j true || decide (j=i)):=by
   intro j;by_cases lM:j=i
   ·subst lM;simp [zaq,hs,nQ]
   ·rw [getD_set_ne true (zcb lM)];simp [lM]
  refine ⟨i::σ,?_,?_,?_,?_⟩
  ·rw [h1];rfl
  ·rw [zbs];refine ⟨λhm=>?_,h2⟩;have:=((h3 i).1 hm).2;rw [xL] at this;simp at this
  ·intro j;rw [zav,h3,xL];constructor
   ·rintro (rfl|⟨a,b⟩)
    ·exact ⟨HM,JB⟩
    ·refine ⟨a,?_⟩;cases hj:listed.getD j true with
     | false=>rfl
     | true=>rw [hj] at b;simp at b
   ·rintro ⟨a,b⟩;by_cases lM:j=i
    ·exact .inl lM
    ·exact .inr ⟨a,by simp [b,lM]⟩
  ·intro pre i' post he j hj;cases pre with
   | nil =>
    simp only [zbz,List.cons.injEq] at he;rw [←he.1] at hj;exact .inr (tI j hj)
   | cons a pre =>
    simp only [List.cons_append,List.cons.injEq] at he;rcases h4 pre i' post he.2 j hj with h|h
    ·exact .inl (zal _ h)
    ·by_cases lM:j=i
     ·left;rw [lM,he.1];exact zao
     ·rw [getD_set_ne false (zcb lM)] at h;exact .inr h
section run
variable {P:Program} {f:Ctx} {N:Nat} {S:Start} {Q:EV->St->Prop} {k:List Item}
theorem bp.LN {id:Nat} {l:List Oper} {env:Env} {st:St} (p:Nat) (hm:P.follows .mixedOrders=true) (hB:cw l p=true)
  (h:∀ σ,xj l p σ->bp P f N S Q (.inRegion l.toArray (σ++List.range' p (l.length-p))::k) env st):bp P f N S Q (.code (.region id l.toArray true)::k) env st:=by
 simp only [cw,zar] at hB;obtain ⟨⟨⟨⟨Rz,WQ⟩,WR⟩,WS⟩,Uk⟩:=hB;have hp:p<=l.length:=by simpa using Uk
 intro g w tmps hinv hh he hn;refine eK.z7 λt=>?_
 have PE:Region.schedule (P.follows .mixedOrders) l.toArray t=Region.linearise .any l.toArray t:=by simp [Region.schedule,hm]
 rw [PE];have hb:Below w.heap.size w { w with drawn:=w.drawn+1 }:=(Below.refl _ w).drew;obtain ⟨ek,lX⟩:=hinv.grow (g':=g) hb (λ_ _=>rfl) rfl rfl;unfold Region.linearise;obtain ⟨σ,h1,h2,h3,h4⟩:=PV (l:=l) (p:=p) hp (λi hi nQ j hj=>by
   have h1:=cQ WR nQ;simp only [zbr,zah] at h1;rcases h1 with h1|h1
   ·omega
   ·exact cQ h1 hj) (λi o ho e AR kc=>by
   have nQ:=(zad.1 ho).1;have h1:=cQ WS nQ;rw [ho] at h1;simp only [zbb] at h1;have:=h1 e (by simpa using AR);simpa [kc] using this) p l.toArray.size t (Array.replicate l.toArray.size false) (by simp) (λi o ho Px=>by
   simp [zaq,Array.getElem?_replicate] at Px;split at Px <;> simp_all) (λi hi nQ=>by simp [zaq,Array.getElem?_replicate,nQ]) (by
   have:((List.range p).filter λi=>!(Array.replicate l.toArray.size false).getD i true)=List.range p:=by
    rw [zdg];intro i hi;have hi':=List.mem_range.1 hi;have:i<l.length:=by omega
    simp [zaq,Array.getElem?_replicate,this]
   rw [this];simp) (by simp;omega)
 rw [h1];refine h σ ⟨h2,λi=>?_,λpre i post he j hj=>?_⟩ g _ tmps ek (hh.step lX) (he.mono lX.dO) hn
 ·rw [h3];constructor
  ·exact λh=>h.1
  ·intro hi;have:i<l.length:=by omega
   exact ⟨hi,by simp [zaq,Array.getElem?_replicate,this]⟩
 ·rcases h4 pre i post he j hj with h|h
  ·exact h
  ·simp [zaq,Array.getElem?_replicate] at h;split at h <;> simp_all
def Tl (P:Program) (base:Nat) (env:Env) (st:St) (o:Oper) (x:EV) (st':St):Prop :=
 ∀ g w tmps,Inv g base w st->eh g w st env tmps->∃ f' args,(execOp (Act.eval ⟨tmps,[]⟩) o).run P w=.ok (.enter f' args) w /\
  Calls P f' args w λe w'=>∃ v g',e=.returned v/\bM g' w' st' x v/\Inv g' base w' st'/\Step base g w st g' w' st'
def OpF (P:Program) (base:Nat) (l:List Oper) (env:Env) (st:St) (o:Oper) (x:EV) (st':St):Prop:=ZR P base l env st o x st'∨(o.guard=none/\Tl P base env st o x st')
theorem bp.ZX {l:List Oper} {p:Nat} {σ:List Nat} {env:Env} {st:St} (hs:xj l p σ) (hp:p<=l.length) (xs:List EV) (F:List Nat->St->Prop)
  (Xy:∀ i j t,i<p->j<p->i≠j->eH l i=some t->eH l j≠some t)
  (Tf:∀ (i:Nat) o,i<p->l[i]?=some o->∀ t∈Jz l o,∀ j,j<p->j≠i->eH l j=some t->(j<i/\((eo l []).getD i 0).testBit j=true)∨(i<j/\((eo l []).getD j 0).testBit i=true))
  (Tk:xs.length=p) (ZT:F [] st)
  (oT:∀ pre i post st o,σ=pre++i::post->l[i]?=some o->F pre st->fZ N o.dst=true/\∃ x st',xs[i]?=some x/\OpF P S.base l (lZ l o (gg env ((l.take p).take i) (xs.take i))) st o x st'/\F (pre++[i]) st')
  (Cc:∀ st,F σ st->cm P f N S Q l (l.drop p) k (gg env (l.take p) xs) st):bp P f N S Q (.inRegion l.toArray (σ++List.range' p (l.length-p))::k) env st:=by
 have wu:xs.length=(l.take p).length:=by simp;omega
 suffices key:∀ (post pre:List Nat) (st:St) (g:bY) (w:World) (tmps:Array Value),σ=pre++post->F pre st->Inv g S.base w st->rl S g w st->tmps.size=N ->
   (∀ (s:Tmp),(∀ (j:Nat) x,j∈pre->eH l j=some s->xs[j]?=some x->∃ v,tmps[s]?=some v/\bM g w st x v) /\
    ((∀ j,j∈pre->eH l j≠some s)->∀ y,lookup s env=some y->∃ v,tmps[s]?=some v/\bM g w st y v)) ->
   eK P f (nt S Q) (.inRegion l.toArray (post++List.range' p (l.length-p))::k) tmps w by
  intro g w tmps hinv hh he hN;exact key σ [] st g w tmps rfl ZT hinv hh hN λs=>⟨λj x hj=>by (cases hj),λ_ y hy=>he s y hy⟩
 intro post
 induction post with
 | nil =>
  intro pre st g w tmps hσ hF hinv hh hN hJ;rw [zcg] at hσ;subst hσ;have AS:(l.drop p).length=l.length-p:=by simp
  rw [zbz,←AS];refine Cc st hF p (λj=>by rw [zaz]) g w tmps hinv hh (λs y hy=>?_) hN;rcases jN wu hy with ⟨j,o,h1,h2,h3⟩|⟨h1,h2⟩
  ·have hj:j<p:=by have:=(zad.1 h2).1;omega
   have ho:l[j]?=some o:=by rw [zaj] at h1;rw [zab hj] at h1;exact h1
   exact (hJ s).1 j y ((hs.mem j).2 hj) (by simp [eH,ho,h3]) h2
  ·refine (hJ s).2 (λj hj hd=>?_) y h2;have Je:=(hs.mem j).1 hj;cases ho:l[j]? with
   | none=>simp [eH,ho] at hd
   | some o=>exact h1 j o (by rw [zaj,zab Je];exact ho) (by simpa [eH,ho] using hd)
 | cons i post ih =>
  intro pre st g w tmps hσ hF hinv hh hN hJ;have hi:i<p:=(hs.mem i).1 (by rw [hσ];simp);have nQ:i<l.length:=by omega
  obtain ⟨o,ox⟩:∃ o,l[i]?=some o:=⟨_,zaf nQ⟩;have tI:=hs.mask pre i post hσ;have MS:i ∉ pre:=by
   have:=hs.nodup;rw [hσ,zdf] at this;exact λhm=>this.2.2 i hm i zao rfl
  have hprelt:∀ j,j∈pre->j<p:=λj hj=>(hs.mem j).1 (by rw [hσ];simp [hj]);obtain ⟨hd,x,st',hx,vJ,ZS⟩:=oT pre i post st o hσ ox hF
  -- what the operation looks at
  have he:eh g w st (lZ l o (gg env ((l.take p).take i) (xs.take i))) tmps:=by
   intro s y hy;obtain ⟨Tg,Jd⟩:=tH hy;rcases jN (by simp [wu]) Jd with ⟨j,o',h1,h2,h3⟩|⟨h1,h2⟩
   ·have lM:j<i:=by have:=(zad.1 h2).1;simp at this;omega
    have A7:l[j]?=some o':=by
     rw [zaj,zab lM,zaj,zab (by omega)] at h1;exact h1
    have uK:eH l j=some s:=by simp [eH,A7,h3]
    rcases Tf i o hi ox s Tg j (by omega) (by omega) uK with ⟨_,hb⟩|⟨cZ,_⟩
    ·exact (hJ s).1 j y (tI j hb) uK (by rw [zaj,zab lM] at h2;exact h2)
    ·omega
   ·refine (hJ s).2 (λj hj uK=>?_) y h2;have lM:j≠i:=λe=>MS (e▸hj)
    rcases Tf i o hi ox s Tg j (hprelt j hj) lM uK with ⟨cZ,_⟩|⟨cZ,hb⟩
    ·cases A7:l[j]? with
     | none=>simp [eH,A7] at uK
     | some o'=>exact h1 j o' (by rw [zaj,zab cZ,zaj,zab (hprelt j hj)];exact A7) (by simpa [eH,A7] using uK)
    ·-- j came ahead of i,though it must come behind it
     obtain ⟨a,b,Ca⟩:=zdw hj;have:=hs.mask a j (b++i::post) (by rw [hσ,Ca];simp) i hb;exact absurd (by rw [Ca];simp [this]:i∈pre) MS
  have next:∀ (g':bY) (w':World) (v:Value),bM g' w' st' x v->Inv g' S.base w' st'->Step S.base g w st g' w' st' ->
    eK P f (nt S Q) (.inRegion l.toArray (post++List.range' p (l.length-p))::k) (Act.put ⟨tmps,[]⟩ o.dst v).tmps w':=by
   intro g' w' v A3 ek lX;refine ih (pre++[i]) st' g' w' _ (by rw [hσ];simp) ZS ek (hh.step lX) (by rw [ia];exact hN) λs=>⟨λj y hj uK hy=>?_,λMO y hy=>?_⟩
   ·by_cases lM:j=i
    ·subst lM;have JD:o.dst=some s:=by simpa [eH,ox] using uK
     rw [hx] at hy;cases hy;rw [JD];have fB:s<tmps.size:=by
      rw [JD] at hd;have XE:s+1<=N:=zae hd;rw [hN];exact XE
     exact ⟨v,by simp [Act.put,fB],A3⟩
    ·have Je:j∈pre:=by
      rcases zbi.1 hj with h|h
      ·exact h
      ·exact absurd (zca.1 h) lM
     obtain ⟨u,h1,h2⟩:=(hJ s).1 j y Je uK hy;have o4:o.dst≠some s:=λe=>Xy j i s (hprelt j Je) hi lM uK (by simp [eH,ox,e])
     refine ⟨u,?_,h2.mono lX.dO⟩;cases PD:o.dst with
     | none=>exact h1
     | some d =>
      have:d≠s:=λe=>o4 (by rw [PD,e])
      simp [Act.put,zbv,this,h1]
   ·have o4:o.dst≠some s:=λe=>MO i (by simp) (by simp [eH,ox,e])
    obtain ⟨u,h1,h2⟩:=(hJ s).2 (λj hj=>MO j (by simp [hj])) y hy;refine ⟨u,?_,h2.mono lX.dO⟩;cases PD:o.dst with
    | none=>exact h1
    | some d =>
     have:d≠s:=λe=>o4 (by rw [PD,e])
     simp [Act.put,zbv,this,h1]
  have F4:l.toArray[i]?=some o:=by simpa using ox
  show eK P f (nt S Q) (.inRegion l.toArray (i::_)::k) tmps w;have xR:st'=st->∀ (dv:Nat->Nat) (w':World) (v:Value),Good g w st x dv w' v ->
    eK P f (nt S Q) (.inRegion l.toArray (post++List.range' p (l.length-p))::k) (Act.put ⟨tmps,[]⟩ o.dst v).tmps w':=by
   rintro rfl dv w' v ⟨A3,hb,hl⟩;obtain ⟨ek,lX⟩:=hinv.grow (g':={ g with lim:=dv }) hb hl rfl rfl;exact next _ w' v A3 ek lX
  rcases vJ with (⟨N3,vJ⟩|⟨hg,vJ⟩|⟨hg,rfl,vJ⟩)|⟨hg,vJ⟩
  ·rcases vJ with ⟨hg,vJ⟩|⟨j,want,tt,c,b,y,env',hg,hj,XF,XG,rfl,hE,vJ⟩
   ·have hw:Region.wanted o (yielded l.toArray tmps)=true:=by simp [Region.wanted,hg]
    rcases vJ g S.base w tmps hinv he with ⟨v,dv,w',hr,xM⟩|⟨f',args,hr,hc⟩
    ·exact eK.value F4 hw hr (xR N3 dv w' v xM)
    ·exact eK.call F4 hw hr (hc.mono λe w' ⟨v,dv,h1,h2⟩=>⟨v,h1,xR N3 dv w' v h2⟩)
   ·obtain ⟨u,hu,XH⟩:=he tt c XF;have hw:Region.wanted o (yielded l.toArray tmps)=b:=by
     rw [←tf XG XH];have Je:((l.toArray)[j]?).bind (·.dst)=some tt:=by simpa using hj
     simp only [Region.wanted,hg,yielded,Je,zac,hu];cases u <;> rfl
    cases b with
    | false=>exact eK.xF F4 hw (xR N3 g.lim w undef ⟨.gd _ _ _ (λ_=>rfl) (λh=>by cases h),.refl _ _,λ_ _=>rfl⟩)
    | true =>
     have wrap:∀ dv w' v,Good g w st y dv w' v->Good g w st (.gd true y) dv w' v:=λdv w' v ⟨a,b,c⟩=>⟨.gd _ _ _ (λh=>by cases h) (λ_=>a),b,c⟩
     rcases vJ rfl g S.base w tmps hinv (he.gd hE rfl) with ⟨v,dv,w',hr,xM⟩|⟨f',args,hr,hc⟩
     ·exact eK.value F4 hw hr (xR N3 dv w' v (wrap _ _ _ xM))
     ·exact eK.call F4 hw hr (hc.mono λe w' ⟨v,dv,h1,h2⟩=>⟨v,h1,xR N3 dv w' v (wrap _ _ _ h2)⟩)
  ·have hw:Region.wanted o (yielded l.toArray tmps)=true:=by simp [Region.wanted,hg]
   obtain ⟨v,g',w',hr,A3,ek,lX⟩:=vJ g w tmps hinv he;exact eK.value F4 hw hr (next g' w' v A3 ek lX)
  ·have hw:Region.wanted o (yielded l.toArray tmps)=true:=by simp [Region.wanted,hg]
   obtain ⟨g',w',hr,ek,lX⟩:=vJ g w tmps hinv he;exact eK.skip F4 hw hr (next g' w' undef (.d _ _ (.any _)) ek lX)
  ·have hw:Region.wanted o (yielded l.toArray tmps)=true:=by simp [Region.wanted,hg]
   obtain ⟨f',args,hr,hc⟩:=vJ g w tmps hinv he;exact eK.call F4 hw hr (hc.mono λe w' ⟨v,g',h1,A3,ek,lX⟩=>⟨v,h1,next g' w' v A3 ek lX⟩)
def Oc:List St->(St->Prop)->Prop
 | [],_=>True
 | s::r,p=>p s/\Oc r p
theorem Oc.get {p:St->Prop}:∀ {ss:List St} {i:Nat} {s:St},Oc ss p->ss[i]?=some s->p s
 | s::r,0,s',h,hs=>by simp at hs;subst hs;exact h.1
 | s::r,i+1,s',h,hs=>Oc.get h.2 (by simpa using hs)
 | [],i,s',h,hs=>by simp at hs
def UE (l:List Oper) (E:List Nat) (i m:Nat):Bool:=E.zipIdx.all λe=>(!((eo l []).getD i 0).testBit e.1 || decide (e.2<m)) && (!((eo l []).getD e.1 0).testBit i || decide (m<=e.2))
def PW (l:List Oper) (E:List Nat) (i lo hi:Nat):Bool:=(List.range (E.length+1)).all λm=>!UE l E i m || (decide (lo<=m) && decide (m<=hi))
def Tm (P:Program) (N base:Nat) (l:List Oper) (E:List Nat) (iF:List St) (i:Nat) (o:Oper) (env:Env) (x:EV):Prop :=
  fZ N o.dst=true /\
  ((∃ lo hi,(!E.any λe=>Nat.beq e i)=true/\PW l E i lo hi=true/\Oc ((iF.take (hi+1)).drop lo) λs=>uJ P l env s o x) ∨
   (∃ m s s',E[m]?=some i/\iF[m]?=some s/\iF[m+1]?=some s'/\o.guard=none/\(xG P base env s o x s'∨(x=.d .any/\HE P base env s o s')∨Tl P base env s o x s')))
def wK (P:Program) (N base:Nat) (l:List Oper) (E:List Nat) (iF:List St):Nat->List Oper->List EV->Env->Prop
 | _,[],[],_=>True
 | i,o::os,x::xs,env=>Tm P N base l E iF i o (lZ l o env) x/\wK P N base l E iF (i+1) os xs (env.put o.dst x)
 | _,_,_,_=>False
theorem wK.length {base:Nat} {l:List Oper} {E:List Nat} {iF:List St}:∀ {i:Nat} {os:List Oper} {xs:List EV} {env:Env},wK P N base l E iF i os xs env->xs.length=os.length
 | _,[],[],_,_=>rfl
 | _,o::os,x::xs,env,h=>by simp [wK.length h.2]
 | _,[],x::xs,_,h=>h.elim
 | _,o::os,[],_,h=>h.elim
theorem wK.get {base:Nat} {l:List Oper} {E:List Nat} {iF:List St}:∀ {i:Nat} {os:List Oper} {xs:List EV} {env:Env} {j:Nat} {o:Oper},wK P N base l E iF i os xs env->os[j]?=some o ->
  ∃ x,xs[j]?=some x/\Tm P N base l E iF (i+j) o (lZ l o (gg env (os.take j) (xs.take j))) x
 | i,o'::os,x::xs,env,0,o,h,ho=>by
  simp at ho;subst ho;exact ⟨x,rfl,by simpa [gg] using h.1⟩
 | i,o'::os,x::xs,env,j+1,o,h,ho=>by
  obtain ⟨y,h1,h2⟩:=wK.get (j:=j) h.2 (by simpa using ho);exact ⟨y,by simpa using h1,by simpa [gg,zce,zcw 1 j] using h2⟩
 | i,[],xs,env,j,o,h,ho=>by simp at ho
 | i,o'::os,[],_,_,_,h,_=>h.elim
theorem bp.ZY {l:List Oper} {p:Nat} {σ:List Nat} {env:Env} {st xT:St} (hB:cw l p=true) (hs:xj l p σ) (E:List Nat) (iF:List St) (hE:σ.filter (λi=>E.any λe=>Nat.beq e i)=E) {xs:List EV}
  (h0:iF[0]?=some st) (hF:iF[E.length]?=some xT) (O5:wK P N S.base l E iF 0 (l.take p) xs env) (Cc:cm P f N S Q l (l.drop p) k (gg env (l.take p) xs) xT) :
  bp P f N S Q (.inRegion l.toArray (σ++List.range' p (l.length-p))::k) env st:=by
 simp only [cw,zar] at hB;obtain ⟨⟨⟨⟨Rz,WQ⟩,WR⟩,WS⟩,Uk⟩:=hB;have hp:p<=l.length:=by simpa using Uk
 have Tk:xs.length=p:=by rw [O5.length];simp;omega
 refine bp.ZX hs hp xs (λpre s=>iF[(pre.filter λi=>E.any λe=>Nat.beq e i).length]?=some s) ?_ ?_ Tk h0 ?_ ?_
 ·intro i j t hi hj N0 XI uK;have:=cQ (cQ WQ hi) hj;simp [N0,XI,uK] at this
 ·intro i o hi ho t ht j hj lM uK;have h1:=cQ Rz hi;rw [ho] at h1;simp only [zbb] at h1;have h2:=cQ (h1 t ht) hj;simp only [uK,zfe,zdj,zbr,zar,zah,zee] at h2;rcases h2 with (h2|h2)|h2
  ·exact absurd h2.symm lM
  ·exact .inl h2
  ·exact .inr h2
 ·intro pre i post s o hσ ho MT;have hi:i<p:=(hs.mem i).1 (by rw [hσ];simp);obtain ⟨x,hx,lX⟩:=O5.get (j:=i) (o:=o) (by rw [zaj,zab hi];exact ho);rw [zbp] at lX;obtain ⟨hd,lX⟩:=lX;refine ⟨hd,x,?_⟩
  -- how far the turning operations have come
  have H8:E=(pre.filter λi=>E.any λe=>Nat.beq e i)++((i::post).filter λi=>E.any λe=>Nat.beq e i):=by
   have:=hE;rw [hσ,zdi] at this;exact this.symm
  generalize hm:(pre.filter λi=>E.any λe=>Nat.beq e i).length=m at MT;have hmE:m<=E.length:=by rw [H8,zai,hm];omega
  rcases lX with ⟨lo,hi',fh,hb,oG⟩|⟨m',s0,s1,Zh,Li,hs1,hg,vJ⟩
  ·have UF:(E.any λe=>Nat.beq e i)=false:=by simpa using fh
   have UG:UE l E i m=true:=by
    unfold UE;rw [zbb];rintro ⟨e,j⟩ ZZ;have WW:E[j]?=some e:=by
     have:=zep.1 ZZ;simpa using this
    have R0:(E.any λe'=>Nat.beq e' e)=true:=zet.2 ⟨e,zbg WW,zen e⟩;simp only [zar,zbr,zdl,zah];have PX:E.Nodup:=by rw [←hE];exact hs.nodup.filter _
    constructor
    ·cases PY:((eo l []).getD i 0).testBit e with
     | false=>exact .inl rfl
     | true =>
      right;have Dj:=hs.mask pre i post hσ e PY;have XW:e∈pre.filter λi=>E.any λe=>Nat.beq e i:=zcj.2 ⟨Dj,R0⟩
      obtain ⟨a,ha,hae⟩:=List.mem_iff_getElem.1 XW;have:E[a]?=some e:=by rw [H8,zak ha,zaf ha,hae]
      have haj:a=j:=by
       have h1:=(zad.1 this);have h2:=(zad.1 WW);exact (List.getElem_inj PX).1 (h1.2.trans h2.2.symm)
      omega
    ·cases PY:((eo l []).getD e 0).testBit i with
     | false=>exact .inl rfl
     | true =>
      right
      -- e comes behind i
      rcases zfq j m with hjm|hjm
      ·have h1:(pre.filter λi=>E.any λe=>Nat.beq e i)[j]?=some e:=by
        rw [H8,zak (by omega)] at WW;exact WW
       have Dj:e∈pre:=(zcj.1 (zbg h1)).1;obtain ⟨a,b,Ca⟩:=zdw Dj;have:=hs.mask a e (b++i::post) (by rw [hσ,Ca];simp) i PY;have MS:i ∉ pre:=by
        have:=hs.nodup;rw [hσ,zdf] at this;exact λhm=>this.2.2 i hm i zao rfl
       exact absurd (by rw [Ca];simp [this]:i∈pre) MS
      ·exact hjm
   have hbd:=zbb.1 hb m (List.mem_range.2 (by omega));rw [UG] at hbd;simp only [zck,zcv,zar,zah] at hbd;refine ⟨s,hx,.inl (.inl ⟨rfl,oG.get (i:=m-lo) ?_⟩),?_⟩
   ·rw [zaz,zaj,zab (by omega),show lo+(m-lo)=m by omega];exact MT
   ·rw [zdi,zbo,UF];simp only [zbf,zbw,List.filter_nil,zcg];rw [hm];exact MT
  ·have R0:(E.any λe'=>Nat.beq e' i)=true:=zet.2 ⟨i,zbg Zh,zen i⟩;have PX:E.Nodup:=by rw [←hE];exact hs.nodup.filter _
   have Z0:E[m]?=some i:=by
    rw [H8,zat (by omega),hm,Nat.sub_self,zbo,R0];rfl
   have Zi:m=m':=by
    have h1:=(zad.1 Z0);have h2:=(zad.1 Zh);exact (List.getElem_inj PX).1 (h1.2.trans h2.2.symm)
   subst Zi;rw [MT] at Li;cases Li;refine ⟨s1,hx,?_,?_⟩
   ·rcases vJ with h|⟨h1,h2⟩|h
    ·exact .inl (.inr (.inl ⟨hg,h⟩))
    ·exact .inl (.inr (.inr ⟨hg,h1,h2⟩))
    ·exact .inr ⟨hg,h⟩
   ·rw [zdi,zbo,R0];simp only [zcf,List.filter_nil,zai,zan,hm];exact hs1
 ·intro s MT;rw [hE,hF] at MT;cases MT;exact Cc
theorem filter_one {σ:List Nat} (hn:σ.Nodup) {e:Nat} (he:e∈σ):σ.filter (λi=>i==e)=[e]:=by
 induction σ with
 | nil=>cases he
 | cons c r ih =>
  rw [zbs] at hn;by_cases hc:c=e
  ·subst hc;have:r.filter (λi=>i==c)=[]:=zde.2 λi hi h=>hn.1 (by rw [zee] at h;exact h▸hi);rw [zbo,zfk,zab rfl,this]
  ·rw [zbo];have:(c==e)=false:=by simpa using hc
   rw [this];simpa using ih hn.2 ((zav.1 he).resolve_left (zcb hc))
theorem xj.one {l:List Oper} {p:Nat} {σ:List Nat} (hs:xj l p σ) {e:Nat} (he:e<p):σ.filter (λi=>[e].any λe=>Nat.beq e i)=[e]:=by
 have h1:(λi=>[e].any λe=>Nat.beq e i)=λi=>i==e:=by
  funext i;simp only [zdz,zeq,zdj];rw [zbu,Nat.beq_eq,zee,zeo]
 rw [h1];exact filter_one hs.nodup ((hs.mem e).2 he)
theorem LO {σ:List Nat} (hn:σ.Nodup) {a b:Nat} (Ca:a≠b) (ha:a∈σ) (hb:b∈σ) (q:Nat->Bool) (hq:∀ i,q i=(i==a || i==b)):σ.filter q=[a,b]∨σ.filter q=[b,a]:=by
 induction σ with
 | nil=>cases ha
 | cons c r ih =>
  rw [zbs] at hn;by_cases Tn:c=a
  ·subst Tn;left;have Z1:b∈r:=(zav.1 hb).resolve_left (zcb Ca);rw [zbo,hq,zfk,zer,zab rfl];congr 1;have:r.filter q=r.filter λi=>i==b:=zea λi hi=>by
    have:i≠c:=λe=>hn.1 (e▸hi)
    rw [hq];simp [this]
   rw [this];exact filter_one hn.2 Z1
  ·by_cases UH:c=b
   ·subst UH;right;have Z2:a∈r:=(zav.1 ha).resolve_left (zcb Tn);rw [zbo,hq,zfk,Bool.or_true,zab rfl];congr 1;have:r.filter q=r.filter λi=>i==a:=zea λi hi=>by
     have:i≠c:=λe=>hn.1 (e▸hi)
     rw [hq];simp [this]
    rw [this];exact filter_one hn.2 Z2
   ·have Z2:a∈r:=(zav.1 ha).resolve_left (zcb Tn);have Z1:b∈r:=(zav.1 hb).resolve_left (zcb UH);have:=ih hn.2 Z2 Z1;rw [zbo,hq];simpa [Tn,UH] using this
theorem xj.two {l:List Oper} {p:Nat} {σ:List Nat} (hs:xj l p σ) {a b:Nat} (Ca:a≠b) (ha:a<p) (hb:b<p) :
  σ.filter (λi=>[a,b].any λe=>Nat.beq e i)=[a,b]∨σ.filter (λi=>[b,a].any λe=>Nat.beq e i)=[b,a]:=by
 have q1:∀ i,([a,b].any λe=>Nat.beq e i)=(i==a || i==b):=λi=>by
  simp only [zdz,zeq,zdj];rw [zbu];simp only [zbr,Nat.beq_eq,zee];exact ⟨λh=>h.elim (λh=>.inl h.symm) (λh=>.inr h.symm),λh=>h.elim (λh=>.inl h.symm) (λh=>.inr h.symm)⟩
 have q2:∀ i,([b,a].any λe=>Nat.beq e i)=(i==a || i==b):=λi=>by
  simp only [zdz,zeq,zdj];rw [zbu];simp only [zbr,Nat.beq_eq,zee];exact ⟨λh=>h.elim (λh=>.inr h.symm) (λh=>.inl h.symm),λh=>h.elim (λh=>.inr h.symm) (λh=>.inl h.symm)⟩
 rcases LO hs.nodup Ca ((hs.mem a).2 ha) ((hs.mem b).2 hb) _ q1 with h|h
 ·exact .inl h
 ·right;have:(λi=>[b,a].any λe=>Nat.beq e i)=λi=>[a,b].any λe=>Nat.beq e i:=by
   funext i;rw [q1,q2]
  rw [this];exact h
theorem xj.Z3 {l:List Oper} {p:Nat} {σ:List Nat} (hs:xj l p σ) {a b:Nat} (ha:a<p) (hb:b<p) (hm:((eo l []).getD b 0).testBit a=true) :
  σ.filter (λi=>[a,b].any λe=>Nat.beq e i)=[a,b]:=by
 have Ca:a≠b:=by
  rintro rfl;obtain ⟨x,y,PZ⟩:=zdw ((hs.mem a).2 ha);have h1:=hs.mask x a y PZ a hm;have:=hs.nodup;rw [PZ,zdf] at this;exact this.2.2 a h1 a zao rfl
 rcases hs.two Ca ha hb with h|h
 ·exact h
 ·exfalso;obtain ⟨x,y,PZ⟩:=zdw ((hs.mem b).2 hb);have h1:=hs.mask x b y PZ a hm;rw [PZ,zdi] at h;have q:([b,a].any λe=>Nat.beq e b)=true:=by simp
  rw [zbo,q] at h;have h2:a∈x.filter λi=>[b,a].any λe=>Nat.beq e i:=zcj.2 ⟨h1,by simp⟩
  obtain ⟨u,v,Z4⟩:=zdw h2;have hl:=zbm List.length h;have hbx:b ∉ x:=by
   have:=hs.nodup;rw [PZ,zdf] at this;exact λhm=>this.2.2 b hm b zao rfl
  cases hx:x.filter λi=>[b,a].any λe=>Nat.beq e i with
  | nil=>rw [hx] at h2;cases h2
  | cons c r =>
   rw [hx] at h;simp only [List.cons_append,List.cons.injEq] at h;have:b∈x.filter λi=>[b,a].any λe=>Nat.beq e i:=by rw [hx,h.1];exact zao
   exact hbx (zcj.1 this).1
def kj (P:Program) (f:Ctx) (N:Nat) (S:Start) (Q:EV->St->Prop) (l:List Oper) (p:Nat) (E:List Nat) (iF:List St) (i:Nat) (os:List Oper) (k:List Item) (env:Env):Prop :=
 ∃ xs xT,iF[E.length]?=some xT/\wK P N S.base l E iF i os xs env/\cm P f N S Q l (l.drop p) k (gg env os xs) xT
variable {l:List Oper} {p:Nat} {E:List Nat} {iF:List St} {i:Nat} {os:List Oper} {env:Env} {st:St} {d:Option Tmp} {op:Op} {ty:TypeId} {pos:String} {after:Array Edge} {x:EV}
theorem kj.nil {xT:St} (hF:iF[E.length]?=some xT) (h:cm P f N S Q l (l.drop p) k env xT):kj P f N S Q l p E iF i [] k env:=⟨[],xT,hF,trivial,h⟩
def P0 (P:Program) (l:List Oper) (env:Env) (o:Oper) (x:EV):List St->Prop
 | []=>True
 | s::r=>zF P (lZ l o env) s o x/\P0 P l env o x r
theorem P0.all {o:Oper} {P:Program} {l:List Oper} {env:Env} {x:EV} (hg:o.guard=none):∀ {ss:List St},P0 P l env o x ss->Oc ss λs=>uJ P l (lZ l o env) s o x
 | [],_=>trivial
 | s::r,h=>⟨.inl ⟨hg,h.1⟩,P0.all hg h.2⟩
theorem kj.g (lo hi:Nat) (h:P0 P l env ⟨d,op,ty,pos,after,none⟩ x ((iF.take (hi+1)).drop lo)) (fh:(!E.any λe=>Nat.beq e i)=true) (hb:PW l E i lo hi=true) (hd:fZ N d=true)
  (hk:kj P f N S Q l p E iF (i+1) os k (env.put d x)):kj P f N S Q l p E iF i (⟨d,op,ty,pos,after,none⟩::os) k env:=by
 obtain ⟨xs,xT,h0,h1,h2⟩:=hk;exact ⟨x::xs,xT,h0,⟨⟨hd,.inl ⟨lo,hi,fh,hb,h.all rfl⟩⟩,h1⟩,h2⟩
theorem kj.v {s s':St} (m:Nat) (h:xG P S.base (lZ l ⟨d,op,ty,pos,after,none⟩ env) s ⟨d,op,ty,pos,after,none⟩ x s') (hE:E[m]?=some i) (h1:iF[m]?=some s) (h2:iF[m+1]?=some s') (hd:fZ N d=true)
  (hk:kj P f N S Q l p E iF (i+1) os k (env.put d x)):kj P f N S Q l p E iF i (⟨d,op,ty,pos,after,none⟩::os) k env:=by
 obtain ⟨xs,xT,h0,h3,h4⟩:=hk;exact ⟨x::xs,xT,h0,⟨⟨hd,.inr ⟨m,s,s',hE,h1,h2,rfl,.inl h⟩⟩,h3⟩,h4⟩
theorem kj.u {s s':St} (m:Nat) (h:HE P S.base (lZ l ⟨d,op,ty,pos,after,none⟩ env) s ⟨d,op,ty,pos,after,none⟩ s') (hE:E[m]?=some i) (h1:iF[m]?=some s) (h2:iF[m+1]?=some s') (hd:fZ N d=true)
  (hk:kj P f N S Q l p E iF (i+1) os k (env.put d (.d .any))):kj P f N S Q l p E iF i (⟨d,op,ty,pos,after,none⟩::os) k env:=by
 obtain ⟨xs,xT,h0,h3,h4⟩:=hk;exact ⟨.d .any::xs,xT,h0,⟨⟨hd,.inr ⟨m,s,s',hE,h1,h2,rfl,.inr (.inl ⟨rfl,h⟩)⟩⟩,h3⟩,h4⟩
theorem kj.c {s s':St} (m:Nat) (h:Tl P S.base (lZ l ⟨d,op,ty,pos,after,none⟩ env) s ⟨d,op,ty,pos,after,none⟩ x s') (hE:E[m]?=some i) (h1:iF[m]?=some s) (h2:iF[m+1]?=some s') (hd:fZ N d=true)
  (hk:kj P f N S Q l p E iF (i+1) os k (env.put d x)):kj P f N S Q l p E iF i (⟨d,op,ty,pos,after,none⟩::os) k env:=by
 obtain ⟨xs,xT,h0,h3,h4⟩:=hk;exact ⟨x::xs,xT,h0,⟨⟨hd,.inr ⟨m,s,s',hE,h1,h2,rfl,.inr (.inr h)⟩⟩,h3⟩,h4⟩
theorem bp.Zj {σ:List Nat} {env:Env} {st:St} (hB:cw l p=true) (hs:xj l p σ) (hE:σ.filter (λi=>E.any λe=>Nat.beq e i)=E) (h0:iF[0]?=some st) (h:kj P f N S Q l p E iF 0 (l.take p) k env) :
  bp P f N S Q (.inRegion l.toArray (σ++List.range' p (l.length-p))::k) env st:=by
 obtain ⟨xs,xT,h1,h2,h3⟩:=h;exact .ZY hB hs E iF hE h0 h1 h2 h3
theorem bp.reorder {todo:List Item} {env LP:Env} {st st0:St} (rs ts:List Nat) (hp:zI rs ts st0 st=true)
  (ho:rs.map (λr=>st.aO[r]?)=st0.aO.map (λx=>some (x.ren (dm rs st.aO.length) (dm ts st.au.length)))) (ht:ts.map (λr=>st.au[r]?)=st0.au.map some)
  (hr:rs.take S.st.aO.length=List.range S.st.aO.length) (xh:ts.take S.st.au.length=List.range S.st.au.length) (hl:(Nat.ble S.st.aO.length rs.length && Nat.ble S.st.au.length ts.length)=true)
  (h5:st0.aO.all (ki st0.aO.length st0.au.length)=true) (ze:(LP.all λp=>pb st0.aO.length st0.au.length p.2)=true)
  (hE:dp env (LP.map λp=>(p.1,p.2.ren (dm rs st.aO.length) (dm ts st.au.length)))) (h:bp P f N S Q todo LP st0):bp P f N S Q todo env st:=by
 obtain ⟨p,WU,Lj,l1,l2⟩:=Part.of hp h5 ho ht;simp only [zar] at hl;have zf:=zae hl.1;have Ba:=zae hl.2;have same:∀ {l:List Nat} {n N:Nat},l.take n=List.range n->n<=l.length->∀ i,i<n->dm l N i=i:=fun {l n N} hl hn i hi=>by
  have e:(l.take n)[i]?=some i:=by rw [hl,List.getElem?_range hi]
  rw [zaj,zab hi] at e;simp [dm,e]
 have so:=λi hi=>same (N:=st.aO.length) hr zf i hi
 have MR:=λi hi=>same (N:=st.au.length) xh Ba i hi
 have Di:∀ {i:Nat},i<st0.au.length->st0.au[i]?=st.au[dm ts st.au.length i]?:=fun {i} hi=>by
  rw [p.au i _ (zaf hi),zaf hi]
 intro g w tmps hinv hh he hN;refine h (g.sub _ _) w tmps (hinv.part p) ⟨⟨hh.dO.cY,λo ox=>?_,by omega,λt e sz n hx=>?_,by omega,λt x' bw cZ jL ox=>?_⟩,hh.below,hh.lim,hh.frame,λb hb hw=>hh.fresh b hb (p.owned hw)⟩ (λi y hy=>?_) hN
 ·show g.ob (dm rs st.aO.length o)=S.g.ob o;rw [so o ox];exact hh.dO.ob o ox
 ·have cZ:t<S.st.au.length:=(zad.1 hx).1;obtain ⟨n',a1,a2,a3⟩:=hh.dO.au t e sz n hx;refine ⟨n',?_,a2,λe'=>?_⟩
  ·rw [Di (by omega),MR t cZ];exact a1
  ·show g.tk (dm ts st.au.length t)=S.g.tk t;rw [MR t cZ];exact a3 e'
 ·rw [Di (by have:=(zad.1 jL).1;exact this),MR t cZ] at jL;obtain ⟨y,rows,a1,a2,a3,a4,a5⟩:=hh.dO.own t x' bw cZ jL ox;refine ⟨y,rows,a1,a2,a3,a4,λe'=>?_⟩;show g.tk (dm ts st.au.length t)=S.g.tk t;rw [MR t cZ];exact a5 e'
 ·have Pk:∀ {e0:Env},lookup i e0=some y->lookup i (e0.map λp=>(p.1,p.2.ren (dm rs st.aO.length) (dm ts st.au.length)))=some (y.ren (dm rs st.aO.length) (dm ts st.au.length))/\(i,y)∈e0:=by
   intro e0
   induction e0 with
   | nil=>intro hh;cases hh
   | cons q r ih =>
    obtain ⟨j,z⟩:=q;intro hh;unfold lookup at hh;simp only [zap];unfold lookup;cases hb:Nat.beq i j with
    | true =>
     rw [hb] at hh;cases hh;have:=zas hb;subst this;exact ⟨rfl,zao⟩
    | false =>
     rw [hb] at hh;exact ⟨(ih hh).1,zal _ (ih hh).2⟩
  obtain ⟨m1,m2⟩:=Pk hy;obtain ⟨v,h1,h2⟩:=(he.sub hE) i _ m1;exact ⟨v,h1,h2.down p.au (zbb.1 ze _ m2)⟩
theorem cm.reorder {ops rest:List Oper} {env LP:Env} {st st0:St} (rs ts:List Nat) (hp:zI rs ts st0 st=true)
  (ho:rs.map (λr=>st.aO[r]?)=st0.aO.map (λx=>some (x.ren (dm rs st.aO.length) (dm ts st.au.length)))) (ht:ts.map (λr=>st.au[r]?)=st0.au.map some)
  (hr:rs.take S.st.aO.length=List.range S.st.aO.length) (xh:ts.take S.st.au.length=List.range S.st.au.length) (hl:(Nat.ble S.st.aO.length rs.length && Nat.ble S.st.au.length ts.length)=true)
  (h5:st0.aO.all (ki st0.aO.length st0.au.length)=true) (ze:(LP.all λp=>pb st0.aO.length st0.au.length p.2)=true)
  (hE:dp env (LP.map λp=>(p.1,p.2.ren (dm rs st.aO.length) (dm ts st.au.length)))) (h:cm P f N S Q ops rest k LP st0):cm P f N S Q ops rest k env st :=
 λj hj=>.reorder rs ts hp ho ht hr xh hl h5 ze hE (h j hj)
theorem bp.oy {id:Nat} {l:List Oper} {env:Env} {st:St} (p a:Nat) (iF:List St) (hm:P.follows .mixedOrders=true) (hB:cw l p=true) (ha:a<p) (h0:iF[0]?=some st)
  (h:kj P f N S Q l p [a] iF 0 (l.take p) k env):bp P f N S Q (.code (.region id l.toArray true)::k) env st :=
 .LN p hm hB λ_ hσ=>.Zj hB hσ (hσ.one ha) h0 h
theorem bp.uL {id:Nat} {l:List Oper} {env:Env} {st:St} (p a b:Nat) (iF:List St) (hm:P.follows .mixedOrders=true) (hB:cw l p=true) (ha:a<p) (hb:b<p) (Ca:((eo l []).getD b 0).testBit a=true) (h0:iF[0]?=some st)
  (h:kj P f N S Q l p [a,b] iF 0 (l.take p) k env):bp P f N S Q (.code (.region id l.toArray true)::k) env st :=
 .LN p hm hB λ_ hσ=>.Zj hB hσ (hσ.Z3 ha hb Ca) h0 h
end run
section rules
variable {P:Program} {f:Ctx} {N:Nat} {S:Start} {Q:EV->St->Prop} {k:List Item} {todo:List Item} {base:Nat} {env:Env} {st:St} {ops rest:List Oper}
 {d:Option Tmp} {ty:TypeId} {pos:String} {after:Array Edge} {gd:Option (Nat×Bool)} {t t2 e:TypeId} {x y z:Operand}
section sl
variable {α:Type} {sz:Nat} {row:α->List D} {l:List α} {ev:EV} {inf:TypeInfo} {tk tk2 n n2:Nat}
theorem ql {l':List α} {zv:Value} {e0 w2:EV} (ht:P.underlying t=some (.slice e)) (hi:P.info? e=some inf) (hz:inf.zero=some zv) (eO:inf.size=sz) (p9:zv.cells.size=sz) (hb:inf.bytes<=100000)
  (hx:cY env x=some e0) (h0:e0=.d (.e0 sz)∨e0=.d aX) (e9:st.au[tk]?=some ⟨e,sz,0,some (([]:List α).map row)⟩) (hy:cY env y=some w2) (hs:uy w2=some (sz,l'.map row)) (hn:l'.length<=1000000000) :
  xG P base env st ⟨d,.call ⟨.builtin .append,#[x,y],#[t,t]⟩,ty,pos,after,gd⟩ (.vc tk ([]++l').length) (st.bD tk ⟨e,sz,([]++l').length,some (([]++l').map row)⟩):=by
 intro g w tmps hinv he;have Xv:dK g.lim w (.e0 sz) (Act.eval ⟨tmps,[]⟩ x):=by
  rcases h0 with rfl|rfl
  ·cases aN he hx with|d _ _ h=>exact h
  ·rw [(aN he hx).bJ];exact .e0 sz none (.inl rfl)
 have hlen:tk<st.au.length:=(zad.1 e9).1;have nG:bM g w st (.vc tk 0) (Act.eval ⟨tmps,[]⟩ x):=by
  generalize hv:Act.eval ⟨tmps,[]⟩ x=v at Xv;cases Xv with|e0 _ A hA=>exact PO hlen e9 ⟨A,rfl⟩
 obtain ⟨news,tD⟩:=tg (P:=P) (rp hs (aN he hy));obtain ⟨v',g',w',hC,k1,k2,k3⟩:=Dk (ty:=ty) (l:=([]:List α)) ht ht (.inr ⟨e,rfl⟩) hi hz eO p9 hb hinv nG e9 (by simpa using hn) tD;exact ⟨v',g',w',by simp [execOp,resolve,invoke,builtin,hC],k1,k2,k3⟩
end sl
theorem bp.UI {e sz:Nat} (h:bp P f N S Q todo env (st.tok ⟨e,sz,0,some []⟩)):bp P f N S Q todo env st:=by
 intro g w tmps hinv hh he hN;obtain ⟨g',h1,_,_,h2,h3⟩:=hinv.sV ⟨e,sz,0,some []⟩ (World.ownsRow_nil w S.base _ _) (.inl ⟨rfl,rfl⟩) (λrows hr=>by cases hr;exact ⟨rfl,by simp,by simp⟩);exact h g' w tmps h2 (hh.step h3) (he.mono h3.dO) hN
end rules
def lR (L:Nat->Bool):List Nat->Nat
 | []=>0
 | e::r=>(if L e then 1 else 0)+2*lR L r
theorem Cl (L:Nat->Bool):∀ (E:List Nat) (j e:Nat),E[j]?=some e->(lR L E).testBit j=L e
 | e::r,0,e',h=>by
  simp at h;subst h;unfold lR;cases hL:L e <;> simp [Nat.testBit_zero] <;> omega
 | e::r,j+1,e',h=>by
  have ih:=Cl L r j e' (by simpa using h);unfold lR;rw [Nat.testBit_succ];have:((if L e then 1 else 0)+2*lR L r) / 2=lR L r:=by cases L e <;> simp <;> omega
  rw [this];exact ih
theorem JQ (L:Nat->Bool):∀ E:List Nat,lR L E<2 ^ E.length
 | []=>by simp [lR]
 | e::r=>by
  have:=JQ L r;unfold lR;rw [zag,Nat.pow_succ];cases L e <;> simp <;> omega
theorem Ak {L L':Nat->Bool}:∀ {E:List Nat},(∀ e∈E,L' e=L e)->lR L' E=lR L E
 | [],_=>rfl
 | e::r,h=>by
  unfold lR;rw [h e zao,Ak λx hx=>h x (zal _ hx)]
theorem G8 {L:Nat->Bool} {i:Nat} (hi:L i=false):∀ {E:List Nat} {m:Nat},E.Nodup->E[m]?=some i->lR (λj=>j==i || L j) E=lR L E+2 ^ m
 | e::r,0,hn,h=>by
  simp at h;subst h;rw [zbs] at hn;unfold lR;rw [Ak (L:=L) (E:=r) λx hx=>by
   have:x≠e:=λhh=>hn.1 (hh▸hx)
   simp [this]]
  simp [hi];omega
 | e::r,m+1,hn,h=>by
  rw [zbs] at hn;have h':r[m]?=some i:=by simpa using h
  have ih:=G8 hi hn.2 h';have fh:e≠i:=λhh=>hn.1 (hh▸zbg h')
  unfold lR;rw [ih,Nat.pow_succ];have:(e==i)=false:=by simpa using fh
  simp only [this,zcv];omega
def UJ (l:List Oper) (E:List Nat) (i n:Nat):Bool :=
 E.zipIdx.all λe=>(!((eo l []).getD i 0).testBit e.1 || n.testBit e.2) && (!(((eo l []).getD e.1 0).testBit i || Nat.beq e.1 i) || !n.testBit e.2) && (!n.testBit e.2 || E.zipIdx.all λe'=>!((eo l []).getD e.1 0).testBit e'.1 || n.testBit e'.2)
def Ia (l:List Oper) (E:List Nat) (i:Nat) (ns:List Nat):Bool:=(List.range (2 ^ E.length)).all λn=>!UJ l E i n || ns.any λk=>Nat.beq k n
section run
variable {P:Program} {f:Ctx} {N:Nat} {S:Start} {Q:EV->St->Prop} {k:List Item}
def JR (iF:List St):List Nat->(St->Prop)->Prop
 | [],_=>True
 | n::r,p=>(∃ s,iF[n]?=some s/\p s)/\JR iF r p
theorem JR.get {iF:List St} {p:St->Prop}:∀ {ns:List Nat} {n:Nat},JR iF ns p->n∈ns->∃ s,iF[n]?=some s/\p s
 | a::r,n,h,hn=>by
  rcases zav.1 hn with e|e
  ·rw [e];exact h.1
  ·exact JR.get h.2 e
def JS (iF:List St) (d:Nat):List Nat->(St->St->Prop)->Prop
 | [],_=>True
 | n::r,p=>(∃ s s',iF[n]?=some s/\iF[n+d]?=some s'/\p s s')/\JS iF d r p
theorem JS.get {iF:List St} {d:Nat} {p:St->St->Prop}:∀ {ns:List Nat} {n:Nat},JS iF d ns p->n∈ns->∃ s s',iF[n]?=some s/\iF[n+d]?=some s'/\p s s'
 | a::r,n,h,hn=>by
  rcases zav.1 hn with e|e
  ·rw [e];exact h.1
  ·exact JS.get h.2 e
def To (P:Program) (N base:Nat) (l:List Oper) (E:List Nat) (iF:List St) (i:Nat) (o:Oper) (env:Env) (x:EV):Prop :=
  fZ N o.dst=true/\∃ ns,Ia l E i ns=true /\
  (((!E.any λe=>Nat.beq e i)=true/\((∀ s,uJ P l env s o x)∨JR iF ns λs=>uJ P l env s o x)) ∨
   (∃ m,E[m]?=some i/\o.guard=none/\JS iF (2 ^ m) ns λs s'=>xG P base env s o x s'∨x=.d .any/\HE P base env s o s'))
def wL (P:Program) (N base:Nat) (l:List Oper) (E:List Nat) (iF:List St):Nat->List Oper->List EV->Env->Prop
 | _,[],[],_=>True
 | i,o::os,x::xs,env=>To P N base l E iF i o (lZ l o env) x/\wL P N base l E iF (i+1) os xs (env.put o.dst x)
 | _,_,_,_=>False
theorem wL.length {base:Nat} {l:List Oper} {E:List Nat} {iF:List St}:∀ {i:Nat} {os:List Oper} {xs:List EV} {env:Env},wL P N base l E iF i os xs env->xs.length=os.length
 | _,[],[],_,_=>rfl
 | _,o::os,x::xs,env,h=>by simp [wL.length h.2]
 | _,[],x::xs,_,h=>h.elim
 | _,o::os,[],_,h=>h.elim
theorem wL.get {base:Nat} {l:List Oper} {E:List Nat} {iF:List St}:∀ {i:Nat} {os:List Oper} {xs:List EV} {env:Env} {j:Nat} {o:Oper},wL P N base l E iF i os xs env->os[j]?=some o ->
  ∃ x,xs[j]?=some x/\To P N base l E iF (i+j) o (lZ l o (gg env (os.take j) (xs.take j))) x
 | i,o'::os,x::xs,env,0,o,h,ho=>by
  simp at ho;subst ho;exact ⟨x,rfl,by simpa [gg] using h.1⟩
 | i,o'::os,x::xs,env,j+1,o,h,ho=>by
  obtain ⟨y,h1,h2⟩:=wL.get (j:=j) h.2 (by simpa using ho);exact ⟨y,by simpa using h1,by simpa [gg,zce,zcw 1 j] using h2⟩
 | i,[],xs,env,j,o,h,ho=>by simp at ho
 | i,o'::os,[],_,_,_,h,_=>h.elim
theorem bp.Z5 {id p:Nat} {l:List Oper} {env:Env} {st xT:St} (hm:P.follows .mixedOrders=true) (hB:cw l p=true) (E:List Nat) (iF:List St) (hn:E.Nodup) (hp:∀ e∈E,e<p) {xs:List EV}
  (h0:iF[0]?=some st) (hF:iF[2 ^ E.length-1]?=some xT) (O5:wL P N S.base l E iF 0 (l.take p) xs env) (Cc:cm P f N S Q l (l.drop p) k (gg env (l.take p) xs) xT) :
  bp P f N S Q (.code (.region id l.toArray true)::k) env st:=by
 have Pw:p<=l.length:=by
  simp only [cw,zar] at hB;simpa using hB.2
 have Tk:xs.length=p:=by rw [O5.length];simp;omega
 have UK:∀ E:List Nat,lR (λ_=>false) E=0:=by
  intro E
  induction E with
  | nil=>rfl
  | cons e r ih=>unfold lR;rw [ih];rfl
 have UL:∀ (L:Nat->Bool) (E:List Nat),(∀ e∈E,L e=true)->lR L E=2 ^ E.length-1:=by
  intro L E
  induction E with
  | nil=>intro _;rfl
  | cons e r ih =>
   intro h;unfold lR;rw [h e zao,ih λx hx=>h x (zal _ hx),zag,Nat.pow_succ];have:=Nat.two_pow_pos r.length;simp;omega
 refine bp.UC p xs (λL s=>iF[lR L E]?=some s) hm hB Tk (by rw [UK];exact h0) ?_ ?_
 ·intro L s i o hi ho Zk tI MU MT;obtain ⟨x,hx,lX⟩:=O5.get (j:=i) (o:=o) (by rw [zaj,zab hi];exact ho);rw [zbp] at lX;obtain ⟨hd,ns,hb,lX⟩:=lX;refine ⟨hd,x,?_⟩;have UG:UJ l E i (lR L E)=true:=by
   unfold UJ;rw [zbb];rintro ⟨e,j⟩ ZZ;have WW:E[j]?=some e:=by
    have:=zep.1 ZZ;simpa using this
   have PY:=Cl L E j e WW;simp only [zar,zbr,zdl,PY];refine ⟨⟨?_,?_⟩,?_⟩
   ·cases rv:((eo l []).getD i 0).testBit e with
    | false=>exact .inl rfl
    | true=>exact .inr (tI e rv)
   ·cases rv:((eo l []).getD e 0).testBit i with
    | false =>
     cases hei:Nat.beq e i with
     | false=>exact .inl rfl
     | true=>exact .inr (zas hei▸Zk)
    | true =>
     right;cases Z6:L e with
     | false=>rfl
     | true=>rw [MU e Z6 i rv] at Zk;cases Zk
   ·cases Z6:L e with
    | false=>exact .inl rfl
    | true =>
     right;rw [zbb];rintro ⟨e',j'⟩ Z7;have Z8:E[j']?=some e':=by
      have:=zep.1 Z7;simpa using this
     simp only [zbr,zdl,Cl L E j' e' Z8];cases rv:((eo l []).getD e 0).testBit e' with
     | false=>exact .inl rfl
     | true=>exact .inr (MU e Z6 e' rv)
  have Dj:lR L E∈ns:=by
   have:=zbb.1 hb (lR L E) (List.mem_range.2 (JQ L E));rw [UG] at this;simp only [zck,zcv] at this;obtain ⟨a,ha,Ca⟩:=zet.1 this;rw [←zas Ca];exact ha
  rcases lX with ⟨fh,vJ⟩|⟨m,Zh,hg,vJ⟩
  ·have UF:(E.any λe=>Nat.beq e i)=false:=by simpa using fh
   have Z9:uJ P l (lZ l o (gg env ((l.take p).take i) (xs.take i))) s o x:=by
    rcases vJ with h|h
    ·exact h s
    ·obtain ⟨s0,h1,h2⟩:=h.get Dj;rw [MT] at h1;cases h1;exact h2
   refine ⟨s,hx,.inl ⟨rfl,Z9⟩,?_⟩;rw [Ak (L:=L) λe he=>by
    have:e≠i:=λhh=>by
     have:=List.any_eq_false.1 UF e he;rw [hh,zen] at this;exact this rfl
    simp [this]]
   exact MT
  ·obtain ⟨s0,s1,h1,h2,h3⟩:=vJ.get Dj;rw [MT] at h1;cases h1;refine ⟨s1,hx,?_,?_⟩
   ·rcases h3 with h|⟨ha,kc⟩
    ·exact .inr (.inl ⟨hg,h⟩)
    ·exact .inr (.inr ⟨hg,ha,kc⟩)
   ·rw [G8 Zk hn Zh];exact h2
 ·intro L s hL MT;rw [UL L E λe he=>hL e (hp e he),hF] at MT;cases MT;exact Cc
def Cm (P:Program) (f:Ctx) (N:Nat) (S:Start) (Q:EV->St->Prop) (l:List Oper) (p:Nat) (E:List Nat) (iF:List St) (i:Nat) (os:List Oper) (k:List Item) (env:Env):Prop :=
 ∃ xs xT,iF[2 ^ E.length-1]?=some xT/\wL P N S.base l E iF i os xs env/\cm P f N S Q l (l.drop p) k (gg env os xs) xT
variable {l:List Oper} {p:Nat} {E:List Nat} {iF:List St} {i:Nat} {os:List Oper} {env:Env} {st:St} {d:Option Tmp} {op:Op} {ty:TypeId} {pos:String} {after:Array Edge} {x:EV}
theorem Cm.nil {xT:St} (hF:iF[2 ^ E.length-1]?=some xT) (h:cm P f N S Q l (l.drop p) k env xT):Cm P f N S Q l p E iF i [] k env:=⟨[],xT,hF,trivial,h⟩
theorem Cm.s (h:∀ s,aG P (lZ l ⟨d,op,ty,pos,after,none⟩ env) s ⟨d,op,ty,pos,after,none⟩ x) (fh:(!E.any λe=>Nat.beq e i)=true) (hd:fZ N d=true)
  (hk:Cm P f N S Q l p E iF (i+1) os k (env.put d x)):Cm P f N S Q l p E iF i (⟨d,op,ty,pos,after,none⟩::os) k env:=by
 obtain ⟨xs,xT,h0,h1,h2⟩:=hk;refine ⟨x::xs,xT,h0,⟨⟨hd,List.range (2 ^ E.length),?_,.inl ⟨fh,.inl λs=>.inl ⟨rfl,(h s).g⟩⟩⟩,h1⟩,h2⟩;unfold Ia;rw [zbb];intro n hn;simp only [zbr];exact .inr (zet.2 ⟨n,hn,zen n⟩)
theorem Cm.g (ns:List Nat) (h:JR iF ns λs=>zF P (lZ l ⟨d,op,ty,pos,after,none⟩ env) s ⟨d,op,ty,pos,after,none⟩ x) (fh:(!E.any λe=>Nat.beq e i)=true) (hb:Ia l E i ns=true) (hd:fZ N d=true)
  (hk:Cm P f N S Q l p E iF (i+1) os k (env.put d x)):Cm P f N S Q l p E iF i (⟨d,op,ty,pos,after,none⟩::os) k env:=by
 obtain ⟨xs,xT,h0,h1,h2⟩:=hk;refine ⟨x::xs,xT,h0,⟨⟨hd,ns,hb,.inl ⟨fh,.inr ?_⟩⟩,h1⟩,h2⟩;have mk:∀ {ns:List Nat},(JR iF ns λs=>zF P (lZ l ⟨d,op,ty,pos,after,none⟩ env) s ⟨d,op,ty,pos,after,none⟩ x)->JR iF ns λs=>uJ P l (lZ l ⟨d,op,ty,pos,after,none⟩ env) s ⟨d,op,ty,pos,after,none⟩ x:=by
  intro ns
  induction ns with
  | nil=>exact λ_=>trivial
  | cons a r ih=>exact λ⟨⟨s,a1,a2⟩,b⟩=>⟨⟨s,a1,.inl ⟨rfl,a2⟩⟩,ih b⟩
 exact mk h
theorem Cm.v (m:Nat) (ns:List Nat) (h:JS iF (2 ^ m) ns λs s'=>xG P S.base (lZ l ⟨d,op,ty,pos,after,none⟩ env) s ⟨d,op,ty,pos,after,none⟩ x s') (hE:E[m]?=some i) (hb:Ia l E i ns=true) (hd:fZ N d=true)
  (hk:Cm P f N S Q l p E iF (i+1) os k (env.put d x)):Cm P f N S Q l p E iF i (⟨d,op,ty,pos,after,none⟩::os) k env:=by
 obtain ⟨xs,xT,h0,h3,h4⟩:=hk;refine ⟨x::xs,xT,h0,⟨⟨hd,ns,hb,.inr ⟨m,hE,rfl,?_⟩⟩,h3⟩,h4⟩;have mk:∀ {ns:List Nat},(JS iF (2 ^ m) ns λs s'=>xG P S.base (lZ l ⟨d,op,ty,pos,after,none⟩ env) s ⟨d,op,ty,pos,after,none⟩ x s') ->
   JS iF (2 ^ m) ns λs s'=>xG P S.base (lZ l ⟨d,op,ty,pos,after,none⟩ env) s ⟨d,op,ty,pos,after,none⟩ x s'∨x=.d .any/\HE P S.base (lZ l ⟨d,op,ty,pos,after,none⟩ env) s ⟨d,op,ty,pos,after,none⟩ s':=by
  intro ns
  induction ns with
  | nil=>exact λ_=>trivial
  | cons a r ih=>exact λ⟨⟨s,s',a1,a2,a3⟩,b⟩=>⟨⟨s,s',a1,a2,.inl a3⟩,ih b⟩
 exact mk h
theorem bp.parts {id:Nat} (p:Nat) (E:List Nat) (iF:List St) (hm:P.follows .mixedOrders=true) (hB:cw l p=true) (hn:(E.all λe=>decide (e<p))=true) (hd:E.Nodup) (h0:iF[0]?=some st)
  (h:Cm P f N S Q l p E iF 0 (l.take p) k env):bp P f N S Q (.code (.region id l.toArray true)::k) env st:=by
 obtain ⟨xs,xT,h1,h2,h3⟩:=h;exact .Z5 hm hB E iF hd (λe he=>by simpa using zbb.1 hn e he) h0 h1 h2 h3
end run
def Dp (g:bY) (w:World) (st:St) (cs:List EV) (vs:Array Value):Prop :=
 vs.size=cs.length/\∀ (i:Nat) c (u:Value),cs[i]?=some c->vs[i]?=some u->bM g w st c u/\u.oneCell'=true
theorem Dp.lay {g:bY} {w:World} {st:St} {cs new:List EV} {vs us:Array Value} {off:Nat} (h:Dp g w st cs vs) (hn:Dp g w st new us) (hf:off+new.length<=cs.length):Dp g w st (putCells cs off new) (lay vs us off):=by
 obtain ⟨h1,h2⟩:=MK vs us off (by rw [h.1,hn.1];exact hf);refine ⟨by rw [h1,h.1];simp [putCells];omega,λi c u hc hu=>?_⟩
 have hi:i<vs.size:=by rw [←h1];exact (zau.1 hu).1
 rw [h2 i hi] at hu;unfold putCells at hc;have DJ:=h.1;have O3:=hn.1;by_cases hA:i<off
 ·rw [zaa (by omega)] at hu;rw [zax,zak (by simp;omega),zaj,zab hA] at hc;exact h.2 i c u hc hu
 ·by_cases hB:i<off+new.length
  ·rw [zab (by omega)] at hu;rw [zax,zat (by simp;omega),zak (by simp;omega)] at hc;have e1:(cs.take off).length=off:=by simp;omega
   rw [e1] at hc;exact hn.2 _ c u hc hu
  ·rw [zaa (by omega)] at hu;rw [zat (by simp;omega)] at hc;have e1:(cs.take off++new).length=off+new.length:=by simp;omega
   rw [e1,zaz] at hc;have e2:off+new.length+(i-(off+new.length))=i:=by omega
   rw [e2] at hc;exact h.2 i c u hc hu
def Od (place:Nat->Option (Nat×Nat)) (env:Env):List EV->List (Nat×Operand)->Option (List EV)
 | cs,[]=>some cs
 | cs,(i,x)::l=>match place i,cY env x with
  | some (off,size),some e=>match gf e with
   | some new=>match Nat.beq new.length size,Nat.ble (off+size) cs.length with
    | true,true=>Od place env (putCells cs off new) l
    | _,_=>none
   | none=>none
  | _,_=>none
theorem JT {g:bY} {w:World} {st:St} {env:Env} {tmps:Array Value} (he:eh g w st env tmps) {place:Nat->Option (Nat×Nat)}:∀ (l:List (Nat×Operand)) (cs:List EV) (vs:Array Value) (r:List EV),Od place env cs l=some r->Dp g w st cs vs ->
  ∃ us,Instr.fill place vs (l.map λp=>(p.1,Act.eval ⟨tmps,[]⟩ p.2))=some us/\Dp g w st r us/\r.length=cs.length
 | [],cs,vs,r,h,hc=>by simp [Od] at h;subst h;exact ⟨vs,rfl,hc,rfl⟩
 | (i,x)::l,cs,vs,r,h,hc=>by
  unfold Od at h;split at h
  ·rename_i off size e hp hx;split at h
   ·rename_i new hn;split at h
    ·rename_i Js Lg;have h1:=zas Js;have h2:=zae Lg;have Xw:Dp g w st new (Act.eval ⟨tmps,[]⟩ x).cells:=qi hn (aN he hx);have Uf:=hc.lay Xw (off:=off) (by omega);obtain ⟨us,k1,k2,k3⟩:=JT he l _ _ r h Uf;refine ⟨us,?_,k2,by rw [k3];simp [putCells];omega⟩;have hs:=Xw.1;have DJ:=hc.1;simp only [zap,Instr.fill,hp];rw [zaa (by simp;omega)];exact k1
    ·cases h
   ·cases h
  ·cases h
section rules
variable {P:Program} {base:Nat} {env:Env} {st:St} {d:Option Tmp} {ty:TypeId} {pos:String} {after:Array Edge} {gd:Option (Nat×Bool)} {t:TypeId}
theorem Oe {fs:Array Field} {inf:TypeInfo} {z:Value} {zs r:List EV} {l:List (Nat×Operand)} (ht:P.underlying t=some (.struct fs)) (hi:P.info? t=some inf) (hz:inf.zero=some z) (p9:gf (.d (cv z))=some zs)
  (RT:fs.toList.all (λf=>(P.info? f.type).isSome)=true) (hl:Od (placeOf P fs) env zs l=some r):aG P env st ⟨d,.build t l.toArray,ty,pos,after,gd⟩ (.agg r):=by
 intro g base w tmps hinv he;have Ac:Dp g w st zs z.cells:=qi (g:=g) (w:=w) (st:=st) p9 (.d _ _ (qf _ _ z));obtain ⟨us,h1,h2,h3⟩:=JT he l zs z.cells r hl Ac;refine ⟨.agg us,.agg r us h2.1 (λi u hu=>?_) λi c u hc hu=>(h2.2 i c u hc hu).1,λw' hb=>?_⟩
 ·have hi':i<r.length:=by rw [←h2.1];exact (zau.1 hu).1
  exact (h2.2 i _ u (zaf hi') hu).2
 ·have Pw:(fs.mapM (λf=>do pure (f.offset,←sizeOf f.type):Field->Sem (Nat×Nat))).run P w'=.ok (fs.toList.map λf=>(f.offset,Jy P f.type)).toArray w':=by
   rw [←Array.toArray_toList (xs:=fs),zfd];simp only [Sem.run_map,De (P:=P) fs.toList (λf hf=>zbb.1 RT f hf) w',Result.andThen_ok]
  have LF:(λi:Nat=>((fs.toList.map λf=>(f.offset,Jy P f.type)).toArray)[i]?)=placeOf P fs:=by
   funext i;simp [placeOf]
  simp only [execOp,Instr.build,Sem.run_bind,tF hi hz,Result.andThen_ok,run_underlying ht,Pw,zef];rw [LF];simp [h1]
theorem ET {ps:List (Nat×Nat)} {inf:TypeInfo} {z:Value} {zs r:List EV} {l:List (Nat×Operand)} (hp:placesOf P t=some ps) (hi:P.info? t=some inf) (hz:inf.zero=some z) (p9:gf (.d (cv z))=some zs)
  (hl:Od (λi=>ps[i]?) env zs l=some r):aG P env st ⟨d,.build t l.toArray,ty,pos,after,gd⟩ (.agg r):=by
 unfold placesOf at hp;split at hp
 ·rename_i fs hu;split at hp
  ·rename_i oG;cases hp;refine Oe hu hi hz p9 oG ?_;rw [←hl];congr 1;funext i;simp [placeOf]
  ·cases hp
 ·cases hp
end rules
section cell
variable {P:Program} {f:Ctx} {N:Nat} {S:Start} {Q:EV->St->Prop} {todo:List Item} {env:Env} {st:St}
theorem Inv.oJ {g:bY} {base o ci:Nat} {w:World} {T:TypeId} {cs:List EV} {x y:EV} (h:Inv g base w st) (ho:st.aO[o]?=some (.row T cs)) (hc:cs[ci]?=some x) (hle:eG x y) :
  Inv g base w (st.set o (.row T (cs.set ci y)))/\Step base g w st g w (st.set o (.row T (cs.set ci y))):=by
 obtain ⟨b1,b2,vs,b3,b4,b5⟩:=h.row o T cs ho;exact h.setBlock (o:=o) (x:=.row T (cs.set ci y)) (w':=w) ⟨_,ho,by simp⟩ b2 rfl (λ_ _=>rfl) rfl rfl rfl
  (λPm Lv DK jL=>by
   cases jL;refine ⟨vs,b3,by simpa using b4,λi c u qQ hu=>?_⟩;rw [zbj] at qQ;split at qQ
   ·rename_i Tj;subst Tj;split at qQ
    ·cases qQ;have h0:=b5 ci _ u hc hu;exact ⟨hle _ _ _ _ (h0.1.mono Pm),h0.2⟩
    ·cases qQ
   ·have h0:=b5 i c u qQ hu;exact ⟨h0.1.mono Pm,h0.2⟩) (λ_ es jL=>by cases jL)
theorem bp.oJ (o ci:Nat) {T:TypeId} {cs:List EV} {x y:EV} (ho:st.aO[o]?=some (.row T cs)) (hc:cs[ci]?=some x) (hle:eG x y)
  (h:bp P f N S Q todo env (st.set o (.row T (cs.set ci y)))):bp P f N S Q todo env st:=by
 intro g w tmps hinv hh he hn;obtain ⟨h1,h2⟩:=hinv.oJ ho hc hle;exact h g w tmps h1 (hh.step h2) (he.mono h2.dO) hn
end cell
def JU (P:Program) (t:TypeId) (n:Nat):Bool:=match P.info? t with
 | some i=>Nat.beq i.size n
 | none=>false
def EU (P:Program) (g:TypeId->Option (List FK)):Nat->List Field->Option (List FK)
 | _,[]=>some []
 | n,f::fs=>match Nat.beq f.offset n,decide (f.name ≠ "_"),g f.type with
  | true,true,some k=>match JU P f.type k.length,EU P g (n+k.length) fs with
   | true,some ks=>some (k++ks)
   | _,_=>none
  | _,_,_=>none
def Bd (P:Program):Nat->TypeId->Option (List FK)
 | 0,_=>none
 | d+1,t=>match P.underlying t with
  | some (.struct fs)=>match P.stoodInHeld t with
   | true=>none
   | false=>EU P (Bd P d) 0 fs.toList
  | some (.array n e)=>match d,Gf (P.underlying e),JU P e 1 with
   | d'+1,some k,true=>some (List.replicate n k)
   | _,_,_=>none
  | u=>match Gf u with
   | some k=>some [k]
   | none=>none
def Of:Option TypeDesc->Bool
 | some (.struct _)=>true
 | some (.array _ _)=>true
 | _=>false
def Cn (P:Program) (t:TypeId) (xs:List Value):Value:=match Of (P.underlying t) with
 | true=>.agg xs.toArray
 | false=>xs.headD undef
theorem tJ:∀ {ks:List FK} {xs:List Value},fitAll ks xs=true->xs.length=ks.length
 | [],[],_=>rfl
 | [],_::_,h=>by cases h
 | _::_,[],h=>by cases h
 | k::ks,x::xs,h=>by simp only [fitAll,zar] at h;simp [tJ h.2]
theorem wM:∀ (ks ls:List FK) (xs:List Value),fitAll (ks++ls) xs=true->fitAll ks (xs.take ks.length)=true/\fitAll ls (xs.drop ks.length)=true
 | [],ls,xs,h=>⟨by simp [fitAll],by simpa using h⟩
 | k::ks,ls,[],h=>by cases h
 | k::ks,ls,x::xs,h=>by
  simp only [List.cons_append,fitAll,zar] at h;obtain ⟨h1,h2⟩:=wM ks ls xs h.2;exact ⟨by simp [fitAll,h.1,h1],by simpa using h2⟩
theorem EW:∀ (n:Nat) (xs ys:List Value),xs.length=ys.length->eI xs ys=(eI (xs.take n) (ys.take n) && eI (xs.drop n) (ys.drop n))
 | 0,xs,ys,_=>by simp [eI]
 | n+1,[],[],_=>by simp [eI]
 | n+1,[],_::_,h=>by cases h
 | n+1,_::_,[],h=>by cases h
 | n+1,x::xs,y::ys,h=>by
  simp only [List.take_succ_cons,List.drop_succ_cons,eI];rw [EW n xs ys (by simpa using h),Bool.and_assoc]
section eq
variable {P:Program}
theorem R1 (t:TypeId) (w:World) (u:TypeDesc) (hu:P.underlying t=some u):(isAgg t).run P w=.ok (Of (some u)) w:=by
 unfold isAgg;simp only [Sem.run_bind,run_underlying hu,Result.andThen_ok];cases u <;> rfl
theorem JV {t:TypeId} {n:Nat} (h:JU P t n=true):∃ i,P.info? t=some i/\i.size=n:=by
 unfold JU at h;split at h
 ·rename_i i hi;exact ⟨i,hi,zas h⟩
 ·cases h
theorem G9 {d:Nat} {t:TypeId} {ks:List FK} (h:Bd P d t=some ks) (ha:Of (P.underlying t)=false):∃ k,Gf (P.underlying t)=some k/\ks=[k]:=by
 cases d with
 | zero=>cases h
 | succ d =>
  unfold Bd at h;split at h
  ·rename_i hu;rw [hu] at ha;cases ha
  ·rename_i hu;rw [hu] at ha;cases ha
  ·split at h
   ·rename_i k hk;cases h;exact ⟨k,hk,rfl⟩
   ·cases h
theorem Ha {d:Nat} {t:TypeId} {ks:List FK} (h:Bd P d t=some ks) {X:Array Value} {off:Nat} {xs:List Value} (hl:xs.length=ks.length) (hs:JU P t ks.length=true)
  (hX:∀ (j:Nat) v,xs[j]?=some v->X[off+j]?=some v) (w:World):(part t X off).run P w=.ok (Cn P t xs) w:=by
 obtain ⟨i,hi,fB⟩:=JV hs;cases ha:Of (P.underlying t) with
 | false =>
  obtain ⟨k,hk,rfl⟩:=G9 h ha
  match xs,hl with
  | [v],_ =>
   have:=vK hk (cs:=X) (off:=off) (v:=v) (by simpa using hX 0 v rfl) w;simpa [Cn,ha] using this
 | true =>
  cases hu:P.underlying t with
  | none=>rw [hu] at ha;cases ha
  | some u =>
   have hA:=R1 (P:=P) t w u hu;rw [hu] at ha;rw [ha] at hA;have Jo:Cn P t xs=.agg xs.toArray:=by unfold Cn;rw [hu,ha]
   have hx:X.extract off (off+ks.length)=xs.toArray:=by
    apply Array.ext';apply zby;intro j;by_cases hj:j<xs.length
    ·have h1:=hX j _ (zaf hj);have h2:=(zau.1 h1).1;rw [zbx,Array.getElem?_extract];show _=xs[j]?;rw [zaf hj,zab (by omega)];exact h1
    ·rw [zbx,Array.getElem?_eq_none (by simp;omega),zbl (by simp;omega)]
   simp only [part,Sem.run_bind,hA,Result.andThen_ok,zcf,ov hi,fB,hx,Jo,Sem.run_pure]
theorem Hb {d:Nat} (n:Nat) (w:World) (ih:∀ (t:TypeId) (ks:List FK) (xs ys:List Value),Bd P d t=some ks->fitAll ks xs=true->fitAll ks ys=true->(Op.equalIn (n+d) t (Cn P t xs) (Cn P t ys)).run P w=.ok (eI xs ys) w) :
  ∀ (fs:List Field) (k:Nat) (ks:List FK) (xs ys:List Value) (X Y:Array Value),EU P (Bd P d) k fs=some ks->fitAll ks xs=true->fitAll ks ys=true ->
  (∀ (j:Nat) v,xs[j]?=some v->X[k+j]?=some v)->(∀ (j:Nat) v,ys[j]?=some v->Y[k+j]?=some v)->(Op.eqFields (n+d) X Y fs).run P w=.ok (eI xs ys) w
 | [],k,ks,xs,ys,X,Y,h,hx,hy,_,_=>by
  simp only [EU,Option.some.injEq] at h;subst h
  match xs,ys with
  | [],[]=>rfl
  | _::_,_=>cases hx
  | [],_::_=>cases hy
 | f::fs,k,ks,xs,ys,X,Y,h,hx,hy,hX,hY=>by
  unfold EU at h;split at h
  ·rename_i kk h1 h2 h3;split at h
   ·rename_i XL h4 h5;simp only [Option.some.injEq] at h;subst h;have ho:=zas h1;have JF:f.name ≠ "_" := zds h2;obtain ⟨a1,a2⟩:=wM _ _ _ hx;obtain ⟨b1,b2⟩:=wM _ _ _ hy;have hlx:=tJ hx;have hly:=tJ hy;have px:=Ha h3 (X:=X) (off:=f.offset) (tJ a1) h4 (λj v hv=>by
     rw [zaj] at hv;split at hv
     ·rw [ho];exact hX j v hv
     ·cases hv) w
    have py:=Ha h3 (X:=Y) (off:=f.offset) (tJ b1) h4 (λj v hv=>by
     rw [zaj] at hv;split at hv
     ·rw [ho];exact hY j v hv
     ·cases hv) w
    have pe:=ih _ _ _ _ h3 a1 b1;have rest:=Hb n w ih fs (k+kk.length) XL _ _ X Y h5 a2 b2 (λj v hv=>by rw [zaz] at hv;have:=hX _ v hv;rwa [show k+kk.length+j=k+(kk.length+j) by omega])
     (λj v hv=>by rw [zaz] at hv;have:=hY _ v hv;rwa [show k+kk.length+j=k+(kk.length+j) by omega])
    rw [EW kk.length xs ys (by omega)];simp only [Op.eqFields,zab JF,Sem.run_bind,px,py,pe,Result.andThen_ok,Sem.run_ite];cases eI (xs.take kk.length) (ys.take kk.length)
    ·rfl
    ·simpa using rest
   ·cases h
  ·cases h
theorem Hc {e:TypeId} {k:FK} (hk:Gf (P.underlying e)=some k) (hs:P.cellsOf e=1) (n:Nat) (w:World) (X Y:Array Value) :
  ∀ (m i:Nat) (xs ys:List Value),fitAll (List.replicate m k) xs=true->fitAll (List.replicate m k) ys=true ->
  (∀ (j:Nat) v,xs[j]?=some v->X[i+j]?=some v)->(∀ (j:Nat) v,ys[j]?=some v->Y[i+j]?=some v) ->
  (Op.eqItems (n+1) e (P.cellsOf e) X Y (List.range' i m)).run P w=.ok (eI xs ys) w
 | 0,i,xs,ys,hx,hy,_,_=>by
  match xs,ys with
  | [],[]=>rfl
  | _::_,_=>cases hx
  | [],_::_=>cases hy
 | m+1,i,[],ys,hx,_,_,_=>by cases hx
 | m+1,i,x::xs,[],_,hy,_,_=>by cases hy
 | m+1,i,x::xs,y::ys,hx,hy,hX,hY=>by
  simp only [List.replicate_succ,fitAll,zar] at hx hy;have px:=vK hk (cs:=X) (off:=i) (by simpa using hX 0 x rfl) w;have py:=vK hk (cs:=Y) (off:=i) (by simpa using hY 0 y rfl) w;have pe:=xO hk hx.1 hy.1 n w;have ih:=Hc hk hs n w X Y m (i+1) xs ys hx.2 hy.2 (λj v hv=>by have:=hX (j+1) v (by simpa using hv);rwa [show i+1+j=i+(j+1) by omega]) (λj v hv=>by have:=hY (j+1) v (by simpa using hv);rwa [show i+1+j=i+(j+1) by omega]);rw [hs] at ih ⊢;simp only [List.range'_succ,Op.eqItems,Sem.run_bind,Nat.mul_one,px,py,pe,Result.andThen_ok,Sem.run_ite,eI];cases LJ x y
  ·rfl
  ·simpa using ih
theorem JW (n:Nat) (w:World):∀ (d:Nat) (t:TypeId) (ks:List FK) (xs ys:List Value),Bd P d t=some ks->fitAll ks xs=true->fitAll ks ys=true->(Op.equalIn (n+d) t (Cn P t xs) (Cn P t ys)).run P w=.ok (eI xs ys) w
 | 0,t,ks,xs,ys,h,_,_=>by cases h
 | d+1,t,ks,xs,ys,h,hx,hy=>by
  cases ha:Of (P.underlying t) with
  | false =>
   obtain ⟨k,hk,rfl⟩:=G9 h ha
   match xs,ys,hx,hy with
   | [x],[y],hx,hy =>
    simp only [fitAll,Bool.and_true] at hx hy;have:=xO hk hx hy (n+d) w;simp only [Cn,ha,eI,List.headD_cons,Bool.and_true];exact this
   | [],_,hx,_=>cases hx
   | _::_::_,_,hx,_=>simp [fitAll] at hx
   | [x],[],_,hy=>cases hy
   | [x],_::_::_,_,hy=>simp [fitAll] at hy
  | true =>
   have UM:∀ zs,Cn P t zs=.agg zs.toArray:=λzs=>by unfold Cn;rw [ha]
   rw [UM,UM];unfold Bd at h;cases hu:P.underlying t with
   | none=>rw [hu] at ha;cases ha
   | some u =>
    rw [hu] at h ha;cases u with
    | struct fs =>
     simp only at h;split at h
     ·cases h
     ·rename_i MO;have RT:P.fieldsOf t=fs:=by simp [Program.fieldsOf,hu]
      rw [show n+(d+1)=(n+d)+1 by omega,run_equalIn_struct w (n+d) t _ _ (by rw [RT];exact hu) MO,RT];exact Hb n w (JW n w d) fs.toList 0 ks xs ys _ _ h hx hy (λj v hv=>by simpa using hv) (λj v hv=>by simpa using hv)
    | array m e =>
     simp only at h;split at h
     ·rename_i d' k hk hs;cases h;obtain ⟨i,hi,fB⟩:=JV hs;have hc:P.cellsOf e=1:=by simp [Program.cellsOf,hi,fB]
      rw [show n+(d'+1+1)=(n+d'+1)+1 by omega,run_equalIn_array w (n+d'+1) _ _ hu hi,List.range_eq_range'];exact Hc hk hc (n+d') w _ _ m 0 xs ys hx hy (λj v hv=>by simpa using hv) (λj v hv=>by simpa using hv)
     ·cases h
    | _=>cases ha
end eq
def MV (P:Program) (t:TypeId):Option (List FK):=match P.eqGuardType P.depth t,Of (P.underlying t) with
 | false,true=>Bd P 4 t
 | _,_=>none
section rules
variable {P:Program} {base:Nat} {env:Env} {st:St} {d:Option Tmp} {ty:TypeId} {pos:String} {after:Array Edge} {gd:Option (Nat×Bool)} {t t2:TypeId} {x y:Operand}
variable {ks:List FK} {cs ds:List D} {xs ys:List Value}
theorem P1 (h:MV P t=some ks) (hx:fitAll ks xs=true) (hy:fitAll ks ys=true) (w:World) (op:BinOp) (x y:Operand) :
  (eqGuard op t x y (.agg xs.toArray) (.agg ys.toArray)).run P w=.ok () w/\(Op.equalIn 10000 t (.agg xs.toArray) (.agg ys.toArray)).run P w=.ok (eI xs ys) w:=by
 unfold MV at h;split at h
 ·rename_i hg ha;refine ⟨run_eqGuard_agg w op t x y _ _ hg,?_⟩;have:=JW (P:=P) 9996 w 4 t ks xs ys h hx hy;have UM:∀ zs,Cn P t zs=.agg zs.toArray:=λzs=>by unfold Cn;rw [ha]
  rw [UM,UM] at this;exact this
 ·cases h
section steq
variable (hk:MV P t=some ks) (hx:cY env x=some (.d (.agg cs))) (hy:cY env y=some (.d (.agg ds))) (h1:RA cs=some xs) (h2:RA ds=some ys) (h3:fitAll ks xs=true) (h4:fitAll ks ys=true)
include hk hx hy h1 h2 h3 h4
theorem R2:aG P env st ⟨d,.binOp .neq t x y t2,ty,pos,after,gd⟩ (.d (.ex (.bool (!eI xs ys)))):=qh λg w tmps w' he=>by
 obtain ⟨k1,k2⟩:=P1 hk h3 h4 w' .neq x y;have e1:Act.eval ⟨tmps,[]⟩ x=.agg xs.toArray:=by cases aN he hx with|d _ _ h=>exact th h1 h
 have e2:Act.eval ⟨tmps,[]⟩ y=.agg ys.toArray:=by cases aN he hy with|d _ _ h=>exact th h2 h
 simp only [execOp,e1,e2,Sem.run_bind,k1,Result.andThen_ok,run_neq_struct,k2,Sem.run_pure]
end steq
theorem UN {a b:Int} {k:IntKind} {ts:Array TypeId} (hx:cY env x=some (.d (.ex (.int k a)))) (hy:cY env y=some (.d (.ex (.int k b)))) :
  aG P env st ⟨d,.call ⟨.builtin .min,#[x,y],ts⟩,ty,pos,after,gd⟩ (.d (.ex (.int k (if b<a then b else a)))):=qh λg w tmps w' he=>by
 simp [execOp,(aN he hx).bJ,(aN he hy).bJ,resolve,invoke,builtin,run_min_int2]
theorem UO {a b:Int} {k:IntKind} {ts:Array TypeId} (hx:cY env x=some (.d (.ex (.int k a)))) (hy:cY env y=some (.d (.ex (.int k b)))) :
  aG P env st ⟨d,.call ⟨.builtin .max,#[x,y],ts⟩,ty,pos,after,gd⟩ (.d (.ex (.int k (if b > a then b else a)))):=qh λg w tmps w' he=>by
 simp [execOp,(aN he hx).bJ,(aN he hy).bJ,resolve,invoke,builtin,run_max_int2]
end rules
section freezeCell
variable {P:Program} {f:Ctx} {N:Nat} {S:Start} {Q:EV->St->Prop} {todo:List Item} {env:Env} {st:St}
theorem bp.freezeCell {α:Type} {l:List α} {row:α->List D} (o ci:Nat) {tk e sz n:Nat} {T:TypeId} {cs:List EV} (ho:st.aO[o]?=some (.row T cs)) (hc:cs[ci]?=some (.vc tk n)) (e9:st.au[tk]?=some ⟨e,sz,n,some (l.map row)⟩)
  (h:bp P f N S Q todo env ((st.bD tk ⟨e,sz,l.length,none⟩).set o (.row T (cs.set ci (.d (.sl sz (l.map row))))))):bp P f N S Q todo env st:=by
 refine .UB e9 λhn=>?_
 subst hn;intro g w tmps hinv hh he hN;obtain ⟨g',h1,h2,h3,h4⟩:=hinv.freeze e9;have F3:(st.bD tk ⟨e,sz,l.length,none⟩).aO[o]?=some (.row T cs):=ho;obtain ⟨a1,a2,us0,a3,a4,a5⟩:=hinv.row o T cs ho;obtain ⟨b1,b2,vs,b3,b4,b5⟩:=h2.row o T cs F3;have AX:g'.ob o=g.ob o:=h3.dO.ob o (zad.1 ho).1;have DJ:us0=vs:=by rw [AX,a3] at b3;cases b3;rfl
 subst DJ;obtain ⟨k1,k2⟩:=h2.setBlock (o:=o) (x:=.row T (cs.set ci (.d (.sl sz (l.map row))))) (w':=w) ⟨_,F3,by simp⟩ b2 rfl (λ_ _=>rfl) rfl rfl rfl
  (λPm Lv DK jL=>by
   cases jL;refine ⟨us0,b3,by simpa using b4,λi c u qQ hu=>?_⟩;rw [zbj] at qQ;split at qQ
   ·rename_i Tj;subst Tj;split at qQ
    ·cases qQ;have h0:=a5 ci _ u hc hu;refine ⟨?_,h0.2⟩;rcases sI hinv e9 h0.1 with hv|⟨n0,r0,A,hv⟩
     ·rw [hv];exact .d _ _ (h4.mono Pm.cY)
     ·rw [r0,hv];exact .d _ _ (.nil sz A)
    ·cases qQ
   ·have h0:=b5 i c u qQ hu;exact ⟨h0.1.mono Pm,h0.2⟩) (λ_ es jL=>by cases jL)
 exact h g' w tmps k1 (hh.step (h3.trans k2)) ((he.mono h3.dO).mono k2.dO) hN
variable {ops rest:List Oper} {k:List Item}
theorem cm.freezeCell {α:Type} {l:List α} {row:α->List D} (o ci:Nat) {tk e sz n:Nat} {T:TypeId} {cs:List EV} (ho:st.aO[o]?=some (.row T cs)) (hc:cs[ci]?=some (.vc tk n)) (e9:st.au[tk]?=some ⟨e,sz,n,some (l.map row)⟩)
  (h:cm P f N S Q ops rest k env ((st.bD tk ⟨e,sz,l.length,none⟩).set o (.row T (cs.set ci (.d (.sl sz (l.map row))))))):cm P f N S Q ops rest k env st :=
 λj hj=>.freezeCell o ci ho hc e9 (h j hj)
theorem cm.oJ (o ci:Nat) {T:TypeId} {cs:List EV} {x y:EV} (ho:st.aO[o]?=some (.row T cs)) (hc:cs[ci]?=some x) (hle:eG x y)
  (h:cm P f N S Q ops rest k env (st.set o (.row T (cs.set ci y)))):cm P f N S Q ops rest k env st :=
 λj hj=>.oJ o ci ho hc hle (h j hj)
end freezeCell
theorem aD.Zl {P:Program} {f:FuncId} {ds:List D} {r:D} (h:aK P f (ds.map EV.d) ⟨[],[]⟩ (QE (.d r) ⟨[],[]⟩)):aD P f ds (·=r) :=
 .of (h.mono λx s hq=>⟨r,hq.1,rfl⟩)
def P2 (t:Nat):List Nat->Bool
 | []=>false
 | a::l=>match Nat.beq t a with
  | true=>true
  | false=>P2 t l
def R3 {β:Type} (t:Nat):List (Nat×β)->Option β
 | []=>none
 | (a,y)::l=>match Nat.beq t a with
  | true=>some y
  | false=>R3 t l
def sb:List Prop->Prop
 | []=>True
 | [p]=>p
 | p::q::l=>p/\sb (q::l)
theorem sb.c {p:Prop} {l:List Prop} (h:sb (p::l)):p/\sb l:=by
 cases l with
 | nil=>exact ⟨h,trivial⟩
 | cons q l=>exact h
def Al {α:Type} (p:α->Prop):List α->Prop
 | []=>True
 | a::l=>p a/\Al p l
theorem Ib {p:Nat->Prop} {t:Nat}:∀ {l:List Nat},Al p l->P2 t l=true->p t
 | [],_,h=>by cases h
 | a::l,⟨h1,h2⟩,h=>by
  unfold P2 at h;split at h
  ·rename_i hb;have:=zas hb;subst this;exact h1
  ·exact Ib h2 h
theorem Am {β:Type} {p:Nat×β->Prop} {t:Nat} {y:β}:∀ {l:List (Nat×β)},Al p l->R3 t l=some y->p (t,y)
 | [],_,h=>by cases h
 | (a,z)::l,⟨h1,h2⟩,h=>by
  unfold R3 at h;split at h
  ·rename_i hb;have:=zas hb;subst this;cases h;exact h1
  ·exact Am h2 h
def ma {α β:Type _}:List α->(List α->β)->β
 | [],k=>k []
 | a::l,k=>ma l λl'=>k (a::l')
theorem qm {α β:Type _}:∀ (l:List α) (k:List α->β),ma l k=k l
 | [],_=>rfl
 | a::l,k=>qm l λl'=>k (a::l')
def P3 {β:Type _} (env:Env) (d:Option Tmp) (x:EV) (k:Env->β):β:=match d with
 | some d=>k ((d,x)::env)
 | none=>k env
theorem Ed {β:Type _} (env:Env) (d:Option Tmp) (x:EV) (k:Env->β):P3 env d x k=k (env.put d x):=by cases d <;> rfl
structure FT where
 one:List Nat
 agg:List (Nat×Nat)
 sz:List (Nat×Nat)
 fo:List (Nat×List (Nat×Nat))
 zr:List (Nat×List D)
def FT.Ok (P:Program) (T:FT):Prop :=
 Al (λt=>(P.underlying t).map j4=some true) T.one/\Al (λx=>(P.underlying x.1).map j4=some false/\(P.info? x.1).map (·.size)=some x.2) T.agg/\Al (λx=>(P.info? x.1).map (·.size)=some x.2) T.sz /\
 Al (λx=>Al (λy=>fi P x.1 y.1=some y.2) x.2) T.fo/\Al (λx=>∃ z,(P.info? x.1).bind (·.zero)=some z/\gf (.d (cv z))=some (x.2.map EV.d)) T.zr
def Zm:Option D->Option EV
 | some x=>some (.d x)
 | none=>none
def aaa:IntKind->Bool
 | .u8=>true
 | _=>false
def XX (op:BinOp) (a b:Int):Option Bool:=match op with
 | .lss=>some (decide (a<b))
 | .leq=>some (decide (a<=b))
 | .gtr=>some (decide (a > b))
 | .geq=>some (decide (a>=b))
 | .eql=>some (a==b)
 | .neq=>some (a != b)
 | _=>none
def XY (op:BinOp) (a b:List UInt8):Option Bool:=match op with
 | .eql=>some (a==b)
 | .neq=>some (a != b)
 | _=>none
def Zn:Option Bool->Option D
 | some b=>some (.ex (.bool b))
 | none=>none
def UP (op:BinOp) (x y:D):Option D:=match x with
 | .ex (.int k a)=>match aaa k with
  | true=>none
  | false=>match y with
   | .ex (.int k' b)=>match decide (k=k') with
    | true=>Zn (XX op a b)
    | false=>none
   | _=>none
 | .ex (.string ⟨⟨a⟩⟩)=>match y with
  | .ex (.string ⟨⟨b⟩⟩)=>Zn (XY op a b)
  | _=>none
 | _=>none
def Tp (n:Nat) (cs:List EV) (off:Nat):Option EV:=match Nat.ble (off+n) cs.length with
 | true=>match NU ((cs.drop off).take n) with
  | some ds=>some (.d (.agg ds))
  | none=>none
 | false=>none
def Tq (n:Nat) (cs:List D):Option EV:=match Nat.beq cs.length n with
 | true=>some (.d (.agg cs))
 | false=>match Nat.ble n cs.length with
  | true=>some (.d (.agg (cs.take n)))
  | false=>none
def rowOf (st:St) (o:Nat):Option (TypeId×List EV):=match st.aO[o]? with
 | some (.row ty cs)=>some (ty,cs)
 | _=>none
def qv (T:FT) (env:Env) (st:St):Op->Option EV
 | .move x=>cY env x
 | .assign x=>cY env x
 | .nilCheck x=>match cY env x with
  | some (.ref o f)=>some (.ref o f)
  | _=>none
 | .extract x i=>match cY env x with
  | some (.d (.dN cs))=>Zm cs[i]?
  | some (.dN cs)=>cs[i]?
  | _=>none
 | .binOp op t x y t2=>match cY env x with
  | some (.d a)=>match cY env y with
   | some (.d b)=>Zm (UP op a b)
   | _=>none
  | _=>none
 | .unOp .not t x=>match cY env x with
  | some (.d (.ex (.bool a)))=>some (.d (.ex (.bool (!a))))
  | _=>none
 | .fieldAddr s x f=>match R3 s T.fo with
  | some fs=>match R3 f fs with
   | some off=>match cY env x with
    | some (.ref o o0)=>some (.ref o (o0+off))
    | some (.d (.ro cs))=>some (.d (.ro (cs.drop off)))
    | some (.vp t k i o)=>some (.vp t k i (o+off))
    | _=>none
   | none=>none
  | none=>none
 | .load t x=>match cY env x with
  | some (.ref o off)=>match rowOf st o with
   | some (_,cs)=>match P2 t T.one with
    | true=>cs[off]?
    | false=>match R3 t T.agg with
     | some n=>Tp n cs off
     | none=>none
   | none=>none
  | some (.d (.ro cs))=>match P2 t T.one with
   | true=>match cs with
    | c::_=>some (.d c)
    | []=>none
   | false=>match R3 t T.agg with
    | some n=>Tq n cs
    | none=>none
  | _=>none
 | _=>none
def pk (env:Env):Op->Option (EV×Prop)
 | .pick x y z=>match cY env x with
  | some (.d (.ex (.bool a)))=>match cY env y with
   | some (.gd c (.d (.ex (.bool v))))=>match cY env z with
    | some (.d (.ex (.bool false)))=>some (.d (.ex (.bool (a && v))),c=a)
    | _=>none
   | some (.d (.ex (.bool true)))=>match cY env z with
    | some (.gd c (.d (.ex (.bool v))))=>some (.d (.ex (.bool (a || v))),c=(!a))
    | _=>none
   | _=>none
  | _=>none
 | _=>none
section q
variable {P:Program} {T:FT} {env:Env} {st:St} {d:Option Tmp} {ty:TypeId} {pos:String} {after:Array Edge} {gd:Option (Nat×Bool)}
theorem UQ {op:BinOp} {a b r:D} {x y:Operand} {t t2:TypeId} (hx:cY env x=some (.d a)) (hy:cY env y=some (.d b)) (h:UP op a b=some r):aG P env st ⟨d,.binOp op t x y t2,ty,pos,after,gd⟩ (.d r):=by
 unfold UP at h;split at h
 ·split at h
  ·cases h
  ·split at h
   ·split at h
    ·rename_i hk;have hk:=zds hk;subst hk;unfold XX Zn at h;cases op <;> simp at h <;> subst h
     ·exact Xh hx hy
     ·exact Ta hx hy
     ·exact S6 hx hy
     ·exact S7 hx hy
     ·exact S8 hx hy
     ·exact S9 hx hy
    ·cases h
   ·cases h
 ·split at h
  ·unfold XY Zn at h;cases op <;> simp at h <;> subst h
   ·exact T1 hx hy
   ·exact T2 hx hy
  ·cases h
 ·cases h
theorem EX (hT:T.Ok P) {op:Op} {x:EV} (h:qv T env st op=some x):aG P env st ⟨d,op,ty,pos,after,gd⟩ x:=by
 obtain ⟨h1,h2,h3,h4,h5⟩:=hT;unfold qv at h;split at h
 ·exact bT h
 ·exact Jm h
 ·split at h
  ·rename_i hx;cases h;exact dC hx
  ·cases h
 ·split at h
  ·rename_i hx;unfold Zm at h;split at h
   ·rename_i hc;cases h;exact b7 hx hc
   ·cases h
  ·rename_i hx;exact Lu hx h
  ·cases h
 ·split at h
  ·rename_i a hx;split at h
   ·rename_i b hy;unfold Zm at h;split at h
    ·rename_i r hr;cases h;exact UQ hx hy hr
    ·cases h
   ·cases h
  ·cases h
 ·split at h
  ·rename_i hx;cases h;exact Xk hx
  ·cases h
 ·split at h
  ·rename_i fs hl;split at h
   ·rename_i off hf;have:=Am (Am h4 hl) hf;split at h
    ·rename_i hx;cases h;exact bl this hx
    ·rename_i hx;cases h;exact NV this hx
    ·rename_i hx;cases h;exact N8 this hx
    ·cases h
   ·cases h
  ·cases h
 ·split at h
  ·rename_i o off hx;split at h
   ·rename_i Lv cs hr;unfold rowOf at hr;split at hr
    ·rename_i ty2 cs2 ho;cases hr;split at h
     ·rename_i hm;exact bW (Ib h1 hm) hx ho h
     ·split at h
      ·rename_i n hl;unfold Tp at h;split at h
       ·rename_i hn;split at h
        ·rename_i ds hd;cases h;have:=Am h2 hl;exact cd this.1 this.2 hx ho (zae hn) hd
        ·cases h
       ·cases h
      ·cases h
    ·cases hr
   ·cases h
  ·rename_i cs hx;split at h
   ·rename_i hm;split at h
    ·cases h;exact T3 (Ib h1 hm) hx
    ·cases h
   ·split at h
    ·rename_i n hl;have:=Am h2 hl;unfold Tq at h;split at h
     ·rename_i hn;cases h;exact N1 this.1 this.2 hx hn
     ·split at h
      ·rename_i hn;cases h;exact MG this.1 this.2 (zae hn) hx
      ·cases h
    ·cases h
  ·cases h
 ·cases h
theorem JX {op:Op} {x:EV} {p:Prop} (h:pk env op=some (x,p)) (hp:p):aG P env st ⟨d,op,ty,pos,after,gd⟩ x:=by
 unfold pk at h;split at h
 ·split at h
  ·rename_i a hx;split at h
   ·rename_i c v hy;split at h
    ·rename_i hz;simp only [Option.some.injEq,Prod.mk.injEq] at h;obtain ⟨rfl,rfl⟩:=h;subst hp;exact dP hx hy hz
    ·cases h
   ·rename_i hy;split at h
    ·rename_i c v hz;simp only [Option.some.injEq,Prod.mk.injEq] at h;obtain ⟨rfl,rfl⟩:=h;subst hp;exact yG hx hy hz
    ·cases h
   ·cases h
  ·cases h
 ·cases h
end q
inductive Hint where
 | g (x:EV)
 | v (x:EV) (st:St)
 | u (st:St)
 | t (x:EV) (tk:Nat) (tl:gK)
 | n (x:EV) (tl:gK)
 | r (o:Nat)
 | p (n:Nat)
  | f (k:Nat) (x:EV)
 | w (k:Nat) (st:St)
def forced (n:Nat):List Hint->Option (EV×List Hint)
 | .f k x::hs=>match Nat.beq k n with
  | true=>some (x,hs)
  | false=>none
 | _=>none
def R4 (n:Nat):List Hint->Option (St×List Hint)
 | .w k s::hs=>match Nat.beq k n with
  | true=>some (s,hs)
  | false=>none
 | _=>none
inductive Cf where
 | run (k:List Item)
 | ops (l rest:List Oper) (k:List Item)
 | draw (l:List Oper) (p:Nat) (os:List Oper) (k:List Item)
@[reducible] def Og (P:Program) (f:Ctx) (N:Nat) (S:Start) (Q:EV->St->Prop):Cf->Env->St->Prop
 | .run k=>bp P f N S Q k
 | .ops l r k=>cm P f N S Q l r k
 | .draw l p os k=>u7 P f N S Q l p os k
structure Out where
 cf:Cf
 env:Env
 st:St
 ps:List Prop
def WX {β:Type _} (b:Bool) (env:Env):List Tmp->List Prop->(Env->List Prop->β)->β
 | [],ps,k=>k [] ps
 | t::ts,ps,k=>match lookup t env with
  | some (.gd c y)=>WX b env ts ((c=b)::ps) λe ps=>k ((t,y)::e) ps
  | some x=>WX b env ts ps λe ps=>k ((t,x)::e) ps
  | none=>WX b env ts ps k
theorem Be {β:Type _} {b:Bool} {env:Env}:∀ (ts:List Tmp) (ps:List Prop) (k:Env->List Prop->β),∃ e Ic,WX b env ts ps k=k e Ic/\(sb Ic->sb ps/\zD b env e)
 | [],ps,k=>⟨[],ps,rfl,λh=>⟨h,trivial⟩⟩
 | t::ts,ps,k=>by
  unfold WX;split
  ·rename_i c y hl;obtain ⟨e,Ic,h1,h2⟩:=Be (b:=b) (env:=env) ts ((c=b)::ps) λe ps=>k ((t,y)::e) ps
   refine ⟨_,_,h1,λh=>?_⟩;obtain ⟨h34,h5⟩:=h2 h;obtain ⟨h3,h4⟩:=h34.c;exact ⟨h4,.inr (.inl (by rw [hl,h3])),h5⟩
  ·rename_i x fh hl;obtain ⟨e,Ic,h1,h2⟩:=Be (b:=b) (env:=env) ts ps λe ps=>k ((t,x)::e) ps
   exact ⟨_,_,h1,λh=>⟨(h2 h).1,.inl hl,(h2 h).2⟩⟩
  ·obtain ⟨e,Ic,h1,h2⟩:=Be (b:=b) (env:=env) ts ps k;exact ⟨e,Ic,h1,h2⟩
def stepG (P:Program) (T:FT) (n:Nat) (st:St) (o:Oper) (b:Bool) (hs:List Hint) (F:Option Out) (K:EV->List Hint->List Prop->Option Out) (e:Env) (ps:List Prop):Option Out :=
 match forced n hs with
 | some (x,hs)=>K (.gd b x) hs ((b=true->zF P e st o x)::ps)
 | none=>match qv T e st o.op with
  | some x=>K (.gd b x) hs ps
  | none=>match pk e o.op with
   | some (x,p)=>K (.gd b x) hs (p::ps)
   | none=>match hs with
    | .g x::hs=>K (.gd b x) hs ((b=true->zF P e st o x)::ps)
    | _=>F
def MW (P:Program) (T:FT) (n:Nat) (l:List Oper) (e:Env) (st:St) (o:Oper) (hs:List Hint) (ps:List Prop) (F:Option Out) (K:EV->List Hint->List Prop->Option Out):Option Out :=
 match o.guard with
 | none=>match forced n hs with
  | some (x,hs)=>K x hs (zF P e st o x::ps)
  | none=>match qv T e st o.op with
   | some x=>K x hs ps
   | none=>match pk e o.op with
    | some (x,p)=>K x hs (p::ps)
    | none=>match hs with
     | .g x::hs=>K x hs (zF P e st o x::ps)
     | _=>F
 | some (j,want)=>match (l[j]?).bind (·.dst) with
  | some t=>match lookup t e with
   | some c=>match Db c want with
    | some b=>WX b e (EE o.op) ps (stepG P T n st o b hs F K)
    | none=>F
   | none=>F
  | none=>F
theorem EY {P:Program} {T:FT} (hT:T.Ok P) {n:Nat} {l:List Oper} {e:Env} {st:St} {o:Oper} {hs:List Hint} {ps:List Prop} {F:Option Out} {K:EV->List Hint->List Prop->Option Out} {out:Option Out} (h:MW P T n l e st o hs ps F K=out) :
  out=F∨∃ x uz Ic,out=K x uz Ic/\(sb Ic->sb ps/\uJ P l e st o x):=by
 obtain ⟨dst,op,ty,pos,after,guard⟩:=o;unfold MW at h
 dsimp only at h
 split at h
 ·split at h
  ·exact .inr ⟨_,_,_,h.symm,λhp=>⟨hp.c.2,.inl ⟨rfl,hp.c.1⟩⟩⟩
  ·split at h
   ·rename_i x hq;exact .inr ⟨_,_,_,h.symm,λhp=>⟨hp,.inl ⟨rfl,(EX hT hq).g⟩⟩⟩
   ·split at h
    ·rename_i x p hq;exact .inr ⟨_,_,_,h.symm,λhp=>⟨hp.c.2,.inl ⟨rfl,(JX hq hp.c.1).g⟩⟩⟩
    ·split at h
     ·exact .inr ⟨_,_,_,h.symm,λhp=>⟨hp.c.2,.inl ⟨rfl,hp.c.1⟩⟩⟩
     ·exact .inl h.symm
 ·rename_i j want;split at h
  ·rename_i t ht;split at h
   ·rename_i c hc;split at h
    ·rename_i b hb;obtain ⟨e',ps1,h1,h2⟩:=Be (b:=b) (env:=e) (EE op) ps (stepG P T n st ⟨dst,op,ty,pos,after,some (j,want)⟩ b hs F K);rw [h1] at h;have mk:∀ x,(b=true->zF P e' st ⟨dst,op,ty,pos,after,some (j,want)⟩ x)->zD b e e'->uJ P l e st ⟨dst,op,ty,pos,after,some (j,want)⟩ (.gd b x):=λx hx hE=>.inr ⟨j,want,t,c,b,x,e',rfl,ht,hc,hb,rfl,hE,hx⟩
     unfold stepG at h
     dsimp only at h
     split at h
     ·exact .inr ⟨_,_,_,h.symm,λhp=>⟨(h2 hp.c.2).1,mk _ hp.c.1 (h2 hp.c.2).2⟩⟩
     ·split at h
      ·rename_i x hq;exact .inr ⟨_,_,_,h.symm,λhp=>⟨(h2 hp).1,mk _ (λ_=>(EX hT hq).g) (h2 hp).2⟩⟩
      ·split at h
       ·rename_i x p hq;exact .inr ⟨_,_,_,h.symm,λhp=>⟨(h2 hp.c.2).1,mk _ (λ_=>(JX hq hp.c.1).g) (h2 hp.c.2).2⟩⟩
       ·split at h
        ·exact .inr ⟨_,_,_,h.symm,λhp=>⟨(h2 hp.c.2).1,mk _ hp.c.1 (h2 hp.c.2).2⟩⟩
        ·exact .inl h.symm
    ·exact .inl h.symm
   ·exact .inl h.symm
  ·exact .inl h.symm
def P4 (P:Program) (base:Nat) (T:FT) (e:Env) (st:St) (o:Oper) (hs:List Hint) (ps:List Prop) (K:EV->St->List Hint->List Prop->Option Out):Option Out :=
  match o.guard with
  | some _=>none
  | none=>match st with
   | ⟨ob,tl⟩=>match hs with
    | .r n::hs=>match Nat.beq n ob.length with
      | false=>none
      | true=>match o.op with
        | .box t x=>match cY e x with
          | some y=>match gf y with
            | some cs=>ma cs λcs=>ma (ob++[.row t cs]) λos=>K (.ref n 0) ⟨os,tl⟩ hs ps
            | none=>none
          | none=>none
        | .alloc t=>match R3 t T.zr with
          | some zs=>ma (zs.map EV.d) λcs=>ma (ob++[.row t cs]) λos=>K (.ref n 0) ⟨os,tl⟩ hs ps
          | none=>none
        | _=>none
    | .v x st'::hs=>K x st' hs (xG P base e st o x st'::ps)
    | .u st'::hs=>K (.d .any) st' hs (HE P base e st o st'::ps)
    | .t x tk y::hs=>ma (tl.set tk y) λts=>K x ⟨ob,ts⟩ hs (xG P base e st o x (st.bD tk y)::ps)
    | .n x y::hs=>ma (tl++[y]) λts=>K x ⟨ob,ts⟩ hs (xG P base e st o x (st.tok y)::ps)
    | _=>none
def P5 (P:Program) (base:Nat) (T:FT) (n:Nat) (e:Env) (st:St) (o:Oper) (hs:List Hint) (ps:List Prop) (F:Option Out) (K:St->List Hint->List Prop->Option Out):Option Out :=
  match o.guard with
  | some _=>F
  | none=>match R4 n hs with
   | some (st',hs)=>K st' hs (HE P base e st o st'::ps)
   | none=>match o.op with
    | .store t x y=>match cY e x with
      | some (.ref ob off)=>match rowOf st ob with
        | some (ty,cs)=>match cY e y with
          | some y=>match gf y with
            | some new=>match R3 t T.sz with
              | some n=>match Nat.beq n new.length with
                | true=>match Nat.ble (off+new.length) cs.length with
                  | true=>match st with
                    | ⟨os,tl⟩=>ma (putCells cs off new) λcs=>ma (os.set ob (.row ty cs)) λos=>K ⟨os,tl⟩ hs ps
                  | false=>F
                | false=>F
              | none=>F
            | none=>F
          | none=>F
        | none=>F
      | _=>F
    | _=>F
section e
variable {P:Program} {base:Nat} {T:FT} (hT:T.Ok P) {e:Env} {st:St} {o:Oper} {hs:List Hint} {ps:List Prop} {out:Out}
include hT
theorem LQ {K:EV->St->List Hint->List Prop->Option Out} (h:P4 P base T e st o hs ps K=some out) :
  o.guard=none/\∃ x st' uz Ic,K x st' uz Ic=some out/\(sb Ic->sb ps/\(xG P base e st o x st'∨(x=.d .any/\HE P base e st o st'))):=by
 obtain ⟨dst,op,ty,pos,after,guard⟩:=o;unfold P4 at h
 dsimp only at h
 split at h
 ·cases h
 ·refine ⟨rfl,?_⟩;simp only [qm] at h;split at h
  ·split at h
   ·cases h
   ·rename_i hn;have hn:=zas hn;split at h
    ·rename_i t x;split at h
     ·rename_i y hy;split at h
      ·rename_i cs hc;refine ⟨_,_,_,_,h,λhp=>⟨hp,.inl ?_⟩⟩;rw [hn];exact Xq hy hc
      ·cases h
     ·cases h
    ·rename_i t;split at h
     ·rename_i zs hz;obtain ⟨z,LR,WY⟩:=Am hT.2.2.2.2 hz;refine ⟨_,_,_,_,h,λhp=>⟨hp,.inl ?_⟩⟩;rw [hn];exact iy LR WY
     ·cases h
    ·cases h
  ·exact ⟨_,_,_,_,h,λhp=>⟨hp.c.2,.inl hp.c.1⟩⟩
  ·exact ⟨_,_,_,_,h,λhp=>⟨hp.c.2,.inr ⟨rfl,hp.c.1⟩⟩⟩
  ·exact ⟨_,_,_,_,h,λhp=>⟨hp.c.2,.inl hp.c.1⟩⟩
  ·exact ⟨_,_,_,_,h,λhp=>⟨hp.c.2,.inl hp.c.1⟩⟩
  ·cases h
theorem LS {n:Nat} {F r:Option Out} {K:St->List Hint->List Prop->Option Out} (h:P5 P base T n e st o hs ps F K=r):r=F∨(o.guard=none/\∃ st' uz Ic,r=K st' uz Ic/\(sb Ic->sb ps/\HE P base e st o st')):=by
 obtain ⟨dst,op,ty,pos,after,guard⟩:=o;unfold P5 at h
 dsimp only at h
 split at h
 ·exact .inl h.symm
 ·split at h
  ·exact .inr ⟨rfl,_,_,_,h.symm,λhp=>⟨hp.c.2,hp.c.1⟩⟩
  simp only [qm] at h;split at h
  ·rename_i t x y;split at h
   ·rename_i ob off hx;split at h
    ·rename_i Lv cs hr;have hr:st.aO[ob]?=some (.row Lv cs):=by
      unfold rowOf at hr;split at hr
      ·rename_i h1;cases hr;exact h1
      ·cases hr
     split at h
     ·rename_i yv hy;split at h
      ·rename_i new hc;split at h
       ·rename_i n hl;split at h
        ·rename_i hn;have hn:=zas hn;split at h
         ·rename_i hle;have fB:=Am hT.2.2.1 hl;refine .inr ⟨rfl,_,_,_,h.symm,λhp=>⟨hp,o8 hx hy hr hc (zae hle) ?_⟩⟩;rw [←hn];exact fB
         ·exact .inl h.symm
        ·exact .inl h.symm
       ·exact .inl h.symm
      ·exact .inl h.symm
     ·exact .inl h.symm
    ·exact .inl h.symm
   ·exact .inl h.symm
  ·exact .inl h.symm
end e
def ctl (hs:List Hint) (ps:List Prop):List Item->(Cf->List Hint->List Prop->Option Out)->Option Out
 | .code (.seq x y)::k,K=>K (.run (.code x::.code y::k)) hs ps
 | .code .skip::k,K=>K (.run k) hs ps
 | .inBlock id::k,K=>K (.run k) hs ps
 | .code (.block id c)::k,K=>K (.run (.code c::.inBlock id::k)) hs ps
 | .code (.exit id)::k,K=>match exitTo id k with
  | some k'=>K (.run k') hs ps
  | none=>none
 | .code (.region id ⟨l⟩ false)::k,K=>K (.ops l l k) hs ps
 | .code (.region id ⟨l⟩ true)::k,K=>match hs with
  | .p p::hs=>ma (l.take p) λos=>K (.draw l p os k) hs ((cw l p=true)::ps)
  | _=>none
 | _,_=>none
def okO (N:Nat) (o:Oper):Bool:=match o.dst with
 | some d=>Nat.ble (d+1) N
 | none=>match o.guard with
  | none=>true
  | some _=>false
theorem MX {N:Nat} {o:Oper} (h:okO N o=true):fZ N o.dst=true/\(o.guard≠none->o.dst≠none):=by
 unfold okO at h;split at h
 ·rename_i d hd;rw [hd];exact ⟨h,λ_=>by simp⟩
 ·rename_i hd;rw [hd];split at h
  ·rename_i hg;exact ⟨rfl,λh=>absurd hg h⟩
  ·cases h
def go (P:Program) (base:Nat) (T:FT) (N:Nat):Nat->Cf->Env->St->List Hint->List Prop->Option Out
 | 0,cf,env,st,hs,ps=>match hs with
  | []=>some ⟨cf,env,st,ps⟩
  | _=>none
 | n+1,cf,env,st,hs,ps=>match cf with
  | .run k=>ctl hs ps k λcf hs ps=>go P base T N n cf env st hs ps
  | .ops l rest k=>match rest with
   | []=>go P base T N n (.run k) env st hs ps
   | o::rest=>match okO N o with
    | true=>P5 P base T (n+1) env st o hs ps
     (MW P T (n+1) l env st o hs ps
      (P4 P base T env st o hs ps λx st hs ps=>P3 env o.dst x λenv=>go P base T N n (.ops l rest k) env st hs ps)
      λx hs ps=>P3 env o.dst x λenv=>go P base T N n (.ops l rest k) env st hs ps)
     λst hs ps=>P3 env o.dst (.d .any) λenv=>go P base T N n (.ops l rest k) env st hs ps
    | false=>none
  | .draw l p os k=>match os with
   | []=>ma (l.drop p) λr=>go P base T N n (.ops l r k) env st hs ps
   | o::os=>match okO N o with
    | true=>MW P T (n+1) l (lZ l o env) st o hs ps none λx hs ps=>P3 env o.dst x λenv=>go P base T N n (.draw l p os k) env st hs ps
    | false=>none
section sound
variable {P:Program} {f:Ctx} {N:Nat} {S:Start} {Q:EV->St->Prop} {T:FT}
theorem cm.any {ops rest:List Oper} {k:List Item} {env:Env} {st:St} {o:Oper} {x:EV} (h:uJ P ops env st o x) (hd:fZ N o.dst=true) (hs:o.guard≠none->o.dst≠none) (hk:cm P f N S Q ops rest k (env.put o.dst x) st) :
  cm P f N S Q ops (o::rest) k env st:=by
 obtain ⟨dst,op,ty,pos,after,guard⟩:=o;rcases h with ⟨hg,h⟩|⟨j,want,t,c,b,y,env',hg,hj,hl,hc,rfl,hE,h⟩
 ·have hg:guard=none:=hg;subst hg;exact .g h hd hk
 ·have hg:guard=_:=hg;subst hg;cases dst with
  | none=>exact absurd rfl (hs (by simp))
  | some d=>exact .gZ hj hl hc hE hd h hk
theorem u7.any {l os:List Oper} {p:Nat} {k:List Item} {env:Env} {st:St} {o:Oper} {x:EV} (h:uJ P l (lZ l o env) st o x) (hd:fZ N o.dst=true) (hk:u7 P f N S Q l p os k (env.put o.dst x) st) :
  u7 P f N S Q l p (o::os) k env st:=by
 obtain ⟨xs,h1,h2⟩:=hk;exact ⟨x::xs,⟨hd,h,h1⟩,h2⟩
theorem go_sound (hT:T.Ok P) (hm:P.follows .mixedOrders=true):∀ (n:Nat) (cf:Cf) (env:Env) (st:St) (hs:List Hint) (ps:List Prop) (out:Out),go P S.base T N n cf env st hs ps=some out->sb out.ps ->
  sb ps/\(Og P f N S Q out.cf out.env out.st->Og P f N S Q cf env st)
 | 0,cf,env,st,hs,ps,out,h,hp=>by
  unfold go at h;split at h
  ·cases h;exact ⟨hp,λh=>h⟩
  ·cases h
 | n+1,.run k,env,st,hs,ps,out,h,hp=>by
  unfold go at h
  dsimp only at h
  have ih:=λcf hs ps=>go_sound hT hm n cf env st hs ps out
  unfold ctl at h;split at h
  ·obtain ⟨h1,h2⟩:=ih _ _ _ h hp;exact ⟨h1,λh=>.seq (h2 h)⟩
  ·obtain ⟨h1,h2⟩:=ih _ _ _ h hp;exact ⟨h1,λh=>.skip (h2 h)⟩
  ·obtain ⟨h1,h2⟩:=ih _ _ _ h hp;exact ⟨h1,λh=>.inBlock (h2 h)⟩
  ·obtain ⟨h1,h2⟩:=ih _ _ _ h hp;exact ⟨h1,λh=>.block (h2 h)⟩
  ·split at h
   ·rename_i hk;obtain ⟨h1,h2⟩:=ih _ _ _ h hp;exact ⟨h1,λh=>.exit hk (h2 h)⟩
   ·cases h
  ·obtain ⟨h1,h2⟩:=ih _ _ _ h hp;exact ⟨h1,λh=>.region (h2 h)⟩
  ·split at h
   ·rw [qm] at h;obtain ⟨h1,h2⟩:=ih _ _ _ h hp;exact ⟨h1.c.2,λh=>.drawn _ hm h1.c.1 (h2 h)⟩
   ·cases h
  ·cases h
 | n+1,.ops l [] k,env,st,hs,ps,out,h,hp=>by
  unfold go at h
  dsimp only at h
  obtain ⟨h1,h2⟩:=go_sound hT hm n _ _ _ _ _ out h hp;exact ⟨h1,λh=>.nil (h2 h)⟩
 | n+1,.ops l (o::rest) k,env,st,hs,ps,out,h,hp=>by
  unfold go at h
  dsimp only at h
  split at h
  ·rename_i ho;obtain ⟨F3,NT⟩:=MX ho;rcases LS (base:=S.base) hT h with h|⟨hg,st',uz,Ic,h,hu⟩
   ·rcases EY hT h.symm with h|⟨x,uz,Ic,h,ha⟩
    ·obtain ⟨hg,x,st',uz,Ic,h,ha⟩:=LQ hT h.symm;rw [Ed] at h;obtain ⟨h1,h2⟩:=go_sound hT hm n _ _ _ _ _ out h hp;obtain ⟨h3,h4⟩:=ha h1;refine ⟨h3,λhk=>?_⟩;rcases h4 with h4|⟨rfl,h4⟩
     ·exact .op hg F3 h4 (h2 hk)
     ·exact .Zw hg F3 h4 (h2 hk)
    ·rw [Ed] at h;obtain ⟨h1,h2⟩:=go_sound hT hm n _ _ _ _ _ out h.symm hp;obtain ⟨h3,h4⟩:=ha h1;exact ⟨h3,λh=>.any h4 F3 NT (h2 h)⟩
   ·rw [Ed] at h;obtain ⟨h1,h2⟩:=go_sound hT hm n _ _ _ _ _ out h.symm hp;obtain ⟨h3,h4⟩:=hu h1;exact ⟨h3,λh=>.Zw hg F3 h4 (h2 h)⟩
  ·cases h
 | n+1,.draw l p [] k,env,st,hs,ps,out,h,hp=>by
  unfold go at h
  dsimp only at h
  rw [qm] at h;obtain ⟨h1,h2⟩:=go_sound hT hm n _ _ _ _ _ out h hp;exact ⟨h1,λh=>.nil (h2 h)⟩
 | n+1,.draw l p (o::os) k,env,st,hs,ps,out,h,hp=>by
  unfold go at h
  dsimp only at h
  split at h
  ·rename_i ho;obtain ⟨F3,NT⟩:=MX ho;rcases EY hT h with h|⟨x,uz,Ic,h,ha⟩
   ·cases h
   ·rw [Ed] at h;obtain ⟨h1,h2⟩:=go_sound hT hm n _ _ _ _ _ out h.symm hp;obtain ⟨h3,h4⟩:=ha h1;exact ⟨h3,λh=>.any h4 F3 (h2 h)⟩
  ·cases h
def LU (T:FT) (env:Env) (st:St):List ResultVar->Option (List EV)
 | []=>some []
 | .tmp t::l=>match lookup t env with
  | some x=>match LU T env st l with
   | some r=>some (x::r)
   | none=>none
  | none=>none
 | .cell a ty::l=>match lookup a env with
  | some (.ref o off)=>match qv T env st (.load ty (.tmp a)) with
   | some x=>match LU T env st l with
    | some r=>some (x::r)
    | none=>none
   | none=>none
  | _=>none
theorem wN (hT:T.Ok P) {env:Env} {st:St}:∀ {l:List ResultVar} {es:List EV},LU T env st l=some es->EL P env st l es
 | [],es,h=>by cases h;trivial
 | .tmp t::l,es,h=>by
  unfold LU at h;split at h
  ·rename_i x hx;split at h
   ·rename_i r hr;cases h;exact ⟨hx,wN hT hr⟩
   ·cases h
  ·cases h
 | .cell a ty::l,es,h=>by
  unfold LU at h;split at h
  ·rename_i o off ha;split at h
   ·rename_i x hq;split at h
    ·rename_i r hr;cases h;exact ⟨⟨⟨o,off,ha⟩,EX hT hq⟩,wN hT hr⟩
    ·cases h
   ·cases h
  ·cases h
theorem bp.rc {f:FuncId} (hT:T.Ok P) {fn:Func} {xs:List ResultVar} {es:List EV} {k:List Item} {env:Env} {st:St} (hf:P.funcs[f]?=some fn) (hr:fn.results=xs.toArray) (h:LU T env st xs=some es) (hQ:Q (EM es) st) :
  bp P (.of f) N S Q (.code .ret::k) env st:=.XN xs es hf hr (wN hT h) hQ
theorem bp.ite {α:Type} {b:Bool} {d:Decidable (b=true)} {e1 e2:Option α} {r:α} {c:Operand} {x y:Code} {k:List Item} {env:Env} {st:St} (H:@ite _ (b=true) d e1 e2=some r) (hc:cY env c=some (.d (.ex (.bool b))))
  (ht:e1=some r->bp P f N S Q (.code x::k) env st) (hf:e2=some r->bp P f N S Q (.code y::k) env st):bp P f N S Q (.code (.cond c x y)::k) env st :=
 .cond hc (λh=>ht (by rw [zab h] at H;exact H)) (λh=>hf (by rw [zaa (by simp [h])] at H;exact H))
def LV (env:Env):List (Nat×EV)->Option Env
 | []=>some []
 | (i,_)::l=>match lookup i env with
  | some x=>match LV env l with
   | some r=>some ((i,x)::r)
   | none=>none
  | none=>none
theorem xU {env:Env}:∀ {l:List (Nat×EV)} {env':Env},LV env l=some env'->dp env env'
 | [],env',h=>by cases h;trivial
 | (i,y)::l,env',h=>by
  unfold LV at h;split at h
  ·rename_i x hx;split at h
   ·rename_i r hr;cases h;exact .cons hx (.aj _) (xU hr)
   ·cases h
  ·cases h
section back
variable {todo:List Item} {env env':Env} {st st' s0:St}
theorem bp.z (h:bp P f N S Q todo env' st') (hs:st=st') (hE:LV env env'=some env'):bp P f N S Q todo env st:=hs▸.sub (xU hE) h
theorem bp.y (h:bp P f N S Q todo env' st') (hs:st=st') (hE:dp env env'):bp P f N S Q todo env st:=hs▸.sub hE h
theorem bp.t (n m:Nat) (h:bp P f N S Q todo env' st') (hE:LV env env'=some env') (ho:st.aO.take n=st'.aO) (ht:st.au.take m=st'.au) (hn:(Nat.ble n st.aO.length && Nat.ble m st.au.length)=true)
  (ze:(Dh n m env' && st'.aO.all (ki n m))=true) (hS:S.st=s0) (hb:(Nat.ble s0.aO.length n && Nat.ble s0.au.length m)=true):bp P f N S Q todo env st:=by
 simp only [zar] at hn hb;exact .to n m (xU hE) ho ht hn.1 hn.2 ze (by rw [hS];exact zae hb.1) (by rw [hS];exact zae hb.2) h
end back
end sound
theorem HE.e {P:Program} {base:Nat} {env:Env} {st st1 st2:St} {o:Oper} (h:HE P base env st o st1) (he:st1=st2):HE P base env st o st2:=he▸h
theorem xG.e {P:Program} {base:Nat} {env:Env} {st st1 st2:St} {o:Oper} {x:EV} (h:xG P base env st o x st1) (he:st1=st2):xG P base env st o x st2:=he▸h
theorem QD.m {q:D->Prop} {r:EV} {st:St} {x:D} (hq:q x) (h:eG r (.d x)):QD q r st:=⟨x,h,hq⟩
theorem eG.j6 {ds:List D} {es:List EV} (h:es=ds.map EV.d):eG (.dN es) (.d (.dN ds)):=by
 subst h;refine .sY ?_
 induction ds with
 | nil=>trivial
 | cons d ds ih=>exact ⟨.aj _,ih⟩
def ftB (P:Program) (T:FT):Bool :=
 T.one.all (λt=>decide ((P.underlying t).map j4=some true)) && T.agg.all (λx=>decide ((P.underlying x.1).map j4=some false) && decide ((P.info? x.1).map (·.size)=some x.2)) && T.sz.all (λx=>decide ((P.info? x.1).map (·.size)=some x.2)) &&
 T.fo.all (λx=>x.2.all λy=>decide (fi P x.1 y.1=some y.2))
theorem Hd {α:Type} {p:α->Prop}:∀ {l:List α},(∀ x,x∈l->p x)->Al p l
 | [],_=>trivial
 | a::l,h=>⟨h a (by simp),Hd λx hx=>h x (by simp [hx])⟩
theorem FT.XZ {P:Program} {T:FT} (h:ftB P T=true) (hz:Al (λx=>∃ z,(P.info? x.1).bind (·.zero)=some z/\gf (.d (cv z))=some (x.2.map EV.d)) T.zr):T.Ok P:=by
 simp only [ftB,zar,zbb,zah] at h;exact ⟨Hd h.1.1.1,Hd h.1.1.2,Hd h.1.2,Hd λx hx=>Hd (h.2 x hx),hz⟩
def MY (P:Program) (base:Nat) (T:FT) (N n:Nat) (cf:Cf) (env:Env) (st:St) (hs:List Hint):Option Out:=ma env λenv=>match st with
 | ⟨os,ts⟩=>ma os λos=>ma ts λts=>go P base T N n cf env ⟨os,ts⟩ hs []
theorem UR {P:Program} {base N n:Nat} {T:FT} {cf:Cf} {env:Env} {st:St} {hs:List Hint}:MY P base T N n cf env st hs=go P base T N n cf env st hs []:=by
 unfold MY;simp only [qm]
theorem tj {P:Program} {f:Ctx} {N:Nat} {S:Start} {Q:EV->St->Prop} {T:FT} (hT:T.Ok P) (hm:P.follows .mixedOrders=true) {n:Nat} {cf:Cf} {env:Env} {st:St} {hs:List Hint} {out:Out} (h:MY P S.base T N n cf env st hs=some out) (hp:sb out.ps) :
  Og P f N S Q out.cf out.env out.st->Og P f N S Q cf env st:=(go_sound hT hm n cf env st hs [] out (UR▸h) hp).2
structure JY (P:Program) (t e sz:Nat):Prop where
 ht:P.underlying t=some (.slice e)
 hi:∃ inf z,P.info? e=some inf/\inf.zero=some z/\inf.size=sz/\z.cells.size=sz/\inf.bytes<=100000
theorem JY.of {P:Program} {t e sz b:Nat} {z:Value} (ht:P.underlying t=some (.slice e)) (h:∃ i,P.info? e=some i/\i.zero=some z/\i.size=sz/\i.bytes=b) (hz:z.cells.size=sz) (hb:Nat.ble b 100000=true):JY P t e sz :=
 let ⟨i,h1,h2,h3,h4⟩:=h
 ⟨ht,i,z,h1,h2,h3,hz,by rw [h4];exact zae hb⟩
section slt
variable {P:Program} {t e sz:Nat} (s:JY P t e sz) {base:Nat} {env:Env} {st:St} {d:Option Tmp} {ty:TypeId} {pos:String} {after:Array Edge} {gd:Option (Nat×Bool)} {x y:Operand} {α:Type} {row:α->List D} {l l':List α} {ev w:EV}
include s
theorem JY.n (hx:cY env x=some ev) (hs:uy ev=some (sz,l.map row)):zF P env st ⟨d,.call ⟨.builtin .len,#[x],#[t]⟩,ty,pos,after,gd⟩ (.d (cI (l.length:Int))):=(Uv s.ht hx hs).g
theorem JY.ix [Inhabited α] {k:IntKind} {i:Int} (hx:cY env x=some ev) (hs:uy ev=some (sz,l.map row)) (hy:cY env y=some (.d (.ex (.int k i)))) (h:0<=i/\i<l.length) :
  zF P env st ⟨d,.indexAddr t x y,ty,pos,after,gd⟩ (.d (.ro (row (nth l i.toNat)))):=by
 obtain ⟨inf,z,h1,_,h3,_⟩:=s.hi;exact (Uu s.ht h1 h3 hx hs hy h).g
theorem JY.a {tk:Nat} (hx:cY env x=some (.cE sz (l.map row) tk)) (e9:st.au[tk]?=some ⟨e,sz,l.length,none⟩) (hy:cY env y=some w) (hs:uy w=some (sz,l'.map row)) (hn:l.length+l'.length<=1000000000) :
  xG P base env st ⟨d,.call ⟨.builtin .append,#[x,y],#[t,t]⟩,ty,pos,after,gd⟩ (.cE sz ((l++l').map row) tk) (st.bD tk ⟨e,sz,(l++l').length,none⟩):=by
 obtain ⟨inf,z,h1,h2,h3,h4,h5⟩:=s.hi;exact yF s.ht h1 h2 h3 h4 h5 hx e9 hy hs hn
end slt
section ari
variable {P:Program} {env:Env} {st:St} {d:Option Tmp} {ty:TypeId} {pos:String} {after:Array Edge} {gd:Option (Nat×Bool)} {x y:Operand} {t t2:TypeId} {a b:Int}
theorem aF (hx:cY env x=some (.d (cI a))) (hy:cY env y=some (.d (cI b))) (h:-9223372036854775808<=a+b/\a+b<=9223372036854775807):zF P env st ⟨d,.binOp .add t x y t2,ty,pos,after,gd⟩ (.d (cI (a+b))):=(Ae hx hy h.1 h.2).g
theorem gB (hx:cY env x=some (.d (cI a))) (hy:cY env y=some (.d (cI b))) (h:-9223372036854775808<=a-b/\a-b<=9223372036854775807):zF P env st ⟨d,.binOp .sub t x y t2,ty,pos,after,gd⟩ (.d (cI (a-b))):=(Un hx hy h.1 h.2).g
end ari
abbrev Hint.a {α:Type} (tk e sz:Nat) (row:α->List D) (l:List α):Hint:=.t (.cE sz (l.map row) tk) tk ⟨e,sz,l.length,none⟩
def X0 (P:Program) (f:Nat):Bool:=match P.funcs[f]? with
 | some fn=>(fn.name == "runtime.NumGoroutine")==false && fn.body.isNone==false
 | none=>false
theorem enters_of {P:Program} {l:List Nat} (hl:l.all (X0 P)=true) {i f:Nat} (h:l[i]?=some f):Enters P f:=by
 have:=zbb.1 hl f (zbg h);unfold X0 at this;split at this
 ·rename_i fn hf;simp only [zar,zee] at this;exact ⟨fn,hf,this.1,this.2⟩
 ·cases this
abbrev Hint.i (n:Int):Hint:=.g (.d (cI n))
abbrev Hint.b (b:Bool):Hint:=.g (.d (cB b))
abbrev Hint.c (c:UInt8):Hint:=.g (.d (XM c))
abbrev Hint.s (l:List UInt8):Hint:=.g (.d (cS l))
abbrev Hint.d (x:D):Hint:=.g (.d x)
section renew
variable {P:Program} {g:bY} {base:Nat} {w:World} {st:St}
def St.renew (st:St) (tk:Nat) (x x':gK):St:=(st.bD tk ⟨x.e,x.sz,0,none⟩).tok x'
theorem Oh {tk t:Nat} {x x' y:gK} (hlen:tk<st.au.length) (h:(st.renew tk x x').au[t]?=some y) :
  (t=st.au.length/\y=x')∨(t=tk/\y=⟨x.e,x.sz,0,none⟩)∨(t≠tk/\t<st.au.length/\st.au[t]?=some y):=by
 have hl:t<(st.renew tk x x').au.length:=(zad.1 h).1;simp [St.renew,St.tok,St.bD] at hl;by_cases h1:t=st.au.length
 ·subst h1;left;refine ⟨rfl,?_⟩;simpa [St.renew,St.tok,St.bD,zeo] using h
 ·right;have cZ:t<st.au.length:=by omega
  by_cases h2:t=tk
  ·left;subst h2;refine ⟨rfl,?_⟩;simpa [St.renew,St.tok,St.bD,cZ,zak,zeo] using h
  ·right;refine ⟨h2,cZ,?_⟩;simpa [St.renew,St.tok,St.bD,cZ,zak,zbj,zcb h2] using h
theorem Oi {tk t:Nat} {x x' y:gK} (ht:t≠tk) (h:st.au[t]?=some y):(st.renew tk x x').au[t]?=some y:=by
 have cZ:t<st.au.length:=(zad.1 h).1;rw [←h];simp [St.renew,St.tok,St.bD,zak,cZ,zbj,zcb ht]
theorem He {tk:Nat} {x x':gK}:(st.renew tk x x').au[st.au.length]?=some x':=by simp [St.renew,St.tok,St.bD]
theorem Inv.renew (h:Inv g base w st) {tk:Nat} {x x':gK} {rows bw:List (List D)} (e9:st.au[tk]?=some x) (hx:x.own=some rows) (jL:x'.own=some bw)
  {v':Value} {w':World} {Td:List Value} (j1:w'.ownsRow base x'.e x'.sz v' x'.n Td)
  (hc:(v'.ownBlock=(g.tk tk).ownBlock/\w'.heap.size=w.heap.size/\w.grownBy w' (g.tk tk).ownBlock)∨(v'.ownBlock=some w.heap.size/\Below w.heap.size w w'))
  (nG:dt g.lim w x'.sz x'.n bw Td) :
  ∃ g',g'.tk st.au.length=v'/\Inv g' base w' (st.renew tk x x')/\Step base g w st g' w' (st.renew tk x x'):=by
 have EB:∀ b,(g.tk tk).ownBlock=some b->g.lim b=0:=λb hb=>(h.Jt e9 hb).trans (AZ hx)
 have cZ:∀ b,(g.tk tk).ownBlock=some b->base<=b/\b<w.heap.size:=λb hb=>h.wv e9 hb
 have hlen:tk<st.au.length:=(zad.1 e9).1;have eO:w.heap.size<=w'.heap.size:=by rcases hc with ⟨_,h1,_⟩|⟨_,h1⟩;omega;exact h1.size
 have ME:w'.os=w.os/\w'.tape=w.tape/\w'.output=w.output:=by rcases hc with ⟨_,_,h1⟩|⟨_,h1⟩ <;> exact ⟨h1.os,h1.tape,h1.output⟩
 have lY:∀ k,k<w.heap.size->(g.tk tk).ownBlock≠some k->w'.heap[k]?=w.heap[k]?:=by
  intro k hk fh;rcases hc with ⟨_,_,h1⟩|⟨_,h1⟩
  ·exact h1.block k hk (zcb fh)
  ·exact h1.block k hk
 have tA:∀ k,k<w.heap.size->(g.tk tk).ownBlock≠some k->v'.ownBlock≠some k:=by
  intro k hk fh;rcases hc with ⟨h1,_,_⟩|⟨h1,_⟩ <;> rw [h1]
  ·exact fh
  ·intro he;cases he;omega
 let g':bY:=⟨λb=>if v'.ownBlock=some b then 0 else g.lim b,g.ob,λt=>if t=tk then .slice none 0 0 else if t=st.au.length then v' else g.tk t⟩
 have xI:∀ b,v'.ownBlock=some b->g'.lim b=0:=λb hb=>by show (if _ then _ else _)=_;rw [zab hb]
 have lQ:∀ b,v'.ownBlock≠some b->g'.lim b=g.lim b:=λb hb=>by show (if _ then _ else _)=_;rw [zaa hb]
 have Oj:g'.tk tk=.slice none 0 0:=by show (if tk=tk then _ else _)=_;rw [zab rfl]
 have zc:g'.tk st.au.length=v':=by show (if st.au.length=tk then _ else _)=_;rw [zaa (by omega),zab rfl]
 have wz:∀ t,t≠tk->t<st.au.length->g'.tk t=g.tk t:=λt ht hl=>by show (if t=tk then _ else _)=_;rw [zaa ht,zaa (by omega)]
 have A0:∀ k,k<base->(g.tk tk).ownBlock≠some k:=λk hk he=>by have:=(cZ k he).1;omega
 have mT:Below base w w':=⟨ME.1,ME.2.1,ME.2.2,eO,λk hk=>lY k (zbk hk h.base) (A0 k hk)⟩;have A1:Lf g.lim w g'.lim w':=by
  refine ⟨eO,λb hb=>?_,λb off hb ho=>?_⟩
  ·by_cases he:v'.ownBlock=some b
   ·rw [xI b he];have kc:(g.tk tk).ownBlock=some b:=by
     rcases hc with ⟨h1,_,_⟩|⟨h1,_⟩
     ·rw [←h1];exact he
     ·rw [h1] at he;cases he;omega
    rw [EB b kc];exact zfg _
   ·rw [lQ b he];exact zam _
  ·by_cases he:(g.tk tk).ownBlock=some b
   ·rw [EB b he] at ho;omega
   ·exact World.cell?_of_block (w:=w) (a:=⟨b,off,none⟩) (lY b hb he)
 have wH:=λ(t:Nat) (y:gK) (hy:(st.renew tk x x').au[t]?=some y)=>Oh hlen hy
 have hs:u4 g w st g' w' (st.renew tk x x'):=by
  refine ⟨A1,λ_ _=>rfl,zam _,λt e' Jg n' ht=>?_,by simp [St.renew,St.tok,St.bD],λt y JZ kQ hy ho=>?_⟩
  ·have xh:t≠tk:=by
    intro e;subst e;rw [e9] at ht;cases ht;cases hx
   exact ⟨n',Oi xh ht,zam _,λ_=>wz t xh (zad.1 ht).1⟩
  ·rcases wH t y hy with ⟨h1,_⟩|⟨_,h2⟩|⟨h1,h2,h3⟩
   ·omega
   ·rw [h2] at ho;cases ho
   ·exact ⟨y,JZ,h3,ho,rfl,zam _,λ_=>wz t h1 h2⟩
 have A2:∀ o,st.live o->g.ob o<w.heap.size/\(g.tk tk).ownBlock≠some (g.ob o):=λo ho=>⟨(h.wy ho).1,h.iu tk _ o e9 ho⟩
 have gY:∀ t y,t≠tk->st.au[t]?=some y->∀ b,(g.tk t).ownBlock=some b->b<w.heap.size/\(g.tk tk).ownBlock≠some b/\v'.ownBlock≠some b:=λt y xh hy b hb=>by
  have h1:=(h.wv hy hb).2;have h2:=h.nF t tk _ _ b xh hy e9 hb;exact ⟨h1,h2,tA b h1 h2⟩
 refine ⟨g',zc,⟨zcz h.base eO,?_,?_,?_,h.ne,?_,?_,?_,h.DH.below mT,?_⟩,⟨hs,mT,λb hb=>lQ b (tA b (zbk hb h.base) (A0 b hb)),λb hb hn=>?_,λb hb hw=>?_⟩⟩
 ·intro o ty cs hx;obtain ⟨h1,h2,vs,h3,h4,h5⟩:=h.row o ty cs hx;obtain ⟨k1,k2⟩:=A2 o ⟨_,hx,by simp⟩;exact ⟨h1,(lQ _ (tA _ k1 k2)).trans h2,vs,by show w'.heap[g.ob o]?=_;rw [lY _ k1 k2];exact h3,h4,λi c u hc hu=>⟨(h5 i c u hc hu).1.mono hs,(h5 i c u hc hu).2⟩⟩
 ·intro o es hx;obtain ⟨h1,ms,c,h3,h4,h5,h6⟩:=h.map o es hx;obtain ⟨k1,k2⟩:=A2 o ⟨_,hx,by simp⟩;exact ⟨h1,ms,c,by show w'.heap[g.ob o]?=_;rw [lY _ k1 k2];exact h3,h4,λi k y m a b=>⟨(h5 i k y m a b).1,(h5 i k y m a b).2.mono hs⟩,h6⟩
 ·intro o y hx;obtain ⟨h1,h2,h3⟩:=h.raw o y hx;obtain ⟨k1,k2⟩:=A2 o ⟨_,hx,by simp⟩;exact ⟨h1,(lQ _ (tA _ k1 k2)).trans h2,by show w'.heap[g.ob o]?=_;rw [lY _ k1 k2];exact h3⟩
 ·intro t e' Jg n' ht;rcases wH t _ ht with ⟨h1,h2⟩|⟨h1,h2⟩|⟨h1,h2,h3⟩
  ·subst h2;cases jL
  ·subst h1;cases h2;rw [Oj];exact ⟨[],World.ownsRow_nil w' base _ _,λb hb=>by cases hb⟩
  ·obtain ⟨ys,k1,k2⟩:=h.tail t e' Jg n' h3;rw [wz t h1 h2];exact ⟨ys,fu k1 λb hb=>lY b (gY t _ h1 h3 b hb).1 (gY t _ h1 h3 b hb).2.1,λb hb=>by rw [lQ b (gY t _ h1 h3 b hb).2.2];exact k2 b hb⟩
 ·intro t t' y y' b fh ht uH hb;rcases wH t _ ht with ⟨h1,h2⟩|⟨h1,h2⟩|⟨h1,h2,h3⟩
  ·subst h1;rw [zc] at hb;rcases wH t' _ uH with ⟨k1,k2⟩|⟨k1,k2⟩|⟨k1,k2,k3⟩
   ·exact absurd k1.symm fh
   ·rw [k1,Oj];intro e;cases e
   ·rw [wz t' k1 k2];intro kc;exact (gY t' _ k1 k3 b kc).2.2 hb
  ·rw [h1,Oj] at hb;cases hb
  ·rw [wz t h1 h2] at hb;rcases wH t' _ uH with ⟨k1,k2⟩|⟨k1,k2⟩|⟨k1,k2,k3⟩
   ·rw [k1,zc];exact (gY t _ h1 h3 b hb).2.2
   ·rw [k1,Oj];intro e;cases e
   ·rw [wz t' k1 k2];exact h.nF t t' _ _ b fh h3 k3 hb
 ·intro t y o ht ho;have ox:st.live o:=ho;obtain ⟨k1,k2⟩:=A2 o ox;rcases wH t _ ht with ⟨h1,h2⟩|⟨h1,h2⟩|⟨h1,h2,h3⟩
  ·rw [h1,zc];exact tA _ k1 k2
  ·rw [h1,Oj];intro e;cases e
  ·rw [wz t h1 h2];exact h.iu t y o h3 ox
 ·intro t e' Jg n' JZ ht;rcases wH t _ ht with ⟨h1,h2⟩|⟨h1,h2⟩|⟨h1,h2,h3⟩
  ·subst h1;subst h2;cases jL;rw [zc];exact ⟨_,j1,λb hb=>xI b hb,nG.mono A1⟩
  ·cases h2
  ·obtain ⟨ys,k1,k2,k3⟩:=h.own t e' Jg n' JZ h3;rw [wz t h1 h2];exact ⟨ys,fu k1 λb hb=>lY b (gY t _ h1 h3 b hb).1 (gY t _ h1 h3 b hb).2.1,λb hb=>by rw [lQ b (gY t _ h1 h3 b hb).2.2];exact k2 b hb,k3.mono A1⟩
 ·have fh:(g.tk tk).ownBlock≠some b:=λe=>hn (.inr ⟨tk,x,e9,e⟩)
  exact ⟨lY b hb fh,lQ b (tA b hb fh)⟩
 ·rcases hw with ⟨o,h1,h2⟩|⟨t,y,h1,h2⟩
  ·exact .inl ⟨o,h1,h2⟩
  ·rcases wH t _ h1 with ⟨k1,k2⟩|⟨k1,k2⟩|⟨k1,k2,k3⟩
   ·rw [k1,zc] at h2;rcases hc with ⟨c1,_,_⟩|⟨c1,_⟩
    ·exact .inr ⟨tk,x,e9,by rw [←c1];exact h2⟩
    ·rw [c1] at h2;cases h2;omega
   ·rw [k1,Oj] at h2;cases h2
   ·rw [wz t k1 k2] at h2;exact .inr ⟨t,y,k3,h2⟩
end renew
section rows
variable {P:Program} (w:World)
theorem qU {a b c:Nat} (h:min a b=c):Nat.min a b=c:=h
def laid (cur:List Value) (o:Nat) (cs:List Value):List Value:=cur.take o++cs++cur.drop (o+cs.length)
theorem iT {cur cs:List Value} {o:Nat} (h:o+cs.length<=cur.length):(laid cur o cs).length=cur.length:=by
 simp [laid];omega
theorem xV {cur cs:List Value} {o:Nat} (h:o+cs.length<=cur.length) (j:Nat):(laid cur o cs)[j]?=if o<=j/\j<o+cs.length then cs[j-o]? else cur[j]?:=by
 unfold laid;by_cases h1:j<o
 ·rw [zaa (by omega),zax,zak (by simp;omega),zaj,zab h1]
 ·by_cases h2:j<o+cs.length
  ·rw [zab ⟨by omega,h2⟩,zax,zat (by simp;omega),zak (by simp;omega)];congr 1;simp;omega
  ·rw [zaa (by omega),zat (by simp;omega),zaz];congr 1;simp;omega
theorem mV {dT sT ty e:TypeId} {inf:TypeInfo} {sz b o Ie US LW UT:Nat} {cur:Array Value} {a:Addr} {cs:List Value} (ht:P.underlying dT=some (.slice e)) (hi:P.info? e=some inf) (fB:inf.size=sz)
  (hg:w.heap[b]?=some (.cells cur e (0,0))) (hl:cs.length=Nat.min LW Ie*sz) (Gb:∀ j v,cs[j]?=some v->w.cell? (a.add j)=some v) (h1:∀ v∈cs,v.oneCell'=true) (AY:o+cs.length<=cur.size) :
  (Builtin.copy_ #[dT,sT] ty #[.slice (some ⟨b,o,none⟩) Ie US,.slice (some a) LW UT]).run P w=.ok (goInt (Nat.min LW Ie)) (w.setRow b (laid cur.toList o cs).toArray):=by
 subst fB;have hf:(Builtin.firstCells inf.size (Nat.min LW Ie) (.slice (some a) LW UT)).run P w=.ok cs.toArray w:=run_firstCells_some w inf.size (Nat.min LW Ie) a LW UT cs hl Gb;have lX:=run_storeCells_at P b o e cs 0 cur w hg (by simpa using AY) h1;simp only [zdb] at lX;simp [Builtin.copy_,run_underlying ht,Builtin.lenOf,sizeOf,typeInfo,hi,hf,lX,goInt,laid]
theorem An {t ty e:TypeId} {inf:TypeInfo} {z:Value} {sz b o n c:Nat} {cur:Array Value} (ht:P.underlying t=some (.slice e)) (hi:P.info? e=some inf) (hz:inf.zero=some z) (p9:z.cells.size=sz)
  (hg:w.heap[b]?=some (.cells cur e (0,0))) (hn:0<n) (AY:o+n*sz<=cur.size) (h1:∀ v∈(Builtin.zeroCells z.cells n).toList,v.oneCell'=true) :
  (Builtin.clear_ #[t] ty #[.slice (some ⟨b,o,none⟩) n c]).run P w=.ok (.tuple #[]) (w.setRow b (laid cur.toList o (Builtin.zeroCells z.cells n).toList).toArray):=by
 have fB:(Builtin.zeroCells z.cells n).toList.length=n*sz:=by rw [zcm,size_zeroCells,p9]
 have lX:=run_storeCells_at P b o e (Builtin.zeroCells z.cells n).toList 0 cur w hg (by rw [zdb,fB];exact AY) h1;simp only [zdb] at lX;cases n with
 | zero=>simp at hn
 | succ n=>simp [Builtin.clear_,run_underlying ht,zeroValue,typeInfo,hi,hz,lX,laid]
theorem EZ {t ty e:TypeId} {A:Option Addr} {c:Nat} (ht:P.underlying t=some (.slice e)):(Builtin.clear_ #[t] ty #[.slice A 0 c]).run P w=.ok (.tuple #[]) w:=by
 cases A <;> simp [Builtin.clear_,run_underlying ht]
theorem Hf (w:World) {o:Oper} {a:Act} {K:Act->World->Prop} {Q:Exit->Act->World->Prop} (d s:Operand) (t t':TypeId)
  (ho:o.op=.call { callee:=.builtin .copy,args:=#[d,s],argTypes:=#[t,t'] }) (v u:Value) (hd:a.eval d=v) (hs:a.eval s=u) {v':Value} {w':World}
  (hr:(Builtin.copy_ #[t,t'] o.type #[v,u]).run P w=.ok v' w') (h:K (a.put o.dst v') w'):o.wp P a w K Q:=by
 unfold Oper.wp execOp;simp only [ho,resolve,invoke,builtin,Sem.run_bind,Sem.run_pure,Result.andThen_ok,zef,zap,zbd,hd,hs,hr];exact h
theorem jQ (w:World) {ops:Array Oper} {rest:List Oper} {o:Oper} {a:Act} {Q:Exit->Act->World->Prop} (WZ:o.guard=none) (d s:Operand) (t t':TypeId)
  (ho:o.op=.call { callee:=.builtin .copy,args:=#[d,s],argTypes:=#[t,t'] }) (v u:Value) (hd:a.eval d=v) (hs:a.eval s=u) {v':Value} {w':World}
  (hr:(Builtin.copy_ #[t,t'] o.type #[v,u]).run P w=.ok v' w') (h:wpList P ops Q rest (a.put o.dst v') w'):wpList P ops Q (o::rest) a w :=
 wpList_plain WZ λ_ hK=>Hf w d s t t' ho v u hd hs hr (hK _ _ h)
theorem mb {ops:Array Oper} {o:Oper} {a:Act} {w:World} {K:Act->World->Prop} {Q:Exit->Act->World->Prop} {E:Prop}
  (hg:o.guard=none) (d x:Operand) (dT sT:TypeId) (vJ:o.op=Op.call { callee:=Callee.builtin Builtin.copy,args:=#[d,x],argTypes:=#[dT,sT] })
  (v u:Value) (hd:a.eval d=v) (hx:a.eval x=u) {v':Value} {w':World} (hr:(Builtin.copy_ #[dT,sT] o.type #[v,u]).run P w=.ok v' w') (hK:K (a.put o.dst v') w') :
  if Region.wanted o (yielded ops a.tmps)=true then Oper.wp P o a w K Q else E:=by
 rw [zab (by simp [Region.wanted,hg])];exact Hf w d x dT sT vJ v u hd hx hr hK
theorem km (w:World) {ops:Array Oper} {rest:List Oper} {o:Oper} {a:Act} {Q:Exit->Act->World->Prop} (WZ:o.guard=none) (d:Operand) (t:TypeId)
  (ho:o.op=.call { callee:=.builtin .clear,args:=#[d],argTypes:=#[t] }) (v:Value) (hd:a.eval d=v) {v':Value} {w':World}
  (hr:(Builtin.clear_ #[t] o.type #[v]).run P w=.ok v' w') (h:wpList P ops Q rest (a.put o.dst v') w'):wpList P ops Q (o::rest) a w :=
 wpList_plain WZ λ_ hK=>by
  unfold Oper.wp execOp;simp only [ho,resolve,invoke,builtin,Sem.run_bind,Sem.run_pure,Result.andThen_ok,zef,zap,zbd,hd,hr];exact hK _ _ h
end rows
end Go.Abs
namespace Go.Abs
open Go.RowKit
section srcs
variable {P:Program} (w:World)
theorem Ol {dT sT ty e:TypeId} {inf:TypeInfo} {sz b o Ie US m uc:Nat} {cur:Array Value} {A:Option Addr} {cs:List Value} (ht:P.underlying dT=some (.slice e)) (hi:P.info? e=some inf) (fB:inf.size=sz)
  (hg:w.heap[b]?=some (.cells cur e (0,0))) (hm:m<=Ie) (hf:(Builtin.firstCells sz m (.slice A m uc)).run P w=.ok cs.toArray w) (h1:∀ v∈cs,v.oneCell'=true) (AY:o+cs.length<=cur.size) :
  (Builtin.copy_ #[dT,sT] ty #[.slice (some ⟨b,o,none⟩) Ie US,.slice A m uc]).run P w=.ok (goInt m) (w.setRow b (laid cur.toList o cs).toArray):=by
 subst fB;have R5:Nat.min m Ie=m:=qU (by omega);have lX:=run_storeCells_at P b o e cs 0 cur w hg (by simpa using AY) h1;simp only [zdb] at lX;simp [Builtin.copy_,run_underlying ht,Builtin.lenOf,sizeOf,typeInfo,hi,R5,hf,lX,goInt,laid]
theorem Dq {t ty e:TypeId} {inf:TypeInfo} {sz b n c m uc:Nat} {cur:Array Value} {A:Option Addr} {cs:List Value} (ht:P.underlying t=some (.slice e)) (hi:P.info? e=some inf) (fB:inf.size=sz)
  (hg:w.heap[b]?=some (.cells cur e (0,0))) (uG:n+m<=c) (hf:(Builtin.firstCells sz m (.slice A m uc)).run P w=.ok cs.toArray w) (h1:∀ v∈cs,v.oneCell'=true) (AY:n*sz+cs.length<=cur.size) :
  (Builtin.append_ #[t,t] ty #[.slice (some ⟨b,0,none⟩) n c,.slice A m uc]).run P w=.ok (.slice (some ⟨b,0,none⟩) (n+m) c) (w.setRow b (laid cur.toList (n*sz) cs).toArray):=by
 subst fB;have lX:=run_storeCells_at P b (n*inf.size) e cs 0 cur w hg (by simpa using AY) h1;simp only [zdb] at lX;simp [Builtin.append_,run_underlying ht,sizeOf,typeInfo,hi,Builtin.lenOf,uG,hf,Addr.add_lit,lX,laid]
end srcs
theorem Ao {cur cs:List Value} {o:Nat} (h:o+cs.length<=cur.length) {k:Nat} (hk:k<=o):(laid cur o cs).take k=cur.take k:=by
 apply zby;intro j;rw [zaj,zaj,xV h];by_cases h1:j<k
 ·rw [zab h1,zab h1,zaa (by omega)]
 ·rw [zaa h1,zaa h1]
theorem js {cur cs:List Value} {o:Nat} (h:o+cs.length<=cur.length) {k:Nat} (hk:o+cs.length<=k):(laid cur o cs).take k=cur.take o++cs++(cur.take k).drop (o+cs.length):=by
 apply zby;intro j;rw [zaj,xV h];by_cases h1:j<o
 ·rw [zab (by omega),zaa (by omega),zax,zak (by simp;omega),zaj,zab h1]
 ·by_cases h2:j<o+cs.length
  ·rw [zab (by omega),zab ⟨by omega,h2⟩,zax,zat (by simp;omega),zak (by simp;omega)];congr 1;simp;omega
  ·rw [zat (by simp;omega),zaz,zaj];have e:o+cs.length+(j-(cur.take o++cs).length)=j:=by simp;omega
   rw [e];by_cases h3:j<k
   ·rw [zab h3,zaa (by omega),zab h3]
   ·rw [zaa h3,zaa h3]
theorem va {z:Array Value} {n:Nat} (h:∀ k,k<z.size->(z[k]!).oneCell'=true):∀ v∈(Builtin.zeroCells z n).toList,v.oneCell'=true:=λv hv=>by
 simp only [Builtin.zeroCells,Array.toList_map,Array.toList_range,zdh,List.mem_range] at hv;obtain ⟨i,hi,rfl⟩:=hv;refine h _ (zec _ ?_);rcases zek z.size with h0|h0
 ·rw [h0] at hi;omega
 ·exact h0
section parts
variable {lim:Nat->Nat} {w:World} {sz n m:Nat} {rows bw:List (List D)} {xs ys:List Value}
theorem dt.take (h:dt lim w sz n rows xs) {k:Nat} (hk:k<=n):dt lim w sz k (rows.take k) (xs.take (k*sz)):=by
 have hl:=h.len;refine ⟨by rw [zay];omega,λr hr=>h.row r (zed hr),λi c u hc hu=>?_⟩
 rw [zaj] at hu;split at hu
 ·refine h.rep i c u ?_ hu;rw [←zfm k rows,zeh,zak (zad.1 hc).1];exact hc
 ·cases hu
theorem dt.drop (h:dt lim w sz n rows xs) {k:Nat} (hk:k<=n):dt lim w sz (n-k) (rows.drop k) (xs.drop (k*sz)):=by
 have hl:=h.len;refine ⟨by rw [zbh];omega,λr hr=>h.row r (zct hr),λi c u hc hu=>?_⟩
 rw [zaz] at hu;refine h.rep (k*sz+i) c u ?_ hu;have DL:(rows.take k).flatten.length=k*sz:=by
  rw [iQ (λr hr=>h.row r (zed hr)),zay];congr 1;omega
 rw [←zfm k rows,zeh,zat (by omega),DL,show k*sz+i-k*sz=i from by omega];exact hc
theorem dt.app (h:dt lim w sz n rows xs) (hx:xs.length=n*sz) (h':dt lim w sz m bw ys):dt lim w sz (n+m) (rows++bw) (xs++ys):=by
 refine ⟨by rw [zai,h.len,h'.len],λr hr=>?_,λi c u hc hu=>?_⟩
 ·rcases zbi.1 hr with hr|hr
  ·exact h.row r hr
  ·exact h'.row r hr
 ·have DL:rows.flatten.length=xs.length:=by rw [iQ h.row,h.len,hx]
  rw [zeh] at hc;by_cases hi:i<xs.length
  ·rw [zak (by omega)] at hc;rw [zak hi] at hu;exact h.rep i c u hc hu
  ·rw [zat (by omega)] at hc;rw [zat (by omega)] at hu;rw [DL] at hc;exact h'.rep _ c u hc hu
theorem dt.UU (h:dt lim w sz n rows xs) (hx:xs.length=n*sz) (h':dt lim w sz m bw ys) (hy:ys.length=m*sz) {i j:Nat} (N0:i<=j) (hj:j<=n) :
  dt lim w sz (i+m+(n-j)) (rows.take i++bw++rows.drop j) (xs.take (i*sz)++ys++xs.drop (j*sz)):=by
 have hle:i*sz<=n*sz:=zcl _ (by omega);refine ((h.take (by omega)).app (by rw [zay];omega) h').app (by rw [zai,zay,hy,zcu];omega) (h.drop hj)
theorem dt.one (h:dt lim w sz n rows xs) (hx:xs.length=n*sz):∀ x∈xs,x.oneCell'=true:=λx hm=>by
 obtain ⟨j,hj⟩:=zcq.1 hm;have hl:=(zad.1 hj).1;exact (h.rep j _ x (zaf (by rw [iQ h.row,h.len];omega)) hj).2
end parts
section con
variable {P:Program} {f:Ctx} {g:bY} {base:Nat} {w:World} {st:St}
theorem wO {tk n':Nat} {x:gK} {rows bw:List (List D)} (h:Inv g base w st) (e9:st.au[tk]?=some x) (hx:x.own=some rows) {v':Value} {w':World} {Td:List Value} (j1:w'.ownsRow base x.e x.sz v' n' Td)
  (hc:(v'.ownBlock=(g.tk tk).ownBlock/\w'.heap.size=w.heap.size/\w.grownBy w' (g.tk tk).ownBlock)∨(v'.ownBlock=some w.heap.size/\Below w.heap.size w w')) (nG:dt g.lim w x.sz n' bw Td) :
  nt ⟨g,w,st,base⟩ (QE (.vc st.au.length n') (st.renew tk x ⟨x.e,x.sz,n',some bw⟩)) (.returned v') w':=by
 obtain ⟨g',h1,h2,h3⟩:=h.renew (x':=⟨x.e,x.sz,n',some bw⟩) e9 hx rfl j1 hc nG;refine ⟨v',_,_,g',rfl,⟨.aj _,rfl⟩,?_,h2,(rl.refl ⟨g,w,st,base⟩).step h3⟩;have hf:=(iS j1).1;refine .vc _ _ _ (by simp [St.renew,St.tok,St.bD]) (by obtain ⟨A,c,hv⟩:=hf;exact ⟨_,_,_,hv⟩) λy JZ hy ho=>?_;rw [He] at hy;cases hy;exact ⟨zam _,λ_=>.inl h1.symm⟩
theorem P6 {args:List EV} {a b c:EV} (he:args=[a,b,c]) {vs:Array Value} (h:uE g w st args vs):∃ x y z,vs=#[x,y,z]/\bM g w st a x/\bM g w st b y/\bM g w st c z:=by
 subst he;obtain ⟨h1,h2⟩:=h;obtain ⟨l⟩:=vs
 match l,h1 with
 | [x,y,z],_=>exact ⟨x,y,z,rfl,h2 0 _ _ rfl rfl,h2 1 _ _ rfl rfl,h2 2 _ _ rfl rfl⟩
theorem X1 {args:List EV} {a b c d:EV} (he:args=[a,b,c,d]) {vs:Array Value} (h:uE g w st args vs):∃ x y z u,vs=#[x,y,z,u]/\bM g w st a x/\bM g w st b y/\bM g w st c z/\bM g w st d u:=by
 subst he;obtain ⟨h1,h2⟩:=h;obtain ⟨l⟩:=vs
 match l,h1 with
 | [x,y,z,u],_=>exact ⟨x,y,z,u,rfl,h2 0 _ _ rfl rfl,h2 1 _ _ rfl rfl,h2 2 _ _ rfl rfl,h2 3 _ _ rfl rfl⟩
end con
section nilc
variable {P:Program} {f:Ctx} {N:Nat} {S:Start} {Q:EV->St->Prop} {k:List Item} {env:Env} {st:St} {ops rest:List Oper}
 {d:Option Tmp} {ty:TypeId} {pos:String} {after:Array Edge} {gd:Option (Nat×Bool)} {t t2 e:TypeId} {x y:Operand}
theorem cm.J0 {sz:Nat} {rows:List (List D)} (ht:P.underlying t=some (.slice e)) (hx:cY env x=some (.d (.sl sz rows))) (hd:fZ N d=true)
  (h:∀ b:Bool,(b=true->rows=[])->cm P f N S Q ops rest k (env.put d (.d (.ex (.bool b)))) st) :
  cm P f N S Q ops (⟨d,.binOp .eql t x (.const (.slice none 0 0)) t2,ty,pos,after,none⟩::rest) k env st:=by
 intro i hi g w tmps hinv hh he hn;have hr:=aN he hx;generalize hv:Act.eval ⟨tmps,[]⟩ x=v at hr;cases hr with
 | d _ _ hr =>
  obtain ⟨A,c,vs,rfl,_,_,Ga,_⟩:=Pp hr;have ho:ops.toArray[i]?=some (⟨d,.binOp .eql t x (.const (.slice none 0 0)) t2,ty,pos,after,none⟩:Oper):=by simpa using (hi 0).symm
  have hC:(execOp (Act.eval ⟨tmps,[]⟩) (⟨d,.binOp .eql t x (.const (.slice none 0 0)) t2,ty,pos,after,none⟩:Oper)).run P w=.ok (.value (.bool A.isNone)) w:=by
   have h1:Act.eval ⟨tmps,[]⟩ (.const (.slice none 0 0))=.slice none 0 0:=rfl;simp [execOp,hv,h1,eqGuard,Lib.run_eql_slice_nil w t e A rows.length c 0 0 ht]
  rw [zag,iw];refine eK.value ho (by simp [Region.wanted]) hC ?_;subst hn;refine h A.isNone (λhb=>?_) (i+1) (λj=>by have:=hi (j+1);simpa [zce,zcw 1 j] using this) g w _ hinv hh (qg he hd (.d _ _ (.ex _))) ia;cases A with
  | none=>exact zaw (Ga rfl).1
  | some a=>cases hb
theorem aK.MZ {f:FuncId} {args:List EV} {n sz:Nat} {e:TypeId} {rows:List (List D)} (h:aK P f args ⟨[],[]⟩ (QE (.vc 0 n) ⟨[],[⟨e,sz,n,some rows⟩]⟩)):aK P f args ⟨[],[]⟩ (QD (·=.sl sz rows)):=by
 intro g w base vs hi ha;refine (h g w base vs hi ha).mono ?_;rintro e1 w' ⟨v,r,st',g',rfl,⟨hle,rfl⟩,hr,hinv,hh⟩;have UW:=hle _ _ _ _ hr;obtain ⟨g2,k1,k2,k3,k4⟩:=hinv.freeze (tk:=0) rfl;refine ⟨v,.d (.sl sz rows),_,g2,rfl,⟨_,.aj _,rfl⟩,.d _ _ ?_,k2,hh.step k3⟩;rcases sI hinv rfl UW with hv|⟨h0,Pt,A,hv⟩
 ·rw [hv];exact k4
 ·rw [hv,Pt];exact .nil sz A
section view
variable {α:Type} [Inhabited α] {sz:Nat} {row:α->List D} {l a:List α} {inf:TypeInfo} {tk n lo m:Nat}
theorem P7 (ht:P.underlying t=some (.slice e)) (hx:cY env x=some (.vw tk n lo m)):aG P env st ⟨d,.call ⟨.builtin .len,#[x],#[t]⟩,ty,pos,after,gd⟩ (.d (cI (m:Int))):=λg base w tmps hinv he=>by
 have h:=aN he hx;generalize hv:Act.eval ⟨tmps,[]⟩ x=v at h;cases h with
 | vw _ _ _ _ _ _ hf =>
  obtain ⟨A,c,rfl⟩:=hf;exact ⟨_,.d _ _ (.ex _),λw' _=>D9 ht hv w'⟩
theorem Ig {kk:IntKind} {i:Int} {e':Nat} (ht:P.underlying t=some (.slice e)) (hi:P.info? e=some inf) (fB:inf.size=sz) (hx:cY env x=some (.vw tk n lo m)) (e9:st.au[tk]?=some ⟨e',sz,n,some (l.map row)⟩) (hy:cY env y=some (.d (.ex (.int kk i)))) (h:0<=i/\i<(m:Int)) :
  aG P env st ⟨d,.indexAddr t x y,ty,pos,after,gd⟩ (.vp tk n (lo+i.toNat) 0):=λg base w tmps hinv he=>by
 have hr:=aN he hx;generalize hv:Act.eval ⟨tmps,[]⟩ x=v at hr;cases hr with
 | vw _ _ _ _ _ cZ hf hh =>
  obtain ⟨_,h2⟩:=hh _ _ e9 rfl;rcases h2 rfl with h0|⟨b,M,c,c',q1,q2⟩
  ·omega
  ·subst fB;refine ⟨.pointer (some ⟨b,lo*inf.size+i.toNat*inf.size,none⟩),.vp _ _ _ _ _ cZ ⟨_,_,rfl⟩ λz rows hz ho=>?_,λw' _=>?_⟩
   ·rw [e9] at hz;cases hz;refine ⟨zam _,λ_=>⟨b,M,c,q1,?_⟩⟩;rw [zcu,zdb]
   ·rw [q2] at hv;have:=B5 (d:=d) (ty:=ty) (pos:=pos) (after:=after) (gd:=gd) ht hi hv (aN he hy).bJ h.1 h.2 w';rw [Addr.add_lit] at this;exact this
theorem Bf (hw:(l.drop lo).take a.length=a) {i:Nat} (hi:i<a.length):lo+i<l.length/\nth l (lo+i)=nth a i:=by
 have h1:a[i]?=l[lo+i]?:=by
  have:=zbm (λz=>z[i]?) hw;simp only [zaj,zaz,zab hi] at this;exact this.symm
 have h2:a[i]?=some a[i]:=zaf hi;rw [h2] at h1;have h3:=(zad.1 h1.symm).1;exact ⟨h3,by simp [nth,←h1,h2]⟩
theorem Om {i o e':Nat} {c:D} (hw:(l.drop lo).take a.length=a) (h1:(P.underlying t).map j4=some true) (hx:cY env x=some (.vp tk n (lo+i) o)) (e9:st.au[tk]?=some ⟨e',sz,n,some (l.map row)⟩) (hi:i<a.length) (hc:(row (nth a i))[o]?=some c) :
  aG P env st ⟨d,.load t x,ty,pos,after,gd⟩ (.d c):=xQ h1 hx e9 (Bf hw hi).1 (by rw [(Bf hw hi).2];exact hc)
theorem Ap {i o e' m:Nat} {cs:List D} (hw:(l.drop lo).take a.length=a) (h1:(P.underlying t).map j4=some false) (hs:(P.info? t).map (·.size)=some m) (hx:cY env x=some (.vp tk n (lo+i) o)) (e9:st.au[tk]?=some ⟨e',sz,n,some (l.map row)⟩) (hi:i<a.length)
  (hm:o+m<=sz) (hc:((row (nth a i)).drop o).take m=cs):aG P env st ⟨d,.load t x,ty,pos,after,gd⟩ (.d (.agg cs)):=lH h1 hs hx e9 (Bf hw hi).1 hm (by rw [(Bf hw hi).2];exact hc)
theorem LX {z:Operand} {kl kh:IntKind} {i j:Int} {e':Nat} (ht:P.underlying t=some (.slice e)) (hi:P.info? e=some inf) (fB:inf.size=sz) (hx:cY env x=some (.vc tk n)) (e9:st.au[tk]?=some ⟨e',sz,n,some (l.map row)⟩) (hy:cY env y=some (.d (.ex (.int kl i)))) (hz:cY env z=some (.d (.ex (.int kh j))))
  (h:0<=i/\i<=j/\j<=(l.length:Int)):aG P env st ⟨d,.slice t x (some y) (some z) none,ty,pos,after,gd⟩ (.vw tk n i.toNat ((l.take j.toNat).drop i.toNat).length):=λg base w tmps hinv he=>by
 have hm:((l.take j.toNat).drop i.toNat).length=j.toNat-i.toNat:=by rw [zbh,zay];omega
 rw [hm];have cZ:tk<st.au.length:=(zad.1 e9).1;have hr:=aN he hx;generalize ML:Act.eval ⟨tmps,[]⟩ x=v' at hr;have hC:∀ A n' c,v'=.slice A n' c->(l.length:Int)<=c->∀ w':World,(execOp (Act.eval ⟨tmps,[]⟩) ⟨d,.slice t x (some y) (some z) none,ty,pos,after,gd⟩).run P w'=.ok (.value (sliced A i.toNat j.toNat c sz)) w':=λA n' c hv hc w'=>by
  rw [hv] at ML;simp only [execOp,ML,Sem.run_bind,run_sliceAt_slice w' t _ _ _ _ (by rw [qR ht];exact ht),Option.map_none,Option.map_some,(aN he hy).bJ,(aN he hz).bJ];rw [run_slice_lh w' t A n' c (by rw [qR ht];exact ht) kl kh i j h.1 h.2.1 (by omega)];simp [qR ht,ov hi,fB]
 rcases sI hinv e9 hr with GY|⟨n0,r0,A,hA⟩
 ·obtain ⟨GY,xs,h2,_,h4⟩:=HZ hinv e9 GY;have hn:n=l.length:=by have:=h4.len;simpa using this.symm
  rcases h2.2 with ⟨hv,h0⟩|⟨b,c,cur,hv,AT,hg,EA,zb,yC,Dd⟩
  ·refine ⟨_,.vw _ _ _ _ _ cZ ⟨_,_,rfl⟩ λq rows hq ho=>?_,λw' _=>hC _ _ _ hv (by omega) w'⟩;rw [e9] at hq;cases hq;exact ⟨zam _,λ_=>.inl (by omega)⟩
  ·refine ⟨_,.vw _ _ _ _ _ cZ ⟨_,_,rfl⟩ λq rows hq ho=>?_,λw' _=>hC _ _ _ hv (by omega) w'⟩;rw [e9] at hq;cases hq;refine ⟨zam _,λ_=>?_⟩;rcases zek (j.toNat-i.toNat) with h0|h0
   ·exact .inl h0
   ·refine .inr ⟨b,n,c,c-i.toNat,by rw [←GY,hv],?_⟩;have qQ:¬ (c=i.toNat):=by omega
    simp [qQ,Addr.add_lit]
 ·have hl:l=[]:=by simpa using r0
  rw [hl] at h;simp at h;refine ⟨_,.vw _ _ _ _ _ cZ ⟨_,_,rfl⟩ λq rows hq ho=>?_,λw' _=>hC _ _ _ hA (by rw [hl];simp) w'⟩;rw [e9] at hq;cases hq;exact ⟨zam _,λ_=>.inl (by omega)⟩
theorem M0 {i j:Nat} (hj:j<=l.length):(l.drop i).take ((l.take j).drop i).length=(l.take j).drop i:=by
 rw [List.drop_take,zay,zbh];rcases zfq i j with h|h
 ·rw [show min (j-i) (l.length-i)=j-i from by omega]
 ·rw [show j-i=0 from by omega];simp
end view
end nilc
section build
variable {P:Program} {env:Env} {st:St} {d:Option Tmp} {ty:TypeId} {pos:String} {after:Array Edge} {gd:Option (Nat×Bool)} {t t2 e:TypeId} {x y:Operand}
theorem zK {α:Type} {base n sz:Nat} {l0:List α} {row:α->List D} {inf:TypeInfo} {z:Value} {zs:List D} {l:List (Nat×Operand)} (ht:P.underlying t=some (.slice e)) (hi:P.info? e=some inf) (fB:inf.size=sz) (hz:inf.zero=some z) (p9:Nat.beq z.cells.size sz=true)
  (xJ:(Nat.ble (n*sz) 16777216 && Nat.blt 0 n && Nat.blt 0 sz)=true) (MM:cellsD (.d (cv z))=some zs) (hl:DM (λi=>some (i*sz,sz)) env (List.replicate n zs).flatten l=some (l0.map row).flatten)
  (hr:((l0.map row).all (λr=>Nat.beq r.length sz) && Nat.beq (l0.map row).length n)=true) :
  xG P base env st ⟨d,.buildSlice t n l.toArray,ty,pos,after,gd⟩ (.vc st.au.length l0.length) (st.tok ⟨e,sz,l0.length,some (l0.map row)⟩):=by
 simp only [zar] at xJ hr;have Ge:=zas p9;have hn:=zas hr.2;have Lh:=iR xJ.1.2;have Li:=iR xJ.2;have ZD:=zae xJ.1.1;intro g w tmps hinv he;have Ac:=kW (g:=g) (w:=w) (st:=st) MM (.d _ _ (qf _ _ z));have O4:zs.length=sz:=by rw [←Ac.1,Ge]
 have Df:(List.replicate n zs).flatten.length=n*sz:=by simp [O4]
 have jv:∀ r∈l0.map row,r.length=sz:=by
  intro r hm;have:=hr.1;rw [zbb] at this;exact zas (this r hm)
 have r8:ED g.lim w (List.replicate n zs).flatten ((Array.range (n*sz)).map (z.cells[· % z.cells.size]!)):=by
  refine ⟨by simp [Df],λi c u hc hu=>?_⟩;have nQ:i<n*sz:=by rw [←Df];exact (zad.1 hc).1
  have xK:i % sz<sz:=zec _ Li;have hdiv:i / sz<n:=zdk (by rw [zdc];exact nQ);have Lw:i=i / sz*sz+i % sz:=by rw [zdc];exact (zel i sz).symm
  have hf:=kg (rows:=List.replicate n zs) (sz:=sz) (i:=i / sz) (j:=i % sz) (row:=zs) (c:=zs[i % sz]'(by omega)) (by intro row hm;rw [List.eq_of_mem_replicate hm];exact O4) (by simp [List.getElem?_replicate,hdiv]) (zaf (by omega));rw [←Lw,hc] at hf;have Ug:zs[i % sz]?=some c:=by cases hf;exact zaf (by omega)
  have Xx:z.cells[i % sz]?=some u:=by
   have kQ:i % sz<z.cells.size:=by omega
   have:((Array.range (n*sz)).map (z.cells[· % z.cells.size]!))[i]?=some (z.cells[i % z.cells.size]!):=by simp [nQ]
   rw [this] at hu;cases hu;rw [Ge,zdq z.cells (i % sz) kQ,zbe kQ]
  exact Ac.2 _ c u Ug Xx
 obtain ⟨us,h1,h2,h3⟩:=tE he l _ _ _ hl r8;have DL:=iQ jv;have O3:us.size=n*sz:=by rw [h2.1,DL,hn]
 have ZL:n<=maxLen:=by
  have:n*1<=n*sz:=Nat.mul_le_mul_left n Li;simp only [maxLen];omega
 have j5:(w.alloc (.cells us e)).ownsRow base e sz (.slice (some ⟨w.heap.size,0,none⟩) n n) n us.toList :=
  ⟨by simp [O3],.inr ⟨w.heap.size,n,us,rfl,hinv.base,heap_alloc_new w _,zam _,ZL,O3,by rw [zcc (by simp [O3])]⟩⟩
 obtain ⟨g',k1,_,_,k2,k3⟩:=hinv.sV ⟨e,sz,n,some (l0.map row)⟩ j5 (.inr ⟨rfl,(Below.refl _ w).alloc (zam _) _⟩) (λrows hh=>by
  cases hh;exact ⟨hn,jv,λi c u hc hu=>h2.2 i c u hc (by simpa using hu)⟩)
 have UX:l0.length=n:=by simpa using hn
 rw [UX];refine ⟨.slice (some ⟨w.heap.size,0,none⟩) n n,g',_,?_,.vc _ _ _ (by simp [St.tok]) ⟨_,_,_,rfl⟩ λy rows hy ho=>?_,k2,k3⟩
 ·subst fB;have GZ:¬ (16777216<n*inf.size):=by omega
  have o4:¬ n*inf.size=0:=by
   intro h0;rcases Nat.mul_eq_zero.1 h0 with h|h <;> omega
  have O2:Instr.fill (λi=>some (i*inf.size,inf.size)) (Array.map (λx=>z.cells[x % z.cells.size]!) (Array.range (n*inf.size))) (List.map (λp=>(p.1,Act.eval ⟨tmps,[]⟩ p.2)) l)=some us:=h1;simp [execOp,Instr.buildSlice,run_underlying ht,ov hi,GZ,o4,tF hi hz,O2,newRow]
 ·have:y=⟨e,sz,n,some (l0.map row)⟩:=by simpa [St.tok,zeo] using hy
  subst this;exact ⟨zam _,λ_=>.inl k1.symm⟩
end build
section move
variable {P:Program} {f:Ctx} {N:Nat} {S:Start} {Q:EV->St->Prop} {k todo:List Item} {env:Env} {st:St}
theorem bp.move {i tk e sz n:Nat} {rows:List (List D)} (hl:lookup i env=some (.vc tk n)) (e9:st.au[tk]?=some ⟨e,sz,n,some rows⟩)
  (h:bp P f N S Q todo ((i,.vc st.au.length n)::env) (st.renew tk ⟨e,sz,n,some rows⟩ ⟨e,sz,n,some rows⟩)):bp P f N S Q todo env st:=by
 intro g w tmps hinv hh he hN;obtain ⟨xs,o1,o2,o3⟩:=hinv.own tk e sz n rows e9;obtain ⟨g',k1,k2,k3⟩:=hinv.renew (x':=⟨e,sz,n,some rows⟩) e9 rfl rfl o1 (.inl ⟨rfl,rfl,⟨rfl,rfl,rfl,zam _,λ_ _ _=>rfl⟩⟩) o3;refine h g' w tmps k2 (hh.step k3) (λj y hy=>?_) hN;unfold lookup at hy;have AR:=he.mono k3.dO;cases hb:Nat.beq j i with
 | true =>
  rw [hb] at hy;cases hy;have:=zas hb;subst this;obtain ⟨v,m1,m2⟩:=he j _ hl;refine ⟨v,m1,?_⟩;have hf:∃ A m c,v=.slice A m c:=by cases m2 with|vc _ _ _ _ hf _=>exact hf
  refine .vc _ _ _ (by simp [St.renew,St.tok,St.bD]) hf λy JZ hy ho=>?_
  rw [He] at hy;cases hy;refine ⟨zam _,λ_=>?_⟩;rcases sI hinv e9 m2 with hv|⟨n0,r0,A,hv⟩
  ·exact .inl (by rw [k1];exact hv)
  ·exact .inr ⟨n0,A,hv⟩
 | false =>
  rw [hb] at hy;exact AR j y hy
def LY (ρ τ:Nat->Nat) (env:Env):Env:=env.map λp=>(p.1,p.2.ren ρ τ)
theorem E1 {ρ τ:Nat->Nat}:∀ (env:Env) (i:Nat) (y:EV),lookup i env=some y->lookup i (LY ρ τ env)=some (y.ren ρ τ)
 | [],i,y,h=>by simp [lookup] at h
 | (j,x)::env,i,y,h=>by
  unfold lookup at h;unfold LY;rw [zap];unfold lookup;cases hb:Nat.beq i j with
  | true=>rw [hb] at h;cases h;rfl
  | false =>
   rw [hb] at h;exact E1 env i y h
theorem bp.M1 (rs ts:List Nat) {s0 st':St} {env':Env} (hS:S.st=s0) (hp:zI rs ts st' st=true) (h5:st'.aO.all (ki st'.aO.length st'.au.length)=true) (ze:Dh st'.aO.length st'.au.length env'=true)
  (hl:(Nat.ble s0.aO.length rs.length && Nat.ble s0.au.length ts.length)=true) (Pt:rs.take s0.aO.length=List.range s0.aO.length) (RQ:ts.take s0.au.length=List.range s0.au.length)
  (ho:rs.map (λr=>st.aO[r]?)=st'.aO.map (λy=>some (y.ren (dm rs st.aO.length) (dm ts st.au.length)))) (ht:ts.map (λr=>st.au[r]?)=st'.au.map some)
  (hE:dp env (LY (dm rs st.aO.length) (dm ts st.au.length) env')) (h:bp P f N S Q todo env' st'):bp P f N S Q todo env st:=by
 obtain ⟨p,WU,Lj,l1,l2⟩:=Part.of hp h5 ho ht;subst hS;simp only [zar] at hl;have zf:=zae hl.1;have Ba:=zae hl.2;have same:∀ {l:List Nat} {n N:Nat},l.take n=List.range n->n<=l.length->∀ i,i<n->dm l N i=i:=fun {l n N} hl hn i hi=>by
  have e:(l.take n)[i]?=some i:=by rw [hl,List.getElem?_range hi]
  rw [zaj,zab hi] at e;simp [dm,e]
 have so:=λi hi=>same (N:=st.aO.length) Pt zf i hi
 have MR:=λi hi=>same (N:=st.au.length) RQ Ba i hi
 have Di:∀ {i:Nat},i<st'.au.length->st'.au[i]?=st.au[dm ts st.au.length i]?:=fun {i} hi=>by
  rw [p.au i _ (zaf hi),zaf hi]
 intro g w tmps hinv hh he hN;refine h (g.sub _ _) w tmps (hinv.part p) ⟨⟨hh.dO.cY,λo ox=>?_,(by show S.st.aO.length<=_;omega),λt e sz n hx=>?_,(by show S.st.au.length<=_;omega),λt x' bw cZ jL ox=>?_⟩,hh.below,hh.lim,hh.frame,λb hb hw=>hh.fresh b hb (p.owned hw)⟩ (λi y hy=>?_) hN
 ·show g.ob (dm rs st.aO.length o)=S.g.ob o;rw [so o ox];exact hh.dO.ob o ox
 ·have cZ:t<S.st.au.length:=(zad.1 hx).1;obtain ⟨n',a1,a2,a3⟩:=hh.dO.au t e sz n hx;refine ⟨n',?_,a2,λe'=>?_⟩
  ·rw [Di (by omega),MR t cZ];exact a1
  ·show g.tk (dm ts st.au.length t)=S.g.tk t;rw [MR t cZ];exact a3 e'
 ·rw [Di (by have:=(zad.1 jL).1;exact this),MR t cZ] at jL;obtain ⟨y,rows,a1,a2,a3,a4,a5⟩:=hh.dO.own t x' bw cZ jL ox;refine ⟨y,rows,a1,a2,a3,a4,λe'=>?_⟩;show g.tk (dm ts st.au.length t)=S.g.tk t;rw [MR t cZ];exact a5 e'
 ·obtain ⟨v,m1,m2⟩:=(he.sub hE) i _ (E1 env' i y hy);exact ⟨v,m1,m2.down p.au (Cd ze hy)⟩
theorem Tl.eP {f':FuncId} {base:Nat} {l:List Operand} {ts:Array TypeId} {PN es:List EV} {x r:EV} {s0 s1 st':St} {d:Option Tmp} {ty:TypeId} {pos:String} {after:Array Edge} (F2:Enters P f') (rs tk:List Nat)
  (h1:B6 env l=some es) (hc:aK P f' PN s0 (QE r s1)) (hle:wI es (PN.map (EV.ren (dm rs st.aO.length) (dm tk st.au.length))))
  (hp:(zI rs tk s0 st && PN.all (pb s0.aO.length s0.au.length))=true) (h5:s0.aO.all (ki s0.aO.length s0.au.length)=true)
  (ho:rs.map (λr=>st.aO[r]?)=s0.aO.map (λx=>some (x.ren (dm rs st.aO.length) (dm tk st.au.length)))) (ht:tk.map (λr=>st.au[r]?)=s0.au.map some)
  (hx:r.ren (dm rs st.aO.length) (dm tk st.au.length)=x) (hs:cn st s1 rs tk=st') :
  Tl P base env st ⟨d,.call ⟨.value (.func f'),l.toArray,ts⟩,ty,pos,after,none⟩ x st':=by
 simp only [zar] at hp;have sH:=(hc.frame rs tk hp.1 h5 hp.2 ho ht).le hle;intro g w tmps hinv he;obtain ⟨k1,k2⟩:=vG he l es h1;refine ⟨f',_,B7 F2 w rfl,(sH g w base _ hinv ⟨by simp [k1],λj x v hx hv=>k2 j x v hx (by simpa using hv)⟩).mono ?_⟩;rintro e w' ⟨v,r',st2,g',rfl,⟨UY,rfl⟩,hr,ek,Ls⟩;rw [hx] at UY;rw [hs] at ek hr Ls;exact ⟨v,g',rfl,UY _ _ _ _ hr,ek,Ls.toStep⟩
end move
section ld
variable {P:Program} {env:Env} {st:St} {d:Option Tmp} {ty:TypeId} {pos:String} {after:Array Edge} {gd:Option (Nat×Bool)} {t:TypeId} {x:Operand}
theorem P8 {o off n:Nat} {T:TypeId} {cs ds:List EV} (h1:(P.underlying t).map j4=some false) (hs:(P.info? t).map (·.size)=some n) (hx:cY env x=some (.ref o off)) (ho:st.aO[o]?=some (.row T cs))
  (hn:off+n<=cs.length) (Zd:(cs.drop off).take n=ds):aG P env st ⟨d,.load t x,ty,pos,after,gd⟩ (.agg ds):=λg base w tmps hinv he=>by
 subst Zd;have h:=aN he hx;generalize hv:Act.eval ⟨tmps,[]⟩ x=v at h;cases h with
 | ref _ _ cZ =>
  obtain ⟨_,_,vs,hb,fB,zE⟩:=hinv.row o T cs ho;obtain ⟨hl,DJ⟩:=Jr (g:=g) (w:=w) (n:=n) (off:=off) hb fB hn;refine ⟨.agg ((vs.toList.drop off).take n).toArray,.agg _ _ ?_ ?_ ?_,λw' kc=>?_⟩
  ·simp at hl ⊢;omega
  ·intro i u hu;have vD:=DJ i u (by simpa using hu);have kQ:off+i<cs.length:=by rw [←fB];exact (zau.1 vD.2).1
   exact (zE (off+i) cs[off+i] u (zaf kQ) vD.2).2
  ·intro i c u qQ hu;have vD:=DJ i u (by simpa using hu);rw [zaj] at qQ;split at qQ
   ·rw [zaz] at qQ;exact (zE (off+i) _ u qQ vD.2).1
   ·cases qQ
  ·obtain ⟨inf,kV,HG⟩:∃ inf,P.info? t=some inf/\inf.size=n:=by
    cases hh:P.info? t with
    | none=>rw [hh] at hs;cases hs
    | some inf=>rw [hh] at hs;exact ⟨inf,rfl,by simpa using hs⟩
   have Ez:=qP (P:=P) (w:=w') (b:=g.ob o) (off:=off) hl (λj u hu=>by
    have h3:=(DJ j u hu).1;exact (kc.cell (World.block_lt_of_cell? w _ h3)).trans h3)
   simp [execOp,hv,Instr.loadAt,Instr.sureAddr,loadVar,yB h1,sizeOf,typeInfo,kV,HG,Ez]
end ld
theorem zL {P:Program} {ops:Array Oper} {o:Oper} {a:Act} {w:World} {K:Act->World->Prop} {Q:Exit->Act->World->Prop} {E:Prop}
  (hg:o.guard=none) (d x:Operand) (t:TypeId) (vJ:o.op=Op.call { callee:=Callee.builtin Builtin.append,args:=#[d,x],argTypes:=#[t,t] })
  (v u:Value) (hd:a.eval d=v) (hx:a.eval x=u) {v':Value} {w':World} (hr:(Builtin.append_ #[t,t] o.type #[v,u]).run P w=.ok v' w') (hK:K (a.put o.dst v') w') :
  if Region.wanted o (yielded ops a.tmps)=true then Oper.wp P o a w K Q else E:=by
 rw [zab (by simp [Region.wanted,hg])];unfold Oper.wp execOp;simp only [vJ,resolve,invoke,builtin,Sem.run_bind,Sem.run_pure,Result.andThen_ok,zef,zap,zbd,hd,hx,hr];exact hK
def J1:List EV->List EV->Prop
 | [],[]=>True
 | x::xs,y::ys=>eG x y/\J1 xs ys
 | _,_=>False
theorem J1.get:∀ {xs ys:List EV},J1 xs ys->xs.length=ys.length/\∀ (i:Nat) y,ys[i]?=some y->∃ x,xs[i]?=some x/\eG x y
 | [],[],_=>⟨rfl,λi y h=>by simp at h⟩
 | x::xs,y::ys,h=>by
  obtain ⟨h1,h2⟩:=J1.get h.2;refine ⟨by simp [h1],λi z hz=>?_⟩;cases i with
  | zero=>simp at hz;subst hz;exact ⟨x,rfl,h.1⟩
  | succ i=>simpa using h2 i z (by simpa using hz)
 | [],_::_,h=>h.elim
 | _::_,[],h=>h.elim
theorem eG.aab {xs ys:List EV} (h:J1 xs ys):eG (.agg xs) (.agg ys):=by
 intro g w st v hv;obtain ⟨h1,h2⟩:=h.get;cases hv with
 | agg _ vs hs DN hc =>
  refine .agg _ vs (by rw [hs,h1]) DN λi y u hy hu=>?_
  obtain ⟨x,hx,hle⟩:=h2 i y hy;exact hle _ _ _ _ (hc i x u hx hu)
section gm
variable {κ α:Type} [BEq κ] [LawfulBEq κ]
def oK (sz:Nat) (row:α->List D):Nat->List (κ×List α)->List (κ×EV)
 | _,[]=>[]
 | t,p::l=>(p.1,.cE sz (p.2.map row) t)::oK sz row (t+1) l
def kY (e:TypeId) (sz:Nat) (l:List (κ×List α)):List gK:=l.map λp=>⟨e,sz,p.2.length,none⟩
def X2 (sz:Nat) (row:α->List D) (t:Nat) (l:List (κ×List α)) (k:κ):EV :=
 match er l k with
 | some j=>.cE sz (((aC l k).getD []).map row) (t+j)
 | none=>.d aX
theorem J2 (sz:Nat) (row:α->List D):∀ (t:Nat) (l:List (κ×List α)),(oK sz row t l).length=l.length
 | _,[]=>rfl
 | t,p::l=>by simp [oK,J2 sz row (t+1) l]
theorem Bg (sz:Nat) (row:α->List D):∀ (t:Nat) (l:List (κ×List α)) (i:Nat),(oK sz row t l)[i]?=(l[i]?).map λp=>(p.1,.cE sz (p.2.map row) (t+i))
 | _,[],i=>by simp [oK]
 | t,p::l,0=>by simp [oK]
 | t,p::l,i+1=>by
  have:=Bg sz row (t+1) l i;simp only [oK,List.getElem?_cons_succ,this];rw [show t+1+i=t+(i+1) from by omega]
theorem Aq (sz:Nat) (row:α->List D) (k:κ):∀ (t:Nat) (l:List (κ×List α)),er (oK sz row t l) k=er l k
 | _,[]=>rfl
 | t,p::l=>by
  have:=Aq sz row k (t+1) l;unfold er at this ⊢;rw [oK,List.findIdx?_cons,List.findIdx?_cons,this]
theorem LZ (sz:Nat) (row:α->List D) (t:Nat) (l:List (κ×List α)) (k:κ):aC (oK sz row t l) k=match er l k with
  | some j=>some (.cE sz (((aC l k).getD []).map row) (t+j))
  | none=>none:=by
 rw [l7,Aq,l7 l k];cases h:er l k with
 | none=>rfl
 | some j =>
  have hj:=xN h;simp only [zac,Bg,zaf hj,Option.map_some,zco]
theorem Hg (sz:Nat) (row:α->List D) (q:κ×List α):∀ (t:Nat) (l:List (κ×List α)),oK sz row t (l++[q])=oK sz row t l++[(q.1,.cE sz (q.2.map row) (t+l.length))]
 | t,[]=>by simp [oK]
 | t,p::l=>by
  simp only [List.cons_append,oK,Hg sz row q (t+1) l,zag];rw [show t+1+l.length=t+(l.length+1) from by omega]
theorem J3 (sz:Nat) (row:α->List D) (q:κ×List α):∀ (t:Nat) (l:List (κ×List α)) (j:Nat),oK sz row t (l.set j q)=(oK sz row t l).set j (q.1,.cE sz (q.2.map row) (t+j))
 | t,[],j=>by simp [oK]
 | t,p::l,0=>by simp [oK]
 | t,p::l,j+1=>by
  simp only [List.set_cons_succ,oK,J3 sz row q (t+1) l j];rw [show t+1+j=t+(j+1) from by omega]
theorem On (sz:Nat) (row:α->List D) (t:Nat) (l:List (κ×List α)) (k:κ) (v:List α):dj (oK sz row t l) k (.cE sz (v.map row) (t+(er l k).getD l.length))=oK sz row t (dj l k v):=by
 unfold dj;rw [Aq];cases h:er l k with
 | none=>simp only [Option.getD_none,Hg]
 | some j=>simp only [zco,J3]
theorem J4 (e:TypeId) (sz:Nat) (l:List (κ×List α)) (k:κ) (v:List α):kY e sz (dj l k v)=match er l k with
  | some j=>(kY e sz l).set j ⟨e,sz,v.length,none⟩
  | none=>kY e sz l++[⟨e,sz,v.length,none⟩]:=by
 unfold dj;cases h:er l k with
 | none=>simp [kY]
 | some j=>simp [kY,List.map_set]
theorem E2 (e:TypeId) (sz:Nat) (l:List (κ×List α)):(kY e sz l).length=l.length:=by simp [kY]
end gm
section rules
variable {P:Program} {base:Nat} {env:Env} {st:St} {d:Option Tmp} {ty:TypeId} {pos:String} {after:Array Edge} {gd:Option (Nat×Bool)} {t e key:TypeId} {x y z:Operand}
 {κ α:Type} [BEq κ] [LawfulBEq κ] {sz t0:Nat} {row:α->List D}
theorem Oo (K:vM P key κ) {o:Nat} {l:List (κ×List α)} {k:κ} {dk:D} {inf:TypeInfo} {zv:Value} (ht:P.underlying t=some (.map key e)) (hi:P.info? e=some inf) (hz:inf.zero=some zv) (WV:cv zv=aX)
  (hx:cY env x=some (.mp o)) (ho:st.aO[o]?=some (.map (lA K.ke (oK sz row t0 l)))) (hy:cY env y=some (.d dk)) (hk:∀ lim w v,dK lim w dk v->v=K.ke k) :
  aG P env st ⟨d,.lookup t x y false,ty,pos,after,gd⟩ (X2 sz row t0 l k):=by
 intro g base w tmps hinv he;obtain ⟨v,h1,h2⟩:=xS (c:=false) (d:=d) (ty:=ty) (pos:=pos) (after:=after) (gd:=gd) K ht hi hz hx ho hy hk hinv he;refine ⟨v,?_,λw' hb=>by simpa using h2 w' hb⟩;rw [LZ] at h1;unfold X2;cases h:er l k with
 | none =>
  rw [h] at h1;simp only at h1 ⊢;subst h1;exact .d _ _ (WV▸qf g.lim w v)
 | some j=>rw [h] at h1;exact h1
theorem Oq {l:List (κ×List α)} {k:κ} {l':List α} {T:List gK} {inf:TypeInfo} {zv:Value} {w:EV} (ht:P.underlying t=some (.slice e)) (hi:P.info? e=some inf) (hz:inf.zero=some zv) (eO:inf.size=sz) (p9:zv.cells.size=sz) (hb:inf.bytes<=100000)
  (hx:cY env x=some (X2 sz row t0 l k)) (hT:st.au=T++kY e sz l) (h0:T.length=t0) (hy:cY env y=some w) (hs:uy w=some (sz,l'.map row)) (hn:((aC l k).getD []).length+l'.length<=1000000000) :
  xG P base env st ⟨d,.call ⟨.builtin .append,#[x,y],#[t,t]⟩,ty,pos,after,gd⟩ (.cE sz ((((aC l k).getD [])++l').map row) (t0+(er l k).getD l.length)) ⟨st.aO,T++kY e sz (dj l k (((aC l k).getD [])++l'))⟩:=by
 rw [J4];unfold X2 at hx;cases h:er l k with
 | none =>
  rw [h] at hx;have hl:aC l k=none:=by rw [l7,h];rfl
  rw [hl] at hn ⊢;simp only [Option.getD_none,zbz] at hn ⊢;have:=wG (base:=base) (st:=st) (d:=d) (ty:=ty) (pos:=pos) (after:=after) (gd:=gd) (row:=row) ht hi hz eO p9 hb hx hy hs (by simpa using hn);have e1:st.au.length=t0+l.length:=by rw [hT,zai,E2,h0]
  have e2:(st.tok ⟨e,sz,0,none⟩).bD st.au.length ⟨e,sz,l'.length,none⟩=⟨st.aO,T++(kY e sz l++[⟨e,sz,l'.length,none⟩])⟩:=by
   rw [←zax,←hT];simp [St.tok,St.bD]
  rw [e2,e1] at this;exact this
 | some j =>
  rw [h] at hx;have hj:=xN h;have hl:aC l k=some l[j].2:=by rw [l7,h];simp [zaf hj]
  rw [hl] at hx hn ⊢;simp only [zco] at hx hn ⊢;have:=yF (base:=base) (st:=st) (d:=d) (ty:=ty) (pos:=pos) (after:=after) (gd:=gd) (row:=row) (l:=l[j].2) ht hi hz eO p9 hb hx (by
   rw [hT,zat (by omega),h0,zfa];simp [kY,zaf hj]) hy hs hn
  have e2:st.bD (t0+j) ⟨e,sz,(l[j].2++l').length,none⟩=⟨st.aO,T++(kY e sz l).set j ⟨e,sz,(l[j].2++l').length,none⟩⟩:=by
   unfold St.bD;rw [hT,List.set_append_right _ _ (by omega),h0,zfa]
  rw [e2] at this;exact this
theorem Ih (K:vM P key κ) {o:Nat} {l:List (κ×List α)} {k:κ} {dk:D} {v:List α} (ht:P.underlying t=some (.map key e)) (hx:cY env x=some (.mp o)) (ho:st.aO[o]?=some (.map (lA K.ke (oK sz row t0 l))))
  (hy:cY env y=some (.d dk)) (hk:∀ lim w v,dK lim w dk v->v=K.ke k) (hz:cY env z=some (.cE sz (v.map row) (t0+(er l k).getD l.length))) :
  HE P base env st ⟨d,.mapUpdate t x y z,ty,pos,after,gd⟩ (st.set o (.map (lA K.ke (oK sz row t0 (dj l k v))))):=by
 have:=H4 (base:=base) (d:=d) (ty:=ty) (pos:=pos) (after:=after) (gd:=gd) K ht hx ho hy hk hz;rw [On] at this;exact this
theorem okG {n:Nat} {T:List gK} {ke:κ->Value} {l:List (κ×List α)} (h0:T.length=t0):ki n (T++kY e sz l).length (.map (lA ke (oK sz row t0 l)))=true:=by
 unfold ki lA;rw [zbb];intro p hp;obtain ⟨q,hq,rfl⟩:=zdh.1 hp;obtain ⟨i,hi⟩:=zcq.1 hq;rw [Bg] at hi;cases hl:l[i]? with
 | none=>rw [hl] at hi;cases hi
 | some r =>
  rw [hl] at hi;cases hi;have:=(zad.1 hl).1;simp only [pb,Nat.blt_eq,zai,E2,h0];omega
end rules
section run
variable {P:Program} {f:Ctx} {N:Nat} {S:Start} {Q:EV->St->Prop} {todo:List Item} {env env':Env} {st st':St} {κ α:Type} [BEq κ] [LawfulBEq κ]
theorem R6 {w:World} {b:Nat} {o:Obj} (h:w.heap[b]?=some o):({ w with heap:=w.heap.setIfInBounds b o }:World)=w:=by
 have:w.heap.setIfInBounds b o=w.heap:=by
  apply Array.ext_getElem?;intro i;rw [zbv];split
  ·rename_i hbi;subst hbi;split
   ·exact h.symm
   ·rename_i hb;rw [Array.getElem?_eq_none (by omega)]
  ·rfl
 rw [this]
theorem Inv.X3 {g:bY} {base o:Nat} {w:World} {es es':List (Value×EV)} (h:Inv g base w st) (ho:st.aO[o]?=some (.map es)) (hl:es.length=es'.length)
  (hle:∀ (i:Nat) p q,es[i]?=some p->es'[i]?=some q->p.1=q.1/\eG p.2 q.2):Inv g base w (st.set o (.map es'))/\Step base g w st g w (st.set o (.map es')):=by
 obtain ⟨b1,ms,clock,b2,b3,b4,b5,b6⟩:=h.map o es ho;have:=h.LM (es':=es') ho (ms':=ms) (clock':=clock) (by omega) (λi k x m rv PT=>by
  have hi:i<es.length:=by rw [hl];exact (zad.1 rv).1
  have h1:=zaf hi;obtain ⟨a1,a2⟩:=hle i _ _ h1 rv;obtain ⟨c1,c2⟩:=b4 i es[i].1 es[i].2 m h1 PT;exact ⟨c1.trans a1,a2 _ _ _ _ c2⟩) b5 b6
 rw [R6 b2] at this;exact this
theorem bp.R7 {e sz t0:Nat} {row:α->List D} (o:Nat) {T:List gK} {l:List (κ×List α)} {ke:κ->Value} (ho:st.aO[o]?=some (.map (lA ke (oK sz row t0 l)))) (hT:st.au=T++kY e sz l) (h0:T.length=t0)
  (hE:LV env env'=some env') (hs:st'=⟨st.aO.set o (.map (jO ke (λx=>ag sz row x) l)),T⟩) (ze:(Dh st'.aO.length st'.au.length env' && st'.aO.all (ki st'.aO.length st'.au.length))=true)
  (WT:S.st.aO.length<=st.aO.length) (ZI:S.st.au.length<=T.length) (h:bp P f N S Q todo env' st'):bp P f N S Q todo env st:=by
 subst hs;intro g w tmps hinv hh he hN;obtain ⟨h1,h2⟩:=hinv.X3 (es':=jO ke (λx=>ag sz row x) l) ho (by simp [lA,jO,J2]) (λi p q hp hq=>by
  simp only [lA,jO,zba,Bg] at hp hq;cases hl:l[i]? with
  | none=>rw [hl] at hp;cases hp
  | some r=>rw [hl] at hp hq;cases hp;cases hq;exact ⟨rfl,.cE _ _ _⟩)
 have hlen:(st.set o (.map (jO ke (λx=>ag sz row x) l))).aO.length=st.aO.length:=by simp [St.set]
 refine bp.to (st:=st.set o (.map (jO ke (λx=>ag sz row x) l))) (st':=⟨st.aO.set o (.map (jO ke (λx=>ag sz row x) l)),T⟩) st.aO.length T.length (xU hE) ?_ ?_ ?_ ?_ ?_ WT ZI h g w tmps h1 (hh.step h2) (he.mono h2.dO) hN
 ·show (st.aO.set o _).take st.aO.length=st.aO.set o _;rw [zcc (by simp)]
 ·show st.au.take T.length=T;rw [hT];simp
 ·rw [hlen];exact Nat.ble_self_eq_true _
 ·show Nat.ble T.length st.au.length=true;rw [hT];exact Nat.ble_eq_true_of_le (by simp)
 ·simpa [zfr] using ze
theorem bp.tG {s0:St} (n:Nat) (h:bp P f N S Q todo env' st') (hE:LV env env'=some env') (ho:st.aO.take n=st'.aO) (ht:st.au=st'.au) (hn:Nat.ble n st.aO.length=true)
  (ze:(Dh n st'.au.length env' && st'.aO.all (ki n st'.au.length))=true) (hS:S.st=s0) (hb:Nat.ble s0.aO.length n=true) (Lg:Nat.ble s0.au.length st'.au.length=true):bp P f N S Q todo env st :=
 .to n st'.au.length (xU hE) ho (by rw [ht];simp) hn (by rw [ht];exact Nat.ble_self_eq_true _) ze (by rw [hS];exact zae hb) (by rw [hS];exact zae Lg) h
end run
def nH (a b:List UInt8):Bool:=Op.bytesLess a b
section strings
variable {P:Program} {env:Env} {st:St} {d:Option Tmp} {ty:TypeId} {pos:String} {after:Array Edge} {gd:Option (Nat×Bool)} {t t2:TypeId} {x y:Operand} {a b:List UInt8} (hx:cY env x=some (.d (cS a))) (hy:cY env y=some (.d (cS b)))
include hx hy
theorem P9:aG P env st ⟨d,.binOp .lss t x y t2,ty,pos,after,gd⟩ (.d (cB (nH a b))):=qh λg w tmps w' he=>by
 simp [execOp,(aN he hx).bJ,(aN he hy).bJ,eqGuard,binOp,Op.stringOp,nH]
end strings
def R8 (P:Program) (base:Nat) (T:FT) (N n:Nat) (cf:Cf) (env:Env) (st:St) (hs:List Hint):Option Out:=ma env λenv=>match st with
 | ⟨os,ts⟩=>ma os λos=>go P base T N n cf env ⟨os,ts⟩ hs []
theorem UZ {P:Program} {base N n:Nat} {T:FT} {cf:Cf} {env:Env} {st:St} {hs:List Hint}:R8 P base T N n cf env st hs=go P base T N n cf env st hs []:=by
 unfold R8;simp only [qm]
theorem Co {P:Program} {f:Ctx} {N:Nat} {S:Start} {Q:EV->St->Prop} {T:FT} (hT:T.Ok P) (hm:P.follows .mixedOrders=true) {n:Nat} {cf:Cf} {env:Env} {st:St} {hs:List Hint} {out:Out} (h:R8 P S.base T N n cf env st hs=some out) (hp:sb out.ps) :
  Og P f N S Q out.cf out.env out.st->Og P f N S Q cf env st:=(go_sound hT hm n cf env st hs [] out (UZ▸h) hp).2
theorem sX.aac (sz:Nat):sX (.ex (.slice none 0 0)) (.e0 sz):=λ_ _ _ h=>by cases h;exact .e0 sz none (.inl rfl)
section tok
variable {P:Program} {f:Ctx} {N:Nat} {S:Start} {Q:EV->St->Prop} {todo:List Item} {env:Env} {st:St}
theorem Inv.E3 {g:bY} {base o ci sz:Nat} {w:World} {T:TypeId} {cs:List EV} (h:Inv g base w st) (ho:st.aO[o]?=some (.row T cs)) (hc:cs[ci]?=some (.d (.e0 sz))) (e:Nat) :
  ∃ g',Inv g' base w ((st.tok ⟨e,sz,0,none⟩).set o (.row T (cs.set ci (.cE sz [] st.au.length))))/\Step base g w st g' w ((st.tok ⟨e,sz,0,none⟩).set o (.row T (cs.set ci (.cE sz [] st.au.length)))):=by
 obtain ⟨g1,h1,h2,h3⟩:=h.HK e sz;have F3:(st.tok ⟨e,sz,0,none⟩).aO[o]?=some (.row T cs):=ho;obtain ⟨b1,b2,vs,b3,b4,b5⟩:=h2.row o T cs F3;obtain ⟨hi,hs⟩:=h2.setBlock (o:=o) (x:=.row T (cs.set ci (.cE sz [] st.au.length))) (w':=w) ⟨_,F3,by simp⟩ b2 rfl (λ_ _=>rfl) rfl rfl rfl
  (λPm Lv DK jL=>by
   cases jL;refine ⟨vs,b3,by simpa using b4,λi c u qQ hu=>?_⟩;rw [zbj] at qQ;split at qQ
   ·rename_i Tj;subst Tj;split at qQ
    ·cases qQ;have h0:=b5 ci _ u hc hu;refine ⟨?_,h0.2⟩;cases h0.1 with
     | d _ _ hd =>
      cases hd with
      | e0 _ A _=>exact .cE sz [] _ _ e 0 (.nil sz _) (by simp [St.tok,St.set]) (zam _) (λ_=>.inr ⟨rfl,A,rfl⟩)
    ·cases qQ
   ·have h0:=b5 i c u qQ hu;exact ⟨h0.1.mono Pm,h0.2⟩) (λ_ es jL=>by cases jL)
 exact ⟨g1,hi,h3.trans hs⟩
theorem bp.E3 {o ci e sz:Nat} {T:TypeId} {cs:List EV} (ho:st.aO[o]?=some (.row T cs)) (hc:cs[ci]?=some (.d (.e0 sz)))
  (h:bp P f N S Q todo env ((st.tok ⟨e,sz,0,none⟩).set o (.row T (cs.set ci (.cE sz [] st.au.length))))):bp P f N S Q todo env st:=by
 intro g w tmps hinv hh he hn;obtain ⟨g',h1,h2⟩:=hinv.E3 ho hc e;exact h g' w tmps h1 (hh.step h2) (he.mono h2.dO) hn
end tok
section fwp
variable {P:Program} {R:Ending->World->Prop} {k:List Item} {tmps:Array Value} {w:World}
theorem eK.beginRound {f:FuncId} {ds:List Deferred} {l:Nat} {w':World} (hr:(Instr.beginRound l).run P w=.ok () w') (h:eK P ⟨f,ds,some l⟩ R k tmps w'):eK P ⟨f,ds,some l⟩ R (.beginRound::k) tmps w :=
 eK.step (λ_=>stepR_beginRound rfl hr) h
theorem eK.round {f:Ctx} {ops:Array Oper} {i l:Nat} {rest:List Nat} {o:Oper} {f':FuncId} {tm:Array Value} {assign body:Code} {w':World}
  (ho:ops[i]?=some o) (hw:Region.wanted o (yielded ops tmps)=true) (hr:(execOp (Act.eval ⟨tmps,[]⟩) o).run P w=.ok (.round l f' tm assign body) w')
  (h:eK P ⟨f',[],some l⟩ (λ_ w2=>∃ w3,(Instr.endRound l none).run P w2=.ok (.bool true) w3/\eK P f R (.inRegion ops rest::k) (Act.put ⟨tmps,[]⟩ o.dst (.bool true)).tmps w3) [.code assign,.beginRound,.code body] tm w') :
  eK P f R (.inRegion ops (i::rest)::k) tmps w:=by
 intro cs;have hg:=stepGR_op (P:=P) (b:=bf f) (a:=⟨tmps,f.ds⟩) (k:=k) (cs:=cs) (w:=w) (rest:=rest) ho hw;rw [AW,AV hr (by simp)] at hg;have oZ:∀ v,((bf f).atR ⟨tmps,f.ds⟩ (.inRegion ops (i::rest)::k)).finish v=(bf f).atR (Act.put ⟨tmps,f.ds⟩ o.dst v) (.inRegion ops rest::k):=by
  intro v;rw [Frame.finish_atR,ho];rfl
 obtain ⟨e,w2,fr,⟨w3,he,hF⟩,Eu,X4⟩:=h ((bf f).atR ⟨tmps,f.ds⟩ (.inRegion ops (i::rest)::k)::cs);obtain ⟨rfl,tm2,rfl⟩:=X4;have U0:Frame.round l f' tm assign body .normal=(bf ⟨f',[],some l⟩).atR ⟨tm,[]⟩ [.code assign,.beginRound,.code body]:=by simp [Frame.round,Frame.atR,bf]
 have z6:Go.step P (lone ((bf f).atR ⟨tmps,f.ds⟩ (.inRegion ops (i::rest)::k)) cs w) =
   .next (lone ((bf ⟨f',[],some l⟩).atR ⟨tm,[]⟩ [.code assign,.beginRound,.code body]) ((bf f).atR ⟨tmps,f.ds⟩ (.inRegion ops (i::rest)::k)::cs) w'):=by
  rw [←U0];exact step_lone_go (by rw [hg];simp [stepG.apply,hr,Frame.atR])
 obtain ⟨e,w4,Xe,hR,hc,h1⟩:=hF cs;refine ⟨e,w4,Xe,hR,Comes.of_steps (.head z6 (Steps.trans Eu (.one ?_))) hc,h1⟩;rw [←put_eq,←oZ];exact stepR_round_end rfl rfl he
theorem eK.rangeFunc {f it:FuncId} {g:Operand} {ps:Array Tmp} {assign body:Code} {vs:Array Value} (hg:Act.eval ⟨tmps,[]⟩ g=.func (.func it) #[] vs) (F2:Enters P it)
  (h:Calls P it (#[.func (.yield (w.heap.size+1)) #[] #[]]++vs) ((w.alloc (.deferred (some []))).alloc (.loop { state:=.ready,pending:=none,fn:=f,tmps:=tmps,params:=ps,assign,body,defers:=w.heap.size }))
   λe w2=>(∃ v,e=.returned v)/\∃ w3,(Instr.endLoop (w.heap.size+1)).run P w2=.ok none w3/\eK P ⟨f,[{ target:=.collected w.heap.size,args:=#[] }],none⟩ R k tmps w3) :
  eK P (.of f) R (.code (.rangeFunc g ps assign body)::k) tmps w:=by
 intro cs;have he:=run_enterLoop_outer (P:=P) (w:=w) f tmps ps assign body;generalize hW:(w.alloc (.deferred (some []))).alloc (.loop { state:=.ready,pending:=none,fn:=f,tmps:=tmps,params:=ps,assign,body,defers:=w.heap.size })=W1 at he h;have R9:(resolve (Act.eval ⟨tmps,[]⟩) (rangeCall g (w.heap.size+1)) 0).run P W1=.ok { target:=.fn (.func it) vs,args:=#[.func (.yield (w.heap.size+1)) #[] #[]] } W1:=by
  simp only [rangeCall,resolve];rw [hg];simp [Deferred.ofValue,Act.eval]
 have hinv:(invoke (.fn (.func it) vs) #[.func (.yield (w.heap.size+1)) #[] #[]]).run P W1=.ok (.enter it (#[.func (.yield (w.heap.size+1)) #[] #[]]++vs)) W1:=by
  simp only [invoke];exact wx F2 _ _
 have z6:=stepR_rangeFunc (P:=P) (b:=bf (.of f)) (a:=⟨tmps,[]⟩) (k:=k) (cs:=cs) (w:=w) he R9 hinv;obtain ⟨e,w2,fr,⟨⟨v,rfl⟩,w3,aad,hF⟩,Eu,_,Lp⟩:=h ((bf (.of f)).atR ⟨tmps,[{ target:=.collected w.heap.size,args:=#[] }]⟩ (.inRangeFunc (w.heap.size+1)::k)::cs);obtain ⟨e,w4,Xe,hR,hc,h1⟩:=hF cs;refine ⟨e,w4,Xe,hR,Comes.of_steps (.head z6 (Steps.trans Eu (.head (step_leave_returned Lp) (.one ?_)))) hc,h1⟩;rw [finish_atR_inRangeFunc];exact stepR_endRangeFunc aad
theorem eK.U4 {f:FuncId} {D:Nat} {fn:Func} {v:Value} {w':World} (hf:P.funcs[f]?=some fn) (ht:(Instr.takeDeferred D).run P w=.ok [] w') (hr:(results fn tmps).run P w'=.ok v w') (hR:R (.returned v) w') :
  eK P ⟨f,[{ target:=.collected D,args:=#[] }],none⟩ R (.code .ret::k) tmps w :=
 λcs=>⟨.returned v,w',_,hR,.head (stepR_ret rfl) (.one (step_collected (by simp) rfl rfl ht)),rfl,rfl,rfl,rfl,fn,hf,hr⟩
end fwp
section inv
variable {P:Program} {base:Nat} {g:bY} {w:World} {st:St}
theorem Inv.Ii (hinv:Inv g base w st) {o:Nat} {y:Obj} (ho:st.aO[o]?=some (.raw y)) (y':Obj):Inv g base (w.putObj (g.ob o) y') (st.set o (.raw y'))/\Step base g w st g (w.putObj (g.ob o) y') (st.set o (.raw y')):=by
 obtain ⟨hb,hl,Jf⟩:=hinv.raw o _ ho;exact hinv.setBlock (o:=o) (x:=.raw y') (w':=w.putObj (g.ob o) y')
   ⟨_,ho,by simp⟩ hl (by simp [World.putObj]) (λb kc=>World.putObj_heap_other kc) rfl rfl rfl (λ_ Lv DK e=>by cases e) (λ_ es e=>by cases e)
   (λy e=>by
    cases e;exact World.putObj_heap_same (zau.1 Jf).1)
end inv
section run
variable {P:Program} {f:FuncId} {N:Nat} {S:Start} {Q:EV->St->Prop} {k:List Item} {env:Env} {st:St}
theorem rl.U5 {S:Start} {g:bY} {w:World} {st:St} (h:rl S g w st) {o l:Nat} (hS:S.g.ob o=l) (cZ:o<S.st.aO.length):g.ob o=l:=(h.dO.ob o cZ).trans hS
theorem bp.beginRound {l o:Nat} {r:Loop} (hS:S.g.ob o=l) (cZ:o<S.st.aO.length) (ho:st.aO[o]?=some (.raw (.loop r))) (hr:r.state=.ready)
  (h:bp P ⟨f,[],some l⟩ N S Q k env (st.set o (.raw (.loop { r with state:=.busy })))):bp P ⟨f,[],some l⟩ N S Q (.beginRound::k) env st:=by
 intro g w tmps hinv hh he hN;have AX:=hh.U5 hS cZ;obtain ⟨_,_,Jf⟩:=hinv.raw o _ ho;obtain ⟨h1,h2⟩:=hinv.Ii ho (.loop { r with state:=.busy });rw [AX] at Jf h1 h2;exact eK.beginRound (run_beginRound Jf hr) (h g _ tmps h1 (hh.step h2) (he.mono h2.dO) hN)
theorem bp.Ev {l:Nat} (hQ:Q (.d (cB true)) st):bp P ⟨f,[],some l⟩ N S Q [] env st :=
 λg w tmps hinv hh he hN=>eK.Ev ⟨_,_,st,g,rfl,hQ,.d _ _ (.ex _),hinv,hh⟩
theorem bp.rangeFunc {i:Nat} {it:FuncId} {RH:List EV} {ps:Array Tmp} {assign body:Code} {st':St} (hx:lookup i env=some (.tz it RH)) (F2:Enters P it) (hlen:st'.aO.length=st.aO.length)
  (X5:∀ (S1:Start) (tm:Array Value) (D l:Nat),S1.base=S.base->Inv S1.g S1.base S1.w S1.st->tm.size=N->eh S1.g S1.w S1.st env tm->S1.g.ob (st.aO.length+1)=l ->
   S1.st=⟨st.aO++[.raw (.deferred (some [])),.raw (.loop { state:=.ready,pending:=none,fn:=f,tmps:=tm,params:=ps,assign,body,defers:=D })],st.au⟩ ->
   ∀ vs,uE S1.g S1.w S1.st (.d (.ex (.func (.yield l) #[] #[]))::RH) vs ->
   Calls P it vs S1.w (nt S1 λ_ st2=>st2=⟨st'.aO++[.raw (.deferred (some [])),.raw (.loop { state:=.ready,pending:=none,fn:=f,tmps:=tm,params:=ps,assign,body,defers:=D })],st'.au⟩))
  (hk:∀ (S1:Start) (D:Nat) (x:Obj),S1.base=S.base->S1.g.ob st.aO.length=D->S1.st=⟨st'.aO++[.raw (.deferred (some [])),.raw x],st'.au⟩ ->
   bp P ⟨f,[{ target:=.collected D,args:=#[] }],none⟩ N S1 Q k env ⟨st'.aO++[.raw (.deferred (some [])),.raw x],st'.au⟩) :
  bp P (.of f) N S Q (.code (.rangeFunc (.tmp i) ps assign body)::k) env st:=by
 intro g w tmps hinv hh he hN;obtain ⟨v,Xp,hv2⟩:=he i _ hx;cases hv2 with
 | tz _ _ vs DJ r7 =>
 have hg:Act.eval ⟨tmps,[]⟩ (.tmp i)=.func (.func it) #[] vs:=by simp [Act.eval,zaq,Xp]
 obtain ⟨g1,i1,s1,ob1⟩:=hinv.newObj (.raw (.deferred (some []))) (.deferred (some [])) (λLv DK e=>by cases e) (λes e=>by cases e) (λy e=>by cases e;rfl);obtain ⟨g2,i2,s2,ob2⟩:=i1.newObj (.raw (.loop { state:=.ready,pending:=none,fn:=f,tmps:=tmps,params:=ps,assign,body,defers:=w.heap.size })) (.loop { state:=.ready,pending:=none,fn:=f,tmps:=tmps,params:=ps,assign,body,defers:=w.heap.size }) (λLv DK e=>by cases e) (λes e=>by cases e) (λy e=>by cases e;rfl);have lX:(st.add (.raw (.deferred (some [])))).add (.raw (.loop { state:=.ready,pending:=none,fn:=f,tmps:=tmps,params:=ps,assign,body,defers:=w.heap.size })) =
   ⟨st.aO++[.raw (.deferred (some [])),.raw (.loop { state:=.ready,pending:=none,fn:=f,tmps:=tmps,params:=ps,assign,body,defers:=w.heap.size })],st.au⟩:=by simp [St.add]
 rw [lX] at i2 s2;have Ba:g2.ob (st.aO.length+1)=w.heap.size+1:=by
  have:(st.add (.raw (.deferred (some [])))).aO.length=st.aO.length+1:=by simp [St.add]
  rw [←this,ob2];simp [World.size_alloc]
 have U6:=s1.trans s2;have hD2:g2.ob st.aO.length=w.heap.size:=by
  have:st.aO.length<(st.add (.raw (.deferred (some [])))).aO.length:=by simp [St.add]
  rw [s2.dO.ob _ this,ob1]
 have W0:=he.mono U6.dO;have J5:uE g2 ((w.alloc (.deferred (some []))).alloc (.loop { state:=.ready,pending:=none,fn:=f,tmps:=tmps,params:=ps,assign,body,defers:=w.heap.size })) ⟨st.aO++[.raw (.deferred (some [])),.raw (.loop { state:=.ready,pending:=none,fn:=f,tmps:=tmps,params:=ps,assign,body,defers:=w.heap.size })],st.au⟩ (.d (.ex (.func (.yield (w.heap.size+1)) #[] #[]))::RH) (#[.func (.yield (w.heap.size+1)) #[] #[]]++vs):=by
  refine ⟨by simp [DJ,zcw],λj y u hy hu=>?_⟩;cases j with
  | zero =>
   rw [zda (by simp)] at hu;simp at hy hu;subst hy;subst hu;exact .d _ _ (.ex _)
  | succ j =>
   simp only [List.getElem?_cons_succ] at hy;rw [Array.getElem?_append_right (by simp)] at hu;exact (r7 j y u hy (by simpa using hu)).mono U6.dO
 refine eK.rangeFunc hg F2 ?_;refine (X5 ⟨g2,_,_,S.base⟩ tmps w.heap.size (w.heap.size+1) rfl i2 hN W0 Ba rfl _ J5).mono ?_;rintro e w2 ⟨v,r,st2,g3,rfl,rfl,hr,Tr,hh3⟩;refine ⟨⟨v,rfl⟩,?_⟩;have hoL:(⟨st'.aO++[.raw (.deferred (some [])),.raw (.loop { state:=.ready,pending:=none,fn:=f,tmps:=tmps,params:=ps,assign,body,defers:=w.heap.size })],st'.au⟩:St).aO[st.aO.length+1]?=some (.raw (.loop { state:=.ready,pending:=none,fn:=f,tmps:=tmps,params:=ps,assign,body,defers:=w.heap.size })):=by
  rw [zat (by omega)];simp [hlen]
 have X6:g3.ob (st.aO.length+1)=w.heap.size+1:=(hh3.dO.ob _ (by simp)).trans Ba;have X7:g3.ob st.aO.length=w.heap.size:=(hh3.dO.ob _ (by simp)).trans hD2;obtain ⟨_,_,Jf⟩:=Tr.raw _ _ hoL;rw [X6] at Jf;obtain ⟨q1,q2⟩:=Tr.Ii hoL (.loop { state:=.exhausted,pending:=none,fn:=f,tmps:=tmps,params:=ps,assign,body,defers:=w.heap.size });rw [X6] at q1 q2;refine ⟨_,run_endLoop Jf (by simp),?_⟩;have xL:(⟨st'.aO++[.raw (.deferred (some [])),.raw (.loop { state:=.ready,pending:=none,fn:=f,tmps:=tmps,params:=ps,assign,body,defers:=w.heap.size })],st'.au⟩:St).set (st.aO.length+1) (.raw (.loop { state:=.exhausted,pending:=none,fn:=f,tmps:=tmps,params:=ps,assign,body,defers:=w.heap.size })) =
   ⟨st'.aO++[.raw (.deferred (some [])),.raw (.loop { state:=.exhausted,pending:=none,fn:=f,tmps:=tmps,params:=ps,assign,body,defers:=w.heap.size })],st'.au⟩:=by
  unfold St.set;simp only;rw [List.set_append_right _ _ (by omega),←hlen,zfa];rfl
 rw [xL] at q1 q2;have oT:=(U6.trans hh3.toStep).trans q2;refine (hk ⟨g3,_,_,S.base⟩ w.heap.size _ rfl X7 rfl g3 _ tmps q1 (rl.refl ⟨g3,_,_,S.base⟩) (he.mono oT.dO) hN).mono ?_;rintro e w4 ⟨v4,r4,st4,g4,e1,e2,e3,e4,e5⟩;exact ⟨v4,r4,st4,g4,e1,e2,e3,e4,(hh.step oT).step e5.toStep⟩
theorem bp.U4 {fn:Func} {D o:Nat} (xs:List ResultVar) (es:List EV) (hf:P.funcs[f]?=some fn) (hr:fn.results=xs.toArray) (hS:S.g.ob o=D) (cZ:o<S.st.aO.length) (ho:st.aO[o]?=some (.raw (.deferred (some []))))
  (h:EL P env (st.set o (.raw (.deferred none))) xs es) (hQ:Q (EM es) (st.set o (.raw (.deferred none)))):bp P ⟨f,[{ target:=.collected D,args:=#[] }],none⟩ N S Q (.code .ret::k) env st:=by
 intro g w tmps hi hh he hn;have AX:=hh.U5 hS cZ;obtain ⟨_,_,Jf⟩:=hi.raw o _ ho;obtain ⟨q1,q2⟩:=hi.Ii ho (.deferred none);rw [AX] at Jf q1 q2;have W0:=he.mono q2.dO;obtain ⟨vs,h1,h2,h3⟩:=HT q1 W0 h;have hC:(results fn tmps).run P (w.putObj D (.deferred none))=.ok (if h:vs.toArray.size=1 then vs.toArray[0] else .tuple vs.toArray) (w.putObj D (.deferred none)):=by
  have Uw:(results fn tmps)=(do let vs ←fn.results.mapM (G1 tmps);pure (if h:vs.size=1 then vs[0] else .tuple vs)):=by
   unfold results;congr 1
  rw [Uw,hr,zfd];simp only [Sem.run_bind,Sem.run_map,h1,Result.andThen_ok,Sem.run_pure]
 refine eK.U4 hf (run_takeDeferred Jf) hC ⟨_,EM es,_,g,rfl,hQ,?_,q1,hh.step q2⟩;by_cases hl:vs.toArray.size=1
 ·rw [dif_pos hl]
  match vs,es,h2,hl,h3 with
  | [v],[e],_,_,h3=>exact h3 0 e v rfl rfl
  | [],_,_,hl,_=>simp at hl
  | _::_::_,_,_,hl,_=>simp at hl
 ·rw [dif_neg hl]
  match vs,es,h2,hl,h3 with
  | [v],_,_,hl,_=>simp at hl
  | [],[],_,_,_=>exact .dN _ _ rfl (by simp)
  | a::b::l,a'::b'::l',h2,_,h3=>exact .dN _ _ (by simpa using h2) (λi e v he hv=>h3 i e v he (by simpa using hv))
end run
theorem Calls.U7 {P:Program} {f:FuncId} {fn:Func} {c:Code} {N:Nat} {S:Start} {Q:EV->St->Prop} {args:List EV} {vs:Array Value} (hf:P.funcs[f]?=some fn) (hb:fn.body=some c) (hN:fn.ntmps=N) (hl:Nat.ble args.length N=true)
  (hi:Inv S.g S.base S.w S.st) (ha:uE S.g S.w S.st args vs) (h:bp P (.of f) N S Q [.code c] (z8 0 args) S.st):Calls P f vs S.w (nt S Q):=by
 have Rv:=zae hl;have fB:=ha.1;refine eK.calls hf hb ?_;refine h S.g S.w _ hi (rl.refl S) ?_ (by simp [hN];omega);intro j y hy;obtain ⟨k,rfl,hk⟩:=u5 args 0 j y hy;have RJ:=(zad.1 hk).1;refine ⟨vs[k]'(by omega),?_,ha.2 k y _ hk (by simp [fB,RJ])⟩;rw [zbp,zda (by omega)];simp [fB,RJ]
section yield
variable {P:Program} {f:Ctx} {N:Nat} {S:Start} {Q:EV->St->Prop} {k:List Item} {env:Env} {st:St} {ops rest:List Oper} {ty:TypeId} {pos:String} {after:Array Edge}
theorem cm.U8 {b:Bool} {d t x y:Tmp} {j o l p:Nat} {c:EV} {r:Loop} {a:D} {ts:Array TypeId} {st':St} (hj:(ops[j]?).bind (·.dst)=some t) (hl:lookup t env=some c) (hc:Db c true=some b) (hbt:b=true) (hd:fZ N (some d)=true)
  (hx:lookup x env=some (.gd b (.d (.ex (.func (.yield l) #[] #[]))))) (hy:lookup y env=some (.gd b (.d a))) (ho:st.aO[o]?=some (.raw (.loop r))) (cZ:o<S.st.aO.length) (hS:S.g.ob o=l) (hp:r.params=#[p])
  (L0:∀ S2:Start,u4 S.g S.w S.st S2.g S2.w S2.st->S2.base=S.base->S2.st=st->Inv S2.g S2.base S2.w S2.st->∀ v,dK S2.g.lim S2.w a v ->
   eK P ⟨r.fn,[],some l⟩ (nt S2 λ_ st2=>∃ r2,st2.aO[o]?=some (.raw (.loop r2))/\st'=st2.set o (.raw (.loop { r2 with state:=.ready,pending:=none }))) [.code r.assign,.beginRound,.code r.body] (r.tmps.setIfInBounds p v) S2.w)
  (hk:cm P f N S Q ops rest k ((d,.gd b (.d (cB true)))::env) st') :
  cm P f N S Q ops (⟨some d,.call ⟨.value (.tmp x),#[.tmp y],ts⟩,ty,pos,after,some (j,true)⟩::rest) k env st:=by
 subst hbt;intro i hi g w tmps hinv hh he hn;have ox:ops.toArray[i]?=some ⟨some d,.call ⟨.value (.tmp x),#[.tmp y],ts⟩,ty,pos,after,some (j,true)⟩:=by simpa using (hi 0).symm
 obtain ⟨v,hv,hr⟩:=he t c hl;have hw:Region.wanted ⟨some d,.call ⟨.value (.tmp x),#[.tmp y],ts⟩,ty,pos,after,some (j,true)⟩ (yielded ops.toArray tmps)=true:=by
  have Ud:=tf hc hr;have Je:((ops.toArray)[j]?).bind (·.dst)=some t:=by simpa using hj
  simp only [Region.wanted,yielded,Je,zac,hv];revert Ud;cases v <;> exact λh=>h
 rw [zag,iw];have hi':∀ j:Nat,rest[j]?=ops[i+1+j]?:=λj=>by have:=hi (j+1);simpa [zce,zcw 1 j] using this
 obtain ⟨vx,hx1,hx2⟩:=he x _ hx;obtain ⟨vy,cM,fg⟩:=he y _ hy;have UM:vx=.func (.yield l) #[] #[]:=by
  cases hx2 with
  | gd _ _ _ _ h=>cases h rfl with|d _ _ h=>exact wF h
 have hvy:dK g.lim w a vy:=by
  cases fg with
  | gd _ _ _ _ h=>cases h rfl with|d _ _ h=>exact h
 subst UM;have AX:=hh.U5 hS cZ;obtain ⟨_,_,Jf⟩:=hinv.raw o _ ho;rw [AX] at Jf;have vN:=run_yield (P:=P) (args:=#[vy]) Jf (by rw [hp];rfl);have hC:(execOp (Act.eval ⟨tmps,[]⟩) ⟨some d,.call ⟨.value (.tmp x),#[.tmp y],ts⟩,ty,pos,after,some (j,true)⟩).run P w=.ok (.round l r.fn (r.tmps.setIfInBounds p vy) r.assign r.body) w:=by
  have e1:Act.eval ⟨tmps,[]⟩ (.tmp x)=.func (.yield l) #[] #[]:=by simp [Act.eval,zaq,hx1]
  have e2:Act.eval ⟨tmps,[]⟩ (.tmp y)=vy:=by simp [Act.eval,zaq,cM]
  rw [hp] at vN;simp only [execOp,resolve];rw [e1];simp only [Deferred.ofValue,Sem.run_bind,Sem.run_pure,Result.andThen_ok,invoke];simpa [e2] using vN
 refine eK.round ox hw hC ?_;refine (L0 ⟨g,w,st,S.base⟩ hh.dO rfl rfl hinv vy hvy).mono ?_;rintro e w2 ⟨v2,r2,st2,g2,rfl,⟨rr,hor,Ux⟩,RC,Ts,X8⟩;obtain ⟨_,_,X9⟩:=Ts.raw o _ hor;obtain ⟨q1,q2⟩:=Ts.Ii hor (.loop { rr with state:=.ready,pending:=none });have hob2:g2.ob o=l:=(X8.dO.ob o (zad.1 ho).1).trans AX;rw [hob2] at X9 q1 q2;rw [←Ux] at q1 q2;refine ⟨_,run_endRound none X9,?_⟩;have oT:=X8.toStep.trans q2;subst hn;exact hk (i+1) hi' g2 _ _ q1 (hh.step oT) (qg (d:=some d) (he.mono oT.dO) hd (.gd _ _ _ (λh=>by cases h) (λ_=>.d _ _ (.ex _)))) ia
end yield
theorem xj.three {l:List Oper} {p:Nat} {σ:List Nat} (hs:xj l p σ) {a b c:Nat} (Ca:a≠b) (ha:a<p) (hb:b<p) (hc:c<p) (Tn:((eo l []).getD c 0).testBit a=true) (UH:((eo l []).getD c 0).testBit b=true) :
  σ.filter (λi=>[a,b,c].any λe=>Nat.beq e i)=[a,b,c]∨σ.filter (λi=>[b,a,c].any λe=>Nat.beq e i)=[b,a,c]:=by
 obtain ⟨x,y,PZ⟩:=zdw ((hs.mem c).2 hc);have h1:=hs.mask x c y PZ;have ax:=h1 a Tn;have bx:=h1 b UH;have nd:=hs.nodup;rw [PZ,zdf,zbs] at nd;obtain ⟨_,⟨cy,_⟩,dis⟩:=nd;have cx:∀ i,i∈x->i≠c:=λi hi=>dis i hi c (zao ..)
 have ay:∀ i,i∈y->i≠a/\i≠b/\i≠c:=λi hi=>⟨λe=>dis a ax i (zal _ hi) e.symm,λe=>dis b bx i (zal _ hi) e.symm,λe=>cy (e▸hi)⟩
 have key:∀ (u v:Nat),((u=a/\v=b)∨(u=b/\v=a))->σ.filter (λi=>[u,v].any λe=>Nat.beq e i)=[u,v]->σ.filter (λi=>[u,v,c].any λe=>Nat.beq e i)=[u,v,c]:=by
  intro u v Z4 h;have q2:∀ i,([u,v].any λe=>Nat.beq e i)=true↔i=u∨i=v:=λi=>by
   simp only [zdz,zeq,zdj,zbr,Nat.beq_eq];exact ⟨λh=>h.imp zey zey,λh=>h.imp zey zey⟩
  have q3:∀ i,([u,v,c].any λe=>Nat.beq e i)=true↔i=u∨i=v∨i=c:=λi=>by
   simp only [zdz,zeq,zdj,zbr,Nat.beq_eq];exact ⟨λh=>h.imp zey λh=>h.imp zey zey,λh=>h.imp zey λh=>h.imp zey zey⟩
  have ny:∀ i,i∈y->i≠u/\i≠v/\i≠c:=λi hi=>by
   obtain ⟨p1,p2,p3⟩:=ay i hi;rcases Z4 with ⟨rfl,rfl⟩|⟨rfl,rfl⟩
   ·exact ⟨p1,p2,p3⟩
   ·exact ⟨p2,p1,p3⟩
  have cu:¬(c=u∨c=v):=by
   rcases Z4 with ⟨rfl,rfl⟩|⟨rfl,rfl⟩
   ·rintro (e|e)
    ·exact cx _ ax e.symm
    ·exact cx _ bx e.symm
   ·rintro (e|e)
    ·exact cx _ bx e.symm
    ·exact cx _ ax e.symm
  have y2:y.filter (λi=>[u,v].any λe=>Nat.beq e i)=[]:=zde.2 λi hi k=>by
   obtain ⟨p1,p2,_⟩:=ny i hi;rcases (q2 i).1 k with e|e
   ·exact p1 e
   ·exact p2 e
  have y3:y.filter (λi=>[u,v,c].any λe=>Nat.beq e i)=[]:=zde.2 λi hi k=>by
   obtain ⟨p1,p2,p3⟩:=ny i hi;rcases (q3 i).1 k with e|e|e
   ·exact p1 e
   ·exact p2 e
   ·exact p3 e
  have x3:x.filter (λi=>[u,v,c].any λe=>Nat.beq e i)=x.filter (λi=>[u,v].any λe=>Nat.beq e i):=zea λi hi=>by
   rw [zbu,q2,q3];exact ⟨λh=>h.imp id λh=>h.elim id λe=>absurd e (cx i hi),λh=>h.imp id .inl⟩
  rw [PZ,zdi,zbo,zaa (λk=>cu ((q2 c).1 k)),y2,zcg] at h;rw [PZ,zdi,zbo,zab ((q3 c).2 (.inr (.inr rfl))),y3,x3,h];rfl
 rcases hs.two Ca ha hb with h|h
 ·exact .inl (key a b (.inl ⟨rfl,rfl⟩) h)
 ·exact .inr (key b a (.inr ⟨rfl,rfl⟩) h)
section run
variable {P:Program} {f:Ctx} {N:Nat} {S:Start} {Q:EV->St->Prop} {k:List Item}
theorem bp.Sa {id:Nat} {l:List Oper} {env E0:Env} {st st0:St} (p a b c:Nat) (Ya Yb:List St) (hm:P.follows .mixedOrders=true) (hB:cw l p=true) (Ca:a≠b) (ha:a<p) (hb:b<p) (hc:c<p)
  (Tn:((eo l []).getD c 0).testBit a=true) (UH:((eo l []).getD c 0).testBit b=true) (h1:Ya[0]?=some st) (h2:Yb[0]?=some st)
  (H1:cm P f N S Q l (l.drop p) k E0 st0->kj P f N S Q l p [a,b,c] Ya 0 (l.take p) k env) (H2:cm P f N S Q l (l.drop p) k E0 st0->kj P f N S Q l p [b,a,c] Yb 0 (l.take p) k env)
  (h:cm P f N S Q l (l.drop p) k E0 st0):bp P f N S Q (.code (.region id l.toArray true)::k) env st :=
 .LN p hm hB λ_ hσ=>(hσ.three Ca ha hb hc Tn UH).elim (λhE=>.Zj hB hσ hE h1 (H1 h)) (λhE=>.Zj hB hσ hE h2 (H2 h))
end run
end Go.Abs
namespace Go.Proofs.YtimkfiaffohhkaaGreatDoor
open Go.RowKit Go.Abs
theorem lN:Tryz.prog.follows .mixedOrders=true:=by kernel_rfl
theorem Yc:(Tryz.prog.info? 3).map (·.size)=some 1:=by kernel_rfl
theorem xW:∃ i,Tryz.prog.info? 3=some i/\i.zero=some (.int .i64 0)/\i.size=1/\i.bytes=8:=info_parts (by kernel_rfl)
theorem sz_4:(Tryz.prog.info? 4).map (·.size)=some 1:=by kernel_rfl
theorem J6:∃ i,Tryz.prog.info? 4=some i/\i.zero=some (.bool false)/\i.size=1/\i.bytes=1:=info_parts (by kernel_rfl)
theorem Ot:∃ i,Tryz.prog.info? 9=some i/\i.zero=some (.string ⟨#[]⟩)/\i.size=1/\i.bytes=16:=info_parts (by kernel_rfl)
theorem Qa:∃ i,Tryz.prog.info? 23=some i/\i.zero=some (.slice none 0 0)/\i.size=1/\i.bytes=24:=info_parts (by kernel_rfl)
theorem Tt:(Tryz.prog.info? 26).map (·.size)=some 3:=by kernel_rfl
theorem Dr:∃ i,Tryz.prog.info? 26=some i/\i.zero=some (.agg #[.slice none 0 0,.slice none 0 0,.slice none 0 0])/\i.size=3/\i.bytes=72:=info_parts (by kernel_rfl)
theorem M3:(Tryz.prog.info? 30).map (·.size)=some 6:=by kernel_rfl
theorem Tu:∃ i,Tryz.prog.info? 30=some i/\i.zero=some (.agg #[.slice none 0 0,.slice none 0 0,.slice none 0 0,.slice none 0 0,.slice none 0 0,.slice none 0 0])/\i.size=6/\i.bytes=144:=info_parts (by kernel_rfl)
theorem Qb:∃ i,Tryz.prog.info? 34=some i/\i.zero=some (.agg #[.int .i64 0,.int .i64 0,.int .i64 0,.int .i64 0,.int .i64 0,.int .i64 0])/\i.size=6/\i.bytes=48:=info_parts (by kernel_rfl)
theorem Yd:∃ i,Tryz.prog.info? 38=some i/\i.zero=some (.agg #[.int .i64 0,.int .i64 0,.int .i64 0,.slice none 0 0])/\i.size=4/\i.bytes=48:=info_parts (by kernel_rfl)
theorem M4:(Tryz.prog.info? 40).map (·.size)=some 2:=by kernel_rfl
theorem Ye:∃ i,Tryz.prog.info? 40=some i/\i.zero=some (.agg #[.int .i64 0,.int .i64 0])/\i.size=2/\i.bytes=16:=info_parts (by kernel_rfl)
theorem Hh:(Tryz.prog.info? 54).map (·.size)=some 12:=by kernel_rfl
theorem Bh:∃ i,Tryz.prog.info? 54=some i/\i.zero=some (.agg #[.int .i64 0,.int .i64 0,.int .i64 0,.int .i64 0,.string ⟨#[]⟩,.string ⟨#[]⟩,.int .i64 0,.int .i64 0,.int .i64 0,.bool false,.int .i64 0,.int .i64 0])/\i.size=12/\i.bytes=112:=info_parts (by kernel_rfl)
theorem fN:(Tryz.prog.info? 58).map (·.size)=some 12:=by kernel_rfl
theorem gw:∃ i,Tryz.prog.info? 58=some i/\i.zero=some (.agg #[.int .i64 0,.int .i64 0,.int .i64 0,.string ⟨#[]⟩,.string ⟨#[]⟩,.int .i64 0,.int .i64 0,.int .i64 0,.int .i64 0,.bool false,.int .i64 0,.bool false])/\i.size=12/\i.bytes=112:=info_parts (by kernel_rfl)
theorem E4:∃ i,Tryz.prog.info? 66=some i/\i.zero=some (.agg #[.int .i64 0,.int .i64 0,.int .i64 0,.int .i64 0])/\i.size=4/\i.bytes=32:=info_parts (by kernel_rfl)
theorem E5:∃ i,Tryz.prog.info? 76=some i/\i.zero=some (.agg #[.int .i64 0,.int .i64 0,.int .i64 0,.int .i64 0])/\i.size=4/\i.bytes=32:=info_parts (by kernel_rfl)
theorem Yf:(Tryz.prog.info? 79).map (·.size)=some 7:=by kernel_rfl
theorem Tv:∃ i,Tryz.prog.info? 79=some i/\i.zero=some (.agg #[.int .i64 0,.int .i64 0,.int .i64 0,.int .i64 0,.string ⟨#[]⟩,.string ⟨#[]⟩,.int .i64 0])/\i.size=7/\i.bytes=72:=info_parts (by kernel_rfl)
theorem Tw:∃ i,Tryz.prog.info? 89=some i/\i.zero=some (.agg #[.slice none 0 0,.slice none 0 0,.slice none 0 0,.slice none 0 0,.slice none 0 0,.slice none 0 0,.slice none 0 0])/\i.size=7/\i.bytes=168:=info_parts (by kernel_rfl)
theorem M5:(Tryz.prog.info? 98).map (·.size)=some 8:=by kernel_rfl
theorem Ds:∃ i,Tryz.prog.info? 98=some i/\i.zero=some (.agg #[.int .i64 0,.int .i64 0,.int .i64 0,.string ⟨#[]⟩,.slice none 0 0,.slice none 0 0,.bool false,.bool false])/\i.size=8/\i.bytes=96:=info_parts (by kernel_rfl)
theorem E6:(Tryz.prog.info? 106).map (·.size)=some 3:=by kernel_rfl
theorem sd:∃ i,Tryz.prog.info? 106=some i/\i.zero=some (.agg #[.int .i64 0,.int .i64 0,.int .i64 0])/\i.size=3/\i.bytes=24:=info_parts (by kernel_rfl)
theorem U9:∃ i,Tryz.prog.info? 114=some i/\i.zero=some (.agg #[.int .i64 0,.int .i64 0])/\i.size=2/\i.bytes=16:=info_parts (by kernel_rfl)
theorem Va:∃ i,Tryz.prog.info? 121=some i/\i.zero=some (.slice none 0 0)/\i.size=1/\i.bytes=24:=info_parts (by kernel_rfl)
theorem L4:∃ i,Tryz.prog.info? 123=some i/\i.zero=some (.agg #[.slice none 0 0,.slice none 0 0,.slice none 0 0])/\i.size=3/\i.bytes=72:=info_parts (by kernel_rfl)
theorem Vb:∃ i,Tryz.prog.info? 147=some i/\i.zero=some (.agg #[.slice none 0 0,.slice none 0 0])/\i.size=2/\i.bytes=48:=info_parts (by kernel_rfl)
theorem Vc:∃ i,Tryz.prog.info? 164=some i/\i.zero=some (.agg #[.int .i64 0,.int .i64 0])/\i.size=2/\i.bytes=16:=info_parts (by kernel_rfl)
theorem Vd:∃ i,Tryz.prog.info? 171=some i/\i.zero=some (.agg #[.bool false,.bool false,.bool false,.bool false,.bool false])/\i.size=5/\i.bytes=5:=info_parts (by kernel_rfl)
theorem Ve:(Tryz.prog.info? 175).map (·.size)=some 6:=by kernel_rfl
theorem E7:∃ i,Tryz.prog.info? 175=some i/\i.zero=some (.agg #[.int .i64 0,.int .i64 0,.int .i64 0,.bool false,.bool false,.slice none 0 0])/\i.size=6/\i.bytes=56:=info_parts (by kernel_rfl)
theorem Vf:∃ i,Tryz.prog.info? 189=some i/\i.zero=some (.agg #[.int .i64 0,.int .i64 0])/\i.size=2/\i.bytes=16:=info_parts (by kernel_rfl)
theorem Vg:∃ i,Tryz.prog.info? 192=some i/\i.zero=some (.agg #[.int .i64 0,.int .i64 0,.int .i64 0,.string ⟨#[]⟩,.string ⟨#[]⟩,.int .i64 0,.int .i64 0,.int .i64 0,.int .i64 0,.bool false,.int .i64 0,.bool false])/\i.size=12/\i.bytes=112:=info_parts (by kernel_rfl)
theorem Vh:∃ i,Tryz.prog.info? 194=some i/\i.zero=some (.agg #[.int .i64 0,.int .i64 0,.int .i64 0,.string ⟨#[]⟩,.string ⟨#[]⟩,.int .i64 0,.int .i64 0,.int .i64 0,.int .i64 0,.bool false,.int .i64 0,.bool false,.slice none 0 0])/\i.size=13/\i.bytes=136:=info_parts (by kernel_rfl)
theorem Vi:∃ i,Tryz.prog.info? 236=some i/\i.zero=some (.agg #[.int .i64 0,.int .i64 0,.int .i64 0,.string ⟨#[]⟩,.string ⟨#[]⟩,.int .i64 0,.bool false])/\i.size=7/\i.bytes=72:=info_parts (by kernel_rfl)
theorem Vj:∃ i,Tryz.prog.info? 275=some i/\i.zero=some (.agg #[.map none,.map none,.map none,.map none,.map none,.slice none 0 0,.slice none 0 0])/\i.size=7/\i.bytes=88:=info_parts (by kernel_rfl)
theorem Sb:fi Tryz.prog 26 0=some 0:=by kernel_rfl
theorem Sc:fi Tryz.prog 26 2=some 2:=by kernel_rfl
theorem s6:fi Tryz.prog 30 1=some 3:=by kernel_rfl
theorem Ij:fi Tryz.prog 30 2=some 4:=by kernel_rfl
theorem Ee:fi Tryz.prog 79 2=some 2:=by kernel_rfl
theorem yH:fi Tryz.prog 79 3=some 3:=by kernel_rfl
theorem oz:fi Tryz.prog 89 0=some 0:=by kernel_rfl
theorem yI:fi Tryz.prog 89 1=some 6:=by kernel_rfl
theorem Ik:fi Tryz.prog 98 1=some 1:=by kernel_rfl
theorem Qc:fi Tryz.prog 123 0=some 0:=by kernel_rfl
theorem Qd:fi Tryz.prog 123 1=some 1:=by kernel_rfl
theorem Qe:fi Tryz.prog 123 2=some 2:=by kernel_rfl
theorem Bi:fi Tryz.prog 275 0=some 0:=by kernel_rfl
theorem vO:fi Tryz.prog 275 1=some 1:=by kernel_rfl
theorem ry:(Tryz.prog.underlying 3).map j4=some true:=by kernel_rfl
theorem Tx:(Tryz.prog.underlying 4).map j4=some true:=by kernel_rfl
theorem Vk:(Tryz.prog.underlying 22).map j4=some true:=by kernel_rfl
theorem L5:(Tryz.prog.underlying 23).map j4=some true:=by kernel_rfl
theorem Vl:(Tryz.prog.underlying 24).map j4=some true:=by kernel_rfl
theorem Vm:(Tryz.prog.underlying 26).map j4=some false:=by kernel_rfl
theorem wP:(Tryz.prog.underlying 27).map j4=some true:=by kernel_rfl
theorem Qf:(Tryz.prog.underlying 30).map j4=some false:=by kernel_rfl
theorem Cp:(Tryz.prog.underlying 36).map j4=some true:=by kernel_rfl
theorem Il:(Tryz.prog.underlying 40).map j4=some false:=by kernel_rfl
theorem L6:(Tryz.prog.underlying 54).map j4=some false:=by kernel_rfl
theorem eB:(Tryz.prog.underlying 58).map j4=some false:=by kernel_rfl
theorem Vn:(Tryz.prog.underlying 79).map j4=some false:=by kernel_rfl
theorem Qg:(Tryz.prog.underlying 98).map j4=some false:=by kernel_rfl
theorem Bj:(Tryz.prog.underlying 106).map j4=some false:=by kernel_rfl
theorem M6:(Tryz.prog.underlying 119).map j4=some true:=by kernel_rfl
theorem yJ:(Tryz.prog.underlying 120).map j4=some true:=by kernel_rfl
theorem yK:(Tryz.prog.underlying 121).map j4=some true:=by kernel_rfl
theorem Ef:(Tryz.prog.underlying 272).map j4=some true:=by kernel_rfl
theorem yL:(Tryz.prog.underlying 273).map j4=some true:=by kernel_rfl
theorem Bl:placesOf Tryz.prog 26=some [(0,1),(1,1),(2,1)]:=by kernel_rfl
theorem J7:placesOf Tryz.prog 30=some [(0,3),(3,1),(4,1),(5,1)]:=by kernel_rfl
theorem M7:placesOf Tryz.prog 34=some [(0,1),(1,1),(2,1),(3,1),(4,1),(5,1)]:=by kernel_rfl
theorem M8:placesOf Tryz.prog 38=some [(0,1),(1,1),(2,1),(3,1)]:=by kernel_rfl
theorem Yg:placesOf Tryz.prog 40=some [(0,1),(1,1)]:=by kernel_rfl
theorem zM:placesOf Tryz.prog 54=some [(0,1),(1,1),(2,1),(3,1),(4,1),(5,1),(6,1),(7,1),(8,1),(9,1),(10,1),(11,1)]:=by kernel_rfl
theorem xX:placesOf Tryz.prog 58=some [(0,1),(1,1),(2,1),(3,1),(4,1),(5,1),(6,1),(7,1),(8,1),(9,1),(10,1),(11,1)]:=by kernel_rfl
theorem Ty:placesOf Tryz.prog 66=some [(0,1),(1,1),(2,1),(3,1)]:=by kernel_rfl
theorem Tz:placesOf Tryz.prog 76=some [(0,1),(1,1),(2,1),(3,1)]:=by kernel_rfl
theorem M9:placesOf Tryz.prog 79=some [(0,1),(1,1),(2,1),(3,1),(4,1),(5,1),(6,1)]:=by kernel_rfl
theorem TA:placesOf Tryz.prog 89=some [(0,6),(6,1)]:=by kernel_rfl
theorem J8:placesOf Tryz.prog 98=some [(0,1),(1,1),(2,1),(3,1),(4,1),(5,1),(6,1),(7,1)]:=by kernel_rfl
theorem Vo:placesOf Tryz.prog 106=some [(0,1),(1,1),(2,1)]:=by kernel_rfl
theorem Vp:placesOf Tryz.prog 114=some [(0,1),(1,1)]:=by kernel_rfl
theorem L7:placesOf Tryz.prog 123=some [(0,1),(1,1),(2,1)]:=by kernel_rfl
theorem Vq:placesOf Tryz.prog 147=some [(0,1),(1,1)]:=by kernel_rfl
theorem Vr:placesOf Tryz.prog 164=some [(0,1),(1,1)]:=by kernel_rfl
theorem Qh:placesOf Tryz.prog 175=some [(0,1),(1,1),(2,1),(3,1),(4,1),(5,1)]:=by kernel_rfl
theorem Vs:placesOf Tryz.prog 189=some [(0,1),(1,1)]:=by kernel_rfl
theorem Vt:placesOf Tryz.prog 192=some [(0,12)]:=by kernel_rfl
theorem Vu:placesOf Tryz.prog 194=some [(0,12),(12,1)]:=by kernel_rfl
theorem Vv:placesOf Tryz.prog 236=some [(0,2),(2,1),(3,1),(4,1),(5,1),(6,1)]:=by kernel_rfl
theorem Vw:placesOf Tryz.prog 275=some [(0,1),(1,1),(2,1),(3,1),(4,1),(5,1),(6,1)]:=by kernel_rfl
theorem Yh:(Tryz.prog.info? 26).bind (·.zero)=some (.agg #[.slice none 0 0,.slice none 0 0,.slice none 0 0]):=by kernel_rfl
theorem Yi:(Tryz.prog.info? 28).bind (·.zero)=some (.slice none 0 0):=by kernel_rfl
theorem Na:(Tryz.prog.info? 30).bind (·.zero)=some (.agg #[.slice none 0 0,.slice none 0 0,.slice none 0 0,.slice none 0 0,.slice none 0 0,.slice none 0 0]):=by kernel_rfl
theorem Yj:(Tryz.prog.info? 34).bind (·.zero)=some (.agg #[.int .i64 0,.int .i64 0,.int .i64 0,.int .i64 0,.int .i64 0,.int .i64 0]):=by kernel_rfl
theorem Yk:(Tryz.prog.info? 40).bind (·.zero)=some (.agg #[.int .i64 0,.int .i64 0]):=by kernel_rfl
theorem Nb:(Tryz.prog.info? 54).bind (·.zero)=some (.agg #[.int .i64 0,.int .i64 0,.int .i64 0,.int .i64 0,.string ⟨#[]⟩,.string ⟨#[]⟩,.int .i64 0,.int .i64 0,.int .i64 0,.bool false,.int .i64 0,.int .i64 0]):=by kernel_rfl
theorem J9:(Tryz.prog.info? 58).bind (·.zero)=some (.agg #[.int .i64 0,.int .i64 0,.int .i64 0,.string ⟨#[]⟩,.string ⟨#[]⟩,.int .i64 0,.int .i64 0,.int .i64 0,.int .i64 0,.bool false,.int .i64 0,.bool false]):=by kernel_rfl
theorem Yl:(Tryz.prog.info? 66).bind (·.zero)=some (.agg #[.int .i64 0,.int .i64 0,.int .i64 0,.int .i64 0]):=by kernel_rfl
theorem Ym:(Tryz.prog.info? 76).bind (·.zero)=some (.agg #[.int .i64 0,.int .i64 0,.int .i64 0,.int .i64 0]):=by kernel_rfl
theorem Yn:(Tryz.prog.info? 79).bind (·.zero)=some (.agg #[.int .i64 0,.int .i64 0,.int .i64 0,.int .i64 0,.string ⟨#[]⟩,.string ⟨#[]⟩,.int .i64 0]):=by kernel_rfl
theorem Qi:(Tryz.prog.info? 98).bind (·.zero)=some (.agg #[.int .i64 0,.int .i64 0,.int .i64 0,.string ⟨#[]⟩,.slice none 0 0,.slice none 0 0,.bool false,.bool false]):=by kernel_rfl
theorem Vx:(Tryz.prog.info? 106).bind (·.zero)=some (.agg #[.int .i64 0,.int .i64 0,.int .i64 0]):=by kernel_rfl
theorem Vy:(Tryz.prog.info? 114).bind (·.zero)=some (.agg #[.int .i64 0,.int .i64 0]):=by kernel_rfl
theorem E8:(Tryz.prog.info? 123).bind (·.zero)=some (.agg #[.slice none 0 0,.slice none 0 0,.slice none 0 0]):=by kernel_rfl
theorem Vz:(Tryz.prog.info? 147).bind (·.zero)=some (.agg #[.slice none 0 0,.slice none 0 0]):=by kernel_rfl
theorem VA:(Tryz.prog.info? 164).bind (·.zero)=some (.agg #[.int .i64 0,.int .i64 0]):=by kernel_rfl
theorem VB:(Tryz.prog.info? 171).bind (·.zero)=some (.agg #[.bool false,.bool false,.bool false,.bool false,.bool false]):=by kernel_rfl
theorem L8:(Tryz.prog.info? 175).bind (·.zero)=some (.agg #[.int .i64 0,.int .i64 0,.int .i64 0,.bool false,.bool false,.slice none 0 0]):=by kernel_rfl
theorem VD:(Tryz.prog.info? 189).bind (·.zero)=some (.agg #[.int .i64 0,.int .i64 0]):=by kernel_rfl
theorem VE:(Tryz.prog.info? 194).bind (·.zero)=some (.agg #[.int .i64 0,.int .i64 0,.int .i64 0,.string ⟨#[]⟩,.string ⟨#[]⟩,.int .i64 0,.int .i64 0,.int .i64 0,.int .i64 0,.bool false,.int .i64 0,.bool false,.slice none 0 0]):=by kernel_rfl
theorem VF:(Tryz.prog.info? 236).bind (·.zero)=some (.agg #[.int .i64 0,.int .i64 0,.int .i64 0,.string ⟨#[]⟩,.string ⟨#[]⟩,.int .i64 0,.bool false]):=by kernel_rfl
theorem VG:(Tryz.prog.info? 261).bind (·.zero)=some (.pointer none):=by kernel_rfl
theorem TB:gR Tryz.prog 34=some [.i .i64,.i .i64,.i .i64,.i .i64,.i .i64,.i .i64]:=by kernel_rfl
theorem Yo:gR Tryz.prog 54=some [.i .i64,.i .i64,.i .i64,.i .i64,.s,.s,.i .i64,.i .i64,.i .i64,.b,.i .i64,.i .i64]:=by kernel_rfl
theorem TC:gR Tryz.prog 58=some [.i .i64,.i .i64,.i .i64,.s,.s,.i .i64,.i .i64,.i .i64,.i .i64,.b,.i .i64,.b]:=by kernel_rfl
theorem Yp:gR Tryz.prog 66=some [.i .i64,.i .i64,.i .i64,.i .i64]:=by kernel_rfl
theorem Qj:gR Tryz.prog 76=some [.i .i64,.i .i64,.i .i64,.i .i64]:=by kernel_rfl
theorem VH:gR Tryz.prog 106=some [.i .i64,.i .i64,.i .i64]:=by kernel_rfl
theorem VI:gR Tryz.prog 114=some [.i .i64,.i .i64]:=by kernel_rfl
theorem VJ:gR Tryz.prog 164=some [.i .i64,.i .i64]:=by kernel_rfl
theorem L9:gR Tryz.prog 189=some [.i .i64,.i .i64]:=by kernel_rfl
theorem VK:MV Tryz.prog 236=some [.i .i64,.i .i64,.i .i64,.s,.s,.i .i64,.b]:=by kernel_rfl
def ens:List Nat:=[17,163,189,150,151,114,115,116,123,124,72,125,86,48,85,149,148,110,113,164,165,166,126,70,127,130,83,177,134,186,71,144,40,187,143,139,180,141,181,182,132,133,131,76,77,78,79,80,81,84,227,228,223,224,213,214,222,215,216,203,202,183,184,185,135,136,87,88,89,46,47,49,43,111,65,67,66,68,112,69,39,42,73,37,36,35,38,41,13,30,18,23,12,103,64,108,109,63,145,33,147,107,105,106,104,61,60,59,58,34,62,44,31,32,14,9,10,11,118,156,157,158,100,121,99,159,97,160,117,119,120,161,162,122,74,75,45,137,138,90,91,94,92,93,98,96,54,55,24,50,51,25,95,53,22,52,16,15,20,19,21,26,140,142,101,56,188,146,102,57,29,28,27]
theorem en (i:Nat) {f:Nat} (h:ens[i]?=some f):Go.Abs.Enters Tryz.prog f:=Go.Abs.enters_of (by kernel_rfl) h
def Im:FT:=⟨[3,4,9,22,23,24,27,28,36,45,96,108,119,120,121,234,249,261,272,273],[(26,3),(30,6),(34,6),(38,4),(40,2),(54,12),(58,12),(66,4),(76,4),(79,7),(98,8),(106,3),(114,2),(123,3),(147,2),(164,2),(171,5),(175,6),(189,2),(192,12),(194,13),(236,7)],[(3,1),(4,1),(9,1),(22,1),(23,1),(24,1),(26,3),(27,1),(28,1),(30,6),(34,6),(40,2),(54,12),(58,12),(66,4),(76,4),(79,7),(96,1),(98,8),(106,3),(114,2),(119,1),(120,1),(121,1),(123,3),(147,2),(164,2),(171,5),(175,6),(189,2),(194,13),(236,7),(261,1)],[(26,[(0,0),(1,1),(2,2)]),(30,[(0,0),(1,3),(2,4),(3,5)]),(34,[(0,0),(1,1),(2,2),(3,3),(4,4),(5,5)]),(38,[(0,0),(1,1),(2,2),(3,3)]),(40,[(0,0),(1,1)]),(42,[(0,0),(1,4)]),(54,[(0,0),(1,1),(2,2),(3,3),(4,4),(5,5),(6,6),(7,7),(8,8),(9,9),(10,10),(11,11)]),(58,[(0,0),(1,1),(2,2),(3,3),(4,4),(5,5),(6,6),(7,7),(8,8),(9,9),(10,10),(11,11)]),(66,[(2,2),(3,3)]),(76,[(0,0),(1,1),(2,2),(3,3)]),(79,[(0,0),(1,1),(2,2),(3,3),(4,4),(5,5),(6,6)]),(89,[(0,0)]),(98,[(0,0),(1,1),(3,3),(4,4),(5,5),(6,6),(7,7)]),(106,[(0,0),(1,1),(2,2)]),(123,[(0,0),(1,1),(2,2)]),(147,[(0,0),(1,1)]),(175,[(0,0),(3,3),(4,4),(5,5)]),(192,[(0,0)]),(194,[(0,0),(1,12)]),(275,[(0,0),(1,1),(2,2),(3,3),(4,4),(5,5),(6,6)])],[(26,[aX,aX,aX]),(28,[aX]),(30,[aX,aX,aX,aX,aX,aX]),(34,[cI 0,cI 0,cI 0,cI 0,cI 0,cI 0]),(40,[cI 0,cI 0]),(54,[cI 0,cI 0,cI 0,cI 0,cS ([]:List UInt8),cS ([]:List UInt8),cI 0,cI 0,cI 0,cB false,cI 0,cI 0]),(58,[cI 0,cI 0,cI 0,cS ([]:List UInt8),cS ([]:List UInt8),cI 0,cI 0,cI 0,cI 0,cB false,cI 0,cB false]),(66,[cI 0,cI 0,cI 0,cI 0]),(76,[cI 0,cI 0,cI 0,cI 0]),(79,[cI 0,cI 0,cI 0,cI 0,cS ([]:List UInt8),cS ([]:List UInt8),cI 0]),(98,[cI 0,cI 0,cI 0,cS ([]:List UInt8),aX,aX,cB false,cB false]),(106,[cI 0,cI 0,cI 0]),(114,[cI 0,cI 0]),(123,[aX,aX,aX]),(147,[aX,aX]),(164,[cI 0,cI 0]),(171,[cB false,cB false,cB false,cB false,cB false]),(175,[cI 0,cI 0,cI 0,cB false,cB false,aX]),(189,[cI 0,cI 0]),(194,[cI 0,cI 0,cI 0,cS ([]:List UInt8),cS ([]:List UInt8),cI 0,cI 0,cI 0,cI 0,cB false,cI 0,cB false,aX]),(236,[cI 0,cI 0,cI 0,cS ([]:List UInt8),cS ([]:List UInt8),cI 0,cB false]),(261,[.ex (.pointer none)])]⟩
theorem E9:Im.Ok Tryz.prog:=FT.XZ (by kernel_rfl) ⟨⟨_,Yh,rfl⟩,⟨_,Yi,rfl⟩,⟨_,Na,rfl⟩,⟨_,Yj,rfl⟩,⟨_,Yk,rfl⟩,⟨_,Nb,rfl⟩,⟨_,J9,rfl⟩,⟨_,Yl,rfl⟩,⟨_,Ym,rfl⟩,⟨_,Yn,rfl⟩,⟨_,Qi,rfl⟩,⟨_,Vx,rfl⟩,⟨_,Vy,rfl⟩,⟨_,E8,rfl⟩,⟨_,Vz,rfl⟩,⟨_,VA,rfl⟩,⟨_,VB,rfl⟩,⟨_,L8,rfl⟩,⟨_,VD,rfl⟩,⟨_,VE,rfl⟩,⟨_,VF,rfl⟩,⟨_,VG,rfl⟩,trivial⟩
theorem yM:JY Tryz.prog 22 106 3:=.of Tryz.underlying22 sd rfl rfl
theorem eW:JY Tryz.prog 23 58 12:=.of Tryz.underlying23 gw rfl rfl
theorem DO:JY Tryz.prog 24 76 4:=.of Tryz.underlying24 E5 rfl rfl
theorem Cq:JY Tryz.prog 27 54 12:=.of Tryz.underlying27 Bh rfl rfl
theorem Lk:JY Tryz.prog 28 66 4:=.of Tryz.underlying28 E4 rfl rfl
theorem Ma:JY Tryz.prog 36 79 7:=.of Tryz.underlying36 Tv rfl rfl
theorem DP:JY Tryz.prog 96 9 1:=.of Tryz.underlying96 Ot rfl rfl
theorem Io:JY Tryz.prog 119 175 6:=.of Tryz.underlying119 E7 rfl rfl
theorem tK:JY Tryz.prog 120 98 8:=.of Tryz.underlying120 Ds rfl rfl
theorem nV:JY Tryz.prog 121 3 1:=.of Tryz.underlying121 xW rfl rfl
theorem Sd:JY Tryz.prog 165 23 1:=.of Tryz.underlying165 Qa rfl rfl
end Go.Proofs.YtimkfiaffohhkaaGreatDoor
namespace Go.Abs
open Go.Proofs Go.Proofs.YtimkfiaffohhkaaGreatDoor
section
variable {f:Ctx} {N p p':Nat} {S:Start} {Q:EV->St->Prop} {k k':List Item} {l o l' o':List Oper} {env env':Env} {st st':St} {ps:List Prop}
theorem bp.A (n:Nat) (hs:List Hint) (h:MY Tryz.prog S.base Im N n (.run k) env st hs=some ⟨.run k',env',st',ps⟩) (hp:sb ps) (hk:bp Tryz.prog f N S Q k' env' st'):bp Tryz.prog f N S Q k env st:=tj E9 lN h hp hk
theorem bp.E (n:Nat) (h:MY Tryz.prog S.base Im N n (.run k) env st []=some ⟨.run k',env',st',[]⟩) (hk:bp Tryz.prog f N S Q k' env' st'):bp Tryz.prog f N S Q k env st:=.A n [] h trivial hk
theorem bp.AH (n:Nat) (hs:List Hint) (h:R8 Tryz.prog S.base Im N n (.run k) env st hs=some ⟨.run k',env',st',ps⟩) (hp:sb ps) (hk:bp Tryz.prog f N S Q k' env' st'):bp Tryz.prog f N S Q k env st:=Co E9 lN h hp hk
theorem bp.EH (n:Nat) (h:R8 Tryz.prog S.base Im N n (.run k) env st []=some ⟨.run k',env',st',[]⟩) (hk:bp Tryz.prog f N S Q k' env' st'):bp Tryz.prog f N S Q k env st:=.AH n [] h trivial hk
theorem bp.B (n:Nat) (hs:List Hint) (h:MY Tryz.prog S.base Im N n (.run k) env st hs=some ⟨.ops l' o' k',env',st',ps⟩) (hp:sb ps) (hk:cm Tryz.prog f N S Q l' o' k' env' st'):bp Tryz.prog f N S Q k env st:=tj E9 lN h hp hk
theorem bp.F (n:Nat) (h:MY Tryz.prog S.base Im N n (.run k) env st []=some ⟨.ops l' o' k',env',st',[]⟩) (hk:cm Tryz.prog f N S Q l' o' k' env' st'):bp Tryz.prog f N S Q k env st:=.B n [] h trivial hk
theorem bp.BH (n:Nat) (hs:List Hint) (h:R8 Tryz.prog S.base Im N n (.run k) env st hs=some ⟨.ops l' o' k',env',st',ps⟩) (hp:sb ps) (hk:cm Tryz.prog f N S Q l' o' k' env' st'):bp Tryz.prog f N S Q k env st:=Co E9 lN h hp hk
theorem bp.FH (n:Nat) (h:R8 Tryz.prog S.base Im N n (.run k) env st []=some ⟨.ops l' o' k',env',st',[]⟩) (hk:cm Tryz.prog f N S Q l' o' k' env' st'):bp Tryz.prog f N S Q k env st:=.BH n [] h trivial hk
theorem bp.C (n:Nat) (hs:List Hint) (h:MY Tryz.prog S.base Im N n (.run k) env st hs=some ⟨.draw l' p' o' k',env',st',ps⟩) (hp:sb ps) (hk:u7 Tryz.prog f N S Q l' p' o' k' env' st'):bp Tryz.prog f N S Q k env st:=tj E9 lN h hp hk
theorem cm.A (n:Nat) (hs:List Hint) (h:MY Tryz.prog S.base Im N n (.ops l o k) env st hs=some ⟨.run k',env',st',ps⟩) (hp:sb ps) (hk:bp Tryz.prog f N S Q k' env' st'):cm Tryz.prog f N S Q l o k env st:=tj E9 lN h hp hk
theorem cm.E (n:Nat) (h:MY Tryz.prog S.base Im N n (.ops l o k) env st []=some ⟨.run k',env',st',[]⟩) (hk:bp Tryz.prog f N S Q k' env' st'):cm Tryz.prog f N S Q l o k env st:=.A n [] h trivial hk
theorem cm.AH (n:Nat) (hs:List Hint) (h:R8 Tryz.prog S.base Im N n (.ops l o k) env st hs=some ⟨.run k',env',st',ps⟩) (hp:sb ps) (hk:bp Tryz.prog f N S Q k' env' st'):cm Tryz.prog f N S Q l o k env st:=Co E9 lN h hp hk
theorem cm.EH (n:Nat) (h:R8 Tryz.prog S.base Im N n (.ops l o k) env st []=some ⟨.run k',env',st',[]⟩) (hk:bp Tryz.prog f N S Q k' env' st'):cm Tryz.prog f N S Q l o k env st:=.AH n [] h trivial hk
theorem cm.B (n:Nat) (hs:List Hint) (h:MY Tryz.prog S.base Im N n (.ops l o k) env st hs=some ⟨.ops l' o' k',env',st',ps⟩) (hp:sb ps) (hk:cm Tryz.prog f N S Q l' o' k' env' st'):cm Tryz.prog f N S Q l o k env st:=tj E9 lN h hp hk
theorem cm.F (n:Nat) (h:MY Tryz.prog S.base Im N n (.ops l o k) env st []=some ⟨.ops l' o' k',env',st',[]⟩) (hk:cm Tryz.prog f N S Q l' o' k' env' st'):cm Tryz.prog f N S Q l o k env st:=.B n [] h trivial hk
theorem u7.A (n:Nat) (hs:List Hint) (h:MY Tryz.prog S.base Im N n (.draw l p o k) env st hs=some ⟨.run k',env',st',ps⟩) (hp:sb ps) (hk:bp Tryz.prog f N S Q k' env' st'):u7 Tryz.prog f N S Q l p o k env st:=tj E9 lN h hp hk
theorem u7.E (n:Nat) (h:MY Tryz.prog S.base Im N n (.draw l p o k) env st []=some ⟨.run k',env',st',[]⟩) (hk:bp Tryz.prog f N S Q k' env' st'):u7 Tryz.prog f N S Q l p o k env st:=.A n [] h trivial hk
theorem bp.R {f:FuncId} {fn:Func} {xs:List ResultVar} {es:List EV} (hf:Tryz.prog.funcs[f]?=some fn) (hr:fn.results=xs.toArray) (h:LU Im env st xs=some es) (hQ:Q (EM es) st):bp Tryz.prog (.of f) N S Q (.code .ret::k) env st:=.rc E9 hf hr h hQ
end
end Go.Abs
namespace Go.Proofs.YtimkfiaffohhkaaGreatDoor
end Go.Proofs.YtimkfiaffohhkaaGreatDoor
