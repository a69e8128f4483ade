/- Our own texts of this seat. -/
import Derived.Test.YtpdanklncjopoaaYI0
import Derived.Laws.CopyRow
import Derived.ChangeKeysEq
import Derived.Laws.MakeOwn
import Derived.Lib.AppendZerosOnto
import Derived.WalkKit
import Derived.Lib.Walk
import Derived.Shelf.RegionOpenPlain
import Derived.Lib.Overlaps
import Derived.Lib.SliceRun
import Derived.Lib.JoinLaws
import Derived.RangeFuncLeaves
import Derived.RangeFuncRecord
import Derived.Test.YtpdanklncjopoaaRows
set_option linter.unusedSimpArgs false
set_option linter.unusedVariables false
set_option linter.unusedSectionVars false
set_option maxRecDepth 100000
set_option maxHeartbeats 1000000
namespace Go.Abs
open Go.RowKit
section rules
variable {P:uG} {f:Ctx} {N:Nat} {S:Start} {Q:EV->St->Prop} {k:List Item} {todo:List Item} {base:Nat} {env:Env} {st:St} {ops rest:List Oper}
 {d:Option Tmp} {ty:uE} {pos:String} {after:uD Edge} {gd:Option (Nat×Bool)} {t t2 e:uE} {x y z:uH}
section sl
variable {α:Type} {sz:Nat} {row:α->List D} {l:List α} {ev:EV} {inf:TypeInfo} {tk n:Nat}
theorem BP {l':O α} {zv v u:uB} {d2:TypeDesc} {g:br} {w:uC} {news:O uB} (ht:P.underlying t=some (.slice e)) (vP:P.underlying t2=some d2) (zX:d2=.string∨∃ e2,d2=.slice e2)
  (hi:P.info? e=some inf) (hz:inf.zero=some zv) (cM:inf.size=sz) (m9:zv.cells.size=sz) (hb:inf.bytes<=100000) (hinv:Inv g base w st) (hv:v=g.tk tk) (dO:st.al[tk]?=some ⟨e,sz,n,some (l.map row)⟩)
  (hn:l.length+l'.length<=1000000000) (pz:r5 P g.bl w sz u (l'.map row) news) :
  ∃ v' g' w',(Builtin.append_ #[t,t2] ty #[v,u]).run P w=.ok v' w'/\bm g' w' (st.a8 tk ⟨e,sz,(l++l').length,some ((l++l').map row)⟩) (.vc tk (l++l').length) v' /\
   Inv g' base w' (st.a8 tk ⟨e,sz,(l++l').length,some ((l++l').map row)⟩)/\Step base g w st g' w' (st.a8 tk ⟨e,sz,(l++l').length,some ((l++l').map row)⟩):=by
 obtain ⟨GW,xs,nv,tR,SE⟩:=Km hinv dO hv
 have Rx:n=l.length:=by have:=SE.len;simpa using this.symm
 have hm:(l'.map row).length=l'.length:=by simp
 obtain ⟨v',w',r7,im,ML,hc⟩:=pb (P:=P) (ty:=ty) w ht vP zX hi hz cM m9 nv pz.src (by simp only[maxLen];rw[hm];omega) (by rw[hm,Rx];exact tW hn hb) hinv.base
 rw[hm] at im ML
 have e1:(l++l').length=n+l'.length:=by rw[List.length_append,Rx]
 rw[e1]
 rw[GW] at hc ML
 have od:e7 g.bl w sz (n+l'.length) ((l++l').map row) (xs++news):=by
  refine ⟨by simp[Rx],λr hr=>?_,λj c u wX hu=>?_⟩
  ·rw[List.map_append] at hr
   rcases List.mem_append.1 hr with h|h
   ·exact SE.row r h
   ·exact pz.rows r h
  ·rw[List.map_append,List.flatten_append] at wX
   have By:=jw SE.row
   have Ii:=nv.1
   rw[SE.len] at By
   by_cases hj:j<xs.length
   ·rw[List.getElem?_append_left hj] at hu
    rw[List.getElem?_append_left (by omega)] at wX
    exact SE.rep j c u wX hu
   ·rw[List.getElem?_append_right (by omega)] at hu
    rw[List.getElem?_append_right (by omega)] at wX
    have e2:((l.map row).flatten).length=xs.length:=by omega
    rw[e2] at wX
    exact pz.rep _ u c hu wX
 obtain ⟨g',q1,q2,q3,q4⟩:=hinv.JW (x':=⟨e,sz,n+l'.length,some ((l++l').map row)⟩) dO im hc (λhh=>by cases hh) (λrows _ aY _=>⟨rfl,Nat.le_add_right _ _,λe=>ML (by simp only at e;omega)⟩) (λrows hh=>by cases hh;exact od)
 refine ⟨v',g',w',r7,?_,q3,q4⟩
 have hlen:tk<st.al.length:=(List.getElem?_eq_some_iff.1 dO).1
 obtain ⟨⟨A,c,hv⟩,_⟩:=yj im
 refine .vc _ _ _ (by simpa [St.a8] using hlen) ⟨A,_,c,hv⟩ λy rows hy ho=>?_
 have:y=⟨e,sz,n+l'.length,some ((l++l').map row)⟩:=by
  have:(⟨e,sz,n+l'.length,some ((l++l').map row)⟩:fZ)=y:=by simpa [St.a8,List.getElem?_set,hlen] using hy
  exact this.symm
 subst this
 exact ⟨Nat.le_refl _,λ_=>.inl q1.symm⟩
theorem wK {l':O α} {zv v u:uB} {d2:TypeDesc} {g:br} {w:uC} {news:O uB} (ht:P.underlying t=some (.slice e)) (vP:P.underlying t2=some d2) (zX:d2=.string∨∃ e2,d2=.slice e2)
  (hi:P.info? e=some inf) (hz:inf.zero=some zv) (cM:inf.size=sz) (m9:zv.cells.size=sz) (hb:inf.bytes<=100000) (hinv:Inv g base w st) (hv:bm g w st (.vc tk n) v) (dO:st.al[tk]?=some ⟨e,sz,n,some (l.map row)⟩)
  (hn:l.length+l'.length<=1000000000) (pz:r5 P g.bl w sz u (l'.map row) news) :
  ∃ v' g' w',(Builtin.append_ #[t,t2] ty #[v,u]).run P w=.ok v' w'/\bm g' w' (st.a8 tk ⟨e,sz,(l++l').length,some ((l++l').map row)⟩) (.vc tk (l++l').length) v' /\
   Inv g' base w' (st.a8 tk ⟨e,sz,(l++l').length,some ((l++l').map row)⟩)/\Step base g w st g' w' (st.a8 tk ⟨e,sz,(l++l').length,some ((l++l').map row)⟩):=by
 rcases G7 hinv dO hv with GW|⟨n0,r0,A,hA⟩
 ·exact BP ht vP zX hi hz cM m9 hb hinv GW dO hn pz
 ·subst n0
  have hl:l=[]:=by simpa using r0
  subst hl
  have hlen:tk<st.al.length:=(List.getElem?_eq_some_iff.1 dO).1
  have hm:(l'.map row).length=l'.length:=by simp
  obtain ⟨q1,q2⟩:=xS (P:=P) (ty:=ty) ht vP zX hi hz cM pz.src (by simp at hn ⊢;omega) (by rw[hm];exact tW (by simpa using hn) hb) A
  by_cases h0:l'.length=0
  ·have MG:l'=[]:=List.eq_nil_of_length_eq_zero h0
   subst MG
   have iq:st.a8 tk ⟨e,sz,([]++[]:O α).length,some (([]++[]:O α).map row)⟩=st:=by
    have h3:st.al[tk]=⟨e,sz,0,some (([]:O α).map row)⟩:=(List.getElem?_eq_some_iff.1 dO).2
    unfold St.a8
    show (⟨st.aR,st.al.set tk ⟨e,sz,0,some (([]:O α).map row)⟩⟩:St)=st
    rw[←h3,List.set_getElem_self]
   rw[iq]
   exact ⟨v,g,w,by rw[hA];exact q1 rfl,Kn hlen dO ⟨A,hA⟩,hinv,.refl _ _ _ _⟩
  ·obtain ⟨v',w',r7,im,_,hc⟩:=pb (P:=P) (ty:=ty) w ht vP zX hi hz cM m9 (World.ownsRow_nil w base e sz) pz.src (by simp only[maxLen];rw[hm];simp at hn;omega) (by rw[hm];exact tW (by simpa using hn) hb) hinv.base
   rw[hm] at im
   have kn:v'.ownBlock=some w.heap.size/\Below w.heap.size w w':=by
    rcases hc with ⟨h1,_⟩|h
    ·exfalso
     rcases im.2 with ⟨_,h2⟩|⟨gb,cap,cur,h2,_⟩
     ·exact h0 (by omega)
     ·rw[h2] at h1;cases h1
    ·exact h
   have e1:([]++l':O α).length=0+l'.length:=by simp
   rw[e1]
   have od:e7 g.bl w sz (0+l'.length) (([]++l':O α).map row) ([]++news):=by
    refine ⟨by simp,λr hr=>pz.rows r (by simpa using hr),λj c u wX hu=>?_⟩
    exact pz.rep j u c (by simpa using hu) (by simpa using wX)
   obtain ⟨g',Xh,Yg,q3,q4⟩:=hinv.JW (x':=⟨e,sz,0+l'.length,some (([]++l':O α).map row)⟩) dO im (.inr kn) (λhh=>by cases hh) (λrows _ aY _=>⟨rfl,Nat.zero_le _,λe=>absurd e (by simp only;omega)⟩) (λrows hh=>by cases hh;exact od)
   refine ⟨v',g',w',by rw[hA,q2 (by rw[hm];exact h0)];exact r7,?_,q3,q4⟩
   obtain ⟨⟨A',c,J1⟩,_⟩:=yj im
   refine .vc _ _ _ (by simpa [St.a8] using hlen) ⟨A',_,c,J1⟩ λy rows hy ho=>?_
   have:y=⟨e,sz,0+l'.length,some (([]++l':O α).map row)⟩:=by
    have:(⟨e,sz,0+l'.length,some (([]++l':O α).map row)⟩:fZ)=y:=by simpa [St.a8,List.getElem?_set,hlen] using hy
    exact this.symm
   subst this
   exact ⟨Nat.le_refl _,λ_=>.inl Xh.symm⟩
theorem BQ {l':O α} {zv:uB} {d2:TypeDesc} (ht:P.underlying t=some (.slice e)) (vP:P.underlying t2=some d2) (zX:d2=.string∨∃ e2,d2=.slice e2)
  (hi:P.info? e=some inf) (hz:inf.zero=some zv) (cM:inf.size=sz) (m9:zv.cells.size=sz) (hb:inf.bytes<=100000) (hx:bI env x=some (.vc tk n)) (dO:st.al[tk]?=some ⟨e,sz,n,some (l.map row)⟩)
  (hn:l.length+l'.length<=1000000000)
  (C4:∀ (g:br) (w:uC) (tmps:uD uB),Inv g base w st->cJ g w st env tmps->∃ news,r5 P g.bl w sz (Act.eval ⟨tmps,[]⟩ y) (l'.map row) news) :
  tQ P base env st ⟨d,.call ⟨.builtin .append,#[x,y],#[t,t2]⟩,ty,pos,after,gd⟩ (.vc tk (l++l').length) (st.a8 tk ⟨e,sz,(l++l').length,some ((l++l').map row)⟩):=by
 intro g w tmps hinv he
 obtain ⟨news,pz⟩:=C4 g w tmps hinv he
 obtain ⟨v',g',w',r7,h1,h2,h3⟩:=wK (ty:=ty) ht vP zX hi hz cM m9 hb hinv (aA he hx) dO hn pz
 exact ⟨v',g',w',by simp[execOp,resolve,invoke,builtin,r7],h1,h2,h3⟩
theorem vZ {l':O α} {zv:uB} {w:EV} (ht:P.underlying t=some (.slice e)) (hi:P.info? e=some inf) (hz:inf.zero=some zv) (cM:inf.size=sz) (m9:zv.cells.size=sz) (hb:inf.bytes<=100000)
  (hx:bI env x=some (.vc tk n)) (dO:st.al[tk]?=some ⟨e,sz,n,some (l.map row)⟩) (hy:bI env y=some w) (hs:oa w=some (sz,l'.map row)) (hn:l.length+l'.length<=1000000000) :
  tQ P base env st ⟨d,.call ⟨.builtin .append,#[x,y],#[t,t]⟩,ty,pos,after,gd⟩ (.vc tk (l++l').length) (st.a8 tk ⟨e,sz,(l++l').length,some ((l++l').map row)⟩) :=
 BQ ht ht (.inr ⟨e,rfl⟩) hi hz cM m9 hb hx dO hn λg w tmps _ he=>pS (ko hs (aA he hy))
end sl
end rules
section rules
variable {P:uG} {f:Ctx} {N:Nat} {S:Start} {Q:EV->St->Prop} {k:List Item} {todo:List Item} {base:Nat} {env:Env} {st:St} {ops rest:List Oper}
 {d:Option Tmp} {ty:uE} {pos:String} {after:uD Edge} {gd:Option (Nat×Bool)} {t t2 e:uE} {x y z u:uH}
section arr
variable {α:Type} {c1:α->D} {l:List α} {o:Nat} {T:uE}
theorem Ix {n:Nat} {kk:IntKind} {i:Int} (ht:P.underlying t=some (.array n e)) (hi:∃ inf,P.info? e=some inf/\inf.size=1) (hx:bI env x=some (.ref o 0)) (hy:bI env y=some (.d (.ex (.int kk i)))) (h:0<=i/\i<(n:Int)) :
  az P env st ⟨d,.indexAddr t x y,ty,pos,after,gd⟩ (.ref o i.toNat):=by
 have:=gB (st:=st) (d:=d) (ty:=ty) (pos:=pos) (after:=after) (gd:=gd) (m:=i.toNat) ht hi hx hy (by omega) (by omega)
 simpa using this
theorem FQ {i:Nat} {a:α} (hx:bI env x=some (.ref o i)) (hy:bI env y=some (.d (c1 a))) (ho:st.aR[o]?=some (.row T (l.map λb=>EV.d (c1 b)))) (hc:dj (.d (c1 a))=some [.d (c1 a)]) (hi:i<l.length)
  (hs:(P.info? t).map (·.size)=some 1):CN P base env st ⟨d,.store t x y,ty,pos,after,gd⟩ (st.set o (.row T ((l.set i a).map λb=>EV.d (c1 b)))):=by
 have:=qJ (base:=base) (d:=d) (ty:=ty) (pos:=pos) (after:=after) (gd:=gd) hx hy ho hc (by simp;omega) hs
 have e1:putCells (l.map λb=>EV.d (c1 b)) i [.d (c1 a)]=(l.set i a).map λb=>EV.d (c1 b):=by
  unfold putCells
  rw[List.map_set,List.set_eq_take_append_cons_drop,if_pos (by simpa using hi)]
  simp
 rwa [e1] at this
end arr
end rules
theorem lB {n m:Nat} {κ α:Type} {ke:κ->uB} {val:α->D} {l:O (κ×α)}:kq n m (.map (vT ke val l))=true:=by
 unfold kq vT
 rw[List.all_eq_true]
 intro p hp
 obtain ⟨q,_,rfl⟩:=List.mem_map.1 hp
 rfl
theorem FR {ρ τ:Nat->Nat} {κ α:Type} {ke:κ->uB} {val:α->D} {l:O (κ×α)}:fm.ren ρ τ (.map (vT ke val l))=.map (vT ke val l):=by
 simp[fm.ren,vT,EV.ren]
theorem FU {ρ τ:Nat->Nat} {T:uE} {α:Type} {l:O α} {c1:α->D}:fm.ren ρ τ (.row T (l.map λb=>EV.d (c1 b)))=.row T (l.map λb=>EV.d (c1 b)):=by
 have h:∀ l:O α,EV.ren.BL ρ τ (l.map λb=>EV.d (c1 b))=l.map λb=>EV.d (c1 b):=by
  intro l
  induction l with
  | nil=>rfl
  | cons x l ih=>rw[List.map_cons,EV.ren.BL,ih];rfl
 rw[fm.ren,h]
section v
variable {P:uG} {base:Nat} {env:Env} {st:St} {d:Option Tmp} {ty:uE} {pos:String} {after:uD Edge} {gd:Option (Nat×Bool)} {t t2:uE} {x y:uH}
theorem Dv {o m n:Nat} {T e:uE} {l:O uA} (hs:P.underlying t=some (.slice e)) (rX:P.underlying e=some (.int .u8)) (hd:P.underlying t2=some .string) (hx:bI env x=some (.wW o (0+m*1) (n-m) (n-m)))
  (ho:st.aR[o]?=some (.row T (l.map λb=>EV.d (uW b)))) (hn:l.length=n):az P env st ⟨d,.convert t t2 x,ty,pos,after,gd⟩ (.d (cS (l.drop m))) :=
 Ke hs rX hd hx ho (by simp[hn]) λj b hj=>by
  rw[List.getElem?_drop] at hj
  rw[Nat.zero_add,Nat.mul_one,List.getElem?_map,hj];rfl
end v
section drawn
variable {P:uG} {f:Ctx} {N:Nat} {S:Start} {Q:EV->St->Prop} {k:List Item}
def UX (P:uG) (base:Nat) (l:List Oper) (env:Env) (st:St) (o:Oper) (x:EV) (st':St):Prop :=
 (st'=st/\oh P l env st o x)∨(o.guard=none/\tQ P base env st o x st')∨(o.guard=none/\x=.d .any/\CN P base env st o st')
theorem Dw {l:O Oper} {p:Nat} {env:Env} {xs:O EV} (F:(Nat->Bool)->St->Prop) (hp:p<=l.length) (OO:xs.length=p)
  (Sd:∀ i j t,i<p->j<p->i≠j->cG l i=some t->cG l j≠some t)
  (OK:∀ (i:Nat) o,i<p->l[i]?=some o->∀ t∈Da l o,∀ j,j<p->j≠i->cG l j=some t->(j<i/\((cN l []).getD i 0).testBit j=true)∨(i<j/\((cN l []).getD j 0).testBit i=true))
  (xV:∀ i,p<=i->i<l.length->∀ j,j<i->((cN l []).getD i 0).testBit j=true)
  (rD:∀ (i:Nat) o,l[i]?=some o->∀ e∈o.after,Region.binds .any e=true->e.on<i)
  (nn:∀ (L:Nat->Bool) (st:St) (i:Nat) (o:Oper),i<p->l[i]?=some o->L i=false->(∀ j,((cN l []).getD i 0).testBit j=true->L j=true)->(∀ a,L a=true->∀ b,((cN l []).getD a 0).testBit b=true->L b=true)->F L st ->
   dZ N o.dst=true/\∃ x st',xs[i]?=some x/\UX P S.base l (ir l o (dE env ((l.take p).take i) (xs.take i))) st o x st'/\F (λj=>j==i || L j) st')
  (vR:∀ (L:Nat->Bool) (st:St),(∀ i,i<p->L i=true)->F L st->cn P f N S Q l (l.drop p) k (dE env (l.take p) xs) st) :
  ∀ (zQ fuel t:Nat) (ar:uD Bool) (g:br) (w:uC) (tmps:uD uB) (st:St),F (λi=>ar.getD i false) st->ar.size=l.length->qN l ar->(∀ i,p<=i->i<l.length->ar.getD i true=false) ->
   (((List.range p).filter λi=>!ar.getD i true).length=zQ)->zQ+(l.length-p)<=fuel->Inv g S.base w st->th S g w st->tmps.size=N ->
   (∀ (s:Tmp),(∀ (j:Nat) x,j<p->ar.getD j false=true->cG l j=some s->xs[j]?=some x->∃ v,tmps[s]?=some v/\bm g w st x v) /\
    ((∀ j,j<p->ar.getD j false=true->cG l j≠some s)->∀ y,lookup s env=some y->∃ v,tmps[s]?=some v/\bm g w st y v)) ->
   dv P f (pO S Q) (.inRegion l.toArray (Region.linearise.go .any l.toArray fuel t ar [])::k) tmps w:=by
 have Ii:xs.length=(l.take p).length:=by simp;omega
 have UG:=OO
 intro zQ
 induction zQ with
 | zero =>
  intro fuel t ar g w tmps st hF hs AB J3 uU Db hinv hh hN hJ
  have lJ:∀ i,i<p->ar.getD i true=true:=by
   intro i hi
   have h0:=List.eq_nil_of_length_eq_zero uU
   have hn:i ∉ (List.range p).filter λi=>!ar.getD i true:=by rw[h0];simp
   rw[List.mem_filter,List.mem_range] at hn
   cases hb:ar.getD i true with
   | true=>rfl
   | false=>exact absurd ⟨hi,by simp[hb]⟩ hn
  have Se:=sZ xV rD fuel t p ar (Nat.le_refl _) hp (by omega) hs (λi hi=>by
   by_cases h:i<p
   ·rw[lJ i h];simp[h]
   ·rw[J3 i (by omega) hi];simp[h])
  rw[Se]
  have MQ:(l.drop p).length=l.length-p:=by simp
  rw[←MQ]
  have GY:∀ i,i<p->ar.getD i false=true:=λi hi=>by
   have:=lJ i hi
   have cd:i<ar.size:=by omega
   simpa [Array.getD_eq_getD_getElem?,cd] using this
  refine vR _ st GY hF p (λj=>by rw[List.getElem?_drop]) g w tmps hinv hh (λs y hy=>?_) hN
  rcases fA Ii hy with ⟨j,o,h1,h2,h3⟩|⟨h1,h2⟩
  ·have hj:j<p:=by have:=(List.getElem?_eq_some_iff.1 h2).1;omega
   have ho:l[j]?=some o:=by rw[List.getElem?_take] at h1;rw[if_pos hj] at h1;exact h1
   exact (hJ s).1 j y hj (GY j hj) (by simp[cG,ho,h3]) h2
  ·refine (hJ s).2 (λj hj _ hd=>?_) y h2
   cases ho:l[j]? with
   | none=>simp[cG,ho] at hd
   | some o=>exact h1 j o (by rw[List.getElem?_take,if_pos hj];exact ho) (by simpa [cG,ho] using hd)
 | succ zQ ih =>
  intro fuel t ar g w tmps st hF hs AB J3 uU Db hinv hh hN hJ
  obtain ⟨fuel,rfl⟩:∃ n,fuel=n+1:=⟨fuel-1,by omega⟩
  -- an operation of the beginning that has not come up
  have hex:∃ i,i<p/\ar.getD i true=false:=by
   have:(List.range p).filter (λi=>!ar.getD i true)≠[]:=λh=>by rw[h] at uU;simp at uU
   obtain ⟨i,hi⟩:=List.exists_mem_of_ne_nil _ this
   rw[List.mem_filter,List.mem_range] at hi
   exact ⟨i,hi.1,by simpa using hi.2⟩
  have Ik:∀ i,i<l.length->ar.getD i false=ar.getD i true:=λi hi=>by
   have cd:i<ar.size:=by omega
   simp[Array.getD_eq_getD_getElem?,cd]
  have PH:((List.range l.toArray.size).filter λi=>!ar.getD i true && ((l.toArray[i]?).map (·.after.all λe=>!Region.binds .any e || ar.getD e.on false)).getD false)=Region.ready .any l.toArray ar:=rfl
  -- the least such is ready
  have dq:Region.ready .any l.toArray ar≠[]:=by
   have J4:∀ n i,i<=n->i<p->ar.getD i true=false->∃ i,i<p/\ar.getD i true=false/\∀ j,j<i->ar.getD j true=true:=by
    intro n
    induction n with
    | zero=>intro i hi J5 h;exact ⟨i,J5,h,λj hj=>by omega⟩
    | succ n Sf =>
     intro i hi J5 h
     by_cases Jx:∃ j,j<i/\ar.getD j true=false
     ·obtain ⟨j,hj,AD⟩:=Jx
      exact Sf j (by omega) (by omega) AD
     ·refine ⟨i,J5,h,λj hj=>?_⟩
      cases hb:ar.getD j true with
      | true=>rfl
      | false=>exact absurd ⟨j,hj,hb⟩ Jx
   obtain ⟨i0,h0,h1⟩:=hex
   obtain ⟨i,BG,Dc,iX⟩:=J4 i0 i0 (Nat.le_refl _) h0 h1
   have lA:i<l.length:=by omega
   have:i∈Region.ready .any l.toArray ar:=by
    rw[mem_ready]
    refine ⟨Dc,l[i],by simp[lA],λe he hb=>?_⟩
    have cd:=rD i l[i] (List.getElem?_eq_getElem lA) e he hb
    rw[Ik _ (by omega)]
    exact iX _ cd
   intro xQ
   rw[xQ] at this
   cases this
  simp only[Region.linearise.go,PH]
  have hlen:0<(Region.ready .any l.toArray ar).length:=List.length_pos_iff.2 dq
  have tT:=Nat.mod_lt t hlen
  generalize hi:(Region.ready .any l.toArray ar)[t % (Region.ready .any l.toArray ar).length]=i
  have wJ:(Region.ready .any l.toArray ar)[t % (Region.ready .any l.toArray ar).length]?=some i:=by rw[List.getElem?_eq_getElem tT,hi]
  rw[wJ]
  simp only[]
  rw[linearise_go_acc]
  have Rs:i∈Region.ready .any l.toArray ar:=List.mem_of_getElem? wJ
  obtain ⟨Dc,o,ho,lJ⟩:=mem_ready.1 Rs
  have kj:l[i]?=some o:=by simpa using ho
  have lA:=(List.getElem?_eq_some_iff.1 kj).1
  have oi:=qP AB kj (λe he hb=>lJ e he hb)
  have BG:i<p:=by
   rcases Nat.lt_or_ge i p with h|h
   ·exact h
   ·obtain ⟨i0,h0,h1⟩:=hex
    have:=oi i0 (xV i h lA i0 (by omega))
    rw[Ik i0 (by omega),h1] at this
    cases this
  obtain ⟨hd,x,st',hx,qH,UY⟩:=nn _ st i o BG kj (by show ar.getD i false=false;rw[Ik i lA,Dc]) oi (λa ha b hb=>by
   have Sg:=qO AB l [] (by simp) (by simp)
   have Si:(cN l [])[a]?=some ((cN l []).getD a 0):=by
    cases hm:(cN l [])[a]? with
    | none=>rw[List.getD_eq_getElem?_getD,hm] at hb;simp at hb
    | some m=>rw[List.getD_eq_getElem?_getD,hm];rfl
   exact Sg a _ Si ha b hb) hF
  have Xi:(λj=>(ar.setIfInBounds i true).getD j false)=λj=>j==i || ar.getD j false:=by
   funext j
   by_cases gX:j=i
   ·subst gX;simp[Array.getD_eq_getD_getElem?,hs,lA]
   ·rw[getD_set_ne false (Ne.symm gX)];simp[gX]
  have Sg:=qO AB l [] (by simp) (by simp)
  -- what the operation looks at
  have he:cJ g w st (ir l o (dE env ((l.take p).take i) (xs.take i))) tmps:=by
   intro s y hy
   obtain ⟨GZ,CO⟩:=oe hy
   rcases fA (by simp[Ii]) CO with ⟨j,o',h1,h2,h3⟩|⟨h1,h2⟩
   ·have gX:j<i:=by have:=(List.getElem?_eq_some_iff.1 h2).1;simp at this;omega
    have uV:l[j]?=some o':=by
     rw[List.getElem?_take,if_pos gX,List.getElem?_take,if_pos (by omega)] at h1;exact h1
    have pd:cG l j=some s:=by simp[cG,uV,h3]
    rcases OK i o BG kj s GZ j (by omega) (by omega) pd with ⟨_,hb⟩|⟨cd,_⟩
    ·exact (hJ s).1 j y (by omega) (oi j hb) pd (by rw[List.getElem?_take,if_pos gX] at h2;exact h2)
    ·omega
   ·refine (hJ s).2 (λj hj s5 pd=>?_) y h2
    by_cases gX:j=i
    ·subst gX
     rw[Ik j lA,Dc] at s5
     cases s5
    ·rcases OK i o BG kj s GZ j hj gX pd with ⟨cd,_⟩|⟨cd,hb⟩
     ·cases uV:l[j]? with
      | none=>simp[cG,uV] at pd
      | some o'=>exact h1 j o' (by rw[List.getElem?_take,if_pos cd,List.getElem?_take,if_pos hj];exact uV) (by simpa [cG,uV] using pd)
     ·have AD:j<l.length:=by omega
      have Si:(cN l [])[j]?=some ((cN l []).getD j 0):=by
       cases hm:(cN l [])[j]? with
       | none=>rw[List.getD_eq_getElem?_getD,hm] at hb;simp at hb
       | some m=>rw[List.getD_eq_getElem?_getD,hm];rfl
      have:=Sg j _ Si s5 i hb
      rw[Ik i lA,Dc] at this
      cases this
  -- what remains behind it
  have Dd:((List.range p).filter λj=>!(ar.setIfInBounds i true).getD j true).length=zQ:=by
   have tU:∀ j,(ar.setIfInBounds i true).getD j true=(ar.getD j true || decide (j=i)):=by
    intro j
    by_cases gX:j=i
    ·subst gX;simp[Array.getD_eq_getD_getElem?,hs,lA]
    ·rw[getD_set_ne true (Ne.symm gX)];simp[gX]
   have J6:((List.range p).filter λj=>!(ar.setIfInBounds i true).getD j true)=((List.range p).filter λj=>!ar.getD j true).filter λj=>!decide (j=i):=by
    rw[List.filter_filter]
    refine List.filter_congr λj _=>?_
    rw[tU j]
    cases ar.getD j true<;>simp
   rw[J6]
   have OJ:((List.range p).filter λj=>!ar.getD j true).Nodup:=List.nodup_range.filter _
   have sa:i∈(List.range p).filter λj=>!ar.getD j true:=by rw[List.mem_filter,List.mem_range];exact ⟨BG,by simp[Dc]⟩
   have xW:∀ (L:O Nat),L.Nodup->i∈L->(L.filter λj=>!decide (j=i)).length+1=L.length:=by
    intro L
    induction L with
    | nil=>intro _ h;cases h
    | cons a L Sj =>
     intro hn hm
     rw[List.nodup_cons] at hn
     by_cases ha:a=i
     ·subst ha
      have:(L.filter λj=>!decide (j=a))=L:=by
       rw[List.filter_eq_self]
       intro b hb
       have:b≠a:=λe=>hn.1 (e▸hb)
       simp[this]
      rw[List.filter_cons]
      simp[this]
     ·have wF:i∈L:=by
       rcases List.mem_cons.1 hm with h|h
       ·exact absurd h.symm ha
       ·exact h
      rw[List.filter_cons]
      simp only[ha,decide_false,Bool.not_false,if_true,List.length_cons]
      rw[Sj hn.2 wF]
   have:=xW _ OJ sa
   omega
  have J7:qN l (ar.setIfInBounds i true):=by
   intro j oj uV s5 e rX hb
   by_cases gX:j=i
   ·subst gX
    rw[kj] at uV
    cases uV
    exact getD_set_true (lJ e rX hb)
   ·rw[getD_set_ne false (Ne.symm gX)] at s5
    exact getD_set_true (AB j oj uV s5 e rX hb)
  have J8:∀ j,p<=j->j<l.length->(ar.setIfInBounds i true).getD j true=false:=λj hj AD=>by rw[getD_set_ne true (by omega)];exact J3 j hj AD
  -- the step
  have next:∀ (g':br) (w':uC) (v:uB),bm g' w' st' x v->Inv g' S.base w' st'->Step S.base g w st g' w' st' ->
    dv P f (pO S Q) (.inRegion l.toArray (Region.linearise.go .any l.toArray fuel (t / (Region.ready .any l.toArray ar).length) (ar.setIfInBounds i true) [])::k) (Act.put ⟨tmps,[]⟩ o.dst v).tmps w':=by
   intro g' w' v wG cF lH
   refine ih fuel _ _ _ w' _ st' (by rw[Xi];exact UY) (by simpa using hs) J7 J8 Dd (by omega) cF (hh.step lH) (by rw[fp];exact hN) λs=>⟨λj y hj s5 pd hy=>?_,λG0 y hy=>?_⟩
   ·by_cases gX:j=i
    ·subst gX
     have De:o.dst=some s:=by simpa [cG,kj] using pd
     rw[hx] at hy
     cases hy
     rw[De]
     have iW:s<tmps.size:=by
      rw[De] at hd
      have Sk:s+1<=N:=Nat.le_of_ble_eq_true hd
      rw[hN]
      exact Sk
     exact ⟨v,by simp[Act.put,iW],wG⟩
    ·rw[getD_set_ne false (Ne.symm gX)] at s5
     obtain ⟨u,h1,h2⟩:=(hJ s).1 j y hj s5 pd hy
     have mG:o.dst≠some s:=λe=>Sd j i s hj BG gX pd (by simp[cG,kj,e])
     refine ⟨u,?_,h2.mono lH.du⟩
     cases J9:o.dst with
     | none=>exact h1
     | some d =>
      have:d≠s:=λe=>mG (by rw[J9,e])
      simp[Act.put,Array.getElem?_setIfInBounds,this,h1]
   ·have mG:o.dst≠some s:=λe=>G0 i BG (by simp[Array.getD_eq_getD_getElem?,hs,lA]) (by simp[cG,kj,e])
    obtain ⟨u,h1,h2⟩:=(hJ s).2 (λj hj s5=>G0 j hj (by
     by_cases gX:j=i
     ·subst gX;simp[Array.getD_eq_getD_getElem?,hs,lA]
     ·rw[getD_set_ne false (Ne.symm gX)];exact s5)) y hy
    refine ⟨u,?_,h2.mono lH.du⟩
    cases J9:o.dst with
    | none=>exact h1
    | some d =>
     have:d≠s:=λe=>mG (by rw[J9,e])
     simp[Act.put,Array.getElem?_setIfInBounds,this,h1]
  have zR:l.toArray[i]?=some o:=ho
  show dv P f (pO S Q) (.inRegion l.toArray (i::_)::k) tmps w
  have sj:st'=st->∀ (b9:Nat->Nat) (w':uC) (v:uB),Good g w st x b9 w' v ->
    dv P f (pO S Q) (.inRegion l.toArray (Region.linearise.go .any l.toArray fuel (t / (Region.ready .any l.toArray ar).length) (ar.setIfInBounds i true) [])::k) (Act.put ⟨tmps,[]⟩ o.dst v).tmps w':=by
   rintro rfl b9 w' v ⟨wG,hb,hl⟩
   obtain ⟨cF,lH⟩:=hinv.grow (g':={ g with bl:=b9 }) hb hl rfl rfl
   exact next _ w' v wG cF lH
  rcases qH with ⟨Io,qH⟩|⟨hg,qH⟩|⟨hg,rfl,qH⟩
  ·rcases qH with ⟨hg,qH⟩|⟨j,want,tt,c,b,y,env',hg,hj,Sl,Sn,rfl,hE,qH⟩
   ·have hw:Region.wanted o (yielded l.toArray tmps)=true:=by simp[Region.wanted,hg]
    rcases qH g S.base w tmps hinv he with ⟨v,b9,w',hr,sb⟩|⟨f',args,hr,hc⟩
    ·exact dv.value zR hw hr (sj Io b9 w' v sb)
    ·exact dv.call zR hw hr (hc.mono λe w' ⟨v,b9,h1,h2⟩=>⟨v,h1,sj Io b9 w' v h2⟩)
   ·obtain ⟨u,hu,So⟩:=he tt c Sl
    have hw:Region.wanted o (yielded l.toArray tmps)=b:=by
     rw[←pQ Sn So]
     have Fx:((l.toArray)[j]?).bind (·.dst)=some tt:=by simpa using hj
     simp only[Region.wanted,hg,yielded,Fx,Option.bind_some,hu]
     cases u<;>rfl
    cases b with
    | false=>exact dv.rY zR hw (sj Io g.bl w undef ⟨.gd _ _ _ (λ_=>rfl) (λh=>by cases h),.refl _ _,λ_ _=>rfl⟩)
    | true =>
     have wrap:∀ b9 w' v,Good g w st y b9 w' v->Good g w st (.gd true y) b9 w' v:=λb9 w' v ⟨a,b,c⟩=>⟨.gd _ _ _ (λh=>by cases h) (λ_=>a),b,c⟩
     rcases qH rfl g S.base w tmps hinv (he.gd hE rfl) with ⟨v,b9,w',hr,sb⟩|⟨f',args,hr,hc⟩
     ·exact dv.value zR hw hr (sj Io b9 w' v (wrap _ _ _ sb))
     ·exact dv.call zR hw hr (hc.mono λe w' ⟨v,b9,h1,h2⟩=>⟨v,h1,sj Io b9 w' v (wrap _ _ _ h2)⟩)
  ·have hw:Region.wanted o (yielded l.toArray tmps)=true:=by simp[Region.wanted,hg]
   obtain ⟨v,g',w',hr,wG,cF,lH⟩:=qH g w tmps hinv he
   exact dv.value zR hw hr (next g' w' v wG cF lH)
  ·have hw:Region.wanted o (yielded l.toArray tmps)=true:=by simp[Region.wanted,hg]
   obtain ⟨g',w',hr,cF,lH⟩:=qH g w tmps hinv he
   exact dv.skip zR hw hr (next g' w' undef (.d _ _ (.any _)) cF lH)
theorem ba.P2 {id:Nat} {l:O Oper} {env:Env} {st:St} (p:Nat) (xs:O EV) (F:(Nat->Bool)->St->Prop) (hm:P.follows .mixedOrders=true) (hB:og l p=true) (OO:xs.length=p) (UZ:F (λ_=>false) st)
  (nn:∀ (L:Nat->Bool) (st:St) (i:Nat) (o:Oper),i<p->l[i]?=some o->L i=false->(∀ j,((cN l []).getD i 0).testBit j=true->L j=true)->(∀ a,L a=true->∀ b,((cN l []).getD a 0).testBit b=true->L b=true)->F L st ->
   dZ N o.dst=true/\∃ x st',xs[i]?=some x/\UX P S.base l (ir l o (dE env ((l.take p).take i) (xs.take i))) st o x st'/\F (λj=>j==i || L j) st')
  (vR:∀ (L:Nat->Bool) (st:St),(∀ i,i<p->L i=true)->F L st->cn P f N S Q l (l.drop p) k (dE env (l.take p) xs) st):ba P f N S Q (.code (.region id l.toArray true)::k) env st:=by
 simp only[og,Bool.and_eq_true] at hB
 obtain ⟨⟨⟨⟨Rt,Ru⟩,Rv⟩,Rw⟩,PI⟩:=hB
 have hp:p<=l.length:=by simpa using PI
 intro g w tmps hinv hh he hn
 refine dv.tP λt=>?_
 have Ka:Region.schedule (P.follows .mixedOrders) l.toArray t=Region.linearise .any l.toArray t:=by simp[Region.schedule,hm]
 rw[Ka]
 have hb:Below w.heap.size w { w with drawn:=w.drawn+1 }:=(Below.refl _ w).drew
 obtain ⟨cF,lH⟩:=hinv.grow (g':=g) hb (λ_ _=>rfl) rfl rfl
 unfold Region.linearise
 refine Dw (p:=p) (xs:=xs) F hp OO ?_ ?_ ?_ ?_ nn vR p _ t _ g _ tmps st (by
  have:(λi=>(Array.replicate l.toArray.size false).getD i false)=λ_=>false:=by
   funext i;simp[Array.getD_eq_getD_getElem?,Array.getElem?_replicate];split<;>rfl
  rw[this];exact UZ) (by simp) ?_ ?_ ?_ ?_ cF (hh.step lH) hn λs=>⟨λj x hj s5=>?_,λ_ y hy=>?_⟩
 ·intro i j t hi hj zZ Sp pd
  have:=bH (bH Ru hi) hj
  simp[zZ,Sp,pd] at this
 ·intro i o hi ho t ht j hj gX pd
  have h1:=bH Rt hi
  rw[ho] at h1
  simp only[List.all_eq_true] at h1
  have h2:=bH (h1 t ht) hj
  simp only[pd,bne_self_eq_false,Bool.or_false,Bool.or_eq_true,Bool.and_eq_true,decide_eq_true_eq,beq_iff_eq] at h2
  rcases h2 with (h2|h2)|h2
  ·exact absurd h2.symm gX
  ·exact .inl h2
  ·exact .inr h2
 ·intro i hi lA j hj
  have h1:=bH Rv lA
  simp only[Bool.or_eq_true,decide_eq_true_eq] at h1
  rcases h1 with h1|h1
  ·omega
  ·exact bH h1 hj
 ·intro i o ho e rX gQ
  have lA:=(List.getElem?_eq_some_iff.1 ho).1
  have h1:=bH Rw lA
  rw[ho] at h1
  simp only[List.all_eq_true] at h1
  have:=h1 e (by simpa using rX)
  simpa [gQ] using this
 ·intro i o ho J2
  simp[Array.getD_eq_getD_getElem?,Array.getElem?_replicate] at J2
  split at J2<;>simp_all
 ·intro i hi lA
  simp[Array.getD_eq_getD_getElem?,Array.getElem?_replicate,lA]
 ·have:((List.range p).filter λi=>!(Array.replicate l.toArray.size false).getD i true)=List.range p:=by
   rw[List.filter_eq_self]
   intro i hi
   have hi':=List.mem_range.1 hi
   have:i<l.length:=by omega
   simp[Array.getD_eq_getD_getElem?,Array.getElem?_replicate,this]
  rw[this];simp
 ·simp;omega
 ·simp[Array.getD_eq_getD_getElem?,Array.getElem?_replicate] at s5
  split at s5<;>simp_all
 ·exact (he.mono lH.du) s y hy
end drawn
structure z9 (P:uG) (key:uE) (κ:Type) [BEq κ] [LawfulBEq κ] where
 ke:κ->uB
 find:∀ {α:Type} (k:κ) (l:List (κ×α)) (ms:List MapEntry) (w:uC),ms.map (·.key)=l.map (λp=>ke p.1) ->
  (Instr.findKey key (ke k) ms).run P w=.ok ((fI l k).bind λj=>(ms[j]?).map λm=>(j,m.val)) w
 bits:∀ a,Instr.sameBits 10000 (ke a) (ke a)=true
 check:∀ a b w,(Instr.checkKey b 10000 key (ke a)).run P w=.ok () w
def xl.Xj {P:uG} {key:uE} {κ:Type} [BEq κ] [LawfulBEq κ] (K:xl P key κ):z9 P key κ where
 ke:=K.ke
 find k l ms w h:=Dg K k h w
 bits:=K.bits
 check:=K.check
def g6 {P:uG} {key:uE} (h:P.underlying key=some (.int .i64)):z9 P key Int:=(MS h).Xj
theorem g7 {bl:Nat->Nat} {w:uC} {u v:uB} (h:cT bl w (.ex u) v):v=u:=by cases h;rfl
def oo {κ:Type} (ke:κ->uB) (l:List (κ×EV)):List (uB×EV):=l.map λp=>(ke p.1,p.2)
def Ko {κ α:Type} (val:α->D) (l:List (κ×α)):List (κ×EV):=l.map λp=>(p.1,.d (val p.2))
theorem BR {κ α:Type} {ke:κ->uB} {val:α->D} {l:O (κ×α)}:vT ke val l=oo ke (Ko val l):=by
 simp[vT,oo,Ko]
section alist
variable {κ α β:Type} [BEq κ] [LawfulBEq κ]
def pC (l:List (κ×α)) (k:κ):List (κ×α):=match fI l k with
 | some j=>l.eraseIdx j
 | none=>l
theorem AI (f:α->β) (l:O (κ×α)) (k:κ):fI (l.map λp=>(p.1,f p.2)) k=fI l k:=by
 unfold fI;rw[List.findIdx?_map];rfl
theorem Iy (f:α->β) (l:O (κ×α)) (k:κ):aO (l.map λp=>(p.1,f p.2)) k=(aO l k).map f:=by
 rw[sc,sc,AI]
 cases fI l k with
 | none=>rfl
 | some j=>simp only[Option.bind_some,List.getElem?_map];cases l[j]?<;>rfl
theorem Kp (f:α->β) (l:O (κ×α)) (k:κ) (a:α):fe (l.map λp=>(p.1,f p.2)) k (f a)=(fe l k a).map λp=>(p.1,f p.2):=by
 unfold fe
 rw[AI]
 cases fI l k with
 | none=>simp
 | some j=>simp[List.map_set]
theorem FV {l:O (κ×α)} {k:κ} (h:k ∉ l.map (·.1)):aO l k=none:=by
 unfold aO
 rw[List.find?_eq_none.2]
 ·rfl
 ·intro p hp he
  exact h (eq_of_beq he▸List.mem_map_of_mem (f:=(·.1)) hp)
end alist
section inv
variable {P:uG} {base:Nat} {g:br} {w:uC} {st:St}
theorem Inv.P3 (hinv:Inv g base w st) {o:Nat} {es es':O (uB×EV)} (ho:st.aR[o]?=some (.map es)) {ms':uD MapEntry} {clock':Nat} (k1:ms'.size=es'.length)
  (k2:∀ (i:Nat) k x (m:MapEntry),es'[i]?=some (k,x)->ms'[i]?=some m->m.key=k/\bm g w st x m.val)
  (k3:∀ (i:Nat) (m:MapEntry),ms'[i]?=some m->m.born<clock') (k4:∀ (i j:Nat) (m m':MapEntry),ms'[i]?=some m->ms'[j]?=some m'->m.born=m'.born->i=j) :
  Inv g base { w with heap:=w.heap.setIfInBounds (g.ob o) (.map ms' clock') } (st.set o (.map es'))/\Step base g w st g { w with heap:=w.heap.setIfInBounds (g.ob o) (.map ms' clock') } (st.set o (.map es')):=by
 obtain ⟨wE,ms,clock,hb,hl,lI,AJ,Dx⟩:=hinv.map o _ ho
 have Iz:g.ob o<w.heap.size:=(Array.getElem?_eq_some_iff.1 hb).1
 have tU:∀ ob:Obj,({ w with heap:=w.heap.setIfInBounds (g.ob o) ob }:uC).heap.size=w.heap.size:=λob=>by simp
 have rP:∀ ob:Obj,∀ b,b≠g.ob o->({ w with heap:=w.heap.setIfInBounds (g.ob o) ob }:uC).heap[b]?=w.heap[b]?:=λob b gQ=>by simp[Array.getElem?_setIfInBounds,Ne.symm gQ]
 have iq:∀ ob:Obj,({ w with heap:=w.heap.setIfInBounds (g.ob o) ob }:uC).heap[g.ob o]?=some ob:=λob=>by simp[Iz]
 have U0:∀ off,w.cell? ⟨g.ob o,off,none⟩=none:=λoff=>by simp[World.cell?,hb]
 have uQ:Fl g.bl w g.bl { w with heap:=w.heap.setIfInBounds (g.ob o) (.map ms' clock') }:=by
  refine ⟨by rw[tU];exact Nat.le_refl _,λ_ _=>Nat.le_refl _,λb off gQ kj=>?_⟩
  by_cases Wj:b=g.ob o
  ·subst Wj
   rw[U0]
   simp[World.cell?,Iz]
  ·exact World.cell?_of_block (w:=w) (a:=⟨b,off,none⟩) (rP _ b Wj)
 have jx:st.live o:=⟨_,ho,by simp⟩
 have Pw:o<st.aR.length:=(List.getElem?_eq_some_iff.1 ho).1
 have hs:qE g w st g { w with heap:=w.heap.setIfInBounds (g.ob o) (.map ms' clock') } (st.set o (.map es')) :=
  ⟨uQ,λ_ _=>rfl,by simp[St.set],λt e sz n ht=>⟨n,ht,Nat.le_refl _,λ_=>rfl⟩,Nat.le_refl _,pN λ_ _ _ _ h _=>⟨h,rfl⟩⟩
 have eh:∀ o' y,o'≠o->(st.set o (.map es')).aR[o']?=some y->st.aR[o']?=some y:=by
  intro o' y dq CO
  simpa [St.set,List.getElem?_set,Ne.symm dq] using CO
 have Mv:∀ o' y,(st.set o (.map es')).aR[o']?=some (.raw y)->base<=g.ob o'/\g.bl (g.ob o')=0/\(w.heap.setIfInBounds (g.ob o) (.map ms' clock'))[g.ob o']?=some y:=by
  intro o' y g4
  have dq:o'≠o:=by
   rintro rfl
   simp[St.set,Pw] at g4
  have CO:=eh o' _ dq g4
  obtain ⟨h1,h2,h3⟩:=hinv.raw o' y CO
  have mG:=hinv.ne o' o dq ⟨_,CO,by simp⟩ jx
  exact ⟨h1,h2,by rw[rP _ _ mG];exact h3⟩
 refine ⟨⟨by rw[tU];exact hinv.base,?_,?_,Mv,?_,?_,hinv.km,?_,hinv.xJ.below ⟨rfl,rfl,rfl,by rw[tU];exact Nat.le_refl _,λb gQ=>rP _ b (by omega)⟩,?_⟩,⟨hs,⟨rfl,rfl,rfl,by rw[tU];exact Nat.le_refl _,λb gQ=>rP _ b (by omega)⟩,λ_ _=>rfl,
   λb _ hn=>⟨rP _ b (λe=>hn (.inl ⟨o,jx,e.symm⟩)),rfl⟩,λb _ hw=>hw.elim (λ⟨o',a1,a2⟩=>.inl ⟨o',mE jx a1,a2⟩) .inr⟩⟩
 ·intro o' Jy cs g4
  have dq:o'≠o:=by
   rintro rfl
   simp[St.set,Pw] at g4
  have CO:=eh o' _ dq g4
  obtain ⟨h1,h2,vs,h3,h4,h5⟩:=hinv.row o' Jy cs CO
  have mG:=hinv.ne o' o dq ⟨_,CO,by simp⟩ jx
  exact ⟨h1,h2,vs,by rw[rP _ _ mG];exact h3,h4,λi c u hc hu=>⟨(h5 i c u hc hu).1.mono hs,(h5 i c u hc hu).2⟩⟩
 ·intro o' Wk g4
  by_cases dq:o'=o
  ·subst dq
   have UM:es'=Wk:=by simpa [St.set,Pw] using g4
   subst UM
   exact ⟨wE,ms',clock',iq _,k1,λi kk yy m G8 OP=>⟨(k2 i kk yy m G8 OP).1,(k2 i kk yy m G8 OP).2.mono hs⟩,k3,k4⟩
  ·have CO:=eh o' _ dq g4
   obtain ⟨h1,Xk,c2,h3,h4,h5,h6⟩:=hinv.map o' Wk CO
   have mG:=hinv.ne o' o dq ⟨_,CO,by simp⟩ jx
   exact ⟨h1,Xk,c2,by rw[rP _ _ mG];exact h3,h4,λi kk yy m a b=>⟨(h5 i kk yy m a b).1,(h5 i kk yy m a b).2.mono hs⟩,h6⟩
 ·exact λo1 o2 dq h1 h2=>hinv.ne o1 o2 dq (mE jx h1) (mE jx h2)
 ·intro t' e' CP n' nO
  obtain ⟨xs,h1,h2⟩:=hinv.tail t' e' CP n' nO
  exact ⟨xs,dc h1 λb gQ=>rP _ b λe=>hinv.eD t' _ o nO jx (by rw[gQ,e]),h2⟩
 ·exact λt' x' o' nO MG=>hinv.eD t' x' o' nO (mE jx MG)
 ·intro t' e' CP n' rows nO
  obtain ⟨xs,h1,h2,h3⟩:=hinv.own t' e' CP n' rows nO
  exact ⟨xs,dc h1 λb gQ=>rP _ b λe=>hinv.eD t' _ o nO jx (by rw[gQ,e]),h2,h3.mono uQ⟩
end inv
section rules
variable {P:uG} {base:Nat} {env:Env} {st:St} {d:Option Tmp} {ty:uE} {pos:String} {after:uD Edge} {gd:Option (Nat×Bool)} {t t2 e key:uE} {x y z:uH}
 {κ α:Type} [BEq κ] [LawfulBEq κ]
theorem AK {g:br} {w:uC} {st:St} {l:O (κ×EV)} {ke:κ->uB} {ms:uD MapEntry} (hl:ms.size=(oo ke l).length)
  (h:∀ (i:Nat) k x (m:MapEntry),(oo ke l)[i]?=some (k,x)->ms[i]?=some m->m.key=k/\bm g w st x m.val):ms.toList.map (·.key)=l.map λp=>ke p.1:=by
 apply List.ext_getElem?
 intro i
 rw[List.getElem?_map,List.getElem?_map]
 have hlen:ms.size=l.length:=by simpa [oo] using hl
 by_cases hi:i<l.length
 ·have h1:ms[i]?=some (ms[i]'(by omega)):=Array.getElem?_eq_getElem (by omega)
  have h2:l[i]?=some l[i]:=List.getElem?_eq_getElem hi
  have h3:=(h i (ke l[i].1) l[i].2 _ (by simp[oo,h2]) h1).1
  rw[h2,Array.getElem?_toList,h1]
  simp[h3]
 ·rw[List.getElem?_eq_none (by simp;omega),List.getElem?_eq_none (by omega)];rfl
theorem Dy (K:z9 P key κ) {o:Nat} {l:List (κ×EV)} {k:κ} {dk:D} {inf:TypeInfo} {zv:uB} {c:Bool} (ht:P.underlying t=some (.map key e)) (hi:P.info? e=some inf) (hz:inf.zero=some zv)
  (hx:bI env x=some (.mp o)) (ho:st.aR[o]?=some (.map (oo K.ke l))) (hy:bI env y=some (.d dk)) (hk:∀ bl w v,cT bl w dk v->v=K.ke k)
  {g:br} {w:uC} {tmps:uD uB} (hinv:Inv g base w st) (he:cJ g w st env tmps) :
  ∃ v,(match aO l k with|some x=>bm g w st x v|none=>v=zv) /\
   ∀ w',Below w.heap.size w w'->(execOp (Act.eval ⟨tmps,[]⟩) ⟨d,.lookup t x y c,ty,pos,after,gd⟩).run P w'=.ok (.value (if c=true then .tuple #[v,.bool (aO l k).isSome] else v)) w':=by
 have wG:=aA he hx
 generalize hv:Act.eval ⟨tmps,[]⟩ x=v at wG
 have My:Act.eval ⟨tmps,[]⟩ y=K.ke k:=by
  have:=aA he hy
  cases this with|d _ _ h=>exact hk _ _ _ h
 cases wG with
 | mp _ cd =>
  obtain ⟨_,ms,clock,hb,hl,lI,_⟩:=hinv.map o _ ho
  have AL:=AK hl lI
  have Iz:g.ob o<w.heap.size:=(Array.getElem?_eq_some_iff.1 hb).1
  rw[sc]
  cases hf:fI l k with
  | none =>
   refine ⟨zv,rfl,λw' gQ=>?_⟩
   have JA:w'.heap[g.ob o]?=some (.map ms clock):=(gQ.block _ Iz).trans hb
   have IA:=K.find k l ms.toList w' AL
   rw[hf] at IA
   simp[execOp,hv,My,Instr.lookup,run_underlying ht,getObj,Sem.run,JA,K.check,IA,r9 hi hz]
  | some j =>
   have hj:=Dh hf
   have hlen:ms.size=l.length:=by simpa [oo] using hl
   have h1:ms[j]?=some (ms[j]'(by omega)):=Array.getElem?_eq_getElem (by omega)
   have h2:l[j]?=some l[j]:=List.getElem?_eq_getElem hj
   have h3:=(lI j (K.ke l[j].1) l[j].2 _ (by simp[oo,h2]) h1).2
   simp only[Option.bind_some,h2,Option.map_some,Option.isSome_some]
   refine ⟨(ms[j]'(by omega)).val,h3,λw' gQ=>?_⟩
   have JA:w'.heap[g.ob o]?=some (.map ms clock):=(gQ.block _ Iz).trans hb
   have IA:=K.find k l ms.toList w' AL
   rw[hf] at IA
   have Bx:ms.toList[j]?=some (ms[j]'(by omega)):=by rw[Array.getElem?_toList];exact h1
   simp only[Option.bind_some,Bx,Option.map_some] at IA
   simp[execOp,hv,My,Instr.lookup,run_underlying ht,getObj,Sem.run,JA,K.check,IA]
theorem FW {val:α->D} {l:O (κ×α)} {k:κ}:aO (Ko val l) k=(aO l k).map λa=>.d (val a):=Iy (λa=>EV.d (val a)) l k
theorem c8 (K:z9 P key κ) {o:Nat} {l:O (κ×α)} {val:α->D} {k:κ} {dk:D} {inf:TypeInfo} {zv:uB} {a0:α} (ht:P.underlying t=some (.map key e)) (hi:P.info? e=some inf) (hz:inf.zero=some zv) (Xl:rE (cv zv) (val a0))
  (hx:bI env x=some (.mp o)) (ho:st.aR[o]?=some (.map (vT K.ke val l))) (hy:bI env y=some (.d dk)) (hk:∀ bl w v,cT bl w dk v->v=K.ke k) :
  az P env st ⟨d,.lookup t x y false,ty,pos,after,gd⟩ (.d (val ((aO l k).getD a0))):=by
 intro g base w tmps hinv he
 rw[BR] at ho
 obtain ⟨v,h1,h2⟩:=Dy (c:=false) (d:=d) (ty:=ty) (pos:=pos) (after:=after) (gd:=gd) K ht hi hz hx ho hy hk hinv he
 rw[FW] at h1
 refine ⟨v,?_,λw' hb=>by simpa using h2 w' hb⟩
 cases hl:aO l k with
 | none=>rw[hl] at h1;simp only[Option.map_none] at h1;subst h1;exact .d _ _ (Xl _ _ _ (qG g.bl w v))
 | some a=>rw[hl] at h1;exact h1
theorem Dz (K:z9 P key κ) {o:Nat} {l:O (κ×EV)} {k:κ} {dk:D} {ev:EV} (ht:P.underlying t=some (.map key e)) (hx:bI env x=some (.mp o)) (ho:st.aR[o]?=some (.map (oo K.ke l)))
  (hy:bI env y=some (.d dk)) (hk:∀ bl w v,cT bl w dk v->v=K.ke k) {g:br} {w:uC} {tmps:uD uB} (hinv:Inv g base w st) (he:cJ g w st env tmps) (hz:bm g w st ev (Act.eval ⟨tmps,[]⟩ z)) :
  ∃ w',(Instr.mapUpdate t (Act.eval ⟨tmps,[]⟩ x) (Act.eval ⟨tmps,[]⟩ y) (Act.eval ⟨tmps,[]⟩ z)).run P w=.ok () w'/\Inv g base w' (st.set o (.map (oo K.ke (fe l k ev))))/\Step base g w st g w' (st.set o (.map (oo K.ke (fe l k ev)))):=by
 have wG:=aA he hx
 generalize hv:Act.eval ⟨tmps,[]⟩ x=v at wG
 have My:Act.eval ⟨tmps,[]⟩ y=K.ke k:=by
  have:=aA he hy
  cases this with|d _ _ h=>exact hk _ _ _ h
 generalize hu:Act.eval ⟨tmps,[]⟩ z=u at hz
 cases wG with
 | mp _ cd =>
  obtain ⟨wE,ms,clock,hb,hl,lI,AJ,Dx⟩:=hinv.map o _ ho
  have AL:=AK hl lI
  have Iz:g.ob o<w.heap.size:=(Array.getElem?_eq_some_iff.1 hb).1
  have hlen:ms.size=l.length:=by simpa [oo] using hl
  have IA:=K.find k l ms.toList w AL
  have fin:∀ (ms':uD MapEntry) (clock':Nat),ms'.size=(fe l k ev).length ->
    (∀ (i:Nat) (p:κ×EV) (m:MapEntry),(fe l k ev)[i]?=some p->ms'[i]?=some m->m.key=K.ke p.1/\bm g w st p.2 m.val) ->
    (∀ (i:Nat) (m:MapEntry),ms'[i]?=some m->m.born<clock')->(∀ (i j:Nat) (m m':MapEntry),ms'[i]?=some m->ms'[j]?=some m'->m.born=m'.born->i=j) ->
    (Instr.mapUpdate t (.map (some (g.ob o))) (K.ke k) u).run P w=.ok () { w with heap:=w.heap.setIfInBounds (g.ob o) (.map ms' clock') } ->
    ∃ w',(Instr.mapUpdate t (.map (some (g.ob o))) (Act.eval ⟨tmps,[]⟩ y) u).run P w=.ok () w'/\Inv g base w' (st.set o (.map (oo K.ke (fe l k ev))))/\Step base g w st g w' (st.set o (.map (oo K.ke (fe l k ev)))):=by
   intro ms' clock' k1 k2 k3 k4 k5
   obtain ⟨q1,q2⟩:=hinv.P3 (es':=oo K.ke (fe l k ev)) ho (ms':=ms') (clock':=clock') (by simpa [oo] using k1) (λi kk yy m G8 OP=>by
    simp only[oo,List.getElem?_map] at G8
    cases hp:(fe l k ev)[i]? with
    | none=>rw[hp] at G8;cases G8
    | some p=>rw[hp] at G8;cases G8;exact k2 i p m hp OP) k3 k4
   exact ⟨_,by rw[My];exact k5,q1,q2⟩
  cases hf:fI l k with
  | none =>
   rw[hf] at IA
   simp only[Option.bind_none] at IA
   have DA:fe l k ev=l++[(k,ev)]:=by unfold fe;rw[hf]
   refine fin (ms.push ⟨K.ke k,u,clock⟩) (clock+1) (by simp[DA,hlen]) ?_ ?_ ?_ ?_
   ·intro i p m hp hm
    rw[DA] at hp
    by_cases hi:i<l.length
    ·rw[List.getElem?_append_left hi] at hp
     rw[Array.getElem?_push_lt (by omega)] at hm
     exact lI i (K.ke p.1) p.2 m (by simp[oo,hp]) (by rw[Array.getElem?_eq_getElem (by omega)];exact hm)
    ·have hi':i=l.length:=by
      have:=(List.getElem?_eq_some_iff.1 hp).1
      simp at this
      omega
     subst hi'
     simp at hp
     subst hp
     rw[←hlen] at hm
     simp at hm
     subst hm
     exact ⟨rfl,hz⟩
   ·intro i m hm
    by_cases hi:i<ms.size
    ·rw[Array.getElem?_push_lt hi] at hm
     have:=AJ i m (by rw[Array.getElem?_eq_getElem hi];exact hm)
     omega
    ·have jv:=(Array.getElem?_eq_some_iff.1 hm).1
     simp at jv
     have:i=ms.size:=by omega
     subst this
     simp at hm
     subst hm
     exact Nat.lt_succ_self _
   ·intro i j m m' hm wF OQ
    have get:∀ (i:Nat) m,(ms.push ⟨K.ke k,u,clock⟩)[i]?=some m->(i<ms.size/\ms[i]?=some m)∨(i=ms.size/\m.born=clock):=by
     intro i m hm
     by_cases hi:i<ms.size
     ·rw[Array.getElem?_push_lt hi] at hm
      exact .inl ⟨hi,by rw[Array.getElem?_eq_getElem hi];exact hm⟩
     ·have jv:=(Array.getElem?_eq_some_iff.1 hm).1
      simp at jv
      have:i=ms.size:=by omega
      subst this
      simp at hm
      subst hm
      exact .inr ⟨rfl,rfl⟩
    rcases get i m hm with ⟨h1,h2⟩|⟨h1,h2⟩<;>rcases get j m' wF with ⟨h3,h4⟩|⟨h3,h4⟩
    ·exact Dx i j m m' h2 h4 OQ
    ·have:=AJ i m h2;omega
    ·have:=AJ j m' h4;omega
    ·omega
   ·simp[Instr.mapUpdate,run_underlying ht,getObj,setObj,Sem.run,hb,K.check,IA]
  | some j =>
   have hj:=Dh hf
   have DA:fe l k ev=l.set j (k,ev):=by unfold fe;rw[hf]
   have s5:(k==l[j].1)=true:=by
    unfold fI at hf
    rw[List.findIdx?_eq_some_iff_getElem] at hf
    exact hf.2.1
   have Xm:k=l[j].1:=eq_of_beq s5
   have h1:ms[j]?=some (ms[j]'(by omega)):=Array.getElem?_eq_getElem (by omega)
   have Bx:ms.toList[j]?=some (ms[j]'(by omega)):=by rw[Array.getElem?_toList];exact h1
   rw[hf] at IA
   simp only[Option.bind_some,Bx,Option.map_some] at IA
   have U4:(ms[j]'(by omega)).key=K.ke k:=by
    have:=(lI j (K.ke l[j].1) l[j].2 _ (by simp[oo,List.getElem?_eq_getElem hj]) h1).1
    rw[this,Xm]
   have tT:∀ (i:Nat) m,(ms.modify j λe=>{ e with key:=K.ke k,val:=u })[i]?=some m->(i=j/\m={ (ms[j]'(by omega)) with key:=K.ke k,val:=u })∨(i≠j/\ms[i]?=some m):=by
    intro i m hm
    rw[Array.getElem?_modify] at hm
    by_cases zZ:j=i
    ·subst zZ
     rw[if_pos rfl,h1] at hm
     cases hm
     exact .inl ⟨rfl,rfl⟩
    ·rw[if_neg zZ] at hm
     exact .inr ⟨Ne.symm zZ,hm⟩
   refine fin (ms.modify j λe=>{ e with key:=K.ke k,val:=u }) clock (by simp[DA,hlen]) ?_ ?_ ?_ ?_
   ·intro i p m hp hm
    rw[DA,List.getElem?_set] at hp
    rcases tT i m hm with ⟨rfl,rfl⟩|⟨dq,wF⟩
    ·rw[if_pos rfl] at hp
     simp[hj] at hp
     subst hp
     exact ⟨rfl,hz⟩
    ·rw[if_neg (Ne.symm dq)] at hp
     exact lI i (K.ke p.1) p.2 m (by simp[oo,hp]) wF
   ·intro i m hm
    rcases tT i m hm with ⟨rfl,rfl⟩|⟨dq,wF⟩
    ·exact AJ _ (ms[i]'(by omega)) h1
    ·exact AJ _ _ wF
   ·intro i i' m m' hm wF OQ
    rcases tT i m hm with ⟨rfl,rfl⟩|⟨dq,h2⟩<;>rcases tT i' m' wF with ⟨rfl,rfl⟩|⟨mG,CX⟩
    ·rfl
    ·exact Dx _ _ (ms[i]'(by omega)) _ h1 CX OQ
    ·exact Dx _ _ _ (ms[i']'(by omega)) h2 h1 OQ
    ·exact Dx _ _ _ _ h2 CX OQ
   ·have SF:Instr.sameBits 10000 (K.ke k) (K.ke k)=true:=K.bits k
    simp[Instr.mapUpdate,run_underlying ht,getObj,setObj,Sem.run,hb,K.check,IA,Instr.keyThatStays,h1,U4,SF]
theorem iZ (K:z9 P key κ) {o:Nat} {l:O (κ×α)} {val:α->D} {k:κ} {dk:D} {a:α} {ev:EV} (ht:P.underlying t=some (.map key e)) (hx:bI env x=some (.mp o)) (ho:st.aR[o]?=some (.map (vT K.ke val l)))
  (hy:bI env y=some (.d dk)) (hk:∀ bl w v,cT bl w dk v->v=K.ke k) (hz:bI env z=some ev) (hle:dB ev (.d (val a))) :
  CN P base env st ⟨d,.mapUpdate t x y z,ty,pos,after,gd⟩ (st.set o (.map (vT K.ke val (fe l k a)))):=by
 intro g w tmps hinv he
 rw[BR] at ho
 obtain ⟨w',h1,h2,h3⟩:=Dz (z:=z) K ht hx ho hy hk hinv he (hle _ _ _ _ (aA he hz))
 have hs:oo K.ke (fe (Ko val l) k (.d (val a)))=vT K.ke val (fe l k a):=by
  rw[BR];unfold Ko;rw[Kp (λa=>EV.d (val a))]
 rw[hs] at h2 h3
 exact ⟨g,w',by simp[execOp,h1],h2,h3⟩
end rules
section lit
variable {P:uG} {f:Ctx} {N:Nat} {S:Start} {Q:EV->St->Prop} {k:List Item} {κ:Type} [BEq κ] [LawfulBEq κ] {key:uE}
theorem ba.split {todo:O Item} {env:Env} {st:St} (b:Bool) (ht:b=true->ba P f N S Q todo env st) (hf:b=false->ba P f N S Q todo env st):ba P f N S Q todo env st:=by
 cases hb:b with
 | true=>exact ht hb
 | false=>exact hf hb
def SG (P:uG) (N:Nat) (l:List Oper) (m:Nat) (t:uE) (K:z9 P key κ) (ins:List (Nat×κ×EV)) (P4:St) (i:Nat) (o:Oper) (env:Env) (x:EV):Prop :=
  dZ N o.dst=true /\
  (((Nat.beq i m || ins.any λe=>Nat.beq e.1 i)=false/\∀ st,(st=P4∨∃ es,st=P4.add (.map es))->oh P l env st o x) ∨
   (i=m/\o.guard=none/\x=.mp P4.aR.length/\∃ t,o.op=.makeMap t none) ∨
   (∃ kk v dk a b c,(i,kk,v)∈ins/\x=.d .any/\o.guard=none/\o.op=.insert t a b c/\bI env a=some (.mp P4.aR.length)/\bI env b=some (.d dk)/\(∀ bl w v,cT bl w dk v->v=K.ke kk)/\bI env c=some v /\
      ((cN l []).getD i 0).testBit m=true))
def Kr (P:uG) (N:Nat) (l:List Oper) (m:Nat) (t:uE) (K:z9 P key κ) (ins:List (Nat×κ×EV)) (P4:St):Nat->List Oper->List EV->Env->Prop
 | _,[],[],_=>True
 | i,o::os,x::xs,env=>SG P N l m t K ins P4 i o (ir l o env) x/\Kr P N l m t K ins P4 (i+1) os xs (env.put o.dst x)
 | _,_,_,_=>False
def IB (P:uG) (f:Ctx) (N:Nat) (S:Start) (Q:EV->St->Prop) (l:List Oper) (p m:Nat) (t:uE) (K:z9 P key κ) (ins:List (Nat×κ×EV)) (i:Nat) (os:List Oper) (k:List Item) (env:Env) (st:St):Prop :=
 ∃ xs,Kr P N l m t K ins st i os xs env/\∀ es,es.Perm (ins.map (·.2))->cn P f N S Q l (l.drop p) k (dE env os xs) (st.add (.map (oo K.ke es)))
variable {l:List Oper} {p m:Nat} {t:uE} {K:z9 P key κ} {ins:List (Nat×κ×EV)} {i:Nat} {os:List Oper} {env:Env} {st:St} {d:Option Tmp} {op:Op} {ty:uE} {pos:String} {after:uD Edge} {x:EV}
theorem IB.g (h:∀ s,(s=st∨∃ es,s=st.add (.map es))->ti P (ir l ⟨d,op,ty,pos,after,none⟩ env) s ⟨d,op,ty,pos,after,none⟩ x) (hb:(Nat.beq i m || ins.any λe=>Nat.beq e.1 i)=false) (hd:dZ N d=true)
  (hk:IB P f N S Q l p m t K ins (i+1) os k (env.put d x) st):IB P f N S Q l p m t K ins i (⟨d,op,ty,pos,after,none⟩::os) k env st:=by
 obtain ⟨xs,h1,h2⟩:=hk
 exact ⟨x::xs,⟨⟨hd,.inl ⟨hb,λs hs=>.inl ⟨rfl,h s hs⟩⟩⟩,h1⟩,h2⟩
theorem IB.q (h:∀ s,(s=st∨∃ es,s=st.add (.map es))->az P (ir l ⟨d,op,ty,pos,after,none⟩ env) s ⟨d,op,ty,pos,after,none⟩ x) (hb:(Nat.beq i m || ins.any λe=>Nat.beq e.1 i)=false) (hd:dZ N d=true)
  (hk:IB P f N S Q l p m t K ins (i+1) os k (env.put d x) st):IB P f N S Q l p m t K ins i (⟨d,op,ty,pos,after,none⟩::os) k env st:=.g (λs hs=>(h s hs).g) hb hd hk
end lit
structure tD (l:List Oper) (p:Nat) (σ:List Nat):Prop where
 nodup:σ.Nodup
 mem:∀ i,i∈σ↔i<p
 mask:∀ pre i post,σ=pre++i::post->∀ j,((cN l []).getD i 0).testBit j=true->j∈pre
theorem Ks {l:O Oper} {p:Nat} (hp:p<=l.length)
  (xV:∀ i,p<=i->i<l.length->∀ j,j<i->((cN l []).getD i 0).testBit j=true)
  (rD:∀ (i:Nat) o,l[i]?=some o->∀ e∈o.after,Region.binds .any e=true->e.on<i) :
  ∀ (zQ fuel t:Nat) (ar:uD Bool),ar.size=l.length->qN l ar->(∀ i,p<=i->i<l.length->ar.getD i true=false) ->
   (((List.range p).filter λi=>!ar.getD i true).length=zQ)->zQ+(l.length-p)<=fuel ->
   ∃ σ:O Nat,Region.linearise.go .any l.toArray fuel t ar []=σ++List.range' p (l.length-p)/\σ.Nodup/\(∀ i,i∈σ↔i<p/\ar.getD i true=false) /\
    ∀ pre i post,σ=pre++i::post->∀ j,((cN l []).getD i 0).testBit j=true->j∈pre∨ar.getD j false=true:=by
 intro zQ
 induction zQ with
 | zero =>
  intro fuel t ar hs AB J3 uU Db
  have lJ:∀ i,i<p->ar.getD i true=true:=by
   intro i hi
   have h0:=List.eq_nil_of_length_eq_zero uU
   have hn:i ∉ (List.range p).filter λi=>!ar.getD i true:=by rw[h0];simp
   rw[List.mem_filter,List.mem_range] at hn
   cases hb:ar.getD i true with
   | true=>rfl
   | false=>exact absurd ⟨hi,by simp[hb]⟩ hn
  have Se:=sZ xV rD fuel t p ar (Nat.le_refl _) hp (by omega) hs (λi hi=>by
   by_cases h:i<p
   ·rw[lJ i h];simp[h]
   ·rw[J3 i (by omega) hi];simp[h])
  refine ⟨[],by rw[Se];rfl,List.nodup_nil,λi=>⟨λh=>(by cases h),λh=>?_⟩,λpre i post h=>by simp at h⟩
  rw[lJ i h.1] at h;cases h.2
 | succ zQ ih =>
  intro fuel t ar hs AB J3 uU Db
  obtain ⟨fuel,rfl⟩:∃ n,fuel=n+1:=⟨fuel-1,by omega⟩
  -- an operation of the beginning that has not come up
  have hex:∃ i,i<p/\ar.getD i true=false:=by
   have:(List.range p).filter (λi=>!ar.getD i true)≠[]:=λh=>by rw[h] at uU;simp at uU
   obtain ⟨i,hi⟩:=List.exists_mem_of_ne_nil _ this
   rw[List.mem_filter,List.mem_range] at hi
   exact ⟨i,hi.1,by simpa using hi.2⟩
  have Ik:∀ i,i<l.length->ar.getD i false=ar.getD i true:=λi hi=>by
   have cd:i<ar.size:=by omega
   simp[Array.getD_eq_getD_getElem?,cd]
  have PH:((List.range l.toArray.size).filter λi=>!ar.getD i true && ((l.toArray[i]?).map (·.after.all λe=>!Region.binds .any e || ar.getD e.on false)).getD false)=Region.ready .any l.toArray ar:=rfl
  -- the least such is ready
  have dq:Region.ready .any l.toArray ar≠[]:=by
   have J4:∀ n i,i<=n->i<p->ar.getD i true=false->∃ i,i<p/\ar.getD i true=false/\∀ j,j<i->ar.getD j true=true:=by
    intro n
    induction n with
    | zero=>intro i hi J5 h;exact ⟨i,J5,h,λj hj=>by omega⟩
    | succ n Sf =>
     intro i hi J5 h
     by_cases Jx:∃ j,j<i/\ar.getD j true=false
     ·obtain ⟨j,hj,AD⟩:=Jx
      exact Sf j (by omega) (by omega) AD
     ·refine ⟨i,J5,h,λj hj=>?_⟩
      cases hb:ar.getD j true with
      | true=>rfl
      | false=>exact absurd ⟨j,hj,hb⟩ Jx
   obtain ⟨i0,h0,h1⟩:=hex
   obtain ⟨i,BG,Dc,iX⟩:=J4 i0 i0 (Nat.le_refl _) h0 h1
   have lA:i<l.length:=by omega
   have:i∈Region.ready .any l.toArray ar:=by
    rw[mem_ready]
    refine ⟨Dc,l[i],by simp[lA],λe he hb=>?_⟩
    have cd:=rD i l[i] (List.getElem?_eq_getElem lA) e he hb
    rw[Ik _ (by omega)]
    exact iX _ cd
   intro xQ
   rw[xQ] at this
   cases this
  simp only[Region.linearise.go,PH]
  have hlen:0<(Region.ready .any l.toArray ar).length:=List.length_pos_iff.2 dq
  have tT:=Nat.mod_lt t hlen
  generalize hi:(Region.ready .any l.toArray ar)[t % (Region.ready .any l.toArray ar).length]=i
  have wJ:(Region.ready .any l.toArray ar)[t % (Region.ready .any l.toArray ar).length]?=some i:=by rw[List.getElem?_eq_getElem tT,hi]
  rw[wJ]
  simp only[]
  rw[linearise_go_acc]
  have Rs:i∈Region.ready .any l.toArray ar:=List.mem_of_getElem? wJ
  obtain ⟨Dc,o,ho,lJ⟩:=mem_ready.1 Rs
  have kj:l[i]?=some o:=by simpa using ho
  have lA:=(List.getElem?_eq_some_iff.1 kj).1
  have oi:=qP AB kj (λe he hb=>lJ e he hb)
  have BG:i<p:=by
   rcases Nat.lt_or_ge i p with h|h
   ·exact h
   ·obtain ⟨i0,h0,h1⟩:=hex
    have:=oi i0 (xV i h lA i0 (by omega))
    rw[Ik i0 (by omega),h1] at this
    cases this
  -- what remains behind it
  have Dd:((List.range p).filter λj=>!(ar.setIfInBounds i true).getD j true).length=zQ:=by
   have tU:∀ j,(ar.setIfInBounds i true).getD j true=(ar.getD j true || decide (j=i)):=by
    intro j
    by_cases gX:j=i
    ·subst gX;simp[Array.getD_eq_getD_getElem?,hs,lA]
    ·rw[getD_set_ne true (Ne.symm gX)];simp[gX]
   have J6:((List.range p).filter λj=>!(ar.setIfInBounds i true).getD j true)=((List.range p).filter λj=>!ar.getD j true).filter λj=>!decide (j=i):=by
    rw[List.filter_filter]
    refine List.filter_congr λj _=>?_
    rw[tU j]
    cases ar.getD j true<;>simp
   rw[J6]
   have OJ:((List.range p).filter λj=>!ar.getD j true).Nodup:=List.nodup_range.filter _
   have sa:i∈(List.range p).filter λj=>!ar.getD j true:=by rw[List.mem_filter,List.mem_range];exact ⟨BG,by simp[Dc]⟩
   have xW:∀ (L:O Nat),L.Nodup->i∈L->(L.filter λj=>!decide (j=i)).length+1=L.length:=by
    intro L
    induction L with
    | nil=>intro _ h;cases h
    | cons a L Sj =>
     intro hn hm
     rw[List.nodup_cons] at hn
     by_cases ha:a=i
     ·subst ha
      have:(L.filter λj=>!decide (j=a))=L:=by
       rw[List.filter_eq_self]
       intro b hb
       have:b≠a:=λe=>hn.1 (e▸hb)
       simp[this]
      rw[List.filter_cons]
      simp[this]
     ·have wF:i∈L:=by
       rcases List.mem_cons.1 hm with h|h
       ·exact absurd h.symm ha
       ·exact h
      rw[List.filter_cons]
      simp only[ha,decide_false,Bool.not_false,if_true,List.length_cons]
      rw[Sj hn.2 wF]
   have:=xW _ OJ sa
   omega
  have J7:qN l (ar.setIfInBounds i true):=by
   intro j oj uV s5 e rX hb
   by_cases gX:j=i
   ·subst gX
    rw[kj] at uV
    cases uV
    exact getD_set_true (lJ e rX hb)
   ·rw[getD_set_ne false (Ne.symm gX)] at s5
    exact getD_set_true (AB j oj uV s5 e rX hb)
  have J8:∀ j,p<=j->j<l.length->(ar.setIfInBounds i true).getD j true=false:=λj hj AD=>by rw[getD_set_ne true (by omega)];exact J3 j hj AD
  obtain ⟨σ,h1,h2,h3,h4⟩:=ih fuel (t / (Region.ready .any l.toArray ar).length) _ (by simpa using hs) J7 J8 Dd (by omega)
  have tU:∀ j,(ar.setIfInBounds i true).getD j true=(ar.getD j true || decide (j=i)):=by
   intro j
   by_cases gX:j=i
   ·subst gX;simp[Array.getD_eq_getD_getElem?,hs,lA]
   ·rw[getD_set_ne true (Ne.symm gX)];simp[gX]
  refine ⟨i::σ,?_,?_,?_,?_⟩
  ·rw[h1];rfl
  ·rw[List.nodup_cons]
   refine ⟨λhm=>?_,h2⟩
   have:=((h3 i).1 hm).2
   rw[tU] at this
   simp at this
  ·intro j
   rw[List.mem_cons,h3,tU]
   constructor
   ·rintro (rfl|⟨a,b⟩)
    ·exact ⟨BG,Dc⟩
    ·refine ⟨a,?_⟩
     cases hj:ar.getD j true with
     | false=>rfl
     | true=>rw[hj] at b;simp at b
   ·rintro ⟨a,b⟩
    by_cases gX:j=i
    ·exact .inl gX
    ·exact .inr ⟨a,by simp[b,gX]⟩
  ·intro pre i' post he j hj
   cases pre with
   | nil =>
    simp only[List.nil_append,List.cons.injEq] at he
    rw[←he.1] at hj
    exact .inr (oi j hj)
   | cons a pre =>
    simp only[List.cons_append,List.cons.injEq] at he
    rcases h4 pre i' post he.2 j hj with h|h
    ·exact .inl (List.mem_cons_of_mem _ h)
    ·by_cases gX:j=i
     ·left;rw[gX,he.1];exact List.mem_cons_self
     ·rw[getD_set_ne false (Ne.symm gX)] at h
      exact .inr h
section run
variable {P:uG} {f:Ctx} {N:Nat} {S:Start} {Q:EV->St->Prop} {k:List Item}
theorem ba.Kt {id:Nat} {l:O Oper} {env:Env} {st:St} (p:Nat) (hm:P.follows .mixedOrders=true) (hB:og l p=true)
  (h:∀ σ,tD l p σ->ba P f N S Q (.inRegion l.toArray (σ++List.range' p (l.length-p))::k) env st):ba P f N S Q (.code (.region id l.toArray true)::k) env st:=by
 simp only[og,Bool.and_eq_true] at hB
 obtain ⟨⟨⟨⟨Rt,Ru⟩,Rv⟩,Rw⟩,PI⟩:=hB
 have hp:p<=l.length:=by simpa using PI
 intro g w tmps hinv hh he hn
 refine dv.tP λt=>?_
 have Ka:Region.schedule (P.follows .mixedOrders) l.toArray t=Region.linearise .any l.toArray t:=by simp[Region.schedule,hm]
 rw[Ka]
 have hb:Below w.heap.size w { w with drawn:=w.drawn+1 }:=(Below.refl _ w).drew
 obtain ⟨cF,lH⟩:=hinv.grow (g':=g) hb (λ_ _=>rfl) rfl rfl
 unfold Region.linearise
 obtain ⟨σ,h1,h2,h3,h4⟩:=Ks (l:=l) (p:=p) hp (λi hi lA j hj=>by
   have h1:=bH Rv lA
   simp only[Bool.or_eq_true,decide_eq_true_eq] at h1
   rcases h1 with h1|h1
   ·omega
   ·exact bH h1 hj) (λi o ho e rX gQ=>by
   have lA:=(List.getElem?_eq_some_iff.1 ho).1
   have h1:=bH Rw lA
   rw[ho] at h1
   simp only[List.all_eq_true] at h1
   have:=h1 e (by simpa using rX)
   simpa [gQ] using this) p l.toArray.size t (Array.replicate l.toArray.size false) (by simp) (λi o ho J2=>by
   simp[Array.getD_eq_getD_getElem?,Array.getElem?_replicate] at J2
   split at J2<;>simp_all) (λi hi lA=>by simp[Array.getD_eq_getD_getElem?,Array.getElem?_replicate,lA]) (by
   have:((List.range p).filter λi=>!(Array.replicate l.toArray.size false).getD i true)=List.range p:=by
    rw[List.filter_eq_self]
    intro i hi
    have hi':=List.mem_range.1 hi
    have:i<l.length:=by omega
    simp[Array.getD_eq_getD_getElem?,Array.getElem?_replicate,this]
   rw[this];simp) (by simp;omega)
 rw[h1]
 refine h σ ⟨h2,λi=>?_,λpre i post he j hj=>?_⟩ g _ tmps cF (hh.step lH) (he.mono lH.du) hn
 ·rw[h3]
  constructor
  ·exact λh=>h.1
  ·intro hi
   have:i<l.length:=by omega
   exact ⟨hi,by simp[Array.getD_eq_getD_getElem?,Array.getElem?_replicate,this]⟩
 ·rcases h4 pre i post he j hj with h|h
  ·exact h
  ·simp[Array.getD_eq_getD_getElem?,Array.getElem?_replicate] at h
   split at h<;>simp_all
def Wl (P:uG) (base:Nat) (env:Env) (st:St) (o:Oper) (x:EV) (st':St):Prop :=
 ∀ g w tmps,Inv g base w st->cJ g w st env tmps->∃ f' args,(execOp (Act.eval ⟨tmps,[]⟩) o).run P w=.ok (.enter f' args) w /\
  Calls P f' args w λe w'=>∃ v g',e=.returned v/\bm g' w' st' x v/\Inv g' base w' st'/\Step base g w st g' w' st'
def Xn (P:uG) (base:Nat) (l:List Oper) (env:Env) (st:St) (o:Oper) (x:EV) (st':St):Prop:=UX P base l env st o x st'∨(o.guard=none/\Wl P base env st o x st')
theorem ba.U5 {l:O Oper} {p:Nat} {σ:O Nat} {env:Env} {st:St} (hs:tD l p σ) (hp:p<=l.length) (xs:O EV) (F:O Nat->St->Prop)
  (Sd:∀ i j t,i<p->j<p->i≠j->cG l i=some t->cG l j≠some t)
  (OK:∀ (i:Nat) o,i<p->l[i]?=some o->∀ t∈Da l o,∀ j,j<p->j≠i->cG l j=some t->(j<i/\((cN l []).getD i 0).testBit j=true)∨(i<j/\((cN l []).getD j 0).testBit i=true))
  (OO:xs.length=p) (UZ:F [] st)
  (nn:∀ pre i post st o,σ=pre++i::post->l[i]?=some o->F pre st->dZ N o.dst=true/\∃ x st',xs[i]?=some x/\Xn P S.base l (ir l o (dE env ((l.take p).take i) (xs.take i))) st o x st'/\F (pre++[i]) st')
  (vR:∀ st,F σ st->cn P f N S Q l (l.drop p) k (dE env (l.take p) xs) st):ba P f N S Q (.inRegion l.toArray (σ++List.range' p (l.length-p))::k) env st:=by
 have Ii:xs.length=(l.take p).length:=by simp;omega
 suffices key:∀ (post pre:O Nat) (st:St) (g:br) (w:uC) (tmps:uD uB),σ=pre++post->F pre st->Inv g S.base w st->th S g w st->tmps.size=N ->
   (∀ (s:Tmp),(∀ (j:Nat) x,j∈pre->cG l j=some s->xs[j]?=some x->∃ v,tmps[s]?=some v/\bm g w st x v) /\
    ((∀ j,j∈pre->cG l j≠some s)->∀ y,lookup s env=some y->∃ v,tmps[s]?=some v/\bm g w st y v)) ->
   dv P f (pO S Q) (.inRegion l.toArray (post++List.range' p (l.length-p))::k) tmps w by
  intro g w tmps hinv hh he hN
  exact key σ [] st g w tmps rfl UZ hinv hh hN λs=>⟨λj x hj=>by (cases hj),λ_ y hy=>he s y hy⟩
 intro post
 induction post with
 | nil =>
  intro pre st g w tmps hσ hF hinv hh hN hJ
  rw[List.append_nil] at hσ
  subst hσ
  have MQ:(l.drop p).length=l.length-p:=by simp
  rw[List.nil_append,←MQ]
  refine vR st hF p (λj=>by rw[List.getElem?_drop]) g w tmps hinv hh (λs y hy=>?_) hN
  rcases fA Ii hy with ⟨j,o,h1,h2,h3⟩|⟨h1,h2⟩
  ·have hj:j<p:=by have:=(List.getElem?_eq_some_iff.1 h2).1;omega
   have ho:l[j]?=some o:=by rw[List.getElem?_take] at h1;rw[if_pos hj] at h1;exact h1
   exact (hJ s).1 j y ((hs.mem j).2 hj) (by simp[cG,ho,h3]) h2
  ·refine (hJ s).2 (λj hj hd=>?_) y h2
   have Fx:=(hs.mem j).1 hj
   cases ho:l[j]? with
   | none=>simp[cG,ho] at hd
   | some o=>exact h1 j o (by rw[List.getElem?_take,if_pos Fx];exact ho) (by simpa [cG,ho] using hd)
 | cons i post ih =>
  intro pre st g w tmps hσ hF hinv hh hN hJ
  have hi:i<p:=(hs.mem i).1 (by rw[hσ];simp)
  have lA:i<l.length:=by omega
  obtain ⟨o,kj⟩:∃ o,l[i]?=some o:=⟨_,List.getElem?_eq_getElem lA⟩
  have oi:=hs.mask pre i post hσ
  have G9:i ∉ pre:=by
   have:=hs.nodup
   rw[hσ,List.nodup_append] at this
   exact λhm=>this.2.2 i hm i List.mem_cons_self rfl
  have hprelt:∀ j,j∈pre->j<p:=λj hj=>(hs.mem j).1 (by rw[hσ];simp[hj])
  obtain ⟨hd,x,st',hx,qH,UY⟩:=nn pre i post st o hσ kj hF
  -- what the operation looks at
  have he:cJ g w st (ir l o (dE env ((l.take p).take i) (xs.take i))) tmps:=by
   intro s y hy
   obtain ⟨GZ,CO⟩:=oe hy
   rcases fA (by simp[Ii]) CO with ⟨j,o',h1,h2,h3⟩|⟨h1,h2⟩
   ·have gX:j<i:=by have:=(List.getElem?_eq_some_iff.1 h2).1;simp at this;omega
    have uV:l[j]?=some o':=by
     rw[List.getElem?_take,if_pos gX,List.getElem?_take,if_pos (by omega)] at h1;exact h1
    have pd:cG l j=some s:=by simp[cG,uV,h3]
    rcases OK i o hi kj s GZ j (by omega) (by omega) pd with ⟨_,hb⟩|⟨cd,_⟩
    ·exact (hJ s).1 j y (oi j hb) pd (by rw[List.getElem?_take,if_pos gX] at h2;exact h2)
    ·omega
   ·refine (hJ s).2 (λj hj pd=>?_) y h2
    have gX:j≠i:=λe=>G9 (e▸hj)
    rcases OK i o hi kj s GZ j (hprelt j hj) gX pd with ⟨cd,_⟩|⟨cd,hb⟩
    ·cases uV:l[j]? with
     | none=>simp[cG,uV] at pd
     | some o'=>exact h1 j o' (by rw[List.getElem?_take,if_pos cd,List.getElem?_take,if_pos (hprelt j hj)];exact uV) (by simpa [cG,uV] using pd)
    ·-- j came ahead of i,though it must come behind it
     obtain ⟨a,b,uN⟩:=List.append_of_mem hj
     have:=hs.mask a j (b++i::post) (by rw[hσ,uN];simp) i hb
     exact absurd (by rw[uN];simp[this]:i∈pre) G9
  have next:∀ (g':br) (w':uC) (v:uB),bm g' w' st' x v->Inv g' S.base w' st'->Step S.base g w st g' w' st' ->
    dv P f (pO S Q) (.inRegion l.toArray (post++List.range' p (l.length-p))::k) (Act.put ⟨tmps,[]⟩ o.dst v).tmps w':=by
   intro g' w' v wG cF lH
   refine ih (pre++[i]) st' g' w' _ (by rw[hσ];simp) UY cF (hh.step lH) (by rw[fp];exact hN) λs=>⟨λj y hj pd hy=>?_,λG0 y hy=>?_⟩
   ·by_cases gX:j=i
    ·subst gX
     have De:o.dst=some s:=by simpa [cG,kj] using pd
     rw[hx] at hy
     cases hy
     rw[De]
     have iW:s<tmps.size:=by
      rw[De] at hd
      have Sk:s+1<=N:=Nat.le_of_ble_eq_true hd
      rw[hN]
      exact Sk
     exact ⟨v,by simp[Act.put,iW],wG⟩
    ·have Fx:j∈pre:=by
      rcases List.mem_append.1 hj with h|h
      ·exact h
      ·exact absurd (List.mem_singleton.1 h) gX
     obtain ⟨u,h1,h2⟩:=(hJ s).1 j y Fx pd hy
     have mG:o.dst≠some s:=λe=>Sd j i s (hprelt j Fx) hi gX pd (by simp[cG,kj,e])
     refine ⟨u,?_,h2.mono lH.du⟩
     cases J9:o.dst with
     | none=>exact h1
     | some d =>
      have:d≠s:=λe=>mG (by rw[J9,e])
      simp[Act.put,Array.getElem?_setIfInBounds,this,h1]
   ·have mG:o.dst≠some s:=λe=>G0 i (by simp) (by simp[cG,kj,e])
    obtain ⟨u,h1,h2⟩:=(hJ s).2 (λj hj=>G0 j (by simp[hj])) y hy
    refine ⟨u,?_,h2.mono lH.du⟩
    cases J9:o.dst with
    | none=>exact h1
    | some d =>
     have:d≠s:=λe=>mG (by rw[J9,e])
     simp[Act.put,Array.getElem?_setIfInBounds,this,h1]
  have zR:l.toArray[i]?=some o:=by simpa using kj
  show dv P f (pO S Q) (.inRegion l.toArray (i::_)::k) tmps w
  have sj:st'=st->∀ (b9:Nat->Nat) (w':uC) (v:uB),Good g w st x b9 w' v ->
    dv P f (pO S Q) (.inRegion l.toArray (post++List.range' p (l.length-p))::k) (Act.put ⟨tmps,[]⟩ o.dst v).tmps w':=by
   rintro rfl b9 w' v ⟨wG,hb,hl⟩
   obtain ⟨cF,lH⟩:=hinv.grow (g':={ g with bl:=b9 }) hb hl rfl rfl
   exact next _ w' v wG cF lH
  rcases qH with (⟨Io,qH⟩|⟨hg,qH⟩|⟨hg,rfl,qH⟩)|⟨hg,qH⟩
  ·rcases qH with ⟨hg,qH⟩|⟨j,want,tt,c,b,y,env',hg,hj,Sl,Sn,rfl,hE,qH⟩
   ·have hw:Region.wanted o (yielded l.toArray tmps)=true:=by simp[Region.wanted,hg]
    rcases qH g S.base w tmps hinv he with ⟨v,b9,w',hr,sb⟩|⟨f',args,hr,hc⟩
    ·exact dv.value zR hw hr (sj Io b9 w' v sb)
    ·exact dv.call zR hw hr (hc.mono λe w' ⟨v,b9,h1,h2⟩=>⟨v,h1,sj Io b9 w' v h2⟩)
   ·obtain ⟨u,hu,So⟩:=he tt c Sl
    have hw:Region.wanted o (yielded l.toArray tmps)=b:=by
     rw[←pQ Sn So]
     have Fx:((l.toArray)[j]?).bind (·.dst)=some tt:=by simpa using hj
     simp only[Region.wanted,hg,yielded,Fx,Option.bind_some,hu]
     cases u<;>rfl
    cases b with
    | false=>exact dv.rY zR hw (sj Io g.bl w undef ⟨.gd _ _ _ (λ_=>rfl) (λh=>by cases h),.refl _ _,λ_ _=>rfl⟩)
    | true =>
     have wrap:∀ b9 w' v,Good g w st y b9 w' v->Good g w st (.gd true y) b9 w' v:=λb9 w' v ⟨a,b,c⟩=>⟨.gd _ _ _ (λh=>by cases h) (λ_=>a),b,c⟩
     rcases qH rfl g S.base w tmps hinv (he.gd hE rfl) with ⟨v,b9,w',hr,sb⟩|⟨f',args,hr,hc⟩
     ·exact dv.value zR hw hr (sj Io b9 w' v (wrap _ _ _ sb))
     ·exact dv.call zR hw hr (hc.mono λe w' ⟨v,b9,h1,h2⟩=>⟨v,h1,sj Io b9 w' v (wrap _ _ _ h2)⟩)
  ·have hw:Region.wanted o (yielded l.toArray tmps)=true:=by simp[Region.wanted,hg]
   obtain ⟨v,g',w',hr,wG,cF,lH⟩:=qH g w tmps hinv he
   exact dv.value zR hw hr (next g' w' v wG cF lH)
  ·have hw:Region.wanted o (yielded l.toArray tmps)=true:=by simp[Region.wanted,hg]
   obtain ⟨g',w',hr,cF,lH⟩:=qH g w tmps hinv he
   exact dv.skip zR hw hr (next g' w' undef (.d _ _ (.any _)) cF lH)
  ·have hw:Region.wanted o (yielded l.toArray tmps)=true:=by simp[Region.wanted,hg]
   obtain ⟨f',args,hr,hc⟩:=qH g w tmps hinv he
   exact dv.call zR hw hr (hc.mono λe w' ⟨v,g',h1,wG,cF,lH⟩=>⟨v,h1,next g' w' v wG cF lH⟩)
def BS:List St->(St->Prop)->Prop
 | [],_=>True
 | s::r,p=>p s/\BS r p
theorem BS.get {p:St->Prop}:∀ {ss:O St} {i:Nat} {s:St},BS ss p->ss[i]?=some s->p s
 | s::r,0,s',h,hs=>by simp at hs;subst hs;exact h.1
 | s::r,i+1,s',h,hs=>BS.get h.2 (by simpa using hs)
 | [],i,s',h,hs=>by simp at hs
def P5 (l:List Oper) (E:List Nat) (i m:Nat):Bool:=E.zipIdx.all λe=>(!((cN l []).getD i 0).testBit e.1 || decide (e.2<m)) && (!((cN l []).getD e.1 0).testBit i || decide (m<=e.2))
def BT (l:List Oper) (E:List Nat) (i lo hi:Nat):Bool:=(List.range (E.length+1)).all λm=>!P5 l E i m || (decide (lo<=m) && decide (m<=hi))
def OR (P:uG) (N base:Nat) (l:List Oper) (E:List Nat) (eC:List St) (i:Nat) (o:Oper) (env:Env) (x:EV):Prop :=
  dZ N o.dst=true /\
  ((∃ lo hi,(!E.any λe=>Nat.beq e i)=true/\BT l E i lo hi=true/\BS ((eC.take (hi+1)).drop lo) λs=>oh P l env s o x) ∨
   (∃ m s s',E[m]?=some i/\eC[m]?=some s/\eC[m+1]?=some s'/\o.guard=none/\(tQ P base env s o x s'∨(x=.d .any/\CN P base env s o s')∨Wl P base env s o x s')))
def qT (P:uG) (N base:Nat) (l:List Oper) (E:List Nat) (eC:List St):Nat->List Oper->List EV->Env->Prop
 | _,[],[],_=>True
 | i,o::os,x::xs,env=>OR P N base l E eC i o (ir l o env) x/\qT P N base l E eC (i+1) os xs (env.put o.dst x)
 | _,_,_,_=>False
theorem qT.length {base:Nat} {l:O Oper} {E:O Nat} {eC:O St}:∀ {i:Nat} {os:O Oper} {xs:O EV} {env:Env},qT P N base l E eC i os xs env->xs.length=os.length
 | _,[],[],_,_=>rfl
 | _,o::os,x::xs,env,h=>by simp[qT.length h.2]
 | _,[],x::xs,_,h=>h.elim
 | _,o::os,[],_,h=>h.elim
theorem qT.get {base:Nat} {l:O Oper} {E:O Nat} {eC:O St}:∀ {i:Nat} {os:O Oper} {xs:O EV} {env:Env} {j:Nat} {o:Oper},qT P N base l E eC i os xs env->os[j]?=some o ->
  ∃ x,xs[j]?=some x/\OR P N base l E eC (i+j) o (ir l o (dE env (os.take j) (xs.take j))) x
 | i,o'::os,x::xs,env,0,o,h,ho=>by
  simp at ho;subst ho
  exact ⟨x,rfl,by simpa [dE] using h.1⟩
 | i,o'::os,x::xs,env,j+1,o,h,ho=>by
  obtain ⟨y,h1,h2⟩:=qT.get (j:=j) h.2 (by simpa using ho)
  exact ⟨y,by simpa using h1,by simpa [dE,Nat.add_assoc,Nat.add_comm 1 j] using h2⟩
 | i,[],xs,env,j,o,h,ho=>by simp at ho
 | i,o'::os,[],_,_,_,h,_=>h.elim
theorem ba.U6 {l:O Oper} {p:Nat} {σ:O Nat} {env:Env} {st sk:St} (hB:og l p=true) (hs:tD l p σ) (E:O Nat) (eC:O St) (hE:σ.filter (λi=>E.any λe=>Nat.beq e i)=E) {xs:O EV}
  (h0:eC[0]?=some st) (hF:eC[E.length]?=some sk) (JB:qT P N S.base l E eC 0 (l.take p) xs env) (vR:cn P f N S Q l (l.drop p) k (dE env (l.take p) xs) sk) :
  ba P f N S Q (.inRegion l.toArray (σ++List.range' p (l.length-p))::k) env st:=by
 simp only[og,Bool.and_eq_true] at hB
 obtain ⟨⟨⟨⟨Rt,Ru⟩,Rv⟩,Rw⟩,PI⟩:=hB
 have hp:p<=l.length:=by simpa using PI
 have OO:xs.length=p:=by rw[JB.length];simp;omega
 refine ba.U5 hs hp xs (λpre s=>eC[(pre.filter λi=>E.any λe=>Nat.beq e i).length]?=some s) ?_ ?_ OO h0 ?_ ?_
 ·intro i j t hi hj zZ Sp pd
  have:=bH (bH Ru hi) hj
  simp[zZ,Sp,pd] at this
 ·intro i o hi ho t ht j hj gX pd
  have h1:=bH Rt hi
  rw[ho] at h1
  simp only[List.all_eq_true] at h1
  have h2:=bH (h1 t ht) hj
  simp only[pd,bne_self_eq_false,Bool.or_false,Bool.or_eq_true,Bool.and_eq_true,decide_eq_true_eq,beq_iff_eq] at h2
  rcases h2 with (h2|h2)|h2
  ·exact absurd h2.symm gX
  ·exact .inl h2
  ·exact .inr h2
 ·intro pre i post s o hσ ho Ha
  have hi:i<p:=(hs.mem i).1 (by rw[hσ];simp)
  obtain ⟨x,hx,lH⟩:=JB.get (j:=i) (o:=o) (by rw[List.getElem?_take,if_pos hi];exact ho)
  rw[Nat.zero_add] at lH
  obtain ⟨hd,lH⟩:=lH
  refine ⟨hd,x,?_⟩
  -- how far the turning operations have come
  have BU:E=(pre.filter λi=>E.any λe=>Nat.beq e i)++((i::post).filter λi=>E.any λe=>Nat.beq e i):=by
   have:=hE
   rw[hσ,List.filter_append] at this
   exact this.symm
  generalize hm:(pre.filter λi=>E.any λe=>Nat.beq e i).length=m at Ha
  have Yh:m<=E.length:=by rw[BU,List.length_append,hm];omega
  rcases lH with ⟨lo,hi',dq,hb,lJ⟩|⟨m',s0,s1,T4,Mx,Xo,hg,qH⟩
  ·have P6:(E.any λe=>Nat.beq e i)=false:=by simpa using dq
   have P7:P5 l E i m=true:=by
    unfold P5
    rw[List.all_eq_true]
    rintro ⟨e,j⟩ U7
    have Ry:E[j]?=some e:=by
     have:=List.mem_zipIdx_iff_getElem?.1 U7
     simpa using this
    have M0:(E.any λe'=>Nat.beq e' e)=true:=List.any_eq_true.2 ⟨e,List.mem_of_getElem? Ry,Nat.beq_refl e⟩
    simp only[Bool.and_eq_true,Bool.or_eq_true,Bool.not_eq_true',decide_eq_true_eq]
    have Ku:E.Nodup:=by rw[←hE];exact hs.nodup.filter _
    constructor
    ·cases Kv:((cN l []).getD i 0).testBit e with
     | false=>exact .inl rfl
     | true =>
      right
      have Fm:=hs.mask pre i post hσ e Kv
      have U8:e∈pre.filter λi=>E.any λe=>Nat.beq e i:=List.mem_filter.2 ⟨Fm,M0⟩
      obtain ⟨a,ha,Xp⟩:=List.mem_iff_getElem.1 U8
      have:E[a]?=some e:=by rw[BU,List.getElem?_append_left ha,List.getElem?_eq_getElem ha,Xp]
      have Yi:a=j:=by
       have h1:=(List.getElem?_eq_some_iff.1 this)
       have h2:=(List.getElem?_eq_some_iff.1 Ry)
       exact (List.getElem_inj Ku).1 (h1.2.trans h2.2.symm)
      omega
    ·cases Kv:((cN l []).getD e 0).testBit i with
     | false=>exact .inl rfl
     | true =>
      right
      -- e comes behind i
      rcases Nat.lt_or_ge j m with Wm|Wm
      ·have h1:(pre.filter λi=>E.any λe=>Nat.beq e i)[j]?=some e:=by
        rw[BU,List.getElem?_append_left (by omega)] at Ry
        exact Ry
       have Fm:e∈pre:=(List.mem_filter.1 (List.mem_of_getElem? h1)).1
       obtain ⟨a,b,uN⟩:=List.append_of_mem Fm
       have:=hs.mask a e (b++i::post) (by rw[hσ,uN];simp) i Kv
       have G9:i ∉ pre:=by
        have:=hs.nodup
        rw[hσ,List.nodup_append] at this
        exact λhm=>this.2.2 i hm i List.mem_cons_self rfl
       exact absurd (by rw[uN];simp[this]:i∈pre) G9
      ·exact Wm
   have Wn:=List.all_eq_true.1 hb m (List.mem_range.2 (by omega))
   rw[P7] at Wn
   simp only[Bool.not_true,Bool.false_or,Bool.and_eq_true,decide_eq_true_eq] at Wn
   refine ⟨s,hx,.inl (.inl ⟨rfl,lJ.get (i:=m-lo) ?_⟩),?_⟩
   ·rw[List.getElem?_drop,List.getElem?_take,if_pos (by omega),show lo+(m-lo)=m by omega]
    exact Ha
   ·rw[List.filter_append,List.filter_cons,P6]
    simp only[Bool.false_eq_true,if_false,List.filter_nil,List.append_nil]
    rw[hm];exact Ha
  ·have M0:(E.any λe'=>Nat.beq e' i)=true:=List.any_eq_true.2 ⟨i,List.mem_of_getElem? T4,Nat.beq_refl i⟩
   have Ku:E.Nodup:=by rw[←hE];exact hs.nodup.filter _
   have U9:E[m]?=some i:=by
    rw[BU,List.getElem?_append_right (by omega),hm,Nat.sub_self,List.filter_cons,M0]
    rfl
   have T5:m=m':=by
    have h1:=(List.getElem?_eq_some_iff.1 U9)
    have h2:=(List.getElem?_eq_some_iff.1 T4)
    exact (List.getElem_inj Ku).1 (h1.2.trans h2.2.symm)
   subst T5
   rw[Ha] at Mx
   cases Mx
   refine ⟨s1,hx,?_,?_⟩
   ·rcases qH with h|⟨h1,h2⟩|h
    ·exact .inl (.inr (.inl ⟨hg,h⟩))
    ·exact .inl (.inr (.inr ⟨hg,h1,h2⟩))
    ·exact .inr ⟨hg,h⟩
   ·rw[List.filter_append,List.filter_cons,M0]
    simp only[if_true,List.filter_nil,List.length_append,List.length_singleton,hm]
    exact Xo
 ·intro s Ha
  rw[hE,hF] at Ha
  cases Ha
  exact vR
theorem filter_one {σ:O Nat} (hn:σ.Nodup) {e:Nat} (he:e∈σ):σ.filter (λi=>i==e)=[e]:=by
 induction σ with
 | nil=>cases he
 | cons c r ih =>
  rw[List.nodup_cons] at hn
  by_cases hc:c=e
  ·subst hc
   have:r.filter (λi=>i==c)=[]:=List.filter_eq_nil_iff.2 λi hi h=>hn.1 (by rw[beq_iff_eq] at h;exact h▸hi)
   rw[List.filter_cons,beq_self_eq_true,if_pos rfl,this]
  ·rw[List.filter_cons]
   have:(c==e)=false:=by simpa using hc
   rw[this]
   simpa using ih hn.2 ((List.mem_cons.1 he).resolve_left (Ne.symm hc))
theorem tD.one {l:O Oper} {p:Nat} {σ:O Nat} (hs:tD l p σ) {e:Nat} (he:e<p):σ.filter (λi=>[e].any λe=>Nat.beq e i)=[e]:=by
 have h1:(λi=>[e].any λe=>Nat.beq e i)=λi=>i==e:=by
  funext i
  simp only[List.any_cons,List.any_nil,Bool.or_false]
  rw[Bool.eq_iff_iff,Nat.beq_eq,beq_iff_eq,eq_comm]
 rw[h1]
 exact filter_one hs.nodup ((hs.mem e).2 he)
theorem FX {σ:O Nat} (hn:σ.Nodup) {a b:Nat} (uN:a≠b) (ha:a∈σ) (hb:b∈σ) (q:Nat->Bool) (hq:∀ i,q i=(i==a || i==b)):σ.filter q=[a,b]∨σ.filter q=[b,a]:=by
 induction σ with
 | nil=>cases ha
 | cons c r ih =>
  rw[List.nodup_cons] at hn
  by_cases T6:c=a
  ·subst T6
   left
   have Va:b∈r:=(List.mem_cons.1 hb).resolve_left (Ne.symm uN)
   rw[List.filter_cons,hq,beq_self_eq_true,Bool.true_or,if_pos rfl]
   congr 1
   have:r.filter q=r.filter λi=>i==b:=List.filter_congr λi hi=>by
    have:i≠c:=λe=>hn.1 (e▸hi)
    rw[hq];simp[this]
   rw[this]
   exact filter_one hn.2 Va
  ·by_cases Vb:c=b
   ·subst Vb
    right
    have Vc:a∈r:=(List.mem_cons.1 ha).resolve_left (Ne.symm T6)
    rw[List.filter_cons,hq,beq_self_eq_true,Bool.or_true,if_pos rfl]
    congr 1
    have:r.filter q=r.filter λi=>i==a:=List.filter_congr λi hi=>by
     have:i≠c:=λe=>hn.1 (e▸hi)
     rw[hq];simp[this]
    rw[this]
    exact filter_one hn.2 Vc
   ·have Vc:a∈r:=(List.mem_cons.1 ha).resolve_left (Ne.symm T6)
    have Va:b∈r:=(List.mem_cons.1 hb).resolve_left (Ne.symm Vb)
    have:=ih hn.2 Vc Va
    rw[List.filter_cons,hq]
    simpa [T6,Vb] using this
theorem tD.two {l:O Oper} {p:Nat} {σ:O Nat} (hs:tD l p σ) {a b:Nat} (uN:a≠b) (ha:a<p) (hb:b<p) :
  σ.filter (λi=>[a,b].any λe=>Nat.beq e i)=[a,b]∨σ.filter (λi=>[b,a].any λe=>Nat.beq e i)=[b,a]:=by
 have q1:∀ i,([a,b].any λe=>Nat.beq e i)=(i==a || i==b):=λi=>by
  simp only[List.any_cons,List.any_nil,Bool.or_false]
  rw[Bool.eq_iff_iff]
  simp only[Bool.or_eq_true,Nat.beq_eq,beq_iff_eq]
  exact ⟨λh=>h.elim (λh=>.inl h.symm) (λh=>.inr h.symm),λh=>h.elim (λh=>.inl h.symm) (λh=>.inr h.symm)⟩
 have q2:∀ i,([b,a].any λe=>Nat.beq e i)=(i==a || i==b):=λi=>by
  simp only[List.any_cons,List.any_nil,Bool.or_false]
  rw[Bool.eq_iff_iff]
  simp only[Bool.or_eq_true,Nat.beq_eq,beq_iff_eq]
  exact ⟨λh=>h.elim (λh=>.inr h.symm) (λh=>.inl h.symm),λh=>h.elim (λh=>.inr h.symm) (λh=>.inl h.symm)⟩
 rcases FX hs.nodup uN ((hs.mem a).2 ha) ((hs.mem b).2 hb) _ q1 with h|h
 ·exact .inl h
 ·right
  have:(λi=>[b,a].any λe=>Nat.beq e i)=λi=>[a,b].any λe=>Nat.beq e i:=by
   funext i;rw[q1,q2]
  rw[this];exact h
theorem tD.Vd {l:O Oper} {p:Nat} {σ:O Nat} (hs:tD l p σ) {a b:Nat} (ha:a<p) (hb:b<p) (hm:((cN l []).getD b 0).testBit a=true) :
  σ.filter (λi=>[a,b].any λe=>Nat.beq e i)=[a,b]:=by
 have uN:a≠b:=by
  rintro rfl
  obtain ⟨x,y,Rz⟩:=List.append_of_mem ((hs.mem a).2 ha)
  have h1:=hs.mask x a y Rz a hm
  have:=hs.nodup
  rw[Rz,List.nodup_append] at this
  exact this.2.2 a h1 a List.mem_cons_self rfl
 rcases hs.two uN ha hb with h|h
 ·exact h
 ·exfalso
  obtain ⟨x,y,Rz⟩:=List.append_of_mem ((hs.mem b).2 hb)
  have h1:=hs.mask x b y Rz a hm
  rw[Rz,List.filter_append] at h
  have q:([b,a].any λe=>Nat.beq e b)=true:=by simp
  rw[List.filter_cons,q] at h
  have h2:a∈x.filter λi=>[b,a].any λe=>Nat.beq e i:=List.mem_filter.2 ⟨h1,by simp⟩
  obtain ⟨u,v,Yj⟩:=List.append_of_mem h2
  have hl:=congrArg List.length h
  have Xq:b ∉ x:=by
   have:=hs.nodup
   rw[Rz,List.nodup_append] at this
   exact λhm=>this.2.2 b hm b List.mem_cons_self rfl
  cases hx:x.filter λi=>[b,a].any λe=>Nat.beq e i with
  | nil=>rw[hx] at h2;cases h2
  | cons c r =>
   rw[hx] at h
   simp only[List.cons_append,List.cons.injEq] at h
   have:b∈x.filter λi=>[b,a].any λe=>Nat.beq e i:=by rw[hx,h.1];exact List.mem_cons_self
   exact Xq (List.mem_filter.1 this).1
def nd (P:uG) (f:Ctx) (N:Nat) (S:Start) (Q:EV->St->Prop) (l:List Oper) (p:Nat) (E:List Nat) (eC:List St) (i:Nat) (os:List Oper) (k:List Item) (env:Env):Prop :=
 ∃ xs sk,eC[E.length]?=some sk/\qT P N S.base l E eC i os xs env/\cn P f N S Q l (l.drop p) k (dE env os xs) sk
variable {l:List Oper} {p:Nat} {E:List Nat} {eC:List St} {i:Nat} {os:List Oper} {env:Env} {st:St} {d:Option Tmp} {op:Op} {ty:uE} {pos:String} {after:uD Edge} {x:EV}
theorem nd.nil {sk:St} (hF:eC[E.length]?=some sk) (h:cn P f N S Q l (l.drop p) k env sk):nd P f N S Q l p E eC i [] k env:=⟨[],sk,hF,trivial,h⟩
def IC (P:uG) (l:List Oper) (env:Env) (o:Oper) (x:EV):List St->Prop
 | []=>True
 | s::r=>ti P (ir l o env) s o x/\IC P l env o x r
theorem IC.all {o:Oper} {P:uG} {l:O Oper} {env:Env} {x:EV} (hg:o.guard=none):∀ {ss:O St},IC P l env o x ss->BS ss λs=>oh P l (ir l o env) s o x
 | [],_=>trivial
 | s::r,h=>⟨.inl ⟨hg,h.1⟩,IC.all hg h.2⟩
theorem nd.g (lo hi:Nat) (h:IC P l env ⟨d,op,ty,pos,after,none⟩ x ((eC.take (hi+1)).drop lo)) (dq:(!E.any λe=>Nat.beq e i)=true) (hb:BT l E i lo hi=true) (hd:dZ N d=true)
  (hk:nd P f N S Q l p E eC (i+1) os k (env.put d x)):nd P f N S Q l p E eC i (⟨d,op,ty,pos,after,none⟩::os) k env:=by
 obtain ⟨xs,sk,h0,h1,h2⟩:=hk
 exact ⟨x::xs,sk,h0,⟨⟨hd,.inl ⟨lo,hi,dq,hb,h.all rfl⟩⟩,h1⟩,h2⟩
theorem nd.G (lo hi:Nat) (h:IC P l env ⟨d,op,ty,pos,after,none⟩ x ((eC.take (hi+1)).drop lo)) (dq:(!E.any λe=>Nat.beq e i)=true) (hd:dZ N d=true)
  (hk:nd P f N S Q l p E eC (i+1) os k (env.put d x)) (hb:BT l E i lo hi=true:=by kernel_rfl):nd P f N S Q l p E eC i (⟨d,op,ty,pos,after,none⟩::os) k env:=.g lo hi h dq hb hd hk
theorem nd.eN {d t:Tmp} {j:Nat} {want b:Bool} {c:EV} {env':Env} (lo hi:Nat) (hj:(l[j]?).bind (·.dst)=some t)
  (hl:lookup t (ir l ⟨some d,op,ty,pos,after,some (j,want)⟩ env)=some c) (hc:xO c want=some b) (hE:tB b (ir l ⟨some d,op,ty,pos,after,some (j,want)⟩ env) env') (hd:dZ N (some d)=true)
  (h:b=true->BS ((eC.take (hi+1)).drop lo) λs=>ti P env' s ⟨some d,op,ty,pos,after,some (j,want)⟩ x) (dq:(!E.any λe=>Nat.beq e i)=true) (hb:BT l E i lo hi=true)
  (hk:nd P f N S Q l p E eC (i+1) os k ((d,.gd b x)::env)):nd P f N S Q l p E eC i (⟨some d,op,ty,pos,after,some (j,want)⟩::os) k env:=by
 obtain ⟨xs,sk,h0,h1,h2⟩:=hk
 refine ⟨.gd b x::xs,sk,h0,⟨⟨hd,.inl ⟨lo,hi,dq,hb,?_⟩⟩,h1⟩,h2⟩
 have mk:∀ {ss:O St},(b=true->BS ss λs=>ti P env' s ⟨some d,op,ty,pos,after,some (j,want)⟩ x)->BS ss λs=>oh P l (ir l ⟨some d,op,ty,pos,after,some (j,want)⟩ env) s ⟨some d,op,ty,pos,after,some (j,want)⟩ (.gd b x):=by
  intro ss
  induction ss with
  | nil=>exact λ_=>trivial
  | cons s r ih=>exact λh=>⟨.inr ⟨j,want,t,c,b,x,env',rfl,hj,hl,hc,rfl,hE,λhb=>(h hb).1⟩,ih λhb=>(h hb).2⟩
 exact mk h
theorem nd.v {s s':St} (m:Nat) (h:tQ P S.base (ir l ⟨d,op,ty,pos,after,none⟩ env) s ⟨d,op,ty,pos,after,none⟩ x s') (hE:E[m]?=some i) (h1:eC[m]?=some s) (h2:eC[m+1]?=some s') (hd:dZ N d=true)
  (hk:nd P f N S Q l p E eC (i+1) os k (env.put d x)):nd P f N S Q l p E eC i (⟨d,op,ty,pos,after,none⟩::os) k env:=by
 obtain ⟨xs,sk,h0,h3,h4⟩:=hk
 exact ⟨x::xs,sk,h0,⟨⟨hd,.inr ⟨m,s,s',hE,h1,h2,rfl,.inl h⟩⟩,h3⟩,h4⟩
theorem nd.u {s s':St} (m:Nat) (h:CN P S.base (ir l ⟨d,op,ty,pos,after,none⟩ env) s ⟨d,op,ty,pos,after,none⟩ s') (hE:E[m]?=some i) (h1:eC[m]?=some s) (h2:eC[m+1]?=some s') (hd:dZ N d=true)
  (hk:nd P f N S Q l p E eC (i+1) os k (env.put d (.d .any))):nd P f N S Q l p E eC i (⟨d,op,ty,pos,after,none⟩::os) k env:=by
 obtain ⟨xs,sk,h0,h3,h4⟩:=hk
 exact ⟨.d .any::xs,sk,h0,⟨⟨hd,.inr ⟨m,s,s',hE,h1,h2,rfl,.inr (.inl ⟨rfl,h⟩)⟩⟩,h3⟩,h4⟩
theorem ba.Wo {σ:O Nat} {env:Env} {st:St} (hB:og l p=true) (hs:tD l p σ) (hE:σ.filter (λi=>E.any λe=>Nat.beq e i)=E) (h0:eC[0]?=some st) (h:nd P f N S Q l p E eC 0 (l.take p) k env) :
  ba P f N S Q (.inRegion l.toArray (σ++List.range' p (l.length-p))::k) env st:=by
 obtain ⟨xs,sk,h1,h2,h3⟩:=h
 exact .U6 hB hs E eC hE h0 h1 h2 h3
theorem ba.xo {id:Nat} {l:O Oper} {env:Env} {st:St} (p a:Nat) (eC:O St) (hm:P.follows .mixedOrders=true) (hB:og l p=true) (ha:a<p) (h0:eC[0]?=some st)
  (h:nd P f N S Q l p [a] eC 0 (l.take p) k env):ba P f N S Q (.code (.region id l.toArray true)::k) env st :=
 .Kt p hm hB λ_ hσ=>.Wo hB hσ (hσ.one ha) h0 h
theorem ba.M1 {id:Nat} {l:O Oper} {env:Env} {st:St} (p a b:Nat) (eC:O St) (hm:P.follows .mixedOrders=true) (hB:og l p=true) (ha:a<p) (hb:b<p) (uN:((cN l []).getD b 0).testBit a=true) (h0:eC[0]?=some st)
  (h:nd P f N S Q l p [a,b] eC 0 (l.take p) k env):ba P f N S Q (.code (.region id l.toArray true)::k) env st :=
 .Kt p hm hB λ_ hσ=>.Wo hB hσ (hσ.Vd ha hb uN) h0 h
end run
section rules
variable {P:uG} {f:Ctx} {N:Nat} {S:Start} {Q:EV->St->Prop} {k:List Item} {todo:List Item} {base:Nat} {env:Env} {st:St} {ops rest:List Oper}
 {d:Option Tmp} {ty:uE} {pos:String} {after:uD Edge} {gd:Option (Nat×Bool)} {t t2 e:uE} {x y z:uH}
section sl
variable {α:Type} {sz:Nat} {row:α->List D} {l:List α} {ev:EV} {inf:TypeInfo} {tk Yk n n2:Nat}
theorem lM {l':O α} {zv:uB} {e0 w2:EV} (ht:P.underlying t=some (.slice e)) (hi:P.info? e=some inf) (hz:inf.zero=some zv) (cM:inf.size=sz) (m9:zv.cells.size=sz) (hb:inf.bytes<=100000)
  (hx:bI env x=some e0) (h0:e0=.d (.e0 sz)∨e0=.d bT) (dO:st.al[tk]?=some ⟨e,sz,0,some (([]:O α).map row)⟩) (hy:bI env y=some w2) (hs:oa w2=some (sz,l'.map row)) (hn:l'.length<=1000000000) :
  tQ P base env st ⟨d,.call ⟨.builtin .append,#[x,y],#[t,t]⟩,ty,pos,after,gd⟩ (.vc tk ([]++l').length) (st.a8 tk ⟨e,sz,([]++l').length,some (([]++l').map row)⟩):=by
 intro g w tmps hinv he
 have R8:cT g.bl w (.e0 sz) (Act.eval ⟨tmps,[]⟩ x):=by
  rcases h0 with rfl|rfl
  ·cases aA he hx with|d _ _ h=>exact h
  ·rw[(aA he hx).aZ];exact .e0 sz none (.inl rfl)
 have hlen:tk<st.al.length:=(List.getElem?_eq_some_iff.1 dO).1
 have lI:bm g w st (.vc tk 0) (Act.eval ⟨tmps,[]⟩ x):=by
  generalize hv:Act.eval ⟨tmps,[]⟩ x=v at R8
  cases R8 with|e0 _ A hA=>exact Kn hlen dO ⟨A,rfl⟩
 obtain ⟨news,pz⟩:=pS (P:=P) (ko hs (aA he hy))
 obtain ⟨v',g',w',r7,k1,k2,k3⟩:=wK (ty:=ty) (l:=([]:O α)) ht ht (.inr ⟨e,rfl⟩) hi hz cM m9 hb hinv lI dO (by simpa using hn) pz
 exact ⟨v',g',w',by simp[execOp,resolve,invoke,builtin,r7],k1,k2,k3⟩
end sl
theorem ba.P8 {e sz:Nat} (h:ba P f N S Q todo env (st.tok ⟨e,sz,0,some []⟩)):ba P f N S Q todo env st:=by
 intro g w tmps hinv hh he hN
 obtain ⟨g',h1,_,_,h2,h3⟩:=hinv.BC ⟨e,sz,0,some []⟩ (World.ownsRow_nil w S.base _ _) (.inl ⟨rfl,rfl⟩) (λrows hr=>by cases hr;exact ⟨rfl,by simp,by simp⟩)
 exact h g' w tmps h2 (hh.step h3) (he.mono h3.du) hN
end rules
def g8 (L:Nat->Bool):List Nat->Nat
 | []=>0
 | e::r=>(if L e then 1 else 0)+2*g8 L r
theorem v3 (L:Nat->Bool):∀ (E:O Nat) (j e:Nat),E[j]?=some e->(g8 L E).testBit j=L e
 | e::r,0,e',h=>by
  simp at h;subst h
  unfold g8
  cases hL:L e<;>simp[Nat.testBit_zero]<;>omega
 | e::r,j+1,e',h=>by
  have ih:=v3 L r j e' (by simpa using h)
  unfold g8
  rw[Nat.testBit_succ]
  have:((if L e then 1 else 0)+2*g8 L r) / 2=g8 L r:=by cases L e<;>simp<;>omega
  rw[this];exact ih
theorem DB (L:Nat->Bool):∀ E:O Nat,g8 L E<2 ^ E.length
 | []=>by simp[g8]
 | e::r=>by
  have:=DB L r
  unfold g8
  rw[List.length_cons,Nat.pow_succ]
  cases L e<;>simp<;>omega
theorem ub {L L':Nat->Bool}:∀ {E:O Nat},(∀ e∈E,L' e=L e)->g8 L' E=g8 L E
 | [],_=>rfl
 | e::r,h=>by
  unfold g8
  rw[h e List.mem_cons_self,ub λx hx=>h x (List.mem_cons_of_mem _ hx)]
theorem AM {L:Nat->Bool} {i:Nat} (hi:L i=false):∀ {E:O Nat} {m:Nat},E.Nodup->E[m]?=some i->g8 (λj=>j==i || L j) E=g8 L E+2 ^ m
 | e::r,0,hn,h=>by
  simp at h;subst h
  rw[List.nodup_cons] at hn
  unfold g8
  rw[ub (L:=L) (E:=r) λx hx=>by
   have:x≠e:=λhh=>hn.1 (hh▸hx)
   simp[this]]
  simp[hi];omega
 | e::r,m+1,hn,h=>by
  rw[List.nodup_cons] at hn
  have h':r[m]?=some i:=by simpa using h
  have ih:=AM hi hn.2 h'
  have dq:e≠i:=λhh=>hn.1 (hh▸List.mem_of_getElem? h')
  unfold g8
  rw[ih,Nat.pow_succ]
  have:(e==i)=false:=by simpa using dq
  simp only[this,Bool.false_or]
  omega
def P9 (l:List Oper) (E:List Nat) (i n:Nat):Bool :=
 E.zipIdx.all λe=>(!((cN l []).getD i 0).testBit e.1 || n.testBit e.2) && (!(((cN l []).getD e.1 0).testBit i || Nat.beq e.1 i) || !n.testBit e.2) && (!n.testBit e.2 || E.zipIdx.all λe'=>!((cN l []).getD e.1 0).testBit e'.1 || n.testBit e'.2)
def BV (l:List Oper) (E:List Nat) (i:Nat) (ns:List Nat):Bool:=(List.range (2 ^ E.length)).all λn=>!P9 l E i n || ns.any λk=>Nat.beq k n
section run
variable {P:uG} {f:Ctx} {N:Nat} {S:Start} {Q:EV->St->Prop} {k:List Item}
def DC (eC:List St):List Nat->(St->Prop)->Prop
 | [],_=>True
 | n::r,p=>(∃ s,eC[n]?=some s/\p s)/\DC eC r p
theorem DC.get {eC:O St} {p:St->Prop}:∀ {ns:O Nat} {n:Nat},DC eC ns p->n∈ns->∃ s,eC[n]?=some s/\p s
 | a::r,n,h,hn=>by
  rcases List.mem_cons.1 hn with e|e
  ·rw[e];exact h.1
  ·exact DC.get h.2 e
def DD (eC:List St) (d:Nat):List Nat->(St->St->Prop)->Prop
 | [],_=>True
 | n::r,p=>(∃ s s',eC[n]?=some s/\eC[n+d]?=some s'/\p s s')/\DD eC d r p
theorem DD.get {eC:O St} {d:Nat} {p:St->St->Prop}:∀ {ns:O Nat} {n:Nat},DD eC d ns p->n∈ns->∃ s s',eC[n]?=some s/\eC[n+d]?=some s'/\p s s'
 | a::r,n,h,hn=>by
  rcases List.mem_cons.1 hn with e|e
  ·rw[e];exact h.1
  ·exact DD.get h.2 e
def OS (P:uG) (N base:Nat) (l:List Oper) (E:List Nat) (eC:List St) (i:Nat) (o:Oper) (env:Env) (x:EV):Prop :=
  dZ N o.dst=true/\∃ ns,BV l E i ns=true /\
  (((!E.any λe=>Nat.beq e i)=true/\((∀ s,oh P l env s o x)∨DC eC ns λs=>oh P l env s o x)) ∨
   (∃ m,E[m]?=some i/\o.guard=none/\DD eC (2 ^ m) ns λs s'=>tQ P base env s o x s'∨x=.d .any/\CN P base env s o s'))
def qU (P:uG) (N base:Nat) (l:List Oper) (E:List Nat) (eC:List St):Nat->List Oper->List EV->Env->Prop
 | _,[],[],_=>True
 | i,o::os,x::xs,env=>OS P N base l E eC i o (ir l o env) x/\qU P N base l E eC (i+1) os xs (env.put o.dst x)
 | _,_,_,_=>False
theorem qU.length {base:Nat} {l:O Oper} {E:O Nat} {eC:O St}:∀ {i:Nat} {os:O Oper} {xs:O EV} {env:Env},qU P N base l E eC i os xs env->xs.length=os.length
 | _,[],[],_,_=>rfl
 | _,o::os,x::xs,env,h=>by simp[qU.length h.2]
 | _,[],x::xs,_,h=>h.elim
 | _,o::os,[],_,h=>h.elim
theorem qU.get {base:Nat} {l:O Oper} {E:O Nat} {eC:O St}:∀ {i:Nat} {os:O Oper} {xs:O EV} {env:Env} {j:Nat} {o:Oper},qU P N base l E eC i os xs env->os[j]?=some o ->
  ∃ x,xs[j]?=some x/\OS P N base l E eC (i+j) o (ir l o (dE env (os.take j) (xs.take j))) x
 | i,o'::os,x::xs,env,0,o,h,ho=>by
  simp at ho;subst ho
  exact ⟨x,rfl,by simpa [dE] using h.1⟩
 | i,o'::os,x::xs,env,j+1,o,h,ho=>by
  obtain ⟨y,h1,h2⟩:=qU.get (j:=j) h.2 (by simpa using ho)
  exact ⟨y,by simpa using h1,by simpa [dE,Nat.add_assoc,Nat.add_comm 1 j] using h2⟩
 | i,[],xs,env,j,o,h,ho=>by simp at ho
 | i,o'::os,[],_,_,_,h,_=>h.elim
theorem ba.Ve {id p:Nat} {l:O Oper} {env:Env} {st sk:St} (hm:P.follows .mixedOrders=true) (hB:og l p=true) (E:O Nat) (eC:O St) (hn:E.Nodup) (hp:∀ e∈E,e<p) {xs:O EV}
  (h0:eC[0]?=some st) (hF:eC[2 ^ E.length-1]?=some sk) (JB:qU P N S.base l E eC 0 (l.take p) xs env) (vR:cn P f N S Q l (l.drop p) k (dE env (l.take p) xs) sk) :
  ba P f N S Q (.code (.region id l.toArray true)::k) env st:=by
 have Sc:p<=l.length:=by
  simp only[og,Bool.and_eq_true] at hB
  simpa using hB.2
 have OO:xs.length=p:=by rw[JB.length];simp;omega
 have Qa:∀ E:O Nat,g8 (λ_=>false) E=0:=by
  intro E
  induction E with
  | nil=>rfl
  | cons e r ih=>unfold g8;rw[ih];rfl
 have Qb:∀ (L:Nat->Bool) (E:O Nat),(∀ e∈E,L e=true)->g8 L E=2 ^ E.length-1:=by
  intro L E
  induction E with
  | nil=>intro _;rfl
  | cons e r ih =>
   intro h
   unfold g8
   rw[h e List.mem_cons_self,ih λx hx=>h x (List.mem_cons_of_mem _ hx),List.length_cons,Nat.pow_succ]
   have:=Nat.two_pow_pos r.length
   simp;omega
 refine ba.P2 p xs (λL s=>eC[g8 L E]?=some s) hm hB OO (by rw[Qa];exact h0) ?_ ?_
 ·intro L s i o hi ho T7 oi Hb Ha
  obtain ⟨x,hx,lH⟩:=JB.get (j:=i) (o:=o) (by rw[List.getElem?_take,if_pos hi];exact ho)
  rw[Nat.zero_add] at lH
  obtain ⟨hd,ns,hb,lH⟩:=lH
  refine ⟨hd,x,?_⟩
  have P7:P9 l E i (g8 L E)=true:=by
   unfold P9
   rw[List.all_eq_true]
   rintro ⟨e,j⟩ U7
   have Ry:E[j]?=some e:=by
    have:=List.mem_zipIdx_iff_getElem?.1 U7
    simpa using this
   have Kv:=v3 L E j e Ry
   simp only[Bool.and_eq_true,Bool.or_eq_true,Bool.not_eq_true',Kv]
   refine ⟨⟨?_,?_⟩,?_⟩
   ·cases G8:((cN l []).getD i 0).testBit e with
    | false=>exact .inl rfl
    | true=>exact .inr (oi e G8)
   ·cases G8:((cN l []).getD e 0).testBit i with
    | false =>
     cases Xr:Nat.beq e i with
     | false=>exact .inl rfl
     | true=>exact .inr (Nat.eq_of_beq_eq_true Xr▸T7)
    | true =>
     right
     cases Vf:L e with
     | false=>rfl
     | true=>rw[Hb e Vf i G8] at T7;cases T7
   ·cases Vf:L e with
    | false=>exact .inl rfl
    | true =>
     right
     rw[List.all_eq_true]
     rintro ⟨e',j'⟩ Vg
     have Vh:E[j']?=some e':=by
      have:=List.mem_zipIdx_iff_getElem?.1 Vg
      simpa using this
     simp only[Bool.or_eq_true,Bool.not_eq_true',v3 L E j' e' Vh]
     cases G8:((cN l []).getD e 0).testBit e' with
     | false=>exact .inl rfl
     | true=>exact .inr (Hb e Vf e' G8)
  have Fm:g8 L E∈ns:=by
   have:=List.all_eq_true.1 hb (g8 L E) (List.mem_range.2 (DB L E))
   rw[P7] at this
   simp only[Bool.not_true,Bool.false_or] at this
   obtain ⟨a,ha,uN⟩:=List.any_eq_true.1 this
   rw[←Nat.eq_of_beq_eq_true uN];exact ha
  rcases lH with ⟨dq,qH⟩|⟨m,T4,hg,qH⟩
  ·have P6:(E.any λe=>Nat.beq e i)=false:=by simpa using dq
   have Vi:oh P l (ir l o (dE env ((l.take p).take i) (xs.take i))) s o x:=by
    rcases qH with h|h
    ·exact h s
    ·obtain ⟨s0,h1,h2⟩:=h.get Fm
     rw[Ha] at h1
     cases h1
     exact h2
   refine ⟨s,hx,.inl ⟨rfl,Vi⟩,?_⟩
   rw[ub (L:=L) λe he=>by
    have:e≠i:=λhh=>by
     have:=List.any_eq_false.1 P6 e he
     rw[hh,Nat.beq_refl] at this
     exact this rfl
    simp[this]]
   exact Ha
  ·obtain ⟨s0,s1,h1,h2,h3⟩:=qH.get Fm
   rw[Ha] at h1
   cases h1
   refine ⟨s1,hx,?_,?_⟩
   ·rcases h3 with h|⟨ha,gQ⟩
    ·exact .inr (.inl ⟨hg,h⟩)
    ·exact .inr (.inr ⟨hg,ha,gQ⟩)
   ·rw[AM T7 hn T4];exact h2
 ·intro L s hL Ha
  rw[Qb L E λe he=>hL e (hp e he),hF] at Ha
  cases Ha
  exact vR
def v7 (P:uG) (f:Ctx) (N:Nat) (S:Start) (Q:EV->St->Prop) (l:List Oper) (p:Nat) (E:List Nat) (eC:List St) (i:Nat) (os:List Oper) (k:List Item) (env:Env):Prop :=
 ∃ xs sk,eC[2 ^ E.length-1]?=some sk/\qU P N S.base l E eC i os xs env/\cn P f N S Q l (l.drop p) k (dE env os xs) sk
variable {l:List Oper} {p:Nat} {E:List Nat} {eC:List St} {i:Nat} {os:List Oper} {env:Env} {st:St} {d:Option Tmp} {op:Op} {ty:uE} {pos:String} {after:uD Edge} {x:EV}
theorem v7.nil {sk:St} (hF:eC[2 ^ E.length-1]?=some sk) (h:cn P f N S Q l (l.drop p) k env sk):v7 P f N S Q l p E eC i [] k env:=⟨[],sk,hF,trivial,h⟩
theorem v7.s (h:∀ s,az P (ir l ⟨d,op,ty,pos,after,none⟩ env) s ⟨d,op,ty,pos,after,none⟩ x) (dq:(!E.any λe=>Nat.beq e i)=true) (hd:dZ N d=true)
  (hk:v7 P f N S Q l p E eC (i+1) os k (env.put d x)):v7 P f N S Q l p E eC i (⟨d,op,ty,pos,after,none⟩::os) k env:=by
 obtain ⟨xs,sk,h0,h1,h2⟩:=hk
 refine ⟨x::xs,sk,h0,⟨⟨hd,List.range (2 ^ E.length),?_,.inl ⟨dq,.inl λs=>.inl ⟨rfl,(h s).g⟩⟩⟩,h1⟩,h2⟩
 unfold BV
 rw[List.all_eq_true]
 intro n hn
 simp only[Bool.or_eq_true]
 exact .inr (List.any_eq_true.2 ⟨n,hn,Nat.beq_refl n⟩)
theorem v7.g (ns:O Nat) (h:DC eC ns λs=>ti P (ir l ⟨d,op,ty,pos,after,none⟩ env) s ⟨d,op,ty,pos,after,none⟩ x) (dq:(!E.any λe=>Nat.beq e i)=true) (hb:BV l E i ns=true) (hd:dZ N d=true)
  (hk:v7 P f N S Q l p E eC (i+1) os k (env.put d x)):v7 P f N S Q l p E eC i (⟨d,op,ty,pos,after,none⟩::os) k env:=by
 obtain ⟨xs,sk,h0,h1,h2⟩:=hk
 refine ⟨x::xs,sk,h0,⟨⟨hd,ns,hb,.inl ⟨dq,.inr ?_⟩⟩,h1⟩,h2⟩
 have mk:∀ {ns:O Nat},(DC eC ns λs=>ti P (ir l ⟨d,op,ty,pos,after,none⟩ env) s ⟨d,op,ty,pos,after,none⟩ x)->DC eC ns λs=>oh P l (ir l ⟨d,op,ty,pos,after,none⟩ env) s ⟨d,op,ty,pos,after,none⟩ x:=by
  intro ns
  induction ns with
  | nil=>exact λ_=>trivial
  | cons a r ih=>exact λ⟨⟨s,a1,a2⟩,b⟩=>⟨⟨s,a1,.inl ⟨rfl,a2⟩⟩,ih b⟩
 exact mk h
theorem v7.v (m:Nat) (ns:O Nat) (h:DD eC (2 ^ m) ns λs s'=>tQ P S.base (ir l ⟨d,op,ty,pos,after,none⟩ env) s ⟨d,op,ty,pos,after,none⟩ x s') (hE:E[m]?=some i) (hb:BV l E i ns=true) (hd:dZ N d=true)
  (hk:v7 P f N S Q l p E eC (i+1) os k (env.put d x)):v7 P f N S Q l p E eC i (⟨d,op,ty,pos,after,none⟩::os) k env:=by
 obtain ⟨xs,sk,h0,h3,h4⟩:=hk
 refine ⟨x::xs,sk,h0,⟨⟨hd,ns,hb,.inr ⟨m,hE,rfl,?_⟩⟩,h3⟩,h4⟩
 have mk:∀ {ns:O Nat},(DD eC (2 ^ m) ns λs s'=>tQ P S.base (ir l ⟨d,op,ty,pos,after,none⟩ env) s ⟨d,op,ty,pos,after,none⟩ x s') ->
   DD eC (2 ^ m) ns λs s'=>tQ P S.base (ir l ⟨d,op,ty,pos,after,none⟩ env) s ⟨d,op,ty,pos,after,none⟩ x s'∨x=.d .any/\CN P S.base (ir l ⟨d,op,ty,pos,after,none⟩ env) s ⟨d,op,ty,pos,after,none⟩ s':=by
  intro ns
  induction ns with
  | nil=>exact λ_=>trivial
  | cons a r ih=>exact λ⟨⟨s,s',a1,a2,a3⟩,b⟩=>⟨⟨s,s',a1,a2,.inl a3⟩,ih b⟩
 exact mk h
theorem ba.parts {id:Nat} (p:Nat) (E:O Nat) (eC:O St) (hm:P.follows .mixedOrders=true) (hB:og l p=true) (hn:(E.all λe=>decide (e<p))=true) (hd:E.Nodup) (h0:eC[0]?=some st)
  (h:v7 P f N S Q l p E eC 0 (l.take p) k env):ba P f N S Q (.code (.region id l.toArray true)::k) env st:=by
 obtain ⟨xs,sk,h1,h2,h3⟩:=h
 exact .Ve hm hB E eC hd (λe he=>by simpa using List.all_eq_true.1 hn e he) h0 h1 h2 h3
end run
def wL (g:br) (w:uC) (st:St) (cs:List EV) (vs:uD uB):Prop :=
 vs.size=cs.length/\∀ (i:Nat) c (u:uB),cs[i]?=some c->vs[i]?=some u->bm g w st c u/\u.oneCell'=true
theorem wL.lay {g:br} {w:uC} {st:St} {cs new:O EV} {vs us:uD uB} {off:Nat} (h:wL g w st cs vs) (hn:wL g w st new us) (hf:off+new.length<=cs.length):wL g w st (putCells cs off new) (lay vs us off):=by
 obtain ⟨h1,h2⟩:=GX vs us off (by rw[h.1,hn.1];exact hf)
 refine ⟨by rw[h1,h.1];simp[putCells];omega,λi c u hc hu=>?_⟩
 have hi:i<vs.size:=by rw[←h1];exact (Array.getElem?_eq_some_iff.1 hu).1
 rw[h2 i hi] at hu
 unfold putCells at hc
 have zV:=h.1
 have Sa:=hn.1
 by_cases hA:i<off
 ·rw[if_neg (by omega)] at hu
  rw[List.append_assoc,List.getElem?_append_left (by simp;omega),List.getElem?_take,if_pos hA] at hc
  exact h.2 i c u hc hu
 ·by_cases hB:i<off+new.length
  ·rw[if_pos (by omega)] at hu
   rw[List.append_assoc,List.getElem?_append_right (by simp;omega),List.getElem?_append_left (by simp;omega)] at hc
   have e1:(cs.take off).length=off:=by simp;omega
   rw[e1] at hc
   exact hn.2 _ c u hc hu
  ·rw[if_neg (by omega)] at hu
   rw[List.getElem?_append_right (by simp;omega)] at hc
   have e1:(cs.take off++new).length=off+new.length:=by simp;omega
   rw[e1,List.getElem?_drop] at hc
   have e2:off+new.length+(i-(off+new.length))=i:=by omega
   rw[e2] at hc
   exact h.2 i c u hc hu
def ID (place:Nat->Option (Nat×Nat)) (env:Env):List EV->List (Nat×uH)->Option (List EV)
 | cs,[]=>some cs
 | cs,(i,x)::l=>match place i,bI env x with
  | some (off,size),some e=>match dj e with
   | some new=>match Nat.beq new.length size,Nat.ble (off+size) cs.length with
    | true,true=>ID place env (putCells cs off new) l
    | _,_=>none
   | none=>none
  | _,_=>none
theorem DE {g:br} {w:uC} {st:St} {env:Env} {tmps:uD uB} (he:cJ g w st env tmps) {place:Nat->J (Nat×Nat)}:∀ (l:O (Nat×uH)) (cs:O EV) (vs:uD uB) (r:O EV),ID place env cs l=some r->wL g w st cs vs ->
  ∃ us,Instr.fill place vs (l.map λp=>(p.1,Act.eval ⟨tmps,[]⟩ p.2))=some us/\wL g w st r us/\r.length=cs.length
 | [],cs,vs,r,h,hc=>by simp[ID] at h;subst h;exact ⟨vs,rfl,hc,rfl⟩
 | (i,x)::l,cs,vs,r,h,hc=>by
  unfold ID at h
  split at h
  ·rename_i off size e hp hx
   split at h
   ·rename_i new hn
    split at h
    ·rename_i Jz JA
     have h1:=Nat.eq_of_beq_eq_true Jz
     have h2:=Nat.le_of_ble_eq_true JA
     have Sb:wL g w st new (Act.eval ⟨tmps,[]⟩ x).cells:=lG hn (aA he hx)
     have PE:=hc.lay Sb (off:=off) (by omega)
     obtain ⟨us,k1,k2,k3⟩:=DE he l _ _ r h PE
     refine ⟨us,?_,k2,by rw[k3];simp[putCells];omega⟩
     have hs:=Sb.1
     have zV:=hc.1
     simp only[List.map_cons,Instr.fill,hp]
     rw[if_neg (by simp;omega)]
     exact k1
    ·cases h
   ·cases h
  ·cases h
section rules
variable {P:uG} {base:Nat} {env:Env} {st:St} {d:Option Tmp} {ty:uE} {pos:String} {after:uD Edge} {gd:Option (Nat×Bool)} {t:uE}
theorem IE {fs:uD Field} {inf:TypeInfo} {z:uB} {zs r:O EV} {l:O (Nat×uH)} (ht:P.underlying t=some (.struct fs)) (hi:P.info? t=some inf) (hz:inf.zero=some z) (m9:dj (.d (cv z))=some zs)
  (MP:fs.toList.all (λf=>(P.info? f.type).isSome)=true) (hl:ID (placeOf P fs) env zs l=some r):az P env st ⟨d,.build t l.toArray,ty,pos,after,gd⟩ (.agg r):=by
 intro g base w tmps hinv he
 have wY:wL g w st zs z.cells:=lG (g:=g) (w:=w) (st:=st) m9 (.d _ _ (qG _ _ z))
 obtain ⟨us,h1,h2,h3⟩:=DE he l zs z.cells r hl wY
 refine ⟨.agg us,.agg r us h2.1 (λi u hu=>?_) λi c u hc hu=>(h2.2 i c u hc hu).1,λw' hb=>?_⟩
 ·have hi':i<r.length:=by rw[←h2.1];exact (Array.getElem?_eq_some_iff.1 hu).1
  exact (h2.2 i _ u (List.getElem?_eq_getElem hi') hu).2
 ·have Sc:(fs.mapM (λf=>do pure (f.offset,←sizeOf f.type):Field->Sem (Nat×Nat))).run P w'=.ok (fs.toList.map λf=>(f.offset,C8 P f.type)).toArray w':=by
   rw[←Array.toArray_toList (xs:=fs),List.mapM_toArray]
   simp only[Sem.run_map,wI (P:=P) fs.toList (λf hf=>List.all_eq_true.1 MP f hf) w',Result.andThen_ok]
  have FF:(λi:Nat=>((fs.toList.map λf=>(f.offset,C8 P f.type)).toArray)[i]?)=placeOf P fs:=by
   funext i
   simp[placeOf]
  simp only[execOp,Instr.build,Sem.run_bind,r9 hi hz,Result.andThen_ok,run_underlying ht,Sc,List.map_toArray]
  rw[FF]
  simp[h1]
theorem Kw {ps:O (Nat×Nat)} {inf:TypeInfo} {z:uB} {zs r:O EV} {l:O (Nat×uH)} (hp:cQ P t=some ps) (hi:P.info? t=some inf) (hz:inf.zero=some z) (m9:dj (.d (cv z))=some zs)
  (hl:ID (λi=>ps[i]?) env zs l=some r):az P env st ⟨d,.build t l.toArray,ty,pos,after,gd⟩ (.agg r):=by
 unfold cQ at hp
 split at hp
 ·rename_i fs hu
  split at hp
  ·rename_i lJ
   cases hp
   refine IE hu hi hz m9 lJ ?_
   rw[←hl]
   congr 1
   funext i
   simp[placeOf]
  ·cases hp
 ·cases hp
end rules
section cell
variable {P:uG} {f:Ctx} {N:Nat} {S:Start} {Q:EV->St->Prop} {todo:List Item} {env:Env} {st:St}
theorem Inv.pD {g:br} {base o ci:Nat} {w:uC} {T:uE} {cs:O EV} {x y:EV} (h:Inv g base w st) (ho:st.aR[o]?=some (.row T cs)) (hc:cs[ci]?=some x) (hle:dB x y) :
  Inv g base w (st.set o (.row T (cs.set ci y)))/\Step base g w st g w (st.set o (.row T (cs.set ci y))):=by
 obtain ⟨b1,b2,vs,b3,b4,b5⟩:=h.row o T cs ho
 exact h.setBlock (o:=o) (x:=.row T (cs.set ci y)) (w':=w) ⟨_,ho,by simp⟩ b2 rfl (λ_ _=>rfl) rfl rfl rfl
  (λJP Jy zP g4=>by
   cases g4
   refine ⟨vs,b3,by simpa using b4,λi c u nZ hu=>?_⟩
   rw[List.getElem?_set] at nZ
   split at nZ
   ·rename_i hic
    subst hic
    split at nZ
    ·cases nZ
     have h0:=b5 ci _ u hc hu
     exact ⟨hle _ _ _ _ (h0.1.mono JP),h0.2⟩
    ·cases nZ
   ·have h0:=b5 i c u nZ hu
    exact ⟨h0.1.mono JP,h0.2⟩) (λ_ es g4=>by cases g4)
theorem ba.pD (o ci:Nat) {T:uE} {cs:O EV} {x y:EV} (ho:st.aR[o]?=some (.row T cs)) (hc:cs[ci]?=some x) (hle:dB x y)
  (h:ba P f N S Q todo env (st.set o (.row T (cs.set ci y)))):ba P f N S Q todo env st:=by
 intro g w tmps hinv hh he hn
 obtain ⟨h1,h2⟩:=hinv.pD ho hc hle
 exact h g w tmps h1 (hh.step h2) (he.mono h2.du) hn
end cell
def IF {α β:Type} [Inhabited α] (c:α->β) (l:List α) (i:Nat):Nat->List β
 | 0=>[]
 | n+1=>c (nth l i)::IF c l (i+1) n
theorem qV {α β:Type} [Inhabited α] (c:α->β) (l:O α):∀ (n i:Nat),(IF c l i n).length=n
 | 0,_=>rfl
 | n+1,i=>by simp[IF,qV c l n (i+1)]
theorem s8 {α β:Type} [Inhabited α] (c:α->β) (l:O α):∀ (n i j:Nat),j<n->(IF c l i n)[j]?=some (c (nth l (i+j)))
 | 0,_,_,h=>absurd h (Nat.not_lt_zero _)
 | n+1,i,0,h=>rfl
 | n+1,i,j+1,h=>by
  simp only[IF,List.getElem?_cons_succ]
  rw[s8 c l n (i+1) j (by omega)]
  congr 3;omega
def pV {α:Type} [Inhabited α] (l:List α) (n i:Nat) (a:α):List α:=(IF id l 0 n).set i a
theorem Kx {α:Type} [Inhabited α] (l:O α) (n i:Nat) (a:α):(pV l n i a).length=n:=by simp[pV,qV]
theorem DF {α:Type} [Inhabited α] {l:O α} {n i j:Nat} {a:α} (hj:j<n):nth (pV l n i a) j=if i=j then a else nth l j:=by
 have h:(pV l n i a)[j]?=some (if i=j then a else nth l j):=by
  unfold pV
  rw[List.getElem?_set,qV]
  by_cases zZ:i=j
  ·subst zZ;simp[hj]
  ·rw[if_neg zZ,if_neg zZ,s8 _ _ _ _ _ hj];simp
 unfold nth
 rw[List.getD_eq_getElem?_getD,h];rfl
theorem M3 {α β:Type} [Inhabited α] (c:α->β) (l:O α) {n i:Nat} (a:α):IF c (pV l n i a) 0 n=(IF c l 0 n).set i (c a):=by
 apply List.ext_getElem?
 intro j
 by_cases hj:j<n
 ·rw[s8 _ _ _ _ _ hj,List.getElem?_set,qV]
  rw[Nat.zero_add,DF hj]
  by_cases zZ:i=j
  ·subst zZ;simp[hj]
  ·rw[if_neg zZ,if_neg zZ,s8 _ _ _ _ _ hj];simp
 ·rw[List.getElem?_eq_none (by rw[qV];omega),List.getElem?_eq_none (by simp[qV];omega)]
section rules
variable {P:uG} {base:Nat} {env:Env} {st:St} {d:Option Tmp} {ty:uE} {pos:String} {after:uD Edge} {gd:Option (Nat×Bool)} {t e:uE} {x y:uH}
 {α:Type} [Inhabited α] {c1:α->D} {l:List α} {o off n:Nat} {T:uE} {cs:List EV}
theorem Ky {kk:IntKind} {i:Int} (ht:P.underlying t=some (.array n e)) (hi:∃ inf,P.info? e=some inf/\inf.size=1) (hx:bI env x=some (.ref o off)) (hy:bI env y=some (.d (.ex (.int kk i)))) (h:0<=i/\i<(n:Int)) :
  az P env st ⟨d,.indexAddr t x y,ty,pos,after,gd⟩ (.ref o (off+i.toNat)):=by
 have:=gB (st:=st) (d:=d) (ty:=ty) (pos:=pos) (after:=after) (gd:=gd) (m:=i.toNat) ht hi hx hy (by omega) (by omega)
 simpa using this
theorem M4 {i:Nat} (h1:(P.underlying t).map jm=some true) (hx:bI env x=some (.ref o (off+i))) (ho:st.aR[o]?=some (.row T cs)) (GR:(cs.drop off).take n=IF (λb=>EV.d (c1 b)) l 0 n) (hi:i<n) :
  az P env st ⟨d,.load t x,ty,pos,after,gd⟩ (.d (c1 (nth l i))):=by
 refine fK h1 hx ho ?_
 have h2:((cs.drop off).take n)[i]?=some (EV.d (c1 (nth l i))):=by rw[GR,s8 _ _ _ _ _ hi,Nat.zero_add]
 rw[List.getElem?_take,if_pos hi,List.getElem?_drop] at h2
 exact h2
theorem Kz {i:Nat} {a:α} (hx:bI env x=some (.ref o (off+i))) (hy:bI env y=some (.d (c1 a))) (ho:st.aR[o]?=some (.row T cs)) (GR:(cs.drop off).take n=IF (λb=>EV.d (c1 b)) l 0 n) (hc:dj (.d (c1 a))=some [.d (c1 a)]) (hi:i<n)
  (hs:(P.info? t).map (·.size)=some 1):CN P base env st ⟨d,.store t x y,ty,pos,after,gd⟩ (st.set o (.row T (cs.take off++IF (λb=>EV.d (c1 b)) (pV l n i a) 0 n++cs.drop (off+n)))):=by
 have hlen:off+n<=cs.length:=by
  have h2:((cs.drop off).take n).length=n:=by rw[GR,qV]
  rw[List.length_take,List.length_drop] at h2
  omega
 have:=qJ (base:=base) (d:=d) (ty:=ty) (pos:=pos) (after:=after) (gd:=gd) hx hy ho hc (by simp;omega) hs
 have e1:putCells cs (off+i) [.d (c1 a)]=cs.take off++IF (λb=>EV.d (c1 b)) (pV l n i a) 0 n++cs.drop (off+n):=by
  rw[M3,←GR]
  unfold putCells
  apply List.ext_getElem?
  intro j
  have hA:(cs.take off).length=off:=by simp;omega
  have hB:(((cs.drop off).take n).set i (EV.d (c1 a))).length=n:=by simp;omega
  by_cases h1:j<off
  ·rw[List.append_assoc,List.getElem?_append_left (by simp;omega),List.append_assoc,List.getElem?_append_left (by omega),List.getElem?_take,List.getElem?_take,if_pos (by omega),if_pos h1]
  ·by_cases h2:j<off+n
   ·have hR:∀ X:O EV,X.length=n->(cs.take off++X++cs.drop (off+n))[j]?=X[j-off]?:=λX hX=>by
     rw[List.append_assoc,List.getElem?_append_right (by omega),hA,List.getElem?_append_left (by omega)]
    rw[hR _ hB,List.getElem?_set]
    by_cases h3:i=j-off
    ·rw[if_pos h3,if_pos (by simp;omega),List.append_assoc,List.getElem?_append_right (by simp;omega)]
     have:j-(cs.take (off+i)).length=0:=by simp;omega
     rw[this];rfl
    ·rw[if_neg h3,List.getElem?_take,if_pos (by omega),List.getElem?_drop]
     have e0:off+(j-off)=j:=by omega
     rw[e0]
     by_cases h4:j<off+i
     ·rw[List.append_assoc,List.getElem?_append_left (by simp;omega),List.getElem?_take,if_pos h4]
     ·have hC:(cs.take (off+i)++[EV.d (c1 a)]).length=off+i+1:=by simp;omega
      rw[List.getElem?_append_right (by omega),List.getElem?_drop,hC]
      congr 1;simp;omega
   ·have hC:(cs.take (off+i)++[EV.d (c1 a)]).length=off+i+1:=by simp;omega
    have hD:(cs.take off++((cs.drop off).take n).set i (EV.d (c1 a))).length=off+n:=by rw[List.length_append,hA,hB]
    rw[List.getElem?_append_right (by omega),List.getElem?_append_right (by omega),List.getElem?_drop,List.getElem?_drop,hC,hD]
    congr 1;simp;omega
 rwa [e1] at this
theorem KA {ds:O D} {inf:TypeInfo} {k:IntKind} {i:Int} (ht:P.underlying t=some (.array n e)) (h1:(P.underlying e).map jm=some true) (hi:P.info? e=some inf) (hs:inf.size=1)
  (hx:bI env x=some (.d (.agg ds))) (Rn:ds=IF c1 l 0 n) (hy:bI env y=some (.d (.ex (.int k i)))) (h:0<=i/\i<(n:Int)):az P env st ⟨d,.index t x y,ty,pos,after,gd⟩ (.d (c1 (nth l i.toNat))) :=
 Dj ht h1 hi hs hx hy (Int.toNat_of_nonneg h.1).symm (by omega) (by rw[Rn,s8 _ _ _ _ _ (by omega),Nat.zero_add])
end rules
def DG (P:uG) (t:uE) (n:Nat):Bool:=match P.info? t with
 | some i=>Nat.beq i.size n
 | none=>false
def yk (P:uG) (g:uE->Option (List FK)):Nat->List Field->Option (List FK)
 | _,[]=>some []
 | n,f::fs=>match Nat.beq f.offset n,decide (f.name ≠ "_"),g f.type with
  | true,true,some k=>match DG P f.type k.length,yk P g (n+k.length) fs with
   | true,some ks=>some (k++ks)
   | _,_=>none
  | _,_,_=>none
def uZ (P:uG):Nat->uE->Option (List FK)
 | 0,_=>none
 | d+1,t=>match P.underlying t with
  | some (.struct fs)=>match P.stoodInHeld t with
   | true=>none
   | false=>yk P (uZ P d) 0 fs.toList
  | some (.array n e)=>match d,Di (P.underlying e),DG P e 1 with
   | d'+1,some k,true=>some (List.replicate n k)
   | _,_,_=>none
  | u=>match Di u with
   | some k=>some [k]
   | none=>none
def IG:Option TypeDesc->Bool
 | some (.struct _)=>true
 | some (.array _ _)=>true
 | _=>false
def v8 (P:uG) (t:uE) (xs:List uB):uB:=match IG (P.underlying t) with
 | true=>.agg xs.toArray
 | false=>xs.headD undef
theorem oq:∀ {ks:O FK} {xs:O uB},fitAll ks xs=true->xs.length=ks.length
 | [],[],_=>rfl
 | [],_::_,h=>by cases h
 | _::_,[],h=>by cases h
 | k::ks,x::xs,h=>by simp only[fitAll,Bool.and_eq_true] at h;simp[oq h.2]
theorem qW:∀ (ks ls:O FK) (xs:O uB),fitAll (ks++ls) xs=true->fitAll ks (xs.take ks.length)=true/\fitAll ls (xs.drop ks.length)=true
 | [],ls,xs,h=>⟨by simp[fitAll],by simpa using h⟩
 | k::ks,ls,[],h=>by cases h
 | k::ks,ls,x::xs,h=>by
  simp only[List.cons_append,fitAll,Bool.and_eq_true] at h
  obtain ⟨h1,h2⟩:=qW ks ls xs h.2
  exact ⟨by simp[fitAll,h.1,h1],by simpa using h2⟩
theorem yl:∀ (n:Nat) (xs ys:O uB),xs.length=ys.length->jy xs ys=(jy (xs.take n) (ys.take n) && jy (xs.drop n) (ys.drop n))
 | 0,xs,ys,_=>by simp[jy]
 | n+1,[],[],_=>by simp[jy]
 | n+1,[],_::_,h=>by cases h
 | n+1,_::_,[],h=>by cases h
 | n+1,x::xs,y::ys,h=>by
  simp only[List.take_succ_cons,List.drop_succ_cons,jy]
  rw[yl n xs ys (by simpa using h),Bool.and_assoc]
section eq
variable {P:uG}
theorem M5 (t:uE) (w:uC) (u:TypeDesc) (hu:P.underlying t=some u):(isAgg t).run P w=.ok (IG (some u)) w:=by
 unfold isAgg
 simp only[Sem.run_bind,run_underlying hu,Result.andThen_ok]
 cases u<;>rfl
theorem DH {t:uE} {n:Nat} (h:DG P t n=true):∃ i,P.info? t=some i/\i.size=n:=by
 unfold DG at h
 split at h
 ·rename_i i hi;exact ⟨i,hi,Nat.eq_of_beq_eq_true h⟩
 ·cases h
theorem AN {d:Nat} {t:uE} {ks:O FK} (h:uZ P d t=some ks) (ha:IG (P.underlying t)=false):∃ k,Di (P.underlying t)=some k/\ks=[k]:=by
 cases d with
 | zero=>cases h
 | succ d =>
  unfold uZ at h
  split at h
  ·rename_i hu;rw[hu] at ha;cases ha
  ·rename_i hu;rw[hu] at ha;cases ha
  ·split at h
   ·rename_i k hk;cases h;exact ⟨k,hk,rfl⟩
   ·cases h
theorem AO {d:Nat} {t:uE} {ks:List FK} (h:uZ P d t=some ks) {X:uD uB} {off:Nat} {xs:List uB} (hl:xs.length=ks.length) (hs:DG P t ks.length=true)
  (hX:∀ (j:Nat) v,xs[j]?=some v->X[off+j]?=some v) (w:uC):(part t X off).run P w=.ok (v8 P t xs) w:=by
 obtain ⟨i,hi,iW⟩:=DH hs
 cases ha:IG (P.underlying t) with
 | false =>
  obtain ⟨k,hk,rfl⟩:=AN h ha
  match xs,hl with
  | [v],_ =>
   have:=se hk (cs:=X) (off:=off) (v:=v) (by simpa using hX 0 v rfl) w
   simpa [v8,ha] using this
 | true =>
  cases hu:P.underlying t with
  | none=>rw[hu] at ha;cases ha
  | some u =>
   have hA:=M5 (P:=P) t w u hu
   rw[hu] at ha
   rw[ha] at hA
   have vN:v8 P t xs=.agg xs.toArray:=by unfold v8;rw[hu,ha]
   have hx:X.extract off (off+ks.length)=xs.toArray:=by
    apply Array.ext'
    apply List.ext_getElem?
    intro j
    by_cases hj:j<xs.length
    ·have h1:=hX j _ (List.getElem?_eq_getElem hj)
     have h2:=(Array.getElem?_eq_some_iff.1 h1).1
     rw[Array.getElem?_toList,Array.getElem?_extract]
     show _=xs[j]?
     rw[List.getElem?_eq_getElem hj,if_pos (by omega)]
     exact h1
    ·rw[Array.getElem?_toList,Array.getElem?_eq_none (by simp;omega),List.getElem?_eq_none (by simp;omega)]
   simp only[part,Sem.run_bind,hA,Result.andThen_ok,if_true,o9 hi,iW,hx,vN,Sem.run_pure]
theorem AP {d:Nat} (n:Nat) (w:uC) (ih:∀ (t:uE) (ks:List FK) (xs ys:List uB),uZ P d t=some ks->fitAll ks xs=true->fitAll ks ys=true->(Op.equalIn (n+d) t (v8 P t xs) (v8 P t ys)).run P w=.ok (jy xs ys) w) :
  ∀ (fs:List Field) (k:Nat) (ks:List FK) (xs ys:List uB) (X Y:uD uB),yk P (uZ P d) k fs=some ks->fitAll ks xs=true->fitAll ks ys=true ->
  (∀ (j:Nat) v,xs[j]?=some v->X[k+j]?=some v)->(∀ (j:Nat) v,ys[j]?=some v->Y[k+j]?=some v)->(Op.eqFields (n+d) X Y fs).run P w=.ok (jy xs ys) w
 | [],k,ks,xs,ys,X,Y,h,hx,hy,_,_=>by
  simp only[yk,Option.some.injEq] at h
  subst h
  match xs,ys with
  | [],[]=>rfl
  | _::_,_=>cases hx
  | [],_::_=>cases hy
 | f::fs,k,ks,xs,ys,X,Y,h,hx,hy,hX,hY=>by
  unfold yk at h
  split at h
  ·rename_i kk h1 h2 h3
   split at h
   ·rename_i UI h4 h5
    simp only[Option.some.injEq] at h
    subst h
    have ho:=Nat.eq_of_beq_eq_true h1
    have Kc:f.name ≠ "_" := of_decide_eq_true h2
    obtain ⟨a1,a2⟩:=qW _ _ _ hx
    obtain ⟨b1,b2⟩:=qW _ _ _ hy
    have Yl:=oq hx
    have Ym:=oq hy
    have px:=AO h3 (X:=X) (off:=f.offset) (oq a1) h4 (λj v hv=>by
     rw[List.getElem?_take] at hv
     split at hv
     ·rw[ho];exact hX j v hv
     ·cases hv) w
    have py:=AO h3 (X:=Y) (off:=f.offset) (oq b1) h4 (λj v hv=>by
     rw[List.getElem?_take] at hv
     split at hv
     ·rw[ho];exact hY j v hv
     ·cases hv) w
    have pe:=ih _ _ _ _ h3 a1 b1
    have rest:=AP n w ih fs (k+kk.length) UI _ _ X Y h5 a2 b2 (λj v hv=>by rw[List.getElem?_drop] at hv;have:=hX _ v hv;rwa [show k+kk.length+j=k+(kk.length+j) by omega])
     (λj v hv=>by rw[List.getElem?_drop] at hv;have:=hY _ v hv;rwa [show k+kk.length+j=k+(kk.length+j) by omega])
    rw[yl kk.length xs ys (by omega)]
    simp only[Op.eqFields,if_pos Kc,Sem.run_bind,px,py,pe,Result.andThen_ok,Sem.run_ite]
    cases jy (xs.take kk.length) (ys.take kk.length)
    ·rfl
    ·simpa using rest
   ·cases h
  ·cases h
theorem AQ {e:uE} {k:FK} (hk:Di (P.underlying e)=some k) (hs:P.cellsOf e=1) (n:Nat) (w:uC) (X Y:uD uB) :
  ∀ (m i:Nat) (xs ys:List uB),fitAll (List.replicate m k) xs=true->fitAll (List.replicate m k) ys=true ->
  (∀ (j:Nat) v,xs[j]?=some v->X[i+j]?=some v)->(∀ (j:Nat) v,ys[j]?=some v->Y[i+j]?=some v) ->
  (Op.eqItems (n+1) e (P.cellsOf e) X Y (List.range' i m)).run P w=.ok (jy xs ys) w
 | 0,i,xs,ys,hx,hy,_,_=>by
  match xs,ys with
  | [],[]=>rfl
  | _::_,_=>cases hx
  | [],_::_=>cases hy
 | m+1,i,[],ys,hx,_,_,_=>by cases hx
 | m+1,i,x::xs,[],_,hy,_,_=>by cases hy
 | m+1,i,x::xs,y::ys,hx,hy,hX,hY=>by
  simp only[List.replicate_succ,fitAll,Bool.and_eq_true] at hx hy
  have px:=se hk (cs:=X) (off:=i) (by simpa using hX 0 x rfl) w
  have py:=se hk (cs:=Y) (off:=i) (by simpa using hY 0 y rfl) w
  have pe:=sf hk hx.1 hy.1 n w
  have ih:=AQ hk hs n w X Y m (i+1) xs ys hx.2 hy.2 (λj v hv=>by have:=hX (j+1) v (by simpa using hv);rwa [show i+1+j=i+(j+1) by omega]) (λj v hv=>by have:=hY (j+1) v (by simpa using hv);rwa [show i+1+j=i+(j+1) by omega])
  rw[hs] at ih ⊢
  simp only[List.range'_succ,Op.eqItems,Sem.run_bind,Nat.mul_one,px,py,pe,Result.andThen_ok,Sem.run_ite,jy]
  cases PS x y
  ·rfl
  ·simpa using ih
theorem DI (n:Nat) (w:uC):∀ (d:Nat) (t:uE) (ks:List FK) (xs ys:List uB),uZ P d t=some ks->fitAll ks xs=true->fitAll ks ys=true->(Op.equalIn (n+d) t (v8 P t xs) (v8 P t ys)).run P w=.ok (jy xs ys) w
 | 0,t,ks,xs,ys,h,_,_=>by cases h
 | d+1,t,ks,xs,ys,h,hx,hy=>by
  cases ha:IG (P.underlying t) with
  | false =>
   obtain ⟨k,hk,rfl⟩:=AN h ha
   match xs,ys,hx,hy with
   | [x],[y],hx,hy =>
    simp only[fitAll,Bool.and_true] at hx hy
    have:=sf hk hx hy (n+d) w
    simp only[v8,ha,jy,List.headD_cons,Bool.and_true]
    exact this
   | [],_,hx,_=>cases hx
   | _::_::_,_,hx,_=>simp[fitAll] at hx
   | [x],[],_,hy=>cases hy
   | [x],_::_::_,_,hy=>simp[fitAll] at hy
  | true =>
   have SH:∀ zs,v8 P t zs=.agg zs.toArray:=λzs=>by unfold v8;rw[ha]
   rw[SH,SH]
   unfold uZ at h
   cases hu:P.underlying t with
   | none=>rw[hu] at ha;cases ha
   | some u =>
    rw[hu] at h ha
    cases u with
    | struct fs =>
     simp only at h
     split at h
     ·cases h
     ·rename_i G0
      have MP:P.fieldsOf t=fs:=by simp[Program.fieldsOf,hu]
      rw[show n+(d+1)=(n+d)+1 by omega,run_equalIn_struct w (n+d) t _ _ (by rw[MP];exact hu) G0,MP]
      exact AP n w (DI n w d) fs.toList 0 ks xs ys _ _ h hx hy (λj v hv=>by simpa using hv) (λj v hv=>by simpa using hv)
    | array m e =>
     simp only at h
     split at h
     ·rename_i d' k hk hs
      cases h
      obtain ⟨i,hi,iW⟩:=DH hs
      have hc:P.cellsOf e=1:=by simp[Program.cellsOf,hi,iW]
      rw[show n+(d'+1+1)=(n+d'+1)+1 by omega,run_equalIn_array w (n+d'+1) _ _ hu hi,List.range_eq_range']
      exact AQ hk hc (n+d') w _ _ m 0 xs ys hx hy (λj v hv=>by simpa using hv) (λj v hv=>by simpa using hv)
     ·cases h
    | _=>cases ha
end eq
def Hc (P:uG) (t:uE):Option (List FK):=match P.eqGuardType P.depth t,IG (P.underlying t) with
 | false,true=>uZ P 4 t
 | _,_=>none
section rules
variable {P:uG} {base:Nat} {env:Env} {st:St} {d:Option Tmp} {ty:uE} {pos:String} {after:uD Edge} {gd:Option (Nat×Bool)} {t t2:uE} {x y:uH}
variable {ks:List FK} {cs ds:List D} {xs ys:List uB}
theorem KB (h:Hc P t=some ks) (hx:fitAll ks xs=true) (hy:fitAll ks ys=true) (w:uC) (op:BinOp) (x y:uH) :
  (eqGuard op t x y (.agg xs.toArray) (.agg ys.toArray)).run P w=.ok () w/\(Op.equalIn 10000 t (.agg xs.toArray) (.agg ys.toArray)).run P w=.ok (jy xs ys) w:=by
 unfold Hc at h
 split at h
 ·rename_i hg ha
  refine ⟨run_eqGuard_agg w op t x y _ _ hg,?_⟩
  have:=DI (P:=P) 9996 w 4 t ks xs ys h hx hy
  have SH:∀ zs,v8 P t zs=.agg zs.toArray:=λzs=>by unfold v8;rw[ha]
  rw[SH,SH] at this
  exact this
 ·cases h
section steq
variable (hk:Hc P t=some ks) (hx:bI env x=some (.d (.agg cs))) (hy:bI env y=some (.d (.agg ds))) (h1:MU cs=some xs) (h2:MU ds=some ys) (h3:fitAll ks xs=true) (h4:fitAll ks ys=true)
include hk hx hy h1 h2 h3 h4
theorem M6:az P env st ⟨d,.binOp .neq t x y t2,ty,pos,after,gd⟩ (.d (.ex (.bool (!jy xs ys)))):=j0 λg w tmps w' he=>by
 obtain ⟨k1,k2⟩:=KB hk h3 h4 w' .neq x y
 have e1:Act.eval ⟨tmps,[]⟩ x=.agg xs.toArray:=by cases aA he hx with|d _ _ h=>exact s6 h1 h
 have e2:Act.eval ⟨tmps,[]⟩ y=.agg ys.toArray:=by cases aA he hy with|d _ _ h=>exact s6 h2 h
 simp only[execOp,e1,e2,Sem.run_bind,k1,Result.andThen_ok,run_neq_struct,k2,Sem.run_pure]
end steq
end rules
section freezeCell
variable {P:uG} {f:Ctx} {N:Nat} {S:Start} {Q:EV->St->Prop} {todo:List Item} {env:Env} {st:St}
theorem ba.freezeCell {α:Type} {l:O α} {row:α->O D} (o ci:Nat) {tk e sz n:Nat} {T:uE} {cs:O EV} (ho:st.aR[o]?=some (.row T cs)) (hc:cs[ci]?=some (.vc tk n)) (dO:st.al[tk]?=some ⟨e,sz,n,some (l.map row)⟩)
  (h:ba P f N S Q todo env ((st.a8 tk ⟨e,sz,l.length,none⟩).set o (.row T (cs.set ci (.d (.sl sz (l.map row))))))):ba P f N S Q todo env st:=by
 refine .UT dO λhn=>?_
 subst hn
 intro g w tmps hinv hh he hN
 obtain ⟨g',h1,h2,h3,h4⟩:=hinv.freeze dO
 have zN:(st.a8 tk ⟨e,sz,l.length,none⟩).aR[o]?=some (.row T cs):=ho
 obtain ⟨a1,a2,Wp,a3,a4,a5⟩:=hinv.row o T cs ho
 obtain ⟨b1,b2,vs,b3,b4,b5⟩:=h2.row o T cs zN
 have zO:g'.ob o=g.ob o:=h3.du.ob o (List.getElem?_eq_some_iff.1 ho).1
 have zV:Wp=vs:=by rw[zO,a3] at b3;cases b3;rfl
 subst zV
 obtain ⟨k1,k2⟩:=h2.setBlock (o:=o) (x:=.row T (cs.set ci (.d (.sl sz (l.map row))))) (w':=w) ⟨_,zN,by simp⟩ b2 rfl (λ_ _=>rfl) rfl rfl rfl
  (λJP Jy zP g4=>by
   cases g4
   refine ⟨Wp,b3,by simpa using b4,λi c u nZ hu=>?_⟩
   rw[List.getElem?_set] at nZ
   split at nZ
   ·rename_i hic
    subst hic
    split at nZ
    ·cases nZ
     have h0:=a5 ci _ u hc hu
     refine ⟨?_,h0.2⟩
     rcases G7 hinv dO h0.1 with hv|⟨n0,r0,A,hv⟩
     ·rw[hv];exact .d _ _ (h4.mono JP.bI)
     ·rw[r0,hv];exact .d _ _ (.nil sz A)
    ·cases nZ
   ·have h0:=b5 i c u nZ hu
    exact ⟨h0.1.mono JP,h0.2⟩) (λ_ es g4=>by cases g4)
 exact h g' w tmps k1 (hh.step (h3.trans k2)) ((he.mono h3.du).mono k2.du) hN
variable {ops rest:List Oper} {k:List Item}
theorem cn.freezeCell {α:Type} {l:O α} {row:α->O D} (o ci:Nat) {tk e sz n:Nat} {T:uE} {cs:O EV} (ho:st.aR[o]?=some (.row T cs)) (hc:cs[ci]?=some (.vc tk n)) (dO:st.al[tk]?=some ⟨e,sz,n,some (l.map row)⟩)
  (h:cn P f N S Q ops rest k env ((st.a8 tk ⟨e,sz,l.length,none⟩).set o (.row T (cs.set ci (.d (.sl sz (l.map row))))))):cn P f N S Q ops rest k env st :=
 λj hj=>.freezeCell o ci ho hc dO (h j hj)
theorem cn.pD (o ci:Nat) {T:uE} {cs:O EV} {x y:EV} (ho:st.aR[o]?=some (.row T cs)) (hc:cs[ci]?=some x) (hle:dB x y)
  (h:cn P f N S Q ops rest k env (st.set o (.row T (cs.set ci y)))):cn P f N S Q ops rest k env st :=
 λj hj=>.pD o ci ho hc hle (h j hj)
end freezeCell
def KC (t:Nat):List Nat->Bool
 | []=>false
 | a::l=>match Nat.beq t a with
  | true=>true
  | false=>KC t l
def M7 {β:Type} (t:Nat):List (Nat×β)->Option β
 | []=>none
 | (a,y)::l=>match Nat.beq t a with
  | true=>some y
  | false=>M7 t l
def oZ:List Prop->Prop
 | []=>True
 | [p]=>p
 | p::q::l=>p/\oZ (q::l)
theorem oZ.c {p:Prop} {l:O Prop} (h:oZ (p::l)):p/\oZ l:=by
 cases l with
 | nil=>exact ⟨h,trivial⟩
 | cons q l=>exact h
def Al {α:Type} (p:α->Prop):List α->Prop
 | []=>True
 | a::l=>p a/\Al p l
theorem BW {p:Nat->Prop} {t:Nat}:∀ {l:O Nat},Al p l->KC t l=true->p t
 | [],_,h=>by cases h
 | a::l,⟨h1,h2⟩,h=>by
  unfold KC at h
  split at h
  ·rename_i hb;have:=Nat.eq_of_beq_eq_true hb;subst this;exact h1
  ·exact BW h2 h
theorem uc {β:Type} {p:Nat×β->Prop} {t:Nat} {y:β}:∀ {l:O (Nat×β)},Al p l->M7 t l=some y->p (t,y)
 | [],_,h=>by cases h
 | (a,z)::l,⟨h1,h2⟩,h=>by
  unfold M7 at h
  split at h
  ·rename_i hb;have:=Nat.eq_of_beq_eq_true hb;subst this;cases h;exact h1
  ·exact uc h2 h
def j5 {α β:Type _}:List α->(List α->β)->β
 | [],k=>k []
 | a::l,k=>j5 l λl'=>k (a::l')
theorem nQ {α β:Type _}:∀ (l:O α) (k:O α->β),j5 l k=k l
 | [],_=>rfl
 | a::l,k=>nQ l λl'=>k (a::l')
def KD {β:Type _} (env:Env) (d:Option Tmp) (x:EV) (k:Env->β):β:=match d with
 | some d=>k ((d,x)::env)
 | none=>k env
theorem xp {β:Type _} (env:Env) (d:J Tmp) (x:EV) (k:Env->β):KD env d x k=k (env.put d x):=by cases d<;>rfl
structure FT where
 one:List Nat
 agg:List (Nat×Nat)
 sz:List (Nat×Nat)
 fo:List (Nat×List (Nat×Nat))
 zr:List (Nat×List D)
def FT.Ok (P:uG) (T:FT):Prop :=
 Al (λt=>(P.underlying t).map jm=some true) T.one/\Al (λx=>(P.underlying x.1).map jm=some false/\(P.info? x.1).map (·.size)=some x.2) T.agg/\Al (λx=>(P.info? x.1).map (·.size)=some x.2) T.sz /\
 Al (λx=>Al (λy=>il P x.1 y.1=some y.2) x.2) T.fo/\Al (λx=>∃ z,(P.info? x.1).bind (·.zero)=some z/\dj (.d (cv z))=some (x.2.map EV.d)) T.zr
def T8:Option D->Option EV
 | some x=>some (.d x)
 | none=>none
def Vj:IntKind->Bool
 | .u8=>true
 | _=>false
def SI (op:BinOp) (a b:Int):Option Bool:=match op with
 | .lss=>some (decide (a<b))
 | .leq=>some (decide (a<=b))
 | .gtr=>some (decide (a > b))
 | .geq=>some (decide (a>=b))
 | .eql=>some (a==b)
 | .neq=>some (a != b)
 | _=>none
def SJ (op:BinOp) (a b:List uA):Option Bool:=match op with
 | .eql=>some (a==b)
 | .neq=>some (a != b)
 | _=>none
def T9:Option Bool->Option D
 | some b=>some (.ex (.bool b))
 | none=>none
def Qc (op:BinOp) (x y:D):Option D:=match x with
 | .ex (.int k a)=>match Vj k with
  | true=>none
  | false=>match y with
   | .ex (.int k' b)=>match decide (k=k') with
    | true=>T9 (SI op a b)
    | false=>none
   | _=>none
 | .ex (.string ⟨⟨a⟩⟩)=>match y with
  | .ex (.string ⟨⟨b⟩⟩)=>T9 (SJ op a b)
  | _=>none
 | _=>none
def OT (n:Nat) (cs:List EV) (off:Nat):Option EV:=match Nat.ble (off+n) cs.length with
 | true=>match Ie ((cs.drop off).take n) with
  | some ds=>some (.d (.agg ds))
  | none=>none
 | false=>none
def OU (n:Nat) (cs:List D):Option EV:=match Nat.beq cs.length n with
 | true=>some (.d (.agg cs))
 | false=>match Nat.ble n cs.length with
  | true=>some (.d (.agg (cs.take n)))
  | false=>none
def rowOf (st:St) (o:Nat):Option (uE×List EV):=match st.aR[o]? with
 | some (.row ty cs)=>some (ty,cs)
 | _=>none
def qv (T:FT) (env:Env) (st:St):Op->Option EV
 | .move x=>bI env x
 | .assign x=>bI env x
 | .nilCheck x=>match bI env x with
  | some (.ref o f)=>some (.ref o f)
  | _=>none
 | .extract x i=>match bI env x with
  | some (.d (.dp cs))=>T8 cs[i]?
  | some (.dp cs)=>cs[i]?
  | _=>none
 | .binOp op t x y t2=>match bI env x with
  | some (.d a)=>match bI env y with
   | some (.d b)=>T8 (Qc op a b)
   | _=>none
  | _=>none
 | .unOp .not t x=>match bI env x with
  | some (.d (.ex (.bool a)))=>some (.d (.ex (.bool (!a))))
  | _=>none
 | .fieldAddr s x f=>match M7 s T.fo with
  | some fs=>match M7 f fs with
   | some off=>match bI env x with
    | some (.ref o o0)=>some (.ref o (o0+off))
    | some (.d (.ro cs))=>some (.d (.ro (cs.drop off)))
    | some (.vp t k i o)=>some (.vp t k i (o+off))
    | _=>none
   | none=>none
  | none=>none
 | .load t x=>match bI env x with
  | some (.ref o off)=>match rowOf st o with
   | some (_,cs)=>match KC t T.one with
    | true=>cs[off]?
    | false=>match M7 t T.agg with
     | some n=>OT n cs off
     | none=>none
   | none=>none
  | some (.d (.ro cs))=>match KC t T.one with
   | true=>match cs with
    | c::_=>some (.d c)
    | []=>none
   | false=>match M7 t T.agg with
    | some n=>OU n cs
    | none=>none
  | _=>none
 | _=>none
def pk (env:Env):Op->Option (EV×Prop)
 | .pick x y z=>match bI env x with
  | some (.d (.ex (.bool a)))=>match bI env y with
   | some (.gd c (.d (.ex (.bool v))))=>match bI env z with
    | some (.d (.ex (.bool false)))=>some (.d (.ex (.bool (a && v))),c=a)
    | _=>none
   | some (.d (.ex (.bool true)))=>match bI env z with
    | some (.gd c (.d (.ex (.bool v))))=>some (.d (.ex (.bool (a || v))),c=(!a))
    | _=>none
   | _=>none
  | _=>none
 | _=>none
section q
variable {P:uG} {T:FT} {env:Env} {st:St} {d:Option Tmp} {ty:uE} {pos:String} {after:uD Edge} {gd:Option (Nat×Bool)}
theorem Qd {op:BinOp} {a b r:D} {x y:uH} {t t2:uE} (hx:bI env x=some (.d a)) (hy:bI env y=some (.d b)) (h:Qc op a b=some r):az P env st ⟨d,.binOp op t x y t2,ty,pos,after,gd⟩ (.d r):=by
 unfold Qc at h
 split at h
 ·split at h
  ·cases h
  ·split at h
   ·split at h
    ·rename_i hk
     have hk:=of_decide_eq_true hk
     subst hk
     unfold SI T9 at h
     cases op<;>simp at h<;>subst h
     ·exact OD hx hy
     ·exact OE hx hy
     ·exact OB hx hy
     ·exact GJ hx hy
     ·exact JF hx hy
     ·exact OC hx hy
    ·cases h
   ·cases h
 ·split at h
  ·unfold SJ T9 at h
   cases op<;>simp at h<;>subst h
   ·exact Pq hx hy
   ·exact Pr hx hy
  ·cases h
 ·cases h
theorem ym (hT:T.Ok P) {op:Op} {x:EV} (h:qv T env st op=some x):az P env st ⟨d,op,ty,pos,after,gd⟩ x:=by
 obtain ⟨h1,h2,h3,h4,h5⟩:=hT
 unfold qv at h
 split at h
 ·exact cg h
 ·exact JE h
 ·split at h
  ·rename_i hx;cases h;exact Kl hx
  ·cases h
 ·split at h
  ·rename_i hx
   unfold T8 at h
   split at h
   ·rename_i hc;cases h;exact iY hx hc
   ·cases h
  ·rename_i hx;exact Fy hx h
  ·cases h
 ·split at h
  ·rename_i a hx
   split at h
   ·rename_i b hy
    unfold T8 at h
    split at h
    ·rename_i r hr;cases h;exact Qd hx hy hr
    ·cases h
   ·cases h
  ·cases h
 ·split at h
  ·rename_i hx;cases h;exact RR hx
  ·cases h
 ·split at h
  ·rename_i fs hl
   split at h
   ·rename_i off hf
    have:=uc (uc h4 hl) hf
    split at h
    ·rename_i hx;cases h;exact lF this hx
    ·rename_i hx;cases h;exact Ig this hx
    ·rename_i hx;cases h;exact Iv this hx
    ·cases h
   ·cases h
  ·cases h
 ·split at h
  ·rename_i o off hx
   split at h
   ·rename_i Jy cs hr
    unfold rowOf at hr
    split at hr
    ·rename_i Yn Yo ho
     cases hr
     split at h
     ·rename_i hm
      exact fK (BW h1 hm) hx ho h
     ·split at h
      ·rename_i n hl
       unfold OT at h
       split at h
       ·rename_i hn
        split at h
        ·rename_i ds hd
         cases h
         have:=uc h2 hl
         exact pR this.1 this.2 hx ho (Nat.le_of_ble_eq_true hn) hd
        ·cases h
       ·cases h
      ·cases h
    ·cases hr
   ·cases h
  ·rename_i cs hx
   split at h
   ·rename_i hm
    split at h
    ·cases h;exact dN (BW h1 hm) hx
    ·cases h
   ·split at h
    ·rename_i n hl
     have:=uc h2 hl
     unfold OU at h
     split at h
     ·rename_i hn;cases h;exact vS this.1 this.2 hx hn
     ·split at h
      ·rename_i hn;cases h;exact GP this.1 this.2 (Nat.le_of_ble_eq_true hn) hx
      ·cases h
    ·cases h
  ·cases h
 ·cases h
theorem DJ {op:Op} {x:EV} {p:Prop} (h:pk env op=some (x,p)) (hp:p):az P env st ⟨d,op,ty,pos,after,gd⟩ x:=by
 unfold pk at h
 split at h
 ·split at h
  ·rename_i a hx
   split at h
   ·rename_i c v hy
    split at h
    ·rename_i hz
     simp only[Option.some.injEq,Prod.mk.injEq] at h
     obtain ⟨rfl,rfl⟩:=h
     subst hp
     exact cC hx hy hz
    ·cases h
   ·rename_i hy
    split at h
    ·rename_i c v hz
     simp only[Option.some.injEq,Prod.mk.injEq] at h
     obtain ⟨rfl,rfl⟩:=h
     subst hp
     exact s7 hx hy hz
    ·cases h
   ·cases h
  ·cases h
 ·cases h
end q
inductive Hint where
 | g (x:EV)
 | v (x:EV) (st:St)
 | u (st:St)
 | t (x:EV) (tk:Nat) (tl:fZ)
 | n (x:EV) (tl:fZ)
 | r (o:Nat)
 | p (n:Nat)
  | f (k:Nat) (x:EV)
 | w (k:Nat) (st:St)
def forced (n:Nat):List Hint->Option (EV×List Hint)
 | .f k x::hs=>match Nat.beq k n with
  | true=>some (x,hs)
  | false=>none
 | _=>none
def M8 (n:Nat):List Hint->Option (St×List Hint)
 | .w k s::hs=>match Nat.beq k n with
  | true=>some (s,hs)
  | false=>none
 | _=>none
inductive Cf where
 | run (k:List Item)
 | ops (l rest:List Oper) (k:List Item)
 | draw (l:List Oper) (p:Nat) (os:List Oper) (k:List Item)
@[reducible] def M9 (P:uG) (f:Ctx) (N:Nat) (S:Start) (Q:EV->St->Prop):Cf->Env->St->Prop
 | .run k=>ba P f N S Q k
 | .ops l r k=>cn P f N S Q l r k
 | .draw l p os k=>rQ P f N S Q l p os k
structure Out where
 cf:Cf
 env:Env
 st:St
 ps:List Prop
def RA {β:Type _} (b:Bool) (env:Env):List Tmp->List Prop->(Env->List Prop->β)->β
 | [],ps,k=>k [] ps
 | t::ts,ps,k=>match lookup t env with
  | some (.gd c y)=>RA b env ts ((c=b)::ps) λe ps=>k ((t,y)::e) ps
  | some x=>RA b env ts ps λe ps=>k ((t,x)::e) ps
  | none=>RA b env ts ps k
theorem u0 {β:Type _} {b:Bool} {env:Env}:∀ (ts:O Tmp) (ps:O Prop) (k:Env->O Prop->β),∃ e BX,RA b env ts ps k=k e BX/\(oZ BX->oZ ps/\tB b env e)
 | [],ps,k=>⟨[],ps,rfl,λh=>⟨h,trivial⟩⟩
 | t::ts,ps,k=>by
  unfold RA
  split
  ·rename_i c y hl
   obtain ⟨e,BX,h1,h2⟩:=u0 (b:=b) (env:=env) ts ((c=b)::ps) λe ps=>k ((t,y)::e) ps
   refine ⟨_,_,h1,λh=>?_⟩
   obtain ⟨Xs,h5⟩:=h2 h
   obtain ⟨h3,h4⟩:=Xs.c
   exact ⟨h4,.inr (.inl (by rw[hl,h3])),h5⟩
  ·rename_i x dq hl
   obtain ⟨e,BX,h1,h2⟩:=u0 (b:=b) (env:=env) ts ps λe ps=>k ((t,x)::e) ps
   exact ⟨_,_,h1,λh=>⟨(h2 h).1,.inl hl,(h2 h).2⟩⟩
  ·obtain ⟨e,BX,h1,h2⟩:=u0 (b:=b) (env:=env) ts ps k
   exact ⟨e,BX,h1,h2⟩
def stepG (P:uG) (T:FT) (n:Nat) (st:St) (o:Oper) (b:Bool) (hs:List Hint) (F:Option Out) (K:EV->List Hint->List Prop->Option Out) (e:Env) (ps:List Prop):Option Out :=
 match forced n hs with
 | some (x,hs)=>K (.gd b x) hs ((b=true->ti P e st o x)::ps)
 | none=>match qv T e st o.op with
  | some x=>K (.gd b x) hs ps
  | none=>match pk e o.op with
   | some (x,p)=>K (.gd b x) hs (p::ps)
   | none=>match hs with
    | .g x::hs=>K (.gd b x) hs ((b=true->ti P e st o x)::ps)
    | _=>F
def Hd (P:uG) (T:FT) (n:Nat) (l:List Oper) (e:Env) (st:St) (o:Oper) (hs:List Hint) (ps:List Prop) (F:Option Out) (K:EV->List Hint->List Prop->Option Out):Option Out :=
 match o.guard with
 | none=>match forced n hs with
  | some (x,hs)=>K x hs (ti P e st o x::ps)
  | none=>match qv T e st o.op with
   | some x=>K x hs ps
   | none=>match pk e o.op with
    | some (x,p)=>K x hs (p::ps)
    | none=>match hs with
     | .g x::hs=>K x hs (ti P e st o x::ps)
     | _=>F
 | some (j,want)=>match (l[j]?).bind (·.dst) with
  | some t=>match lookup t e with
   | some c=>match xO c want with
    | some b=>RA b e (xU o.op) ps (stepG P T n st o b hs F K)
    | none=>F
   | none=>F
  | none=>F
theorem yn {P:uG} {T:FT} (hT:T.Ok P) {n:Nat} {l:O Oper} {e:Env} {st:St} {o:Oper} {hs:O Hint} {ps:O Prop} {F:J Out} {K:EV->O Hint->O Prop->J Out} {out:J Out} (h:Hd P T n l e st o hs ps F K=out) :
  out=F∨∃ x v9 BX,out=K x v9 BX/\(oZ BX->oZ ps/\oh P l e st o x):=by
 obtain ⟨dst,op,ty,pos,after,guard⟩:=o
 unfold Hd at h
 dsimp only at h
 split at h
 ·split at h
  ·exact .inr ⟨_,_,_,h.symm,λhp=>⟨hp.c.2,.inl ⟨rfl,hp.c.1⟩⟩⟩
  ·split at h
   ·rename_i x hq
    exact .inr ⟨_,_,_,h.symm,λhp=>⟨hp,.inl ⟨rfl,(ym hT hq).g⟩⟩⟩
   ·split at h
    ·rename_i x p hq
     exact .inr ⟨_,_,_,h.symm,λhp=>⟨hp.c.2,.inl ⟨rfl,(DJ hq hp.c.1).g⟩⟩⟩
    ·split at h
     ·exact .inr ⟨_,_,_,h.symm,λhp=>⟨hp.c.2,.inl ⟨rfl,hp.c.1⟩⟩⟩
     ·exact .inl h.symm
 ·rename_i j want
  split at h
  ·rename_i t ht
   split at h
   ·rename_i c hc
    split at h
    ·rename_i b hb
     obtain ⟨e',Yp,h1,h2⟩:=u0 (b:=b) (env:=e) (xU op) ps (stepG P T n st ⟨dst,op,ty,pos,after,some (j,want)⟩ b hs F K)
     rw[h1] at h
     have mk:∀ x,(b=true->ti P e' st ⟨dst,op,ty,pos,after,some (j,want)⟩ x)->tB b e e'->oh P l e st ⟨dst,op,ty,pos,after,some (j,want)⟩ (.gd b x):=λx hx hE=>.inr ⟨j,want,t,c,b,x,e',rfl,ht,hc,hb,rfl,hE,hx⟩
     unfold stepG at h
     dsimp only at h
     split at h
     ·exact .inr ⟨_,_,_,h.symm,λhp=>⟨(h2 hp.c.2).1,mk _ hp.c.1 (h2 hp.c.2).2⟩⟩
     ·split at h
      ·rename_i x hq
       exact .inr ⟨_,_,_,h.symm,λhp=>⟨(h2 hp).1,mk _ (λ_=>(ym hT hq).g) (h2 hp).2⟩⟩
      ·split at h
       ·rename_i x p hq
        exact .inr ⟨_,_,_,h.symm,λhp=>⟨(h2 hp.c.2).1,mk _ (λ_=>(DJ hq hp.c.1).g) (h2 hp.c.2).2⟩⟩
       ·split at h
        ·exact .inr ⟨_,_,_,h.symm,λhp=>⟨(h2 hp.c.2).1,mk _ hp.c.1 (h2 hp.c.2).2⟩⟩
        ·exact .inl h.symm
    ·exact .inl h.symm
   ·exact .inl h.symm
  ·exact .inl h.symm
def KE (P:uG) (base:Nat) (T:FT) (e:Env) (st:St) (o:Oper) (hs:List Hint) (ps:List Prop) (K:EV->St->List Hint->List Prop->Option Out):Option Out :=
  match o.guard with
  | some _=>none
  | none=>match st with
   | ⟨ob,tl⟩=>match hs with
    | .r n::hs=>match Nat.beq n ob.length with
      | false=>none
      | true=>match o.op with
        | .box t x=>match bI e x with
          | some y=>match dj y with
            | some cs=>j5 cs λcs=>j5 (ob++[.row t cs]) λos=>K (.ref n 0) ⟨os,tl⟩ hs ps
            | none=>none
          | none=>none
        | .alloc t=>match M7 t T.zr with
          | some zs=>j5 (zs.map EV.d) λcs=>j5 (ob++[.row t cs]) λos=>K (.ref n 0) ⟨os,tl⟩ hs ps
          | none=>none
        | _=>none
    | .v x st'::hs=>K x st' hs (tQ P base e st o x st'::ps)
    | .u st'::hs=>K (.d .any) st' hs (CN P base e st o st'::ps)
    | .t x tk y::hs=>j5 (tl.set tk y) λts=>K x ⟨ob,ts⟩ hs (tQ P base e st o x (st.a8 tk y)::ps)
    | .n x y::hs=>j5 (tl++[y]) λts=>K x ⟨ob,ts⟩ hs (tQ P base e st o x (st.tok y)::ps)
    | _=>none
def KF (P:uG) (base:Nat) (T:FT) (n:Nat) (e:Env) (st:St) (o:Oper) (hs:List Hint) (ps:List Prop) (F:Option Out) (K:St->List Hint->List Prop->Option Out):Option Out :=
  match o.guard with
  | some _=>F
  | none=>match M8 n hs with
   | some (st',hs)=>K st' hs (CN P base e st o st'::ps)
   | none=>match o.op with
    | .store t x y=>match bI e x with
      | some (.ref ob off)=>match rowOf st ob with
        | some (ty,cs)=>match bI e y with
          | some y=>match dj y with
            | some new=>match M7 t T.sz with
              | some n=>match Nat.beq n new.length with
                | true=>match Nat.ble (off+new.length) cs.length with
                  | true=>match st with
                    | ⟨os,tl⟩=>j5 (putCells cs off new) λcs=>j5 (os.set ob (.row ty cs)) λos=>K ⟨os,tl⟩ hs ps
                  | false=>F
                | false=>F
              | none=>F
            | none=>F
          | none=>F
        | none=>F
      | _=>F
    | _=>F
section e
variable {P:uG} {base:Nat} {T:FT} (hT:T.Ok P) {e:Env} {st:St} {o:Oper} {hs:List Hint} {ps:List Prop} {out:Out}
include hT
theorem FY {K:EV->St->O Hint->O Prop->J Out} (h:KE P base T e st o hs ps K=some out) :
  o.guard=none/\∃ x st' v9 BX,K x st' v9 BX=some out/\(oZ BX->oZ ps/\(tQ P base e st o x st'∨(x=.d .any/\CN P base e st o st'))):=by
 obtain ⟨dst,op,ty,pos,after,guard⟩:=o
 unfold KE at h
 dsimp only at h
 split at h
 ·cases h
 ·refine ⟨rfl,?_⟩
  simp only[nQ] at h
  split at h
  ·split at h
   ·cases h
   ·rename_i hn
    have hn:=Nat.eq_of_beq_eq_true hn
    split at h
    ·rename_i t x
     split at h
     ·rename_i y hy
      split at h
      ·rename_i cs hc
       refine ⟨_,_,_,_,h,λhp=>⟨hp,.inl ?_⟩⟩
       rw[hn]
       exact RX hy hc
      ·cases h
     ·cases h
    ·rename_i t
     split at h
     ·rename_i zs hz
      obtain ⟨z,Xt,Xu⟩:=uc hT.2.2.2.2 hz
      refine ⟨_,_,_,_,h,λhp=>⟨hp,.inl ?_⟩⟩
      rw[hn]
      exact o8 Xt Xu
     ·cases h
    ·cases h
  ·exact ⟨_,_,_,_,h,λhp=>⟨hp.c.2,.inl hp.c.1⟩⟩
  ·exact ⟨_,_,_,_,h,λhp=>⟨hp.c.2,.inr ⟨rfl,hp.c.1⟩⟩⟩
  ·exact ⟨_,_,_,_,h,λhp=>⟨hp.c.2,.inl hp.c.1⟩⟩
  ·exact ⟨_,_,_,_,h,λhp=>⟨hp.c.2,.inl hp.c.1⟩⟩
  ·cases h
theorem FZ {n:Nat} {F r:J Out} {K:St->O Hint->O Prop->J Out} (h:KF P base T n e st o hs ps F K=r):r=F∨(o.guard=none/\∃ st' v9 BX,r=K st' v9 BX/\(oZ BX->oZ ps/\CN P base e st o st')):=by
 obtain ⟨dst,op,ty,pos,after,guard⟩:=o
 unfold KF at h
 dsimp only at h
 split at h
 ·exact .inl h.symm
 ·split at h
  ·exact .inr ⟨rfl,_,_,_,h.symm,λhp=>⟨hp.c.2,hp.c.1⟩⟩
  simp only[nQ] at h
  split at h
  ·rename_i t x y
   split at h
   ·rename_i ob off hx
    split at h
    ·rename_i Jy cs hr
     have hr:st.aR[ob]?=some (.row Jy cs):=by
      unfold rowOf at hr
      split at hr
      ·rename_i h1;cases hr;exact h1
      ·cases hr
     split at h
     ·rename_i yv hy
      split at h
      ·rename_i new hc
       split at h
       ·rename_i n hl
        split at h
        ·rename_i hn
         have hn:=Nat.eq_of_beq_eq_true hn
         split at h
         ·rename_i hle
          have iW:=uc hT.2.2.1 hl
          refine .inr ⟨rfl,_,_,_,h.symm,λhp=>⟨hp,qJ hx hy hr hc (Nat.le_of_ble_eq_true hle) ?_⟩⟩
          rw[←hn];exact iW
         ·exact .inl h.symm
        ·exact .inl h.symm
       ·exact .inl h.symm
      ·exact .inl h.symm
     ·exact .inl h.symm
    ·exact .inl h.symm
   ·exact .inl h.symm
  ·exact .inl h.symm
end e
def OV (hs:List Hint) (ps:List Prop):List Item->(Cf->List Hint->List Prop->Option Out)->Option Out
 | .code (.seq x y)::k,K=>K (.run (.code x::.code y::k)) hs ps
 | .code .skip::k,K=>K (.run k) hs ps
 | .inBlock id::k,K=>K (.run k) hs ps
 | .code (.block id c)::k,K=>K (.run (.code c::.inBlock id::k)) hs ps
 | .code (.exit id)::k,K=>match exitTo id k with
  | some k'=>K (.run k') hs ps
  | none=>none
 | .code (.region id ⟨l⟩ false)::k,K=>K (.ops l l k) hs ps
 | .code (.region id ⟨l⟩ true)::k,K=>match hs with
  | .p p::hs=>j5 (l.take p) λos=>K (.draw l p os k) hs ((og l p=true)::ps)
  | _=>none
 | _,_=>none
def Ua (N:Nat) (o:Oper):Bool:=match o.dst with
 | some d=>Nat.ble (d+1) N
 | none=>match o.guard with
  | none=>true
  | some _=>false
theorem He {N:Nat} {o:Oper} (h:Ua N o=true):dZ N o.dst=true/\(o.guard≠none->o.dst≠none):=by
 unfold Ua at h
 split at h
 ·rename_i d hd;rw[hd];exact ⟨h,λ_=>by simp⟩
 ·rename_i hd;rw[hd]
  split at h
  ·rename_i hg;exact ⟨rfl,λh=>absurd hg h⟩
  ·cases h
def go (P:uG) (base:Nat) (T:FT) (N:Nat):Nat->Cf->Env->St->List Hint->List Prop->Option Out
 | 0,cf,env,st,hs,ps=>match hs with
  | []=>some ⟨cf,env,st,ps⟩
  | _=>none
 | n+1,cf,env,st,hs,ps=>match cf with
  | .run k=>OV hs ps k λcf hs ps=>go P base T N n cf env st hs ps
  | .ops l rest k=>match rest with
   | []=>go P base T N n (.run k) env st hs ps
   | o::rest=>match Ua N o with
    | true=>KF P base T (n+1) env st o hs ps
     (Hd P T (n+1) l env st o hs ps
      (KE P base T env st o hs ps λx st hs ps=>KD env o.dst x λenv=>go P base T N n (.ops l rest k) env st hs ps)
      λx hs ps=>KD env o.dst x λenv=>go P base T N n (.ops l rest k) env st hs ps)
     λst hs ps=>KD env o.dst (.d .any) λenv=>go P base T N n (.ops l rest k) env st hs ps
    | false=>none
  | .draw l p os k=>match os with
   | []=>j5 (l.drop p) λr=>go P base T N n (.ops l r k) env st hs ps
   | o::os=>match Ua N o with
    | true=>Hd P T (n+1) l (ir l o env) st o hs ps none λx hs ps=>KD env o.dst x λenv=>go P base T N n (.draw l p os k) env st hs ps
    | false=>none
section sound
variable {P:uG} {f:Ctx} {N:Nat} {S:Start} {Q:EV->St->Prop} {T:FT}
theorem cn.any {ops rest:O Oper} {k:O Item} {env:Env} {st:St} {o:Oper} {x:EV} (h:oh P ops env st o x) (hd:dZ N o.dst=true) (hs:o.guard≠none->o.dst≠none) (hk:cn P f N S Q ops rest k (env.put o.dst x) st) :
  cn P f N S Q ops (o::rest) k env st:=by
 obtain ⟨dst,op,ty,pos,after,guard⟩:=o
 rcases h with ⟨hg,h⟩|⟨j,want,t,c,b,y,env',hg,hj,hl,hc,rfl,hE,h⟩
 ·have hg:guard=none:=hg
  subst hg
  exact .g h hd hk
 ·have hg:guard=_:=hg
  subst hg
  cases dst with
  | none=>exact absurd rfl (hs (by simp))
  | some d=>exact .eN hj hl hc hE hd h hk
theorem rQ.any {l os:O Oper} {p:Nat} {k:O Item} {env:Env} {st:St} {o:Oper} {x:EV} (h:oh P l (ir l o env) st o x) (hd:dZ N o.dst=true) (hk:rQ P f N S Q l p os k (env.put o.dst x) st) :
  rQ P f N S Q l p (o::os) k env st:=by
 obtain ⟨xs,h1,h2⟩:=hk
 exact ⟨x::xs,⟨hd,h,h1⟩,h2⟩
theorem go_sound (hT:T.Ok P) (hm:P.follows .mixedOrders=true):∀ (n:Nat) (cf:Cf) (env:Env) (st:St) (hs:O Hint) (ps:O Prop) (out:Out),go P S.base T N n cf env st hs ps=some out->oZ out.ps ->
  oZ ps/\(M9 P f N S Q out.cf out.env out.st->M9 P f N S Q cf env st)
 | 0,cf,env,st,hs,ps,out,h,hp=>by
  unfold go at h
  split at h
  ·cases h;exact ⟨hp,λh=>h⟩
  ·cases h
 | n+1,.run k,env,st,hs,ps,out,h,hp=>by
  unfold go at h
  dsimp only at h
  have ih:=λcf hs ps=>go_sound hT hm n cf env st hs ps out
  unfold OV at h
  split at h
  ·obtain ⟨h1,h2⟩:=ih _ _ _ h hp;exact ⟨h1,λh=>.seq (h2 h)⟩
  ·obtain ⟨h1,h2⟩:=ih _ _ _ h hp;exact ⟨h1,λh=>.skip (h2 h)⟩
  ·obtain ⟨h1,h2⟩:=ih _ _ _ h hp;exact ⟨h1,λh=>.inBlock (h2 h)⟩
  ·obtain ⟨h1,h2⟩:=ih _ _ _ h hp;exact ⟨h1,λh=>.block (h2 h)⟩
  ·split at h
   ·rename_i hk
    obtain ⟨h1,h2⟩:=ih _ _ _ h hp;exact ⟨h1,λh=>.exit hk (h2 h)⟩
   ·cases h
  ·obtain ⟨h1,h2⟩:=ih _ _ _ h hp;exact ⟨h1,λh=>.region (h2 h)⟩
  ·split at h
   ·rw[nQ] at h
    obtain ⟨h1,h2⟩:=ih _ _ _ h hp;exact ⟨h1.c.2,λh=>.drawn _ hm h1.c.1 (h2 h)⟩
   ·cases h
  ·cases h
 | n+1,.ops l [] k,env,st,hs,ps,out,h,hp=>by
  unfold go at h
  dsimp only at h
  obtain ⟨h1,h2⟩:=go_sound hT hm n _ _ _ _ _ out h hp
  exact ⟨h1,λh=>.nil (h2 h)⟩
 | n+1,.ops l (o::rest) k,env,st,hs,ps,out,h,hp=>by
  unfold go at h
  dsimp only at h
  split at h
  ·rename_i ho
   obtain ⟨zN,MH⟩:=He ho
   rcases FZ (base:=S.base) hT h with h|⟨hg,st',v9,BX,h,hu⟩
   ·rcases yn hT h.symm with h|⟨x,v9,BX,h,ha⟩
    ·obtain ⟨hg,x,st',v9,BX,h,ha⟩:=FY hT h.symm
     rw[xp] at h
     obtain ⟨h1,h2⟩:=go_sound hT hm n _ _ _ _ _ out h hp
     obtain ⟨h3,h4⟩:=ha h1
     refine ⟨h3,λhk=>?_⟩
     rcases h4 with h4|⟨rfl,h4⟩
     ·exact .op hg zN h4 (h2 hk)
     ·exact .V5 hg zN h4 (h2 hk)
    ·rw[xp] at h
     obtain ⟨h1,h2⟩:=go_sound hT hm n _ _ _ _ _ out h.symm hp
     obtain ⟨h3,h4⟩:=ha h1
     exact ⟨h3,λh=>.any h4 zN MH (h2 h)⟩
   ·rw[xp] at h
    obtain ⟨h1,h2⟩:=go_sound hT hm n _ _ _ _ _ out h.symm hp
    obtain ⟨h3,h4⟩:=hu h1
    exact ⟨h3,λh=>.V5 hg zN h4 (h2 h)⟩
  ·cases h
 | n+1,.draw l p [] k,env,st,hs,ps,out,h,hp=>by
  unfold go at h
  dsimp only at h
  rw[nQ] at h
  obtain ⟨h1,h2⟩:=go_sound hT hm n _ _ _ _ _ out h hp
  exact ⟨h1,λh=>.nil (h2 h)⟩
 | n+1,.draw l p (o::os) k,env,st,hs,ps,out,h,hp=>by
  unfold go at h
  dsimp only at h
  split at h
  ·rename_i ho
   obtain ⟨zN,MH⟩:=He ho
   rcases yn hT h with h|⟨x,v9,BX,h,ha⟩
   ·cases h
   ·rw[xp] at h
    obtain ⟨h1,h2⟩:=go_sound hT hm n _ _ _ _ _ out h.symm hp
    obtain ⟨h3,h4⟩:=ha h1
    exact ⟨h3,λh=>.any h4 zN (h2 h)⟩
  ·cases h
def F0 (T:FT) (env:Env) (st:St):List ResultVar->Option (List EV)
 | []=>some []
 | .tmp t::l=>match lookup t env with
  | some x=>match F0 T env st l with
   | some r=>some (x::r)
   | none=>none
  | none=>none
 | .cell a ty::l=>match lookup a env with
  | some (.ref o off)=>match qv T env st (.load ty (.tmp a)) with
   | some x=>match F0 T env st l with
    | some r=>some (x::r)
    | none=>none
   | none=>none
  | _=>none
theorem ud (hT:T.Ok P) {env:Env} {st:St}:∀ {l:O ResultVar} {es:O EV},F0 T env st l=some es->BI P env st l es
 | [],es,h=>by cases h;trivial
 | .tmp t::l,es,h=>by
  unfold F0 at h
  split at h
  ·rename_i x hx
   split at h
   ·rename_i r hr;cases h;exact ⟨hx,ud hT hr⟩
   ·cases h
  ·cases h
 | .cell a ty::l,es,h=>by
  unfold F0 at h
  split at h
  ·rename_i o off ha
   split at h
   ·rename_i x hq
    split at h
    ·rename_i r hr;cases h;exact ⟨⟨⟨o,off,ha⟩,ym hT hq⟩,ud hT hr⟩
    ·cases h
   ·cases h
  ·cases h
theorem ba.rc {f:FuncId} (hT:T.Ok P) {fn:Func} {xs:O ResultVar} {es:O EV} {k:O Item} {env:Env} {st:St} (hf:P.funcs[f]?=some fn) (hr:fn.results=xs.toArray) (h:F0 T env st xs=some es) (hQ:Q (Dl es) st) :
  ba P (.of f) N S Q (.code .ret::k) env st:=.Sz xs es hf hr (ud hT h) hQ
theorem ba.ite {α:Type} {b:Bool} {d:Decidable (b=true)} {e1 e2:J α} {r:α} {c:uH} {x y:Code} {k:O Item} {env:Env} {st:St} (H:@ite _ (b=true) d e1 e2=some r) (hc:bI env c=some (.d (.ex (.bool b))))
  (ht:e1=some r->ba P f N S Q (.code x::k) env st) (hf:e2=some r->ba P f N S Q (.code y::k) env st):ba P f N S Q (.code (.cond c x y)::k) env st :=
 .cond hc (λh=>ht (by rw[if_pos h] at H;exact H)) (λh=>hf (by rw[if_neg (by simp[h])] at H;exact H))
def KG (env:Env):List (Nat×EV)->Option Env
 | []=>some []
 | (i,_)::l=>match lookup i env with
  | some x=>match KG env l with
   | some r=>some ((i,x)::r)
   | none=>none
  | none=>none
theorem yo {env:Env}:∀ {l:O (Nat×EV)} {env':Env},KG env l=some env'->cL env env'
 | [],env',h=>by cases h;trivial
 | (i,y)::l,env',h=>by
  unfold KG at h
  split at h
  ·rename_i x hx
   split at h
   ·rename_i r hr;cases h;exact .cons hx (.av _) (yo hr)
   ·cases h
  ·cases h
section back
variable {todo:List Item} {env env':Env} {st st' s0:St}
theorem ba.z (h:ba P f N S Q todo env' st') (hs:st=st') (hE:KG env env'=some env'):ba P f N S Q todo env st:=hs▸.sub (yo hE) h
theorem ba.y (h:ba P f N S Q todo env' st') (hs:st=st') (hE:cL env env'):ba P f N S Q todo env st:=hs▸.sub hE h
theorem ba.t (n m:Nat) (h:ba P f N S Q todo env' st') (hE:KG env env'=some env') (ho:st.aR.take n=st'.aR) (ht:st.al.take m=st'.al) (hn:(Nat.ble n st.aR.length && Nat.ble m st.al.length)=true)
  (vJ:(Df n m env' && st'.aR.all (kq n m))=true) (hS:S.st=s0) (hb:(Nat.ble s0.aR.length n && Nat.ble s0.al.length m)=true):ba P f N S Q todo env st:=by
 simp only[Bool.and_eq_true] at hn hb
 exact .to n m (yo hE) ho ht hn.1 hn.2 vJ (by rw[hS];exact Nat.le_of_ble_eq_true hb.1) (by rw[hS];exact Nat.le_of_ble_eq_true hb.2) h
end back
end sound
theorem CN.e {P:uG} {base:Nat} {env:Env} {st SK SL:St} {o:Oper} (h:CN P base env st o SK) (he:SK=SL):CN P base env st o SL:=he▸h
theorem tQ.e {P:uG} {base:Nat} {env:Env} {st SK SL:St} {o:Oper} {x:EV} (h:tQ P base env st o x SK) (he:SK=SL):tQ P base env st o x SL:=he▸h
theorem QD.m {q:D->Prop} {r:EV} {st:St} {x:D} (hq:q x) (h:dB r (.d x)):QD q r st:=⟨x,h,hq⟩
theorem dB.cZ {ds:O D} {es:O EV} (h:es=ds.map EV.d):dB (.dp es) (.d (.dp ds)):=by
 subst h
 refine .eP ?_
 induction ds with
 | nil=>trivial
 | cons d ds ih=>exact ⟨.av _,ih⟩
def Wq (P:uG) (T:FT):Bool :=
 T.one.all (λt=>decide ((P.underlying t).map jm=some true)) && T.agg.all (λx=>decide ((P.underlying x.1).map jm=some false) && decide ((P.info? x.1).map (·.size)=some x.2)) && T.sz.all (λx=>decide ((P.info? x.1).map (·.size)=some x.2)) &&
 T.fo.all (λx=>x.2.all λy=>decide (il P x.1 y.1=some y.2))
theorem AR {α:Type} {p:α->Prop}:∀ {l:O α},(∀ x,x∈l->p x)->Al p l
 | [],_=>trivial
 | a::l,h=>⟨h a (by simp),AR λx hx=>h x (by simp[hx])⟩
theorem FT.SM {P:uG} {T:FT} (h:Wq P T=true) (hz:Al (λx=>∃ z,(P.info? x.1).bind (·.zero)=some z/\dj (.d (cv z))=some (x.2.map EV.d)) T.zr):T.Ok P:=by
 simp only[Wq,Bool.and_eq_true,List.all_eq_true,decide_eq_true_eq] at h
 exact ⟨AR h.1.1.1,AR h.1.1.2,AR h.1.2,AR λx hx=>AR (h.2 x hx),hz⟩
def Hf (P:uG) (base:Nat) (T:FT) (N n:Nat) (cf:Cf) (env:Env) (st:St) (hs:List Hint):Option Out:=j5 env λenv=>match st with
 | ⟨os,ts⟩=>j5 os λos=>j5 ts λts=>go P base T N n cf env ⟨os,ts⟩ hs []
theorem Qe {P:uG} {base N n:Nat} {T:FT} {cf:Cf} {env:Env} {st:St} {hs:O Hint}:Hf P base T N n cf env st hs=go P base T N n cf env st hs []:=by
 unfold Hf;simp only[nQ]
theorem lN {P:uG} {f:Ctx} {N:Nat} {S:Start} {Q:EV->St->Prop} {T:FT} (hT:T.Ok P) (hm:P.follows .mixedOrders=true) {n:Nat} {cf:Cf} {env:Env} {st:St} {hs:O Hint} {out:Out} (h:Hf P S.base T N n cf env st hs=some out) (hp:oZ out.ps) :
  M9 P f N S Q out.cf out.env out.st->M9 P f N S Q cf env st:=(go_sound hT hm n cf env st hs [] out (Qe▸h) hp).2
structure zS (P:uG) (t e sz:Nat):Prop where
 ht:P.underlying t=some (.slice e)
 hi:∃ inf z,P.info? e=some inf/\inf.zero=some z/\inf.size=sz/\z.cells.size=sz/\inf.bytes<=100000
theorem zS.of {P:uG} {t e sz b:Nat} {z:uB} (ht:P.underlying t=some (.slice e)) (h:∃ i,P.info? e=some i/\i.zero=some z/\i.size=sz/\i.bytes=b) (hz:z.cells.size=sz) (hb:Nat.ble b 100000=true):zS P t e sz :=
 let ⟨i,h1,h2,h3,h4⟩:=h
 ⟨ht,i,z,h1,h2,h3,hz,by rw[h4];exact Nat.le_of_ble_eq_true hb⟩
section slt
variable {P:uG} {t e sz:Nat} (s:zS P t e sz) {base:Nat} {env:Env} {st:St} {d:Option Tmp} {ty:uE} {pos:String} {after:uD Edge} {gd:Option (Nat×Bool)} {x y:uH} {α:Type} {row:α->List D} {l l':List α} {ev w:EV}
include s
theorem zS.n (hx:bI env x=some ev) (hs:oa ev=some (sz,l.map row)):ti P env st ⟨d,.call ⟨.builtin .len,#[x],#[t]⟩,ty,pos,after,gd⟩ (.d (cI (l.length:Int))):=(PV s.ht hx hs).g
theorem zS.ix [Inhabited α] {k:IntKind} {i:Int} (hx:bI env x=some ev) (hs:oa ev=some (sz,l.map row)) (hy:bI env y=some (.d (.ex (.int k i)))) (h:0<=i/\i<l.length) :
  ti P env st ⟨d,.indexAddr t x y,ty,pos,after,gd⟩ (.d (.ro (row (nth l i.toNat)))):=by
 obtain ⟨inf,z,h1,_,h3,_⟩:=s.hi
 exact (dF s.ht h1 h3 hx hs hy h).g
theorem zS.a {tk:Nat} (hx:bI env x=some (.bX sz (l.map row) tk)) (dO:st.al[tk]?=some ⟨e,sz,l.length,none⟩) (hy:bI env y=some w) (hs:oa w=some (sz,l'.map row)) (hn:l.length+l'.length<=1000000000) :
  tQ P base env st ⟨d,.call ⟨.builtin .append,#[x,y],#[t,t]⟩,ty,pos,after,gd⟩ (.bX sz ((l++l').map row) tk) (st.a8 tk ⟨e,sz,(l++l').length,none⟩):=by
 obtain ⟨inf,z,h1,h2,h3,h4,h5⟩:=s.hi
 exact Ir s.ht h1 h2 h3 h4 h5 hx dO hy hs hn
end slt
section ari
variable {P:uG} {env:Env} {st:St} {d:Option Tmp} {ty:uE} {pos:String} {after:uD Edge} {gd:Option (Nat×Bool)} {x y:uH} {t t2:uE} {a b:Int}
theorem ay (hx:bI env x=some (.d (cI a))) (hy:bI env y=some (.d (cI b))) (h:-9223372036854775808<=a+b/\a+b<=9223372036854775807):ti P env st ⟨d,.binOp .add t x y t2,ty,pos,after,gd⟩ (.d (cI (a+b))):=(PK hx hy h.1 h.2).g
theorem gZ (hx:bI env x=some (.d (cI a))) (hy:bI env y=some (.d (cI b))) (h:-9223372036854775808<=a-b/\a-b<=9223372036854775807):ti P env st ⟨d,.binOp .sub t x y t2,ty,pos,after,gd⟩ (.d (cI (a-b))):=(PM hx hy h.1 h.2).g
theorem ot (hx:bI env x=some (.d (cI a))) (hy:bI env y=some (.d (cI b))) (h:-9223372036854775808<=a*b/\a*b<=9223372036854775807):ti P env st ⟨d,.binOp .mul t x y t2,ty,pos,after,gd⟩ (.d (cI (a*b))):=(PN hx hy h.1 h.2).g
end ari
abbrev Hint.a {α:Type} (tk e sz:Nat) (row:α->List D) (l:List α):Hint:=.t (.bX sz (l.map row) tk) tk ⟨e,sz,l.length,none⟩
def SN (P:uG) (f:Nat):Bool:=match P.funcs[f]? with
 | some fn=>(fn.name == "runtime.NumGoroutine")==false && fn.body.isNone==false
 | none=>false
theorem enters_of {P:uG} {l:O Nat} (hl:l.all (SN P)=true) {i f:Nat} (h:l[i]?=some f):Enters P f:=by
 have:=List.all_eq_true.1 hl f (List.mem_of_getElem? h)
 unfold SN at this
 split at this
 ·rename_i fn hf
  simp only[Bool.and_eq_true,beq_iff_eq] at this
  exact ⟨fn,hf,this.1,this.2⟩
 ·cases this
abbrev Hint.i (n:Int):Hint:=.g (.d (cI n))
abbrev Hint.b (b:Bool):Hint:=.g (.d (cB b))
abbrev Hint.c (c:uA):Hint:=.g (.d (uW c))
abbrev Hint.s (l:List uA):Hint:=.g (.d (cS l))
abbrev Hint.d (x:D):Hint:=.g (.d x)
section renew
variable {P:uG} {g:br} {base:Nat} {w:uC} {st:St}
def St.renew (st:St) (tk:Nat) (x x':fZ):St:=(st.a8 tk ⟨x.e,x.sz,0,none⟩).tok x'
theorem IH {tk t:Nat} {x x' y:fZ} (hlen:tk<st.al.length) (h:(st.renew tk x x').al[t]?=some y) :
  (t=st.al.length/\y=x')∨(t=tk/\y=⟨x.e,x.sz,0,none⟩)∨(t≠tk/\t<st.al.length/\st.al[t]?=some y):=by
 have hl:t<(st.renew tk x x').al.length:=(List.getElem?_eq_some_iff.1 h).1
 simp[St.renew,St.tok,St.a8] at hl
 by_cases h1:t=st.al.length
 ·subst h1
  left
  refine ⟨rfl,?_⟩
  simpa [St.renew,St.tok,St.a8,eq_comm] using h
 ·right
  have cd:t<st.al.length:=by omega
  by_cases h2:t=tk
  ·left
   subst h2
   refine ⟨rfl,?_⟩
   simpa [St.renew,St.tok,St.a8,cd,List.getElem?_append_left,eq_comm] using h
  ·right
   refine ⟨h2,cd,?_⟩
   simpa [St.renew,St.tok,St.a8,cd,List.getElem?_append_left,List.getElem?_set,Ne.symm h2] using h
theorem II {tk t:Nat} {x x' y:fZ} (ht:t≠tk) (h:st.al[t]?=some y):(st.renew tk x x').al[t]?=some y:=by
 have cd:t<st.al.length:=(List.getElem?_eq_some_iff.1 h).1
 rw[←h]
 simp[St.renew,St.tok,St.a8,List.getElem?_append_left,cd,List.getElem?_set,Ne.symm ht]
theorem IJ {tk:Nat} {x x':fZ}:(st.renew tk x x').al[st.al.length]?=some x':=by simp[St.renew,St.tok,St.a8]
theorem Inv.renew (h:Inv g base w st) {tk:Nat} {x x':fZ} {rows aY:O (O D)} (dO:st.al[tk]?=some x) (hx:x.own=some rows) (g4:x'.own=some aY)
  {v':uB} {w':uC} {R4:O uB} (im:w'.ownsRow base x'.e x'.sz v' x'.n R4)
  (hc:(v'.ownBlock=(g.tk tk).ownBlock/\w'.heap.size=w.heap.size/\w.grownBy w' (g.tk tk).ownBlock)∨(v'.ownBlock=some w.heap.size/\Below w.heap.size w w'))
  (lI:e7 g.bl w x'.sz x'.n aY R4) :
  ∃ g',g'.tk st.al.length=v'/\Inv g' base w' (st.renew tk x x')/\Step base g w st g' w' (st.renew tk x x'):=by
 have xR:∀ b,(g.tk tk).ownBlock=some b->g.bl b=0:=λb hb=>(h.C2 dO hb).trans (uO hx)
 have cd:∀ b,(g.tk tk).ownBlock=some b->base<=b/\b<w.heap.size:=λb hb=>h.qF dO hb
 have hlen:tk<st.al.length:=(List.getElem?_eq_some_iff.1 dO).1
 have cM:w.heap.size<=w'.heap.size:=by rcases hc with ⟨_,h1,_⟩|⟨_,h1⟩;omega;exact h1.size
 have JO:w'.os=w.os/\w'.tape=w.tape/\w'.output=w.output:=by rcases hc with ⟨_,_,h1⟩|⟨_,h1⟩<;>exact ⟨h1.os,h1.tape,h1.output⟩
 have iq:∀ k,k<w.heap.size->(g.tk tk).ownBlock≠some k->w'.heap[k]?=w.heap[k]?:=by
  intro k hk dq
  rcases hc with ⟨_,_,h1⟩|⟨_,h1⟩
  ·exact h1.block k hk (Ne.symm dq)
  ·exact h1.block k hk
 have nX:∀ k,k<w.heap.size->(g.tk tk).ownBlock≠some k->v'.ownBlock≠some k:=by
  intro k hk dq
  rcases hc with ⟨h1,_,_⟩|⟨h1,_⟩<;>rw[h1]
  ·exact dq
  ·intro he;cases he;omega
 let g':br:=⟨λb=>if v'.ownBlock=some b then 0 else g.bl b,g.ob,λt=>if t=tk then .slice none 0 0 else if t=st.al.length then v' else g.tk t⟩
 have r6:∀ b,v'.ownBlock=some b->g'.bl b=0:=λb hb=>by show (if _ then _ else _)=_;rw[if_pos hb]
 have g5:∀ b,v'.ownBlock≠some b->g'.bl b=g.bl b:=λb hb=>by show (if _ then _ else _)=_;rw[if_neg hb]
 have IK:g'.tk tk=.slice none 0 0:=by show (if tk=tk then _ else _)=_;rw[if_pos rfl]
 have tj:g'.tk st.al.length=v':=by show (if st.al.length=tk then _ else _)=_;rw[if_neg (by omega),if_pos rfl]
 have qL:∀ t,t≠tk->t<st.al.length->g'.tk t=g.tk t:=λt ht hl=>by show (if t=tk then _ else _)=_;rw[if_neg ht,if_neg (by omega)]
 have uP:∀ k,k<base->(g.tk tk).ownBlock≠some k:=λk hk he=>by have:=(cd k he).1;omega
 have iX:Below base w w':=⟨JO.1,JO.2.1,JO.2.2,cM,λk hk=>iq k (Nat.lt_of_lt_of_le hk h.base) (uP k hk)⟩
 have uQ:Fl g.bl w g'.bl w':=by
  refine ⟨cM,λb hb=>?_,λb off hb ho=>?_⟩
  ·by_cases he:v'.ownBlock=some b
   ·rw[r6 b he]
    have gQ:(g.tk tk).ownBlock=some b:=by
     rcases hc with ⟨h1,_,_⟩|⟨h1,_⟩
     ·rw[←h1];exact he
     ·rw[h1] at he;cases he;omega
    rw[xR b gQ];exact Nat.zero_le _
   ·rw[g5 b he];exact Nat.le_refl _
  ·by_cases he:(g.tk tk).ownBlock=some b
   ·rw[xR b he] at ho;omega
   ·exact World.cell?_of_block (w:=w) (a:=⟨b,off,none⟩) (iq b hb he)
 have uY:=λ(t:Nat) (y:fZ) (hy:(st.renew tk x x').al[t]?=some y)=>IH hlen hy
 have hs:qE g w st g' w' (st.renew tk x x'):=by
  refine ⟨uQ,λ_ _=>rfl,Nat.le_refl _,λt e' CP n' ht=>?_,by simp[St.renew,St.tok,St.a8],λt y Hg jv hy ho=>?_⟩
  ·have sY:t≠tk:=by
    intro e
    subst e
    rw[dO] at ht
    cases ht
    cases hx
   exact ⟨n',II sY ht,Nat.le_refl _,λ_=>qL t sY (List.getElem?_eq_some_iff.1 ht).1⟩
  ·rcases uY t y hy with ⟨h1,_⟩|⟨_,h2⟩|⟨h1,h2,h3⟩
   ·omega
   ·rw[h2] at ho;cases ho
   ·exact ⟨y,Hg,h3,ho,rfl,Nat.le_refl _,λ_=>qL t h1 h2⟩
 have uR:∀ o,st.live o->g.ob o<w.heap.size/\(g.tk tk).ownBlock≠some (g.ob o):=λo ho=>⟨(h.qI ho).1,h.eD tk _ o dO ho⟩
 have eh:∀ t y,t≠tk->st.al[t]?=some y->∀ b,(g.tk t).ownBlock=some b->b<w.heap.size/\(g.tk tk).ownBlock≠some b/\v'.ownBlock≠some b:=λt y sY hy b hb=>by
  have h1:=(h.qF hy hb).2
  have h2:=h.km t tk _ _ b sY hy dO hb
  exact ⟨h1,h2,nX b h1 h2⟩
 refine ⟨g',tj,⟨Nat.le_trans h.base cM,?_,?_,?_,h.ne,?_,?_,?_,h.xJ.below iX,?_⟩,⟨hs,iX,λb hb=>g5 b (nX b (Nat.lt_of_lt_of_le hb h.base) (uP b hb)),λb hb hn=>?_,λb hb hw=>?_⟩⟩
 ·intro o ty cs hx
  obtain ⟨h1,h2,vs,h3,h4,h5⟩:=h.row o ty cs hx
  obtain ⟨k1,k2⟩:=uR o ⟨_,hx,by simp⟩
  exact ⟨h1,(g5 _ (nX _ k1 k2)).trans h2,vs,by show w'.heap[g.ob o]?=_;rw[iq _ k1 k2];exact h3,h4,λi c u hc hu=>⟨(h5 i c u hc hu).1.mono hs,(h5 i c u hc hu).2⟩⟩
 ·intro o es hx
  obtain ⟨h1,ms,c,h3,h4,h5,h6⟩:=h.map o es hx
  obtain ⟨k1,k2⟩:=uR o ⟨_,hx,by simp⟩
  exact ⟨h1,ms,c,by show w'.heap[g.ob o]?=_;rw[iq _ k1 k2];exact h3,h4,λi k y m a b=>⟨(h5 i k y m a b).1,(h5 i k y m a b).2.mono hs⟩,h6⟩
 ·intro o y hx
  obtain ⟨h1,h2,h3⟩:=h.raw o y hx
  obtain ⟨k1,k2⟩:=uR o ⟨_,hx,by simp⟩
  exact ⟨h1,(g5 _ (nX _ k1 k2)).trans h2,by show w'.heap[g.ob o]?=_;rw[iq _ k1 k2];exact h3⟩
 ·intro t e' CP n' ht
  rcases uY t _ ht with ⟨h1,h2⟩|⟨h1,h2⟩|⟨h1,h2,h3⟩
  ·subst h2;cases g4
  ·subst h1
   cases h2
   rw[IK]
   exact ⟨[],World.ownsRow_nil w' base _ _,λb hb=>by cases hb⟩
  ·obtain ⟨ys,k1,k2⟩:=h.tail t e' CP n' h3
   rw[qL t h1 h2]
   exact ⟨ys,dc k1 λb hb=>iq b (eh t _ h1 h3 b hb).1 (eh t _ h1 h3 b hb).2.1,λb hb=>by rw[g5 b (eh t _ h1 h3 b hb).2.2];exact k2 b hb⟩
 ·intro t t' y y' b dq ht nO hb
  rcases uY t _ ht with ⟨h1,h2⟩|⟨h1,h2⟩|⟨h1,h2,h3⟩
  ·subst h1
   rw[tj] at hb
   rcases uY t' _ nO with ⟨k1,k2⟩|⟨k1,k2⟩|⟨k1,k2,k3⟩
   ·exact absurd k1.symm dq
   ·rw[k1,IK];intro e;cases e
   ·rw[qL t' k1 k2]
    intro gQ
    exact (eh t' _ k1 k3 b gQ).2.2 hb
  ·rw[h1,IK] at hb;cases hb
  ·rw[qL t h1 h2] at hb
   rcases uY t' _ nO with ⟨k1,k2⟩|⟨k1,k2⟩|⟨k1,k2,k3⟩
   ·rw[k1,tj]
    exact (eh t _ h1 h3 b hb).2.2
   ·rw[k1,IK];intro e;cases e
   ·rw[qL t' k1 k2]
    exact h.km t t' _ _ b dq h3 k3 hb
 ·intro t y o ht ho
  have kj:st.live o:=ho
  obtain ⟨k1,k2⟩:=uR o kj
  rcases uY t _ ht with ⟨h1,h2⟩|⟨h1,h2⟩|⟨h1,h2,h3⟩
  ·rw[h1,tj];exact nX _ k1 k2
  ·rw[h1,IK];intro e;cases e
  ·rw[qL t h1 h2];exact h.eD t y o h3 kj
 ·intro t e' CP n' Hg ht
  rcases uY t _ ht with ⟨h1,h2⟩|⟨h1,h2⟩|⟨h1,h2,h3⟩
  ·subst h1
   subst h2
   cases g4
   rw[tj]
   exact ⟨_,im,λb hb=>r6 b hb,lI.mono uQ⟩
  ·cases h2
  ·obtain ⟨ys,k1,k2,k3⟩:=h.own t e' CP n' Hg h3
   rw[qL t h1 h2]
   exact ⟨ys,dc k1 λb hb=>iq b (eh t _ h1 h3 b hb).1 (eh t _ h1 h3 b hb).2.1,λb hb=>by rw[g5 b (eh t _ h1 h3 b hb).2.2];exact k2 b hb,k3.mono uQ⟩
 ·have dq:(g.tk tk).ownBlock≠some b:=λe=>hn (.inr ⟨tk,x,dO,e⟩)
  exact ⟨iq b hb dq,g5 b (nX b hb dq)⟩
 ·rcases hw with ⟨o,h1,h2⟩|⟨t,y,h1,h2⟩
  ·exact .inl ⟨o,h1,h2⟩
  ·rcases uY t _ h1 with ⟨k1,k2⟩|⟨k1,k2⟩|⟨k1,k2,k3⟩
   ·rw[k1,tj] at h2
    rcases hc with ⟨c1,_,_⟩|⟨c1,_⟩
    ·exact .inr ⟨tk,x,dO,by rw[←c1];exact h2⟩
    ·rw[c1] at h2;cases h2;omega
   ·rw[k1,IK] at h2;cases h2
   ·rw[qL t k1 k2] at h2
    exact .inr ⟨t,y,k3,h2⟩
end renew
section parts
variable {bl:Nat->Nat} {w:uC} {sz n m:Nat} {rows aY:List (List D)} {xs ys:List uB}
theorem e7.take (h:e7 bl w sz n rows xs) {k:Nat} (hk:k<=n):e7 bl w sz k (rows.take k) (xs.take (k*sz)):=by
 have hl:=h.len
 refine ⟨by rw[List.length_take];omega,λr hr=>h.row r (List.mem_of_mem_take hr),λi c u hc hu=>?_⟩
 rw[List.getElem?_take] at hu
 split at hu
 ·refine h.rep i c u ?_ hu
  rw[←List.take_append_drop k rows,List.flatten_append,List.getElem?_append_left (List.getElem?_eq_some_iff.1 hc).1]
  exact hc
 ·cases hu
end parts
section move
variable {P:uG} {f:Ctx} {N:Nat} {S:Start} {Q:EV->St->Prop} {k todo:List Item} {env:Env} {st:St}
theorem ba.move {i tk e sz n:Nat} {rows:O (O D)} (hl:lookup i env=some (.vc tk n)) (dO:st.al[tk]?=some ⟨e,sz,n,some rows⟩)
  (h:ba P f N S Q todo ((i,.vc st.al.length n)::env) (st.renew tk ⟨e,sz,n,some rows⟩ ⟨e,sz,n,some rows⟩)):ba P f N S Q todo env st:=by
 intro g w tmps hinv hh he hN
 obtain ⟨xs,o1,o2,o3⟩:=hinv.own tk e sz n rows dO
 obtain ⟨g',k1,k2,k3⟩:=hinv.renew (x':=⟨e,sz,n,some rows⟩) dO rfl rfl o1 (.inl ⟨rfl,rfl,⟨rfl,rfl,rfl,Nat.le_refl _,λ_ _ _=>rfl⟩⟩) o3
 refine h g' w tmps k2 (hh.step k3) (λj y hy=>?_) hN
 unfold lookup at hy
 have rX:=he.mono k3.du
 cases hb:Nat.beq j i with
 | true =>
  rw[hb] at hy
  cases hy
  have:=Nat.eq_of_beq_eq_true hb
  subst this
  obtain ⟨v,m1,m2⟩:=he j _ hl
  refine ⟨v,m1,?_⟩
  have hf:∃ A m c,v=.slice A m c:=by cases m2 with|vc _ _ _ _ hf _=>exact hf
  refine .vc _ _ _ (by simp[St.renew,St.tok,St.a8]) hf λy Hg hy ho=>?_
  rw[IJ] at hy
  cases hy
  refine ⟨Nat.le_refl _,λ_=>?_⟩
  rcases G7 hinv dO m2 with hv|⟨n0,r0,A,hv⟩
  ·exact .inl (by rw[k1];exact hv)
  ·exact .inr ⟨n0,A,hv⟩
 | false =>
  rw[hb] at hy
  exact rX j y hy
end move
section ld
variable {P:uG} {env:Env} {st:St} {d:Option Tmp} {ty:uE} {pos:String} {after:uD Edge} {gd:Option (Nat×Bool)} {t:uE} {x:uH}
theorem DK {o off n:Nat} {T:uE} {cs ds:O EV} (h1:(P.underlying t).map jm=some false) (hs:(P.info? t).map (·.size)=some n) (hx:bI env x=some (.ref o off)) (ho:st.aR[o]?=some (.row T cs))
  (hn:off+n<=cs.length) (Rn:(cs.drop off).take n=ds):az P env st ⟨d,.load t x,ty,pos,after,gd⟩ (.agg ds):=λg base w tmps hinv he=>by
 subst Rn
 have h:=aA he hx
 generalize hv:Act.eval ⟨tmps,[]⟩ x=v at h
 cases h with
 | ref _ _ cd =>
  obtain ⟨_,_,vs,hb,iW,rC⟩:=hinv.row o T cs ho
  obtain ⟨hl,zV⟩:=C0 (g:=g) (w:=w) (n:=n) (off:=off) hb iW hn
  refine ⟨.agg ((vs.toList.drop off).take n).toArray,.agg _ _ ?_ ?_ ?_,λw' gQ=>?_⟩
  ·simp at hl ⊢
   omega
  ·intro i u hu
   have pL:=zV i u (by simpa using hu)
   have jv:off+i<cs.length:=by rw[←iW];exact (Array.getElem?_eq_some_iff.1 pL.2).1
   exact (rC (off+i) cs[off+i] u (List.getElem?_eq_getElem jv) pL.2).2
  ·intro i c u nZ hu
   have pL:=zV i u (by simpa using hu)
   rw[List.getElem?_take] at nZ
   split at nZ
   ·rw[List.getElem?_drop] at nZ
    exact (rC (off+i) _ u nZ pL.2).1
   ·cases nZ
  ·obtain ⟨inf,vO,Bw⟩:∃ inf,P.info? t=some inf/\inf.size=n:=by
    cases hh:P.info? t with
    | none=>rw[hh] at hs;cases hs
    | some inf=>rw[hh] at hs;exact ⟨inf,rfl,by simpa using hs⟩
   have xP:=gR (P:=P) (w:=w') (b:=g.ob o) (off:=off) hl (λj u hu=>by
    have h3:=(zV j u hu).1
    exact (gQ.cell (World.block_lt_of_cell? w _ h3)).trans h3)
   simp[execOp,hv,Instr.loadAt,Instr.sureAddr,loadVar,sX h1,sizeOf,typeInfo,vO,Bw,xP]
end ld
def DL:List EV->List EV->Prop
 | [],[]=>True
 | x::xs,y::ys=>dB x y/\DL xs ys
 | _,_=>False
theorem DL.get:∀ {xs ys:O EV},DL xs ys->xs.length=ys.length/\∀ (i:Nat) y,ys[i]?=some y->∃ x,xs[i]?=some x/\dB x y
 | [],[],_=>⟨rfl,λi y h=>by simp at h⟩
 | x::xs,y::ys,h=>by
  obtain ⟨h1,h2⟩:=DL.get h.2
  refine ⟨by simp[h1],λi z hz=>?_⟩
  cases i with
  | zero=>simp at hz;subst hz;exact ⟨x,rfl,h.1⟩
  | succ i=>simpa using h2 i z (by simpa using hz)
 | [],_::_,h=>h.elim
 | _::_,[],h=>h.elim
theorem dB.Vk {xs ys:O EV} (h:DL xs ys):dB (.agg xs) (.agg ys):=by
 intro g w st v hv
 obtain ⟨h1,h2⟩:=h.get
 cases hv with
 | agg _ vs hs Xv hc =>
  refine .agg _ vs (by rw[hs,h1]) Xv λi y u hy hu=>?_
  obtain ⟨x,hx,hle⟩:=h2 i y hy
  exact hle _ _ _ _ (hc i x u hx hu)
def ou (a b:List uA):Bool:=Op.bytesLess a b
section strings
variable {P:uG} {env:Env} {st:St} {d:Option Tmp} {ty:uE} {pos:String} {after:uD Edge} {gd:Option (Nat×Bool)} {t t2:uE} {x y:uH} {a b:List uA} (hx:bI env x=some (.d (cS a))) (hy:bI env y=some (.d (cS b)))
include hx hy
theorem Qf:az P env st ⟨d,.binOp .lss t x y t2,ty,pos,after,gd⟩ (.d (cB (ou a b))):=j0 λg w tmps w' he=>by
 simp[execOp,(aA he hx).aZ,(aA he hy).aZ,eqGuard,binOp,Op.stringOp,ou]
end strings
theorem rE.Vl (sz:Nat):rE (.ex (.slice none 0 0)) (.e0 sz):=λ_ _ _ h=>by cases h;exact .e0 sz none (.inl rfl)
section tok
variable {P:uG} {f:Ctx} {N:Nat} {S:Start} {Q:EV->St->Prop} {todo:List Item} {env:Env} {st:St}
theorem Inv.yp {g:br} {base o ci sz:Nat} {w:uC} {T:uE} {cs:O EV} (h:Inv g base w st) (ho:st.aR[o]?=some (.row T cs)) (hc:cs[ci]?=some (.d (.e0 sz))) (e:Nat) :
  ∃ g',Inv g' base w ((st.tok ⟨e,sz,0,none⟩).set o (.row T (cs.set ci (.bX sz [] st.al.length))))/\Step base g w st g' w ((st.tok ⟨e,sz,0,none⟩).set o (.row T (cs.set ci (.bX sz [] st.al.length)))):=by
 obtain ⟨g1,h1,h2,h3⟩:=h.BD e sz
 have zN:(st.tok ⟨e,sz,0,none⟩).aR[o]?=some (.row T cs):=ho
 obtain ⟨b1,b2,vs,b3,b4,b5⟩:=h2.row o T cs zN
 obtain ⟨hi,hs⟩:=h2.setBlock (o:=o) (x:=.row T (cs.set ci (.bX sz [] st.al.length))) (w':=w) ⟨_,zN,by simp⟩ b2 rfl (λ_ _=>rfl) rfl rfl rfl
  (λJP Jy zP g4=>by
   cases g4
   refine ⟨vs,b3,by simpa using b4,λi c u nZ hu=>?_⟩
   rw[List.getElem?_set] at nZ
   split at nZ
   ·rename_i hic
    subst hic
    split at nZ
    ·cases nZ
     have h0:=b5 ci _ u hc hu
     refine ⟨?_,h0.2⟩
     cases h0.1 with
     | d _ _ hd =>
      cases hd with
      | e0 _ A _=>exact .bX sz [] _ _ e 0 (.nil sz _) (by simp[St.tok,St.set]) (Nat.le_refl _) (λ_=>.inr ⟨rfl,A,rfl⟩)
    ·cases nZ
   ·have h0:=b5 i c u nZ hu
    exact ⟨h0.1.mono JP,h0.2⟩) (λ_ es g4=>by cases g4)
 exact ⟨g1,hi,h3.trans hs⟩
theorem ba.yp {o ci e sz:Nat} {T:uE} {cs:O EV} (ho:st.aR[o]?=some (.row T cs)) (hc:cs[ci]?=some (.d (.e0 sz)))
  (h:ba P f N S Q todo env ((st.tok ⟨e,sz,0,none⟩).set o (.row T (cs.set ci (.bX sz [] st.al.length))))):ba P f N S Q todo env st:=by
 intro g w tmps hinv hh he hn
 obtain ⟨g',h1,h2⟩:=hinv.yp ho hc e
 exact h g' w tmps h1 (hh.step h2) (he.mono h2.du) hn
end tok
end Go.Abs
namespace Go.Proofs.Ytpdanklncjopoaa
open Go.RowKit Go.Abs
theorem wa:Try.prog.follows .mixedOrders=true:=by kernel_rfl
theorem Vm:(Try.prog.info? 3).map (·.size)=some 1:=by kernel_rfl
theorem u3:∃ i,Try.prog.info? 3=some i/\i.zero=some (.int .i64 0)/\i.size=1/\i.bytes=8:=info_parts (by kernel_rfl)
theorem Vn:(Try.prog.info? 4).map (·.size)=some 1:=by kernel_rfl
theorem Qg:∃ i,Try.prog.info? 4=some i/\i.zero=some (.bool false)/\i.size=1/\i.bytes=1:=info_parts (by kernel_rfl)
theorem Vo:(Try.prog.info? 5).map (·.size)=some 1:=by kernel_rfl
theorem u4:∃ i,Try.prog.info? 5=some i/\i.zero=some (.int .u8 0)/\i.size=1/\i.bytes=1:=info_parts (by kernel_rfl)
theorem KH:∃ i,Try.prog.info? 9=some i/\i.zero=some (.string ⟨#[]⟩)/\i.size=1/\i.bytes=16:=info_parts (by kernel_rfl)
theorem OW:∃ i,Try.prog.info? 30=some i/\i.zero=some (.agg #[.slice none 0 0,.slice none 0 0,.slice none 0 0])/\i.size=3/\i.bytes=72:=info_parts (by kernel_rfl)
theorem Hh:(Try.prog.info? 34).map (·.size)=some 6:=by kernel_rfl
theorem Hi:∃ i,Try.prog.info? 34=some i/\i.zero=some (.agg #[.slice none 0 0,.slice none 0 0,.slice none 0 0,.slice none 0 0,.slice none 0 0,.slice none 0 0])/\i.size=6/\i.bytes=144:=info_parts (by kernel_rfl)
theorem SO:(Try.prog.info? 37).map (·.size)=some 2:=by kernel_rfl
theorem SP:∃ i,Try.prog.info? 37=some i/\i.zero=some (.agg #[.int .i64 0,.int .i64 0])/\i.size=2/\i.bytes=16:=info_parts (by kernel_rfl)
theorem OX:∃ i,Try.prog.info? 39=some i/\i.zero=some (.agg #[.int .i64 0,.int .i64 0,.int .i64 0,.int .i64 0,.int .i64 0,.int .i64 0])/\i.size=6/\i.bytes=48:=info_parts (by kernel_rfl)
theorem AS:∃ i,Try.prog.info? 52=some i/\i.zero=some (.agg #[.int .i64 0,.int .i64 0,.int .i64 0,.int .i64 0,.string ⟨#[]⟩,.string ⟨#[]⟩,.int .i64 0,.int .i64 0,.int .i64 0,.bool false,.int .i64 0,.int .i64 0])/\i.size=12/\i.bytes=112:=info_parts (by kernel_rfl)
theorem OY:∃ i,Try.prog.info? 58=some i/\i.zero=some (.agg #[.int .i64 0,.int .i64 0,.int .i64 0,.int .i64 0,.string ⟨#[]⟩,.string ⟨#[]⟩,.int .i64 0,.int .i64 0,.int .i64 0,.bool false,.int .i64 0,.int .i64 0,.int .i64 0,.string ⟨#[]⟩,.int .i64 0,.string ⟨#[]⟩,.slice none 0 0,.slice none 0 0,.int .i64 0,.int .i64 0,.int .i64 0,.slice none 0 0,.int .i64 0,.int .i64 0])/\i.size=24/\i.bytes=272:=info_parts (by kernel_rfl)
theorem AT:∃ i,Try.prog.info? 60=some i/\i.zero=some (.agg #[.int .i64 0,.int .i64 0,.int .i64 0,.int .i64 0])/\i.size=4/\i.bytes=32:=info_parts (by kernel_rfl)
theorem KI:∃ i,Try.prog.info? 64=some i/\i.zero=some (.agg #[.int .i64 0,.int .i64 0,.string ⟨#[]⟩,.string ⟨#[]⟩,.int .i64 0,.int .i64 0,.int .i64 0,.int .i64 0])/\i.size=8/\i.bytes=80:=info_parts (by kernel_rfl)
theorem KJ:∃ i,Try.prog.info? 84=some i/\i.zero=some (.slice none 0 0)/\i.size=1/\i.bytes=24:=info_parts (by kernel_rfl)
theorem SQ:(Try.prog.info? 90).map (·.size)=some 4:=by kernel_rfl
theorem Hj:∃ i,Try.prog.info? 90=some i/\i.zero=some (.agg #[.int .i64 0,.int .i64 0,.int .i64 0,.int .i64 0])/\i.size=4/\i.bytes=32:=info_parts (by kernel_rfl)
theorem Qh:∃ i,Try.prog.info? 107=some i/\i.zero=some (.agg #[.int .i64 0,.int .i64 0,.int .i64 0])/\i.size=3/\i.bytes=24:=info_parts (by kernel_rfl)
theorem F1:∃ i,Try.prog.info? 115=some i/\i.zero=some (.agg #[.slice none 0 0,.slice none 0 0,.slice none 0 0])/\i.size=3/\i.bytes=72:=info_parts (by kernel_rfl)
theorem Qi:∃ i,Try.prog.info? 118=some i/\i.zero=some (.agg #[.int .i64 0,.int .i64 0,.int .i64 0,.int .i64 0,.string ⟨#[]⟩,.string ⟨#[]⟩,.int .i64 0])/\i.size=7/\i.bytes=72:=info_parts (by kernel_rfl)
theorem Qj:∃ i,Try.prog.info? 121=some i/\i.zero=some (.agg #[.int .i64 0,.int .i64 0,.int .i64 0,.slice none 0 0])/\i.size=4/\i.bytes=48:=info_parts (by kernel_rfl)
theorem BY:∃ i,Try.prog.info? 126=some i/\i.zero=some (.agg #[.int .i64 0,.int .i64 0,.int .i64 0])/\i.size=3/\i.bytes=24:=info_parts (by kernel_rfl)
theorem Qk:∃ i,Try.prog.info? 130=some i/\i.zero=some (.agg #[.bool false,.bool false,.bool false,.bool false,.bool false])/\i.size=5/\i.bytes=5:=info_parts (by kernel_rfl)
theorem F2:∃ i,Try.prog.info? 134=some i/\i.zero=some (.agg #[.int .i64 0,.int .i64 0,.int .i64 0,.bool false,.bool false,.slice none 0 0])/\i.size=6/\i.bytes=56:=info_parts (by kernel_rfl)
theorem KK:(Try.prog.info? 138).map (·.size)=some 8:=by kernel_rfl
theorem BZ:∃ i,Try.prog.info? 138=some i/\i.zero=some (.agg #[.int .i64 0,.int .i64 0,.int .i64 0,.string ⟨#[]⟩,.slice none 0 0,.slice none 0 0,.bool false,.bool false])/\i.size=8/\i.bytes=96:=info_parts (by kernel_rfl)
theorem Ql:∃ i,Try.prog.info? 146=some i/\i.zero=some (.agg #[.int .i64 0,.int .i64 0,.int .i64 0,.int .i64 0,.int .i64 0])/\i.size=5/\i.bytes=40:=info_parts (by kernel_rfl)
theorem KL:∃ i,Try.prog.info? 148=some i/\i.zero=some (.agg #[.int .i64 0,.int .i64 0,.int .i64 0,.int .i64 0,.int .i64 0,.int .i64 0])/\i.size=6/\i.bytes=48:=info_parts (by kernel_rfl)
theorem yq:(Try.prog.info? 153).map (·.size)=some 12:=by kernel_rfl
theorem jn:∃ i,Try.prog.info? 153=some i/\i.zero=some (.agg #[.int .i64 0,.int .i64 0,.int .i64 0,.string ⟨#[]⟩,.string ⟨#[]⟩,.int .i64 0,.int .i64 0,.int .i64 0,.int .i64 0,.bool false,.int .i64 0,.bool false])/\i.size=12/\i.bytes=112:=info_parts (by kernel_rfl)
theorem ue:∃ i,Try.prog.info? 178=some i/\i.zero=some (.agg #[.int .i64 0,.int .i64 0,.int .i64 0,.int .i64 0])/\i.size=4/\i.bytes=32:=info_parts (by kernel_rfl)
theorem KM:(Try.prog.info? 211).map (·.size)=some 2:=by kernel_rfl
theorem F3:∃ i,Try.prog.info? 211=some i/\i.zero=some (.agg #[.int .i64 0,.slice none 0 0])/\i.size=2/\i.bytes=32:=info_parts (by kernel_rfl)
theorem Qm:∃ i,Try.prog.info? 219=some i/\i.zero=some (.agg #[.slice none 0 0,.slice none 0 0])/\i.size=2/\i.bytes=48:=info_parts (by kernel_rfl)
theorem KN:il Try.prog 115 0=some 0:=by kernel_rfl
theorem KO:il Try.prog 115 1=some 1:=by kernel_rfl
theorem KP:il Try.prog 115 2=some 2:=by kernel_rfl
theorem DM:il Try.prog 211 0=some 0:=by kernel_rfl
theorem g9:(Try.prog.underlying 3).map jm=some true:=by kernel_rfl
theorem SR:(Try.prog.underlying 4).map jm=some true:=by kernel_rfl
theorem AU:(Try.prog.underlying 5).map jm=some true:=by kernel_rfl
theorem F4:(Try.prog.underlying 34).map jm=some false:=by kernel_rfl
theorem Qn:(Try.prog.underlying 37).map jm=some false:=by kernel_rfl
theorem Qo:(Try.prog.underlying 84).map jm=some true:=by kernel_rfl
theorem s9:(Try.prog.underlying 100).map jm=some true:=by kernel_rfl
theorem Hk:(Try.prog.underlying 112).map jm=some true:=by kernel_rfl
theorem xq:(Try.prog.underlying 113).map jm=some true:=by kernel_rfl
theorem Na:(Try.prog.underlying 138).map jm=some false:=by kernel_rfl
theorem B1:(Try.prog.underlying 153).map jm=some false:=by kernel_rfl
theorem Hl:(Try.prog.underlying 211).map jm=some false:=by kernel_rfl
theorem Hm:cQ Try.prog 30=some [(0,1),(1,1),(2,1)]:=by kernel_rfl
theorem DN:cQ Try.prog 34=some [(0,3),(3,1),(4,1),(5,1)]:=by kernel_rfl
theorem SS:cQ Try.prog 37=some [(0,1),(1,1)]:=by kernel_rfl
theorem OZ:cQ Try.prog 39=some [(0,1),(1,1),(2,1),(3,1),(4,1),(5,1)]:=by kernel_rfl
theorem yr:cQ Try.prog 52=some [(0,1),(1,1),(2,1),(3,1),(4,1),(5,1),(6,1),(7,1),(8,1),(9,1),(10,1),(11,1)]:=by kernel_rfl
theorem SU:cQ Try.prog 58=some [(0,12),(12,1),(13,1),(14,1),(15,1),(16,1),(17,1),(18,1),(19,1),(20,1),(21,1),(22,1),(23,1)]:=by kernel_rfl
theorem yt:cQ Try.prog 60=some [(0,1),(1,1),(2,1),(3,1)]:=by kernel_rfl
theorem SV:cQ Try.prog 64=some [(0,1),(1,1),(2,1),(3,1),(4,1),(5,1),(6,1),(7,1)]:=by kernel_rfl
theorem AV:cQ Try.prog 90=some [(0,1),(1,1),(2,1),(3,1)]:=by kernel_rfl
theorem F5:cQ Try.prog 115=some [(0,1),(1,1),(2,1)]:=by kernel_rfl
theorem uf:cQ Try.prog 121=some [(0,1),(1,1),(2,1),(3,1)]:=by kernel_rfl
theorem Qp:cQ Try.prog 126=some [(0,1),(1,1),(2,1)]:=by kernel_rfl
theorem Qq:cQ Try.prog 134=some [(0,1),(1,1),(2,1),(3,1),(4,1),(5,1)]:=by kernel_rfl
theorem KQ:cQ Try.prog 138=some [(0,1),(1,1),(2,1),(3,1),(4,1),(5,1),(6,1),(7,1)]:=by kernel_rfl
theorem yu:cQ Try.prog 148=some [(0,1),(1,5)]:=by kernel_rfl
theorem jo:cQ Try.prog 153=some [(0,1),(1,1),(2,1),(3,1),(4,1),(5,1),(6,1),(7,1),(8,1),(9,1),(10,1),(11,1)]:=by kernel_rfl
theorem B2:cQ Try.prog 178=some [(0,1),(1,1),(2,1),(3,1)]:=by kernel_rfl
theorem Qr:cQ Try.prog 211=some [(0,1),(1,1)]:=by kernel_rfl
theorem Qs:cQ Try.prog 219=some [(0,1),(1,1)]:=by kernel_rfl
theorem SW:(Try.prog.info? 30).bind (·.zero)=some (.agg #[.slice none 0 0,.slice none 0 0,.slice none 0 0]):=by kernel_rfl
theorem SX:(Try.prog.info? 34).bind (·.zero)=some (.agg #[.slice none 0 0,.slice none 0 0,.slice none 0 0,.slice none 0 0,.slice none 0 0,.slice none 0 0]):=by kernel_rfl
theorem SY:(Try.prog.info? 39).bind (·.zero)=some (.agg #[.int .i64 0,.int .i64 0,.int .i64 0,.int .i64 0,.int .i64 0,.int .i64 0]):=by kernel_rfl
theorem SZ:(Try.prog.info? 42).bind (·.zero)=some (.slice none 0 0):=by kernel_rfl
theorem S0:(Try.prog.info? 52).bind (·.zero)=some (.agg #[.int .i64 0,.int .i64 0,.int .i64 0,.int .i64 0,.string ⟨#[]⟩,.string ⟨#[]⟩,.int .i64 0,.int .i64 0,.int .i64 0,.bool false,.int .i64 0,.int .i64 0]):=by kernel_rfl
theorem S1:(Try.prog.info? 58).bind (·.zero)=some (.agg #[.int .i64 0,.int .i64 0,.int .i64 0,.int .i64 0,.string ⟨#[]⟩,.string ⟨#[]⟩,.int .i64 0,.int .i64 0,.int .i64 0,.bool false,.int .i64 0,.int .i64 0,.int .i64 0,.string ⟨#[]⟩,.int .i64 0,.string ⟨#[]⟩,.slice none 0 0,.slice none 0 0,.int .i64 0,.int .i64 0,.int .i64 0,.slice none 0 0,.int .i64 0,.int .i64 0]):=by kernel_rfl
theorem S2:(Try.prog.info? 60).bind (·.zero)=some (.agg #[.int .i64 0,.int .i64 0,.int .i64 0,.int .i64 0]):=by kernel_rfl
theorem S3:(Try.prog.info? 64).bind (·.zero)=some (.agg #[.int .i64 0,.int .i64 0,.string ⟨#[]⟩,.string ⟨#[]⟩,.int .i64 0,.int .i64 0,.int .i64 0,.int .i64 0]):=by kernel_rfl
theorem S4:(Try.prog.info? 90).bind (·.zero)=some (.agg #[.int .i64 0,.int .i64 0,.int .i64 0,.int .i64 0]):=by kernel_rfl
theorem yw:(Try.prog.info? 115).bind (·.zero)=some (.agg #[.slice none 0 0,.slice none 0 0,.slice none 0 0]):=by kernel_rfl
theorem Qt:(Try.prog.info? 121).bind (·.zero)=some (.agg #[.int .i64 0,.int .i64 0,.int .i64 0,.slice none 0 0]):=by kernel_rfl
theorem Qu:(Try.prog.info? 126).bind (·.zero)=some (.agg #[.int .i64 0,.int .i64 0,.int .i64 0]):=by kernel_rfl
theorem Qv:(Try.prog.info? 128).bind (·.zero)=some (.agg #[.int .u8 0,.int .u8 0,.int .u8 0,.int .u8 0,.int .u8 0,.int .u8 0,.int .u8 0,.int .u8 0,.int .u8 0,.int .u8 0,.int .u8 0,.int .u8 0,.int .u8 0,.int .u8 0,.int .u8 0,.int .u8 0,.int .u8 0,.int .u8 0,.int .u8 0,.int .u8 0]):=by kernel_rfl
theorem Qw:(Try.prog.info? 130).bind (·.zero)=some (.agg #[.bool false,.bool false,.bool false,.bool false,.bool false]):=by kernel_rfl
theorem Qx:(Try.prog.info? 134).bind (·.zero)=some (.agg #[.int .i64 0,.int .i64 0,.int .i64 0,.bool false,.bool false,.slice none 0 0]):=by kernel_rfl
theorem Qy:(Try.prog.info? 138).bind (·.zero)=some (.agg #[.int .i64 0,.int .i64 0,.int .i64 0,.string ⟨#[]⟩,.slice none 0 0,.slice none 0 0,.bool false,.bool false]):=by kernel_rfl
theorem Qz:(Try.prog.info? 148).bind (·.zero)=some (.agg #[.int .i64 0,.int .i64 0,.int .i64 0,.int .i64 0,.int .i64 0,.int .i64 0]):=by kernel_rfl
theorem F6:(Try.prog.info? 153).bind (·.zero)=some (.agg #[.int .i64 0,.int .i64 0,.int .i64 0,.string ⟨#[]⟩,.string ⟨#[]⟩,.int .i64 0,.int .i64 0,.int .i64 0,.int .i64 0,.bool false,.int .i64 0,.bool false]):=by kernel_rfl
theorem QA:(Try.prog.info? 219).bind (·.zero)=some (.agg #[.slice none 0 0,.slice none 0 0]):=by kernel_rfl
theorem S5:pU Try.prog 52=some [.i .i64,.i .i64,.i .i64,.i .i64,.s,.s,.i .i64,.i .i64,.i .i64,.b,.i .i64,.i .i64]:=by kernel_rfl
theorem S6:pU Try.prog 60=some [.i .i64,.i .i64,.i .i64,.i .i64]:=by kernel_rfl
theorem QB:Hc Try.prog 148=some [.i .i64,.i .i64,.i .i64,.i .i64,.i .i64,.i .i64]:=by kernel_rfl
def Xw:List Nat:=[53,66,67,68,69,71,56,57,70,73,72,52,54,55,74,75,58,45,46,28,34,36,38,39,49,31,32,14,23,13,21,19,89,78,79,60,76,77,120,119,113,94,121,105,106,107,90,91,122,123,108,109,92,110,112,111,93,80,81,82,59,61,62,63,95,96,97,114,115,102,116,98,101,99,100,83,84,87,85,86,118,117,103,104,88,64,65,47,48,29,30,12,9,10,15,16,11]
theorem en (i:Nat) {f:Nat} (h:Xw[i]?=some f):Go.Abs.Enters Try.prog f:=Go.Abs.enters_of (by kernel_rfl) h
def IL:FT:=⟨[3,4,5,9,26,27,28,31,32,42,84,100,112,113,136],[(30,3),(34,6),(37,2),(39,6),(52,12),(58,24),(60,4),(64,8),(90,4),(115,3),(118,7),(121,4),(126,3),(130,5),(134,6),(138,8),(148,6),(153,12),(219,2)],[(3,1),(4,1),(9,1),(27,1),(30,3),(31,1),(32,1),(34,6),(39,6),(42,1),(52,12),(58,24),(60,4),(64,8),(90,4),(100,1),(112,1),(113,1),(115,3),(121,4),(126,3),(130,5),(134,6),(136,1),(138,8),(148,6),(153,12),(219,2)],[(30,[(0,0),(1,1),(2,2)]),(34,[(0,0),(1,3),(2,4),(3,5)]),(37,[(0,0),(1,1)]),(39,[(0,0),(1,1),(2,2),(3,3),(4,4),(5,5)]),(52,[(0,0),(3,3)]),(58,[(0,0),(12,23)]),(60,[(0,0),(1,1),(2,2),(3,3)]),(64,[(0,0),(1,1),(6,6)]),(90,[(0,0),(1,1),(2,2),(3,3)]),(115,[(0,0),(1,1),(2,2)]),(118,[(0,0),(1,1),(2,2),(3,3),(4,4),(5,5),(6,6)]),(121,[(0,0),(1,1),(2,2),(3,3)]),(126,[(0,0),(1,1),(2,2)]),(134,[(0,0),(3,3),(4,4),(5,5)]),(138,[(0,0),(1,1),(3,3),(4,4),(5,5),(6,6),(7,7)]),(148,[(1,1)]),(153,[(0,0),(1,1),(2,2),(3,3),(4,4),(5,5),(6,6),(7,7),(8,8),(9,9),(10,10),(11,11)]),(211,[(0,0),(1,1)]),(219,[(0,0),(1,1)])],[(30,[bT,bT,bT]),(34,[bT,bT,bT,bT,bT,bT]),(39,[cI 0,cI 0,cI 0,cI 0,cI 0,cI 0]),(42,[bT]),(52,[cI 0,cI 0,cI 0,cI 0,cS ([]:List uA),cS ([]:List uA),cI 0,cI 0,cI 0,cB false,cI 0,cI 0]),(58,[cI 0,cI 0,cI 0,cI 0,cS ([]:List uA),cS ([]:List uA),cI 0,cI 0,cI 0,cB false,cI 0,cI 0,cI 0,cS ([]:List uA),cI 0,cS ([]:List uA),bT,bT,cI 0,cI 0,cI 0,bT,cI 0,cI 0]),(60,[cI 0,cI 0,cI 0,cI 0]),(64,[cI 0,cI 0,cS ([]:List uA),cS ([]:List uA),cI 0,cI 0,cI 0,cI 0]),(90,[cI 0,cI 0,cI 0,cI 0]),(115,[bT,bT,bT]),(121,[cI 0,cI 0,cI 0,bT]),(126,[cI 0,cI 0,cI 0]),(130,[cB false,cB false,cB false,cB false,cB false]),(134,[cI 0,cI 0,cI 0,cB false,cB false,bT]),(138,[cI 0,cI 0,cI 0,cS ([]:List uA),bT,bT,cB false,cB false]),(148,[cI 0,cI 0,cI 0,cI 0,cI 0,cI 0]),(153,[cI 0,cI 0,cI 0,cS ([]:List uA),cS ([]:List uA),cI 0,cI 0,cI 0,cI 0,cB false,cI 0,cB false]),(219,[bT,bT])]⟩
theorem DO:IL.Ok Try.prog:=FT.SM (by kernel_rfl) ⟨⟨_,SW,rfl⟩,⟨_,SX,rfl⟩,⟨_,SY,rfl⟩,⟨_,SZ,rfl⟩,⟨_,S0,rfl⟩,⟨_,S1,rfl⟩,⟨_,S2,rfl⟩,⟨_,S3,rfl⟩,⟨_,S4,rfl⟩,⟨_,yw,rfl⟩,⟨_,Qt,rfl⟩,⟨_,Qu,rfl⟩,⟨_,Qw,rfl⟩,⟨_,Qx,rfl⟩,⟨_,Qy,rfl⟩,⟨_,Qz,rfl⟩,⟨_,F6,rfl⟩,⟨_,QA,rfl⟩,trivial⟩
theorem Nb:zS Try.prog 22 118 7:=.of Try.underlying22 Qi rfl rfl
theorem Ub:zS Try.prog 23 84 1:=.of Try.underlying23 KJ rfl rfl
theorem Hn:zS Try.prog 26 126 3:=.of Try.underlying26 BY rfl rfl
theorem lC:zS Try.prog 27 153 12:=.of Try.underlying27 jn rfl rfl
theorem Nc:zS Try.prog 28 90 4:=.of Try.underlying28 Hj rfl rfl
theorem QC:zS Try.prog 31 52 12:=.of Try.underlying31 AS rfl rfl
theorem O0:zS Try.prog 32 178 4:=.of Try.underlying32 ue rfl rfl
theorem Fo:zS Try.prog 42 60 4:=.of Try.underlying42 AT rfl rfl
theorem Uc:zS Try.prog 46 58 24:=.of Try.underlying46 OY rfl rfl
theorem Wr:zS Try.prog 62 64 8:=.of Try.underlying62 KI rfl rfl
theorem ju:zS Try.prog 84 5 1:=.of Try.underlying84 u4 rfl rfl
theorem jq:zS Try.prog 100 3 1:=.of Try.underlying100 u3 rfl rfl
theorem DP:zS Try.prog 112 134 6:=.of Try.underlying112 F2 rfl rfl
theorem qX:zS Try.prog 113 138 8:=.of Try.underlying113 BZ rfl rfl
theorem gC:zS Try.prog 136 9 1:=.of Try.underlying136 KH rfl rfl
theorem S7:zS Try.prog 206 211 2:=.of Try.underlying206 F3 rfl rfl
end Go.Proofs.Ytpdanklncjopoaa
namespace Go.Abs
open Go.Proofs Go.Proofs.Ytpdanklncjopoaa
section
variable {f:Ctx} {N p p':Nat} {S:Start} {Q:EV->St->Prop} {k k':List Item} {l o l' o':List Oper} {env env':Env} {st st':St} {ps:List Prop}
theorem ba.A (n:Nat) (hs:O Hint) (h:Hf Try.prog S.base IL N n (.run k) env st hs=some ⟨.run k',env',st',ps⟩) (hp:oZ ps) (hk:ba Try.prog f N S Q k' env' st'):ba Try.prog f N S Q k env st:=lN DO wa h hp hk
theorem ba.E (n:Nat) (h:Hf Try.prog S.base IL N n (.run k) env st []=some ⟨.run k',env',st',[]⟩) (hk:ba Try.prog f N S Q k' env' st'):ba Try.prog f N S Q k env st:=.A n [] h trivial hk
theorem ba.B (n:Nat) (hs:O Hint) (h:Hf Try.prog S.base IL N n (.run k) env st hs=some ⟨.ops l' o' k',env',st',ps⟩) (hp:oZ ps) (hk:cn Try.prog f N S Q l' o' k' env' st'):ba Try.prog f N S Q k env st:=lN DO wa h hp hk
theorem ba.F (n:Nat) (h:Hf Try.prog S.base IL N n (.run k) env st []=some ⟨.ops l' o' k',env',st',[]⟩) (hk:cn Try.prog f N S Q l' o' k' env' st'):ba Try.prog f N S Q k env st:=.B n [] h trivial hk
theorem ba.C (n:Nat) (hs:O Hint) (h:Hf Try.prog S.base IL N n (.run k) env st hs=some ⟨.draw l' p' o' k',env',st',ps⟩) (hp:oZ ps) (hk:rQ Try.prog f N S Q l' p' o' k' env' st'):ba Try.prog f N S Q k env st:=lN DO wa h hp hk
theorem cn.A (n:Nat) (hs:O Hint) (h:Hf Try.prog S.base IL N n (.ops l o k) env st hs=some ⟨.run k',env',st',ps⟩) (hp:oZ ps) (hk:ba Try.prog f N S Q k' env' st'):cn Try.prog f N S Q l o k env st:=lN DO wa h hp hk
theorem cn.E (n:Nat) (h:Hf Try.prog S.base IL N n (.ops l o k) env st []=some ⟨.run k',env',st',[]⟩) (hk:ba Try.prog f N S Q k' env' st'):cn Try.prog f N S Q l o k env st:=.A n [] h trivial hk
theorem cn.B (n:Nat) (hs:O Hint) (h:Hf Try.prog S.base IL N n (.ops l o k) env st hs=some ⟨.ops l' o' k',env',st',ps⟩) (hp:oZ ps) (hk:cn Try.prog f N S Q l' o' k' env' st'):cn Try.prog f N S Q l o k env st:=lN DO wa h hp hk
theorem cn.F (n:Nat) (h:Hf Try.prog S.base IL N n (.ops l o k) env st []=some ⟨.ops l' o' k',env',st',[]⟩) (hk:cn Try.prog f N S Q l' o' k' env' st'):cn Try.prog f N S Q l o k env st:=.B n [] h trivial hk
theorem cn.C (n:Nat) (hs:O Hint) (h:Hf Try.prog S.base IL N n (.ops l o k) env st hs=some ⟨.draw l' p' o' k',env',st',ps⟩) (hp:oZ ps) (hk:rQ Try.prog f N S Q l' p' o' k' env' st'):cn Try.prog f N S Q l o k env st:=lN DO wa h hp hk
theorem rQ.C (n:Nat) (hs:O Hint) (h:Hf Try.prog S.base IL N n (.draw l p o k) env st hs=some ⟨.draw l' p' o' k',env',st',ps⟩) (hp:oZ ps) (hk:rQ Try.prog f N S Q l' p' o' k' env' st'):rQ Try.prog f N S Q l p o k env st:=lN DO wa h hp hk
theorem ba.R {f:FuncId} {fn:Func} {xs:O ResultVar} {es:O EV} (hf:Try.prog.funcs[f]?=some fn) (hr:fn.results=xs.toArray) (h:F0 IL env st xs=some es) (hQ:Q (Dl es) st):ba Try.prog (.of f) N S Q (.code .ret::k) env st:=.rc DO hf hr h hQ
end
end Go.Abs
namespace Go.Proofs.Ytpdanklncjopoaa
end Go.Proofs.Ytpdanklncjopoaa
