/- Our own texts G2 D4 D5 G3 G4 G5 G9 G10 G11 G12 G13 G14 G15 G16 G17 G18 G19 G20 G21 G22 G23 G24 G25 G26 G27 G28 G29 LTys LF E1 Sh LX LW0 LW1 LW2 of this seat in one. -/
import Derived.Test.YtnjdcednocmcnaaDoorYK0
import Derived.Laws.RangeString
import Derived.Laws.RangeAny
import Derived.Laws.MakeOwn
import Derived.Laws.CopyRow
import Derived.ChangeKeysEq
import Derived.Lib.AppendZerosOnto
import Derived.WalkKit
import Derived.Lib.Walk
import Derived.Shelf.RegionOpenPlain
import Derived.Lib.Overlaps
import Derived.Lib.SliceRun
import Derived.Lib.JoinLaws
import Derived.RangeFuncLeaves
import Derived.RangeFuncRecord
import Derived.Test.YtnjdcednocmcnaaDoorRows
import Derived.Lib.ItoaNum
import Derived.Lib.Join
import Derived.Sort.Grow
import Derived.Deep.Draws
import Derived.Shelf.Strings.Builder1
import Derived.Shelf.Strings.Builder2
import Derived.Shelf.Strings.OnBuilder
import Derived.Shelf.Strconv.Itoa0
import Derived.Shelf.Strconv.Itoa1
import Derived.Shelf.LaysM
import Derived.Shelf.Strconv.Itoa2
import Derived.Shelf.Strconv.Itoa3
import Derived.Test.YtnjdcednocmcnaaDoorProg
set_option linter.unusedSimpArgs false
set_option linter.unusedVariables false
set_option linter.unusedSectionVars false
namespace Go.Abs
open Go.RowKit
def mergeSt (st s1:St) (rs ts:List Nat):St :=
 ⟨mergeL st.objs rs (s1.objs.map (AObj.ren (renF rs st.objs.length) (renF ts st.tails.length))),mergeL st.tails ts s1.tails⟩
theorem Inv.mergeBack {g g1:Ghost} {w w1:World} {base:Nat} {st s0 s1:St} {rs ts:List Nat} (h:Inv g base w st) (hr:Emb rs st.objs.length) (ht:Emb ts st.tails.length)
  (hlr:rs.length=s0.objs.length) (hlt:ts.length=s0.tails.length)
  (p:Part (renF rs st.objs.length) (renF ts st.tails.length) s0 st) (h1:Inv g1 base w1 s1) (hs:Step base (g.sub (renF rs st.objs.length) (renF ts st.tails.length)) w s0 g1 w1 s1) :
  ∃ g',Inv g' base w1 (mergeSt st s1 rs ts)∧Step base g w st g' w1 (mergeSt st s1 rs ts) ∧
   ∀ x v,EVRep g1 w1 s1 x v→EVRep g' w1 (mergeSt st s1 rs ts) (x.ren (renF rs st.objs.length) (renF ts st.tails.length)) v:=by
 have hl1:rs.length≤s1.objs.length:=by rw [hlr]; exact hs.sevo.objs
 have hl2:ts.length≤s1.tails.length:=by rw [hlt]; exact hs.sevo.tlen
 generalize hN:st.objs.length=N at *
 generalize hM:st.tails.length=M at *
 generalize hρ:renF rs N=ρ at *
 generalize hτ:renF ts M=τ at *
 have hst':mergeSt st s1 rs ts=⟨mergeL st.objs rs (s1.objs.map (AObj.ren ρ τ)),mergeL st.tails ts s1.tails⟩:=by unfold mergeSt; rw [hN,hM,hρ,hτ]
 rw [hst']
 generalize hS:(⟨mergeL st.objs rs (s1.objs.map (AObj.ren ρ τ)),mergeL st.tails ts s1.tails⟩:St)=S
 have hSo:∀ i,S.objs[ρ i]?=(s1.objs[i]?).map (AObj.ren ρ τ):=fun i=>by
  rw [←hS,←hρ]
  simp only
  rw [mergeL_get rs _ _ N hN hr (by simpa using hl1) i,List.getElem?_map,hρ]
 have hSt:∀ i,S.tails[τ i]?=s1.tails[i]?:=fun i=>by
  rw [←hS,←hτ]
  exact mergeL_get ts _ _ M hM ht hl2 i
 have hSo':∀ o,invF rs N o=none→S.objs[o]?=st.objs[o]?:=fun o ho=>by
  obtain ⟨k1,k2⟩:=inv_none ho
  rw [←hS]
  exact mergeL_other rs _ _ o (by rw [hN]; exact k1) fun hm=>by
   obtain ⟨j,hj⟩:=List.mem_iff_getElem?.1 hm
   refine k2 j ?_
   simp [renF,hj]
 have hSt':∀ t,invF ts M t=none→S.tails[t]?=st.tails[t]?:=fun t ho=>by
  obtain ⟨k1,k2⟩:=inv_none ho
  rw [←hS]
  exact mergeL_other ts _ _ t (by rw [hM]; exact k1) fun hm=>by
   obtain ⟨j,hj⟩:=List.mem_iff_getElem?.1 hm
   refine k2 j ?_
   simp [renF,hj]
 have hSl:N≤S.objs.length:=by rw [←hS,←hN]; show _≤(mergeL _ _ _).length; rw [mergeL_len rs _ _ (by simpa using hl1)]; omega
 have hSlt:M≤S.tails.length:=by rw [←hS,←hM]; show _≤(mergeL _ _ _).length; rw [mergeL_len ts _ _ hl2]; omega
 let g':Ghost:=⟨g1.lim,fun o=>match invF rs N o with | some i=>g1.ob i | none=>g.ob o,fun t=>match invF ts M t with | some i=>g1.tk i | none=>g.tk t⟩
 have gob:∀ i,g'.ob (ρ i)=g1.ob i:=fun i=>by
  show (match invF rs N (ρ i) with | some i=>g1.ob i | none=>g.ob (ρ i))=_
  rw [←hρ,inv_ren hr i]
 have gtk:∀ i,g'.tk (τ i)=g1.tk i:=fun i=>by
  show (match invF ts M (τ i) with | some i=>g1.tk i | none=>g.tk (τ i))=_
  rw [←hτ,inv_ren ht i]
 have gob':∀ o,invF rs N o=none→g'.ob o=g.ob o:=fun o ho=>by
  show (match invF rs N o with | some i=>g1.ob i | none=>g.ob o)=_
  rw [ho]
 have gtk':∀ t,invF ts M t=none→g'.tk t=g.tk t:=fun t ho=>by
  show (match invF ts M t with | some i=>g1.tk i | none=>g.tk t)=_
  rw [ho]
 have rinv:∀ {o i:Nat},invF rs N o=some i→o=ρ i:=fun {o i} e=>by rw [←hρ]; exact (inv_some e).symm
 have tinv:∀ {t i:Nat},invF ts M t=some i→t=τ i:=fun {t i} e=>by rw [←hτ]; exact (inv_some e).symm
 have up:∀ {x:EV} {v:Value},EVRep g1 w1 s1 x v→EVRep g' w1 S (x.ren ρ τ) v:=fun {x v} hx=>by
  refine EVRep.up (fun o ho=>⟨gob o,?_⟩) rfl (fun t ht=>⟨hSt t,gtk t⟩) hx
  have e:=hSo o
  rw [List.getElem?_eq_getElem ho] at e
  exact (List.getElem?_eq_some_iff.1 e).1
 -- what the call does not own
 have hfar:∀ b,b < w.heap.size→¬ Owned (g.sub ρ τ) s0 b→w1.heap[b]?=w.heap[b]?∧g1.lim b=g.lim b:=hs.frame
 have hnear:∀ b,b < w.heap.size→Owned g1 s1 b→Owned (g.sub ρ τ) s0 b:=hs.fresh
 have uo:∀ o,invF rs N o=none→st.live o→g.ob o < w.heap.size∧¬ Owned (g.sub ρ τ) s0 (g.ob o):=fun o ho hl=>by
  refine ⟨(h.live_lt hl).1,fun hw=>?_⟩
  rcases hw with ⟨i,a1,a2⟩ | ⟨t,x,a1,a2⟩
  ·have hne:ρ i≠o:=fun e=>by rw [←e,←hρ,inv_ren hr i] at ho; cases ho
   exact h.ne _ _ hne (p.live a1) hl a2
  ·exact h.tailObj _ x o (p.tails t x a1) hl a2
 have ut:∀ t x b,invF ts M t=none→st.tails[t]?=some x→(g.tk t).ownBlock=some b→b < w.heap.size∧¬ Owned (g.sub ρ τ) s0 b:=fun t x b ho hx hb=>by
  refine ⟨(h.tail_lt hx hb).2,fun hw=>?_⟩
  rcases hw with ⟨i,a1,a2⟩ | ⟨i,y,a1,a2⟩
  ·exact h.tailObj t x _ hx (p.live a1) (by rw [hb]; exact congrArg some a2.symm)
  ·have hne:τ i≠t:=fun e=>by rw [←e,←hτ,inv_ren ht i] at ho; cases ho
   exact h.tailNe _ _ y x b hne (p.tails i y a1) hx a2 hb
 have s0o:∀ {o i:Nat},invF rs N o=some i→o < N→i < s0.objs.length:=fun {o i} e ho=>by rw [←hlr]; exact inv_small hr e ho
 have s0t:∀ {t i:Nat},invF ts M t=some i→t < M→i < s0.tails.length:=fun {t i} e ho=>by rw [←hlt]; exact inv_small ht e ho
 have s0tail:∀ {i:Nat},i < s0.tails.length→∀ {x:Tail},st.tails[τ i]?=some x→s0.tails[i]?=some x:=fun {i} hi {x} hx=>by
  have e:=p.tails i _ (List.getElem?_eq_getElem hi)
  rw [hx] at e
  cases e
  exact List.getElem?_eq_getElem hi
 have hsev:SEvo g w st g' w1 S:=by
  refine ⟨hs.sevo.evo,fun o ho=>?_,by rw [hN]; exact hSl,fun t e sz n hx=>?_,by rw [hM]; exact hSlt,fun t x' rows' hlt' hx ho=>?_⟩
  ·cases hi:invF rs N o with
   | none=>exact gob' o hi
   | some i =>
    have:=rinv hi
    subst this
    rw [gob,hs.sevo.ob i (s0o hi (by omega))]
    rfl
  ·cases hi:invF ts M t with
   | none=>exact ⟨n,by rw [hSt' t hi]; exact hx,Nat.le_refl _,fun _=>gtk' t hi⟩
   | some i =>
    have:=tinv hi
    subst this
    have hi0:=s0t hi (by rw [←hM]; exact (List.getElem?_eq_some_iff.1 hx).1)
    obtain ⟨n',a1,a2,a3⟩:=hs.sevo.tails i e sz n (s0tail hi0 hx)
    exact ⟨n',by rw [hSt]; exact a1,a2,fun e'=>by rw [gtk,a3 e']; rfl⟩
  ·cases hi:invF ts M t with
   | none =>
    rw [hSt' t hi] at hx
    exact ⟨x',rows',hx,ho,rfl,Nat.le_refl _,fun _=>gtk' t hi⟩
   | some i =>
    have:=tinv hi
    subst this
    have hi0:=s0t hi (by omega)
    rw [hSt] at hx
    obtain ⟨x,rows,a1,a2,a3,a4,a5⟩:=hs.sevo.own i x' rows' hi0 hx ho
    exact ⟨x,rows,p.tails i x a1,a2,a3,a4,fun e'=>by rw [gtk,a5 e']; rfl⟩
 have hlive:∀ {o i:Nat},invF rs N o=some i→S.live o→s1.live i:=fun {o i} hi ⟨x,hx,hne⟩=>by
  have:=rinv hi
  subst this
  rw [hSo] at hx
  obtain ⟨y,hy,rfl⟩:=Option.map_eq_some_iff.1 hx
  exact ⟨y,hy,fun e=>hne (by subst e; rfl)⟩
 have hlive':∀ {o:Nat},invF rs N o=none→S.live o→st.live o:=fun {o} hi ⟨x,hx,hne⟩=>⟨x,by rw [hSo' o hi] at hx; exact hx,hne⟩
 refine ⟨g',⟨h1.base,?_,?_,?_,?_,?_,?_,?_,h1.glob,?_⟩,⟨hsev,hs.below,hs.lim,fun b hb hn=>hfar b hb fun hw=>hn (p.owned hw),fun b hb hw=>?_⟩,fun x v hx=>up hx⟩
 ·intro o ty cs hx
  cases hi:invF rs N o with
  | none =>
   rw [hSo' o hi] at hx
   obtain ⟨k1,k2,vs,k3,k4,k5⟩:=h.row o ty cs hx
   obtain ⟨u1,u2⟩:=uo o hi ⟨_,hx,by simp⟩
   obtain ⟨f1,f2⟩:=hfar _ u1 u2
   rw [gob' o hi]
   exact ⟨k1,f2.trans k2,vs,f1.trans k3,k4,fun i c u hc hu=>⟨(k5 i c u hc hu).1.mono hsev,(k5 i c u hc hu).2⟩⟩
  | some i =>
   have:=rinv hi
   subst this
   rw [hSo] at hx
   obtain ⟨y,hy,hyr⟩:=Option.map_eq_some_iff.1 hx
   cases y <;> simp only [AObj.ren] at hyr <;> cases hyr
   obtain ⟨k1,k2,vs,k3,k4,k5⟩:=h1.row i ty _ hy
   rw [gob]
   refine ⟨k1,k2,vs,k3,by rw [rens_map]; simpa using k4,fun j c u hc hu=>?_⟩
   rw [rens_map,List.getElem?_map] at hc
   obtain ⟨c',hc',rfl⟩:=Option.map_eq_some_iff.1 hc
   exact ⟨up (k5 j c' u hc' hu).1,(k5 j c' u hc' hu).2⟩
 ·intro o es hx
  cases hi:invF rs N o with
  | none =>
   rw [hSo' o hi] at hx
   obtain ⟨k1,ms,c,k3,k4,k5,k6⟩:=h.map o es hx
   obtain ⟨u1,u2⟩:=uo o hi ⟨_,hx,by simp⟩
   obtain ⟨f1,f2⟩:=hfar _ u1 u2
   rw [gob' o hi]
   exact ⟨k1,ms,c,f1.trans k3,k4,fun i k x m a b=>⟨(k5 i k x m a b).1,(k5 i k x m a b).2.mono hsev⟩,k6⟩
  | some i =>
   have:=rinv hi
   subst this
   rw [hSo] at hx
   obtain ⟨y,hy,hyr⟩:=Option.map_eq_some_iff.1 hx
   cases y <;> simp only [AObj.ren] at hyr <;> cases hyr
   obtain ⟨k1,ms,c,k3,k4,k5,k6⟩:=h1.map i _ hy
   rw [gob]
   refine ⟨k1,ms,c,k3,by simpa using k4,fun j k x m hm hm'=>?_,k6⟩
   rw [List.getElem?_map] at hm
   obtain ⟨q,hq,hqe⟩:=Option.map_eq_some_iff.1 hm
   cases hqe
   have:=k5 j q.1 q.2 m hq hm'
   exact ⟨this.1,up this.2⟩
 ·intro o y hx
  cases hi:invF rs N o with
  | none =>
   rw [hSo' o hi] at hx
   obtain ⟨k1,k2,k3⟩:=h.raw o y hx
   obtain ⟨u1,u2⟩:=uo o hi ⟨_,hx,by simp⟩
   obtain ⟨f1,f2⟩:=hfar _ u1 u2
   rw [gob' o hi]
   exact ⟨k1,f2.trans k2,f1.trans k3⟩
  | some i =>
   have:=rinv hi
   subst this
   rw [hSo] at hx
   obtain ⟨z,hz,hzr⟩:=Option.map_eq_some_iff.1 hx
   cases z <;> simp only [AObj.ren] at hzr <;> cases hzr
   rw [gob]
   exact h1.raw i _ hz
 ·intro o o' hne ho ho'
  have cross:∀ {a b i:Nat},invF rs N a=some i→invF rs N b=none→S.live a→S.live b→g'.ob a≠g'.ob b:=fun {a b i} ha hb la lb e=>by
   have:=rinv ha
   subst this
   rw [gob,gob' b hb] at e
   obtain ⟨u1,u2⟩:=uo b hb (hlive' hb lb)
   exact u2 (hnear _ u1 (.inl ⟨i,hlive ha la,e⟩))
  cases hi:invF rs N o with
  | none =>
   cases hj:invF rs N o' with
   | none=>rw [gob' o hi,gob' o' hj]; exact h.ne o o' hne (hlive' hi ho) (hlive' hj ho')
   | some j=>exact (cross hj hi ho' ho).symm
  | some i =>
   cases hj:invF rs N o' with
   | none=>exact cross hi hj ho ho'
   | some j =>
    have l1:=hlive hi ho
    have l2:=hlive hj ho'
    have:=rinv hi
    subst this
    have:=rinv hj
    subst this
    rw [gob,gob]
    exact h1.ne i j (fun e=>hne (by rw [e])) l1 l2
 ·intro t e sz n hx
  cases hi:invF ts M t with
  | none =>
   rw [hSt' t hi] at hx
   obtain ⟨xs,k1,k2⟩:=h.tail t e sz n hx
   rw [gtk' t hi]
   exact ⟨xs,ownsRow_keep k1 fun b hb=>(hfar b (ut t _ b hi hx hb).1 (ut t _ b hi hx hb).2).1,fun b hb=>by rw [←k2 b hb]; exact (hfar b (ut t _ b hi hx hb).1 (ut t _ b hi hx hb).2).2⟩
  | some i =>
   have:=tinv hi
   subst this
   rw [hSt] at hx
   rw [gtk]
   exact h1.tail i e sz n hx
 ·intro t t' x x' b hne hx hx' hb
  have cross:∀ {a c i:Nat} {x x':Tail},invF ts M a=some i→invF ts M c=none→S.tails[a]?=some x→S.tails[c]?=some x'→(g'.tk a).ownBlock=some b→(g'.tk c).ownBlock=some b→False:=fun {a c i x x'} ha hc la lc ea ec=>by
   have:=tinv ha
   subst this
   rw [gtk] at ea
   rw [gtk' c hc] at ec
   rw [hSt] at la
   rw [hSt' c hc] at lc
   obtain ⟨u1,u2⟩:=ut c _ b hc lc ec
   exact u2 (hnear b u1 (.inr ⟨i,_,la,ea⟩))
  cases hi:invF ts M t with
  | none =>
   cases hj:invF ts M t' with
   | none =>
    rw [gtk' t hi] at hb
    rw [gtk' t' hj]
    rw [hSt' t hi] at hx
    rw [hSt' t' hj] at hx'
    exact h.tailNe t t' x x' b hne hx hx' hb
   | some j=>exact fun hb'=>cross hj hi hx' hx hb' hb
  | some i =>
   cases hj:invF ts M t' with
   | none=>exact fun hb'=>cross hi hj hx hx' hb hb'
   | some j =>
    have:=tinv hi
    subst this
    have:=tinv hj
    subst this
    rw [gtk] at hb
    rw [gtk]
    rw [hSt] at hx hx'
    exact h1.tailNe i j x x' b (fun e=>hne (by rw [e])) hx hx' hb
 ·intro t x o hx ho hb
  cases hi:invF ts M t with
  | none =>
   rw [gtk' t hi] at hb
   rw [hSt' t hi] at hx
   cases hj:invF rs N o with
   | none =>
    rw [gob' o hj] at hb
    exact h.tailObj t x o hx (hlive' hj ho) hb
   | some j =>
    have l2:=hlive hj ho
    have:=rinv hj
    subst this
    rw [gob] at hb
    obtain ⟨u1,u2⟩:=ut t _ _ hi hx hb
    exact u2 (hnear _ u1 (.inl ⟨j,l2,rfl⟩))
  | some i =>
   have:=tinv hi
   subst this
   rw [gtk] at hb
   rw [hSt] at hx
   cases hj:invF rs N o with
   | none =>
    rw [gob' o hj] at hb
    obtain ⟨u1,u2⟩:=uo o hj (hlive' hj ho)
    exact u2 (hnear _ u1 (.inr ⟨i,_,hx,hb⟩))
   | some j =>
    have l2:=hlive hj ho
    have:=rinv hj
    subst this
    rw [gob] at hb
    exact h1.tailObj i x j hx l2 hb
 ·intro t e sz n rows hx
  cases hi:invF ts M t with
  | none =>
   rw [hSt' t hi] at hx
   obtain ⟨xs,k1,k2,k3⟩:=h.own t e sz n rows hx
   rw [gtk' t hi]
   exact ⟨xs,ownsRow_keep k1 fun b hb=>(hfar b (ut t _ b hi hx hb).1 (ut t _ b hi hx hb).2).1,fun b hb=>by rw [←k2 b hb]; exact (hfar b (ut t _ b hi hx hb).1 (ut t _ b hi hx hb).2).2,k3.mono hsev.evo⟩
  | some i =>
   have:=tinv hi
   subst this
   rw [hSt] at hx
   rw [gtk]
   exact h1.own i e sz n rows hx
 ·rcases hw with ⟨o,a1,a2⟩ | ⟨t,x,a1,a2⟩
  ·cases hi:invF rs N o with
   | none=>exact .inl ⟨o,hlive' hi a1,by rw [←gob' o hi]; exact a2⟩
   | some i =>
    have l1:=hlive hi a1
    have:=rinv hi
    subst this
    rw [gob] at a2
    exact p.owned (hnear b hb (.inl ⟨i,l1,a2⟩))
  ·cases hi:invF ts M t with
   | none =>
    rw [gtk' t hi] at a2
    rw [hSt' t hi] at a1
    exact .inr ⟨t,x,a1,a2⟩
   | some i =>
    have:=tinv hi
    subst this
    rw [gtk] at a2
    rw [hSt] at a1
    exact p.owned (hnear b hb (.inr ⟨i,x,a1,a2⟩))
def EVlesE:List EV→List EV→Prop
 | [],[]=>True
 | e :: es,x :: xs=>EVle e x∧EVlesE es xs
 | _,_=>False
theorem EVlesE.get:∀ {es xs:List EV},EVlesE es xs→es.length=xs.length∧∀ (i:Nat) x,xs[i]?=some x→∃ e,es[i]?=some e∧EVle e x
 | [],[],_=>⟨rfl,fun i y h=>by simp at h⟩
 | e :: es,d :: ds,h=>by
  obtain ⟨h1,h2⟩:=EVlesE.get h.2
  refine ⟨by simp [h1],fun i z hz=>?_⟩
  cases i with
  | zero=>simp at hz; subst hz; exact ⟨e,rfl,h.1⟩
  | succ i=>simpa using h2 i z (by simpa using hz)
 | [],_ :: _,h=>h.elim
 | _ :: _,[],h=>h.elim
theorem ACallS.le {P:Program} {f:FuncId} {es xs:List EV} {st:St} {q:EV→St→Prop} (h:ACallS P f xs st q) (hle:EVlesE es xs):ACallS P f es st q:=by
 intro g w base vs hi ha
 obtain ⟨h1,h2⟩:=hle.get
 refine h g w base vs hi ⟨by rw [ha.1,h1],fun i x v hx hv=>?_⟩
 obtain ⟨e,he,hl⟩:=h2 i x hx
 exact hl _ _ _ _ (ha.2 i e v he hv)
section call
variable {P:Program} {f:Ctx} {N:Nat} {S:Start} {Q:EV→St→Prop} {k:List Item} {env:Env} {st:St} {ops rest:List Oper}
 {d:Option Tmp} {ty:TypeId} {pos:String} {after:Array Edge}
def QE (x:EV) (st':St) (e:EV) (s:St):Prop:=EVle e x∧s=st'
def partB (rs ts:List Nat) (s0 st:St):Bool :=
 embB rs st.objs.length && embB ts st.tails.length && Nat.beq rs.length s0.objs.length && Nat.beq ts.length s0.tails.length
theorem Part.of {rs ts:List Nat} {s0 st:St} (h:partB rs ts s0 st=true) (h5:s0.objs.all (okObj s0.objs.length s0.tails.length)=true)
  (ho:rs.map (fun r=>st.objs[r]?)=s0.objs.map (fun x=>some (x.ren (renF rs st.objs.length) (renF ts st.tails.length)))) (ht:ts.map (fun r=>st.tails[r]?)=s0.tails.map some) :
  Part (renF rs st.objs.length) (renF ts st.tails.length) s0 st∧Emb rs st.objs.length∧Emb ts st.tails.length∧rs.length=s0.objs.length∧ts.length=s0.tails.length:=by
 simp only [partB,Bool.and_eq_true] at h
 rw [List.all_eq_true] at h5
 obtain ⟨⟨⟨h1,h2⟩,h3⟩,h4⟩:=h
 have e1:=Emb.of h1
 have e2:=Emb.of h2
 have l1:=Nat.eq_of_beq_eq_true h3
 have l2:=Nat.eq_of_beq_eq_true h4
 refine ⟨⟨fun o x hx=>?_,fun t x hx=>?_,fun o o' e=>ren_inj e1 e,fun t t' e=>ren_inj e2 e,fun o x hx=>h5 x (List.mem_of_getElem? hx)⟩,e1,e2,l1,l2⟩
 ·have hlt:o < rs.length:=by rw [l1]; exact (List.getElem?_eq_some_iff.1 hx).1
  have:=congrArg (fun l=>l[o]?) ho
  simp only [List.getElem?_map,(ren_lt e1 hlt).2,hx,Option.map_some,Option.some.injEq] at this
  exact this
 ·have hlt:t < ts.length:=by rw [l2]; exact (List.getElem?_eq_some_iff.1 hx).1
  have:=congrArg (fun l=>l[t]?) ht
  simp only [List.getElem?_map,(ren_lt e2 hlt).2,hx,Option.map_some,Option.some.injEq] at this
  exact this
theorem ACallS.frame {f:FuncId} {args:List EV} {s0 s1:St} {e1:EV} (rs ts:List Nat) (h:ACallS P f args s0 (QE e1 s1)) (hp:partB rs ts s0 st=true) (h5:s0.objs.all (okObj s0.objs.length s0.tails.length)=true) (hok:args.all (okEV s0.objs.length s0.tails.length)=true)
  (ho:rs.map (fun r=>st.objs[r]?)=s0.objs.map (fun x=>some (x.ren (renF rs st.objs.length) (renF ts st.tails.length)))) (ht:ts.map (fun r=>st.tails[r]?)=s0.tails.map some) :
  ACallS P f (args.map (EV.ren (renF rs st.objs.length) (renF ts st.tails.length))) st (QE (e1.ren (renF rs st.objs.length) (renF ts st.tails.length)) (mergeSt st s1 rs ts)):=by
 obtain ⟨p,e1',e2',l1,l2⟩:=Part.of hp h5 ho ht
 intro g w base vs hi ha
 rw [List.all_eq_true] at hok
 refine (h (g.sub _ _) w base vs (hi.part p) ⟨by have:=ha.1; simpa using this,fun i x v hx hv=>?_⟩).mono ?_
 ·exact (ha.2 i _ v (by rw [List.getElem?_map,hx]; rfl) hv).down p.tails (hok x (List.mem_of_getElem? hx))
 ·rintro e w' ⟨v,r,s,g1,rfl,⟨hle,rfl⟩,hr,hinv,hh⟩
  obtain ⟨g',k1,k2,k3⟩:=hi.mergeBack e1' e2' l1 l2 p hinv hh.toStep
  exact ⟨v,_,_,g',rfl,⟨.rfl' _,rfl⟩,k3 _ _ (hle _ _ _ _ hr),k1,⟨k2.sevo,k2.below,k2.lim,k2.frame,k2.fresh⟩⟩
theorem ACallS.keep {f:FuncId} {args:List EV} {x:EV} {st':St} (h:ACallS P f args st fun e s=>∃ (rs ts:List Nat),partB rs ts st' s=true∧st'.objs.all (okObj st'.objs.length st'.tails.length)=true∧okEV st'.objs.length st'.tails.length x=true∧(Nat.ble st.objs.length rs.length && Nat.ble st.tails.length ts.length)=true ∧
   rs.take st.objs.length=List.range st.objs.length∧ts.take st.tails.length=List.range st.tails.length ∧
   rs.map (fun r=>s.objs[r]?)=st'.objs.map (fun y=>some (y.ren (renF rs s.objs.length) (renF ts s.tails.length)))∧ts.map (fun r=>s.tails[r]?)=st'.tails.map some ∧
   EVle e (x.ren (renF rs s.objs.length) (renF ts s.tails.length))):ACallS P f args st (QE x st'):=by
 intro g w base vs hi ha
 refine (h g w base vs hi ha).mono ?_
 rintro e w' ⟨v,r,s,g1,rfl,⟨rs,ts,hp,h5,hx,hl,hr0,ht0,ho,ht,hle⟩,hr,hinv,hh⟩
 obtain ⟨p,e1',e2',l1,l2⟩:=Part.of hp h5 ho ht
 simp only [Bool.and_eq_true] at hl
 have hl1:=Nat.le_of_ble_eq_true hl.1
 have hl2:=Nat.le_of_ble_eq_true hl.2
 have same:∀ {l:List Nat} {n N:Nat},l.take n=List.range n→n≤l.length→∀ i,i < n→renF l N i=i:=fun {l n N} hl hn i hi=>by
  have e:(l.take n)[i]?=some i:=by rw [hl,List.getElem?_range hi]
  rw [List.getElem?_take,if_pos hi] at e
  simp [renF,e]
 have so:=fun i hi=>same (N:=s.objs.length) hr0 hl1 i hi
 have stl:=fun i hi=>same (N:=s.tails.length) ht0 hl2 i hi
 have hgetT:∀ {i:Nat},i < st'.tails.length→st'.tails[i]?=s.tails[renF ts s.tails.length i]?:=fun {i} hi=>by
  rw [p.tails i _ (List.getElem?_eq_getElem hi),List.getElem?_eq_getElem hi]
 refine ⟨v,x,st',g1.sub _ _,rfl,⟨.rfl' _,rfl⟩,(hle _ _ _ _ hr).down p.tails hx,hinv.part p,⟨⟨hh.sevo.evo,fun o ho'=>?_,(by show st.objs.length≤_; omega),fun t e sz n hx=>?_,(by show st.tails.length≤_; omega),fun t x' rows' hlt hx' ho'=>?_⟩,hh.below,hh.lim,hh.frame,fun b hb hw=>hh.fresh b hb (p.owned hw)⟩⟩
 ·show g1.ob (renF rs s.objs.length o)=g.ob o
  rw [so o ho']
  exact hh.sevo.ob o ho'
 ·have hlt:t < st.tails.length:=(List.getElem?_eq_some_iff.1 hx).1
  obtain ⟨n',a1,a2,a3⟩:=hh.sevo.tails t e sz n hx
  refine ⟨n',?_,a2,fun e'=>?_⟩
  ·rw [hgetT (by omega),stl t hlt]; exact a1
  ·show g1.tk (renF ts s.tails.length t)=g.tk t
   rw [stl t hlt]
   exact a3 e'
 ·rw [hgetT (by have:=(List.getElem?_eq_some_iff.1 hx').1; exact this),stl t hlt] at hx'
  obtain ⟨y,rows,a1,a2,a3,a4,a5⟩:=hh.sevo.own t x' rows' hlt hx' ho'
  refine ⟨y,rows,a1,a2,a3,a4,fun e'=>?_⟩
  show g1.tk (renF ts s.tails.length t)=g.tk t
  rw [stl t hlt]
  exact a5 e'
end call
section call
variable {P:Program} {f:Ctx} {N:Nat} {S:Start} {Q:EV→St→Prop} {k:List Item} {env:Env} {st:St} {ops rest:List Oper}
 {d:Option Tmp} {ty:TypeId} {pos:String} {after:Array Edge}
theorem put_weak {d:Option Tmp} {x r:EV} (hle:EVle x r) (h:AOps P f N S Q ops rest k (env.put d r) st):AOps P f N S Q ops rest k (env.put d x) st:=by
 cases d with
 | none=>exact h
 | some t =>
  intro i hi g w tmps hinv hh he hn
  refine h i hi g w tmps hinv hh (fun j y hy=>?_) hn
  unfold Env.put lookup at hy
  cases hb:Nat.beq j t with
  | true =>
   rw [hb] at hy
   simp only [Option.some.injEq] at hy
   subst hy
   have:=Nat.eq_of_beq_eq_true hb
   subst this
   obtain ⟨v,h1,h2⟩:=he j x (by unfold Env.put lookup; rw [Nat.beq_refl])
   exact ⟨v,h1,hle _ _ _ _ h2⟩
  | false =>
   rw [hb] at hy
   exact he j y (by unfold Env.put lookup; rw [hb]; exact hy)
theorem AOps.callF {f':FuncId} {l:List Operand} {ts:Array TypeId} {es0 es:List EV} {x r:EV} {s0 s1 st':St} (hen:Enters P f') (hd:dstOk N d=true) (rs tk:List Nat)
  (h1:evos env l=some es) (hc:ACallS P f' es0 s0 (QE r s1)) (hle:EVlesE es (es0.map (EV.ren (renF rs st.objs.length) (renF tk st.tails.length))))
  (hp:(partB rs tk s0 st && es0.all (okEV s0.objs.length s0.tails.length))=true) (h5:s0.objs.all (okObj s0.objs.length s0.tails.length)=true)
  (ho:rs.map (fun r=>st.objs[r]?)=s0.objs.map (fun x=>some (x.ren (renF rs st.objs.length) (renF tk st.tails.length)))) (ht:tk.map (fun r=>st.tails[r]?)=s0.tails.map some)
  (hx:r.ren (renF rs st.objs.length) (renF tk st.tails.length)=x) (hs:mergeSt st s1 rs tk=st')
  (hk:AOps P f N S Q ops rest k (env.put d x) st') :
  AOps P f N S Q ops (⟨d,.call ⟨.value (.func f'),l.toArray,ts⟩,ty,pos,after,none⟩ :: rest) k env st:=by
 simp only [Bool.and_eq_true] at hp
 refine .callS hen hd h1 ((hc.frame rs tk hp.1 h5 hp.2 ho ht).le hle) fun y s hq=>?_
 obtain ⟨hle,rfl⟩:=hq
 rw [hx] at hle
 rw [hs]
 exact put_weak hle hk
end call
theorem okCons {n m:Nat} {x:AObj} {l:List AObj} (h1:okObj n m x=true) (h2:l.all (okObj n m)=true):(x :: l).all (okObj n m)=true:=by
 simp [h1]; simpa using h2
theorem okBoth {a b:Bool} (h1:a=true) (h2:b=true):(a && b)=true:=by rw [h1,h2]; rfl
section tok
variable {P:Program} {f:Ctx} {N:Nat} {S:Start} {Q:EV→St→Prop} {k:List Item} {todo:List Item} {env:Env} {st:St} {ops rest:List Oper}
theorem Inv.tokCell {g:Ghost} {base:Nat} {w:World} {o ci:Nat} {T:TypeId} {cs:List EV} (h:Inv g base w st) (ho:st.objs[o]?=some (.row T cs)) (hc:cs[ci]?=some (.d (.ex (.slice none 0 0)))) (e sz:Nat) :
  ∃ g',Inv g' base w ((st.tok ⟨e,sz,0,none⟩).set o (.row T (cs.set ci (.tsl sz [] st.tails.length))))∧Step base g w st g' w ((st.tok ⟨e,sz,0,none⟩).set o (.row T (cs.set ci (.tsl sz [] st.tails.length)))):=by
 obtain ⟨g1,h1,h2,h3⟩:=h.newTok e sz
 have ho1:(st.tok ⟨e,sz,0,none⟩).objs[o]?=some (.row T cs):=ho
 obtain ⟨b1,b2,vs,b3,b4,b5⟩:=h2.row o T cs ho1
 obtain ⟨hi,hs⟩:=h2.setBlock (o:=o) (x:=.row T (cs.set ci (.tsl sz [] st.tails.length))) (w':=w) ⟨_,ho1,by simp⟩ b2 rfl (fun _ _=>rfl) rfl rfl rfl
  (fun hsv ty' cs' hx'=>by
   cases hx'
   refine ⟨vs,b3,by simpa using b4,fun i c u hci hu=>?_⟩
   rw [List.getElem?_set] at hci
   split at hci
   ·rename_i hic
    subst hic
    split at hci
    ·cases hci
     have h0:=b5 ci _ u hc hu
     refine ⟨?_,h0.2⟩
     have hu0:u=.slice none 0 0:=h0.1.ex_inv
     subst hu0
     exact .tsl sz [] _ _ e 0 (.nil sz _) (by simp [St.tok,St.set]) (Nat.le_refl _) (fun _=>.inl h1.symm)
    ·cases hci
   ·have h0:=b5 i c u hci hu
    exact ⟨h0.1.mono hsv,h0.2⟩) (fun _ es hx'=>by cases hx')
 exact ⟨g1,hi,h3.trans hs⟩
theorem ARun.tokCell {o ci:Nat} {T:TypeId} {cs:List EV} {e sz:Nat} (ho:st.objs[o]?=some (.row T cs)) (hc:cs[ci]?=some (.d (.ex (.slice none 0 0))))
  (h:ARun P f N S Q todo env ((st.tok ⟨e,sz,0,none⟩).set o (.row T (cs.set ci (.tsl sz [] st.tails.length))))):ARun P f N S Q todo env st:=by
 intro g w tmps hinv hh he hn
 obtain ⟨g',h1,h2⟩:=hinv.tokCell ho hc e sz
 exact h g' w tmps h1 (hh.step h2) (he.mono h2.sevo) hn
end tok
section rules
variable {P:Program} {base:Nat} {env:Env} {st:St} {d:Option Tmp} {ty:TypeId} {pos:String} {after:Array Edge} {gd:Option (Nat×Bool)} {t:TypeId} {x:Operand}
theorem q_nilRef {o off:Nat} (hx:evo env x=some (.ref o off)):OpQ P env st ⟨d,.nilCheck x,ty,pos,after,gd⟩ (.ref o off):=fun g base w tmps hi he=>by
 have h:=evo_rep he hx
 generalize hv:Act.eval ⟨tmps,[]⟩ x=v at h
 cases h with
 | ref _ _ hlt=>exact ⟨_,.ref _ _ hlt,fun w' _=>by simp [execOp,hv]⟩
end rules
section rep
variable {g:Ghost} {base:Nat} {w:World} {st:St}
theorem vc_or (h:Inv g base w st) {t e sz n:Nat} {rows:List (List D)} {v:Value} (htl:st.tails[t]?=some ⟨e,sz,n,some rows⟩) (hv:EVRep g w st (.vc t n) v) :
  v=g.tk t∨(n=0∧rows=[]∧∃ A,v=.slice A 0 0):=by
 cases hv with
 | vc _ _ _ ht hf hh =>
  rcases (hh _ rows htl rfl).2 rfl with h1 | ⟨h1,h3⟩
  ·exact .inl h1
  ·obtain ⟨xs,_,_,k⟩:=h.own t e sz n rows htl
   exact .inr ⟨h1,List.eq_nil_of_length_eq_zero (by rw [k.len]; exact h1),h3⟩
end rep
section rules
variable {P:Program} {f:Ctx} {N:Nat} {S:Start} {Q:EV→St→Prop} {k:List Item} {todo:List Item} {base:Nat} {env:Env} {st:St} {ops rest:List Oper}
 {d:Option Tmp} {ty:TypeId} {pos:String} {after:Array Edge} {gd:Option (Nat×Bool)} {t t2 e:TypeId} {x y z:Operand}
section sl
variable {α:Type} {sz:Nat} {row:α→List D} {l:List α} {ev:EV} {inf:TypeInfo} {tk n:Nat}
theorem q_fieldVp {s:TypeId} {f off:Nat} {i o:Nat} (hf:fieldOff P s f=some off) (hx:evo env x=some (.vp tk n i o)) :
  OpQ P env st ⟨d,.fieldAddr s x f,ty,pos,after,gd⟩ (.vp tk n i (o+off)):=fun g base w tmps hinv he=>by
 have h:=evo_rep he hx
 generalize hv:Act.eval ⟨tmps,[]⟩ x=v at h
 cases h with
 | vp _ _ _ _ _ ht hf' hh =>
  obtain ⟨b,o',rfl⟩:=hf'
  refine ⟨.pointer (some ⟨b,o'+off,none⟩),.vp _ _ _ _ _ ht ⟨_,_,rfl⟩ fun x rows hx ho=>?_,fun w' _=>by simp [execOp,hv,fieldPlace_run hf,Addr.add_lit]⟩
  obtain ⟨h1,h2⟩:=hh x rows hx ho
  refine ⟨h1,fun e=>?_⟩
  obtain ⟨b2,m,c,a1,a2⟩:=h2 e
  cases a2
  exact ⟨b,m,c,a1,by rw [Nat.add_assoc]⟩
end sl
end rules
theorem okMap {n m:Nat} {κ α:Type} {ke:κ→Value} {val:α→D} {l:List (κ×α)}:okObj n m (.map (mEnc ke val l))=true:=by
 unfold okObj mEnc
 rw [List.all_eq_true]
 intro p hp
 obtain ⟨q,_,rfl⟩:=List.mem_map.1 hp
 rfl
theorem renMap {ρ τ:Nat→Nat} {κ α:Type} {ke:κ→Value} {val:α→D} {l:List (κ×α)}:AObj.ren ρ τ (.map (mEnc ke val l))=.map (mEnc ke val l):=by
 simp [AObj.ren,mEnc,EV.ren]
theorem renArr {ρ τ:Nat→Nat} {T:TypeId} {α:Type} {l:List α} {c1:α→D}:AObj.ren ρ τ (.row T (l.map fun b=>EV.d (c1 b)))=.row T (l.map fun b=>EV.d (c1 b)):=by
 have h:∀ l:List α,EV.ren.rens ρ τ (l.map fun b=>EV.d (c1 b))=l.map fun b=>EV.d (c1 b):=by
  intro l
  induction l with
  | nil=>rfl
  | cons x l ih=>rw [List.map_cons,EV.ren.rens,ih]; rfl
 rw [AObj.ren,h]
section drawn
variable {P:Program} {f:Ctx} {N:Nat} {S:Start} {Q:EV→St→Prop} {k:List Item}
def OpE (P:Program) (base:Nat) (l:List Oper) (env:Env) (st:St) (o:Oper) (x:EV) (st':St):Prop :=
 (st'=st∧OpAny P l env st o x)∨(o.guard=none∧OpV P base env st o x st')∨(o.guard=none∧x=.d .any∧OpU P base env st o st')
end drawn
structure KeyF (P:Program) (key:TypeId) (κ:Type) [BEq κ] [LawfulBEq κ] where
 ke:κ→Value
 find:∀ {α:Type} (k:κ) (l:List (κ×α)) (ms:List MapEntry) (w:World),ms.map (·.key)=l.map (fun p=>ke p.1) →
  (Instr.findKey key (ke k) ms).run P w=.ok ((afind l k).bind fun j=>(ms[j]?).map fun m=>(j,m.val)) w
 bits:∀ a,Instr.sameBits 10000 (ke a) (ke a)=true
 check:∀ a b w,(Instr.checkKey b 10000 key (ke a)).run P w=.ok () w
def KeyKind.toF {P:Program} {key:TypeId} {κ:Type} [BEq κ] [LawfulBEq κ] (K:KeyKind P key κ):KeyF P key κ where
 ke:=K.ke
 find k l ms w h:=findKey_run K k h w
 bits:=K.bits
 check:=K.check
def intKF {P:Program} {key:TypeId} (h:P.underlying key=some (.int .i64)):KeyF P key Int:=(intKeys h).toF
def strKF {P:Program} {key:TypeId} (h:P.underlying key=some .string):KeyF P key (List UInt8):=(strKeys h).toF
theorem exKey {lim:Nat→Nat} {w:World} {u v:Value} (h:DRep lim w (.ex u) v):v=u:=by cases h; rfl
def encE {κ:Type} (ke:κ→Value) (l:List (κ×EV)):List (Value×EV):=l.map fun p=>(ke p.1,p.2)
def valE {κ α:Type} (val:α→D) (l:List (κ×α)):List (κ×EV):=l.map fun p=>(p.1,.d (val p.2))
theorem mEnc_eq {κ α:Type} {ke:κ→Value} {val:α→D} {l:List (κ×α)}:mEnc ke val l=encE ke (valE val l):=by
 simp [mEnc,encE,valE]
section alist
variable {κ α β:Type} [BEq κ] [LawfulBEq κ]
def aerase (l:List (κ×α)) (k:κ):List (κ×α):=match afind l k with
 | some j=>l.eraseIdx j
 | none=>l
theorem afind_map (f:α→β) (l:List (κ×α)) (k:κ):afind (l.map fun p=>(p.1,f p.2)) k=afind l k:=by
 unfold afind; rw [List.findIdx?_map]; rfl
theorem alook_map (f:α→β) (l:List (κ×α)) (k:κ):alook (l.map fun p=>(p.1,f p.2)) k=(alook l k).map f:=by
 rw [alook_afind,alook_afind,afind_map]
 cases afind l k with
 | none=>rfl
 | some j=>simp only [Option.bind_some,List.getElem?_map]; cases l[j]? <;> rfl
theorem aset_map (f:α→β) (l:List (κ×α)) (k:κ) (a:α):aset (l.map fun p=>(p.1,f p.2)) k (f a)=(aset l k a).map fun p=>(p.1,f p.2):=by
 unfold aset
 rw [afind_map]
 cases afind l k with
 | none=>simp
 | some j=>simp [List.map_set]
end alist
section inv
variable {P:Program} {base:Nat} {g:Ghost} {w:World} {st:St}
theorem Inv.setMap (hinv:Inv g base w st) {o:Nat} {es es':List (Value×EV)} (ho:st.objs[o]?=some (.map es)) {ms':Array MapEntry} {clock':Nat} (k1:ms'.size=es'.length)
  (k2:∀ (i:Nat) k x (m:MapEntry),es'[i]?=some (k,x)→ms'[i]?=some m→m.key=k∧EVRep g w st x m.val)
  (k3:∀ (i:Nat) (m:MapEntry),ms'[i]?=some m→m.born < clock') (k4:∀ (i j:Nat) (m m':MapEntry),ms'[i]?=some m→ms'[j]?=some m'→m.born=m'.born→i=j) :
  Inv g base { w with heap:=w.heap.setIfInBounds (g.ob o) (.map ms' clock') } (st.set o (.map es'))∧Step base g w st g { w with heap:=w.heap.setIfInBounds (g.ob o) (.map ms' clock') } (st.set o (.map es')):=by
 obtain ⟨hbase,ms,clock,hb,hl,hrep,hborn,hdist⟩:=hinv.map o _ ho
 have hblk:g.ob o < w.heap.size:=(Array.getElem?_eq_some_iff.1 hb).1
 have hset:∀ ob:Obj,({ w with heap:=w.heap.setIfInBounds (g.ob o) ob }:World).heap.size=w.heap.size:=fun ob=>by simp
 have hoth:∀ ob:Obj,∀ b,b≠g.ob o→({ w with heap:=w.heap.setIfInBounds (g.ob o) ob }:World).heap[b]?=w.heap[b]?:=fun ob b hb'=>by simp [Array.getElem?_setIfInBounds,Ne.symm hb']
 have hsame:∀ ob:Obj,({ w with heap:=w.heap.setIfInBounds (g.ob o) ob }:World).heap[g.ob o]?=some ob:=fun ob=>by simp [hblk]
 have hnoc:∀ off,w.cell? ⟨g.ob o,off,none⟩=none:=fun off=>by simp [World.cell?,hb]
 have hevo:Evo g.lim w g.lim { w with heap:=w.heap.setIfInBounds (g.ob o) (.map ms' clock') }:=by
  refine ⟨by rw [hset]; exact Nat.le_refl _,fun _ _=>Nat.le_refl _,fun b off hb' ho'=>?_⟩
  by_cases hbo:b=g.ob o
  ·subst hbo
   rw [hnoc]
   simp [World.cell?,hblk]
  ·exact World.cell?_of_block (w:=w) (a:=⟨b,off,none⟩) (hoth _ b hbo)
 have hlive:st.live o:=⟨_,ho,by simp⟩
 have hlo:o < st.objs.length:=(List.getElem?_eq_some_iff.1 ho).1
 have hs:SEvo g w st g { w with heap:=w.heap.setIfInBounds (g.ob o) (.map ms' clock') } (st.set o (.map es')) :=
  ⟨hevo,fun _ _=>rfl,by simp [St.set],fun t e sz n ht=>⟨n,ht,Nat.le_refl _,fun _=>rfl⟩,Nat.le_refl _,own_same fun _ _ _ _ h _=>⟨h,rfl⟩⟩
 have hother:∀ o' y,o'≠o→(st.set o (.map es')).objs[o']?=some y→st.objs[o']?=some y:=by
  intro o' y hne hy'
  simpa [St.set,List.getElem?_set,Ne.symm hne] using hy'
 have hrw:∀ o' y,(st.set o (.map es')).objs[o']?=some (.raw y)→base≤g.ob o'∧g.lim (g.ob o')=0∧(w.heap.setIfInBounds (g.ob o) (.map ms' clock'))[g.ob o']?=some y:=by
  intro o' y hx'
  have hne:o'≠o:=by
   rintro rfl
   simp [St.set,hlo] at hx'
  have hy':=hother o' _ hne hx'
  obtain ⟨h1,h2,h3⟩:=hinv.raw o' y hy'
  have hne':=hinv.ne o' o hne ⟨_,hy',by simp⟩ hlive
  exact ⟨h1,h2,by rw [hoth _ _ hne']; exact h3⟩
 refine ⟨⟨by rw [hset]; exact hinv.base,?_,?_,hrw,?_,?_,hinv.tailNe,?_,hinv.glob.below ⟨rfl,rfl,rfl,by rw [hset]; exact Nat.le_refl _,fun b hb'=>hoth _ b (by omega)⟩,?_⟩,⟨hs,⟨rfl,rfl,rfl,by rw [hset]; exact Nat.le_refl _,fun b hb'=>hoth _ b (by omega)⟩,fun _ _=>rfl,
   fun b _ hn=>⟨hoth _ b (fun e=>hn (.inl ⟨o,hlive,e.symm⟩)),rfl⟩,fun b _ hw=>hw.elim (fun ⟨o',a1,a2⟩=>.inl ⟨o',live_set hlive a1,a2⟩) .inr⟩⟩
 ·intro o' ty' cs hx'
  have hne:o'≠o:=by
   rintro rfl
   simp [St.set,hlo] at hx'
  have hy':=hother o' _ hne hx'
  obtain ⟨h1,h2,vs,h3,h4,h5⟩:=hinv.row o' ty' cs hy'
  have hne':=hinv.ne o' o hne ⟨_,hy',by simp⟩ hlive
  exact ⟨h1,h2,vs,by rw [hoth _ _ hne']; exact h3,h4,fun i c u hc hu=>⟨(h5 i c u hc hu).1.mono hs,(h5 i c u hc hu).2⟩⟩
 ·intro o' es2 hx'
  by_cases hne:o'=o
  ·subst hne
   have hes:es'=es2:=by simpa [St.set,hlo] using hx'
   subst hes
   exact ⟨hbase,ms',clock',hsame _,k1,fun i kk yy m hm1 hm2=>⟨(k2 i kk yy m hm1 hm2).1,(k2 i kk yy m hm1 hm2).2.mono hs⟩,k3,k4⟩
  ·have hy':=hother o' _ hne hx'
   obtain ⟨h1,ms2,c2,h3,h4,h5,h6⟩:=hinv.map o' es2 hy'
   have hne':=hinv.ne o' o hne ⟨_,hy',by simp⟩ hlive
   exact ⟨h1,ms2,c2,by rw [hoth _ _ hne']; exact h3,h4,fun i kk yy m a b=>⟨(h5 i kk yy m a b).1,(h5 i kk yy m a b).2.mono hs⟩,h6⟩
 ·exact fun o1 o2 hne h1 h2=>hinv.ne o1 o2 hne (live_set hlive h1) (live_set hlive h2)
 ·intro t' e' sz' n' ht'
  obtain ⟨xs,h1,h2⟩:=hinv.tail t' e' sz' n' ht'
  exact ⟨xs,ownsRow_keep h1 fun b hb'=>hoth _ b fun e=>hinv.tailObj t' _ o ht' hlive (by rw [hb',e]),h2⟩
 ·exact fun t' x' o' ht' hl'=>hinv.tailObj t' x' o' ht' (live_set hlive hl')
 ·intro t' e' sz' n' rows ht'
  obtain ⟨xs,h1,h2,h3⟩:=hinv.own t' e' sz' n' rows ht'
  exact ⟨xs,ownsRow_keep h1 fun b hb'=>hoth _ b fun e=>hinv.tailObj t' _ o ht' hlive (by rw [hb',e]),h2,h3.mono hevo⟩
end inv
section rules
variable {P:Program} {base:Nat} {env:Env} {st:St} {d:Option Tmp} {ty:TypeId} {pos:String} {after:Array Edge} {gd:Option (Nat×Bool)} {t t2 e key:TypeId} {x y z:Operand}
 {κ α:Type} [BEq κ] [LawfulBEq κ]
theorem encE_keys {g:Ghost} {w:World} {st:St} {l:List (κ×EV)} {ke:κ→Value} {ms:Array MapEntry} (hl:ms.size=(encE ke l).length)
  (h:∀ (i:Nat) k x (m:MapEntry),(encE ke l)[i]?=some (k,x)→ms[i]?=some m→m.key=k∧EVRep g w st x m.val):ms.toList.map (·.key)=l.map fun p=>ke p.1:=by
 apply List.ext_getElem?
 intro i
 rw [List.getElem?_map,List.getElem?_map]
 have hlen:ms.size=l.length:=by simpa [encE] using hl
 by_cases hi:i < l.length
 ·have h1:ms[i]?=some (ms[i]'(by omega)):=Array.getElem?_eq_getElem (by omega)
  have h2:l[i]?=some l[i]:=List.getElem?_eq_getElem hi
  have h3:=(h i (ke l[i].1) l[i].2 _ (by simp [encE,h2]) h1).1
  rw [h2,Array.getElem?_toList,h1]
  simp [h3]
 ·rw [List.getElem?_eq_none (by simp; omega),List.getElem?_eq_none (by omega)]; rfl
theorem lookup_core (K:KeyF P key κ) {o:Nat} {l:List (κ×EV)} {k:κ} {dk:D} {inf:TypeInfo} {zv:Value} {c:Bool} (ht:P.underlying t=some (.map key e)) (hi:P.info? e=some inf) (hz:inf.zero=some zv)
  (hx:evo env x=some (.mp o)) (ho:st.objs[o]?=some (.map (encE K.ke l))) (hy:evo env y=some (.d dk)) (hk:∀ lim w v,DRep lim w dk v→v=K.ke k)
  {g:Ghost} {w:World} {tmps:Array Value} (hinv:Inv g base w st) (he:EnvRep g w st env tmps) :
  ∃ v,(match alook l k with | some x=>EVRep g w st x v | none=>v=zv) ∧
   ∀ w',Below w.heap.size w w'→(execOp (Act.eval ⟨tmps,[]⟩) ⟨d,.lookup t x y c,ty,pos,after,gd⟩).run P w'=.ok (.value (if c=true then .tuple #[v,.bool (alook l k).isSome] else v)) w':=by
 have hxr:=evo_rep he hx
 generalize hv:Act.eval ⟨tmps,[]⟩ x=v at hxr
 have hyv:Act.eval ⟨tmps,[]⟩ y=K.ke k:=by
  have:=evo_rep he hy
  cases this with | d _ _ h=>exact hk _ _ _ h
 cases hxr with
 | mp _ hlt =>
  obtain ⟨_,ms,clock,hb,hl,hrep,_⟩:=hinv.map o _ ho
  have hkeys:=encE_keys hl hrep
  have hblk:g.ob o < w.heap.size:=(Array.getElem?_eq_some_iff.1 hb).1
  rw [alook_afind]
  cases hf:afind l k with
  | none =>
   refine ⟨zv,rfl,fun w' hb'=>?_⟩
   have hb2:w'.heap[g.ob o]?=some (.map ms clock):=(hb'.block _ hblk).trans hb
   have hfk:=K.find k l ms.toList w' hkeys
   rw [hf] at hfk
   simp [execOp,hv,hyv,Instr.lookup,run_underlying ht,getObj,Sem.run,hb2,K.check,hfk,zero_run hi hz]
  | some j =>
   have hj:=afind_lt hf
   have hlen:ms.size=l.length:=by simpa [encE] using hl
   have h1:ms[j]?=some (ms[j]'(by omega)):=Array.getElem?_eq_getElem (by omega)
   have h2:l[j]?=some l[j]:=List.getElem?_eq_getElem hj
   have h3:=(hrep j (K.ke l[j].1) l[j].2 _ (by simp [encE,h2]) h1).2
   simp only [Option.bind_some,h2,Option.map_some,Option.isSome_some]
   refine ⟨(ms[j]'(by omega)).val,h3,fun w' hb'=>?_⟩
   have hb2:w'.heap[g.ob o]?=some (.map ms clock):=(hb'.block _ hblk).trans hb
   have hfk:=K.find k l ms.toList w' hkeys
   rw [hf] at hfk
   have h1':ms.toList[j]?=some (ms[j]'(by omega)):=by rw [Array.getElem?_toList]; exact h1
   simp only [Option.bind_some,h1',Option.map_some] at hfk
   simp [execOp,hv,hyv,Instr.lookup,run_underlying ht,getObj,Sem.run,hb2,K.check,hfk]
theorem pair_rep {g:Ghost} {w:World} {st:St} {u:Value} {b:Bool} {c:D} (h:EVRep g w st (.d c) u):EVRep g w st (.d (.tup [c,.ex (.bool b)])) (.tuple #[u,.bool b]):=by
 have h':DRep g.lim w c u:=by cases h with | d _ _ h=>exact h
 refine .d _ _ (.tup _ _ rfl ?_)
 intro i c' u' hc hu
 match i with
 | 0=>simp at hc hu; subst hc; subst hu; exact h'
 | 1=>simp at hc hu; subst hc; subst hu; exact .ex _
 | n+2=>simp at hc
theorem alook_valE {val:α→D} {l:List (κ×α)} {k:κ}:alook (valE val l) k=(alook l k).map fun a=>.d (val a):=alook_map (fun a=>EV.d (val a)) l k
theorem q_lookupD (K:KeyF P key κ) {o:Nat} {l:List (κ×α)} {val:α→D} {k:κ} {dk:D} {inf:TypeInfo} {zv:Value} {a0:α} (ht:P.underlying t=some (.map key e)) (hi:P.info? e=some inf) (hz:inf.zero=some zv) (hz0:DLe (cv zv) (val a0))
  (hx:evo env x=some (.mp o)) (ho:st.objs[o]?=some (.map (mEnc K.ke val l))) (hy:evo env y=some (.d dk)) (hk:∀ lim w v,DRep lim w dk v→v=K.ke k) :
  OpQ P env st ⟨d,.lookup t x y false,ty,pos,after,gd⟩ (.d (val ((alook l k).getD a0))):=by
 intro g base w tmps hinv he
 rw [mEnc_eq] at ho
 obtain ⟨v,h1,h2⟩:=lookup_core (c:=false) (d:=d) (ty:=ty) (pos:=pos) (after:=after) (gd:=gd) K ht hi hz hx ho hy hk hinv he
 rw [alook_valE] at h1
 refine ⟨v,?_,fun w' hb=>by simpa using h2 w' hb⟩
 cases hl:alook l k with
 | none=>rw [hl] at h1; simp only [Option.map_none] at h1; subst h1; exact .d _ _ (hz0 _ _ _ (cv_rep g.lim w v))
 | some a=>rw [hl] at h1; exact h1
theorem q_lookupOkD (K:KeyF P key κ) {o:Nat} {l:List (κ×α)} {val:α→D} {k:κ} {dk:D} {inf:TypeInfo} {zv:Value} {a0:α} (ht:P.underlying t=some (.map key e)) (hi:P.info? e=some inf) (hz:inf.zero=some zv) (hz0:DLe (cv zv) (val a0))
  (hx:evo env x=some (.mp o)) (ho:st.objs[o]?=some (.map (mEnc K.ke val l))) (hy:evo env y=some (.d dk)) (hk:∀ lim w v,DRep lim w dk v→v=K.ke k) :
  OpQ P env st ⟨d,.lookup t x y true,ty,pos,after,gd⟩ (.d (.tup [val ((alook l k).getD a0),.ex (.bool (alook l k).isSome)])):=by
 intro g base w tmps hinv he
 rw [mEnc_eq] at ho
 obtain ⟨v,h1,h2⟩:=lookup_core (c:=true) (d:=d) (ty:=ty) (pos:=pos) (after:=after) (gd:=gd) K ht hi hz hx ho hy hk hinv he
 rw [alook_valE] at h1 h2
 refine ⟨_,?_,h2⟩
 rw [if_pos rfl]
 cases hl:alook l k with
 | none=>rw [hl] at h1; simp only [Option.map_none] at h1; subst h1; exact pair_rep (.d _ _ (hz0 _ _ _ (cv_rep g.lim w v)))
 | some a=>rw [hl] at h1; exact pair_rep h1
theorem update_core (K:KeyF P key κ) {o:Nat} {l:List (κ×EV)} {k:κ} {dk:D} {ev:EV} (ht:P.underlying t=some (.map key e)) (hx:evo env x=some (.mp o)) (ho:st.objs[o]?=some (.map (encE K.ke l)))
  (hy:evo env y=some (.d dk)) (hk:∀ lim w v,DRep lim w dk v→v=K.ke k) {g:Ghost} {w:World} {tmps:Array Value} (hinv:Inv g base w st) (he:EnvRep g w st env tmps) (hz:EVRep g w st ev (Act.eval ⟨tmps,[]⟩ z)) :
  ∃ w',(Instr.mapUpdate t (Act.eval ⟨tmps,[]⟩ x) (Act.eval ⟨tmps,[]⟩ y) (Act.eval ⟨tmps,[]⟩ z)).run P w=.ok () w'∧Inv g base w' (st.set o (.map (encE K.ke (aset l k ev))))∧Step base g w st g w' (st.set o (.map (encE K.ke (aset l k ev)))):=by
 have hxr:=evo_rep he hx
 generalize hv:Act.eval ⟨tmps,[]⟩ x=v at hxr
 have hyv:Act.eval ⟨tmps,[]⟩ y=K.ke k:=by
  have:=evo_rep he hy
  cases this with | d _ _ h=>exact hk _ _ _ h
 generalize hu:Act.eval ⟨tmps,[]⟩ z=u at hz
 cases hxr with
 | mp _ hlt =>
  obtain ⟨hbase,ms,clock,hb,hl,hrep,hborn,hdist⟩:=hinv.map o _ ho
  have hkeys:=encE_keys hl hrep
  have hblk:g.ob o < w.heap.size:=(Array.getElem?_eq_some_iff.1 hb).1
  have hlen:ms.size=l.length:=by simpa [encE] using hl
  have hfk:=K.find k l ms.toList w hkeys
  have fin:∀ (ms':Array MapEntry) (clock':Nat),ms'.size=(aset l k ev).length →
    (∀ (i:Nat) (p:κ×EV) (m:MapEntry),(aset l k ev)[i]?=some p→ms'[i]?=some m→m.key=K.ke p.1∧EVRep g w st p.2 m.val) →
    (∀ (i:Nat) (m:MapEntry),ms'[i]?=some m→m.born < clock')→(∀ (i j:Nat) (m m':MapEntry),ms'[i]?=some m→ms'[j]?=some m'→m.born=m'.born→i=j) →
    (Instr.mapUpdate t (.map (some (g.ob o))) (K.ke k) u).run P w=.ok () { w with heap:=w.heap.setIfInBounds (g.ob o) (.map ms' clock') } →
    ∃ w',(Instr.mapUpdate t (.map (some (g.ob o))) (Act.eval ⟨tmps,[]⟩ y) u).run P w=.ok () w'∧Inv g base w' (st.set o (.map (encE K.ke (aset l k ev))))∧Step base g w st g w' (st.set o (.map (encE K.ke (aset l k ev)))):=by
   intro ms' clock' k1 k2 k3 k4 k5
   obtain ⟨q1,q2⟩:=hinv.setMap (es':=encE K.ke (aset l k ev)) ho (ms':=ms') (clock':=clock') (by simpa [encE] using k1) (fun i kk yy m hm1 hm2=>by
    simp only [encE,List.getElem?_map] at hm1
    cases hp:(aset l k ev)[i]? with
    | none=>rw [hp] at hm1; cases hm1
    | some p=>rw [hp] at hm1; cases hm1; exact k2 i p m hp hm2) k3 k4
   exact ⟨_,by rw [hyv]; exact k5,q1,q2⟩
  cases hf:afind l k with
  | none =>
   rw [hf] at hfk
   simp only [Option.bind_none] at hfk
   have haset:aset l k ev=l++[(k,ev)]:=by unfold aset; rw [hf]
   refine fin (ms.push ⟨K.ke k,u,clock⟩) (clock+1) (by simp [haset,hlen]) ?_ ?_ ?_ ?_
   ·intro i p m hp hm
    rw [haset] at hp
    by_cases hi:i < l.length
    ·rw [List.getElem?_append_left hi] at hp
     rw [Array.getElem?_push_lt (by omega)] at hm
     exact hrep i (K.ke p.1) p.2 m (by simp [encE,hp]) (by rw [Array.getElem?_eq_getElem (by omega)]; exact hm)
    ·have hi':i=l.length:=by
      have:=(List.getElem?_eq_some_iff.1 hp).1
      simp at this
      omega
     subst hi'
     simp at hp
     subst hp
     rw [←hlen] at hm
     simp at hm
     subst hm
     exact ⟨rfl,hz⟩
   ·intro i m hm
    by_cases hi:i < ms.size
    ·rw [Array.getElem?_push_lt hi] at hm
     have:=hborn i m (by rw [Array.getElem?_eq_getElem hi]; exact hm)
     omega
    ·have hlt':=(Array.getElem?_eq_some_iff.1 hm).1
     simp at hlt'
     have:i=ms.size:=by omega
     subst this
     simp at hm
     subst hm
     exact Nat.lt_succ_self _
   ·intro i j m m' hm hm' hbb
    have get:∀ (i:Nat) m,(ms.push ⟨K.ke k,u,clock⟩)[i]?=some m→(i < ms.size∧ms[i]?=some m)∨(i=ms.size∧m.born=clock):=by
     intro i m hm
     by_cases hi:i < ms.size
     ·rw [Array.getElem?_push_lt hi] at hm
      exact .inl ⟨hi,by rw [Array.getElem?_eq_getElem hi]; exact hm⟩
     ·have hlt':=(Array.getElem?_eq_some_iff.1 hm).1
      simp at hlt'
      have:i=ms.size:=by omega
      subst this
      simp at hm
      subst hm
      exact .inr ⟨rfl,rfl⟩
    rcases get i m hm with ⟨h1,h2⟩ | ⟨h1,h2⟩ <;> rcases get j m' hm' with ⟨h3,h4⟩ | ⟨h3,h4⟩
    ·exact hdist i j m m' h2 h4 hbb
    ·have:=hborn i m h2; omega
    ·have:=hborn j m' h4; omega
    ·omega
   ·simp [Instr.mapUpdate,run_underlying ht,getObj,setObj,Sem.run,hb,K.check,hfk]
  | some j =>
   have hj:=afind_lt hf
   have haset:aset l k ev=l.set j (k,ev):=by unfold aset; rw [hf]
   have hlj:(k==l[j].1)=true:=by
    unfold afind at hf
    rw [List.findIdx?_eq_some_iff_getElem] at hf
    exact hf.2.1
   have hkj:k=l[j].1:=eq_of_beq hlj
   have h1:ms[j]?=some (ms[j]'(by omega)):=Array.getElem?_eq_getElem (by omega)
   have h1':ms.toList[j]?=some (ms[j]'(by omega)):=by rw [Array.getElem?_toList]; exact h1
   rw [hf] at hfk
   simp only [Option.bind_some,h1',Option.map_some] at hfk
   have hkey:(ms[j]'(by omega)).key=K.ke k:=by
    have:=(hrep j (K.ke l[j].1) l[j].2 _ (by simp [encE,List.getElem?_eq_getElem hj]) h1).1
    rw [this,hkj]
   have hmod:∀ (i:Nat) m,(ms.modify j fun e=>{ e with key:=K.ke k,val:=u })[i]?=some m→(i=j∧m={ (ms[j]'(by omega)) with key:=K.ke k,val:=u })∨(i≠j∧ms[i]?=some m):=by
    intro i m hm
    rw [Array.getElem?_modify] at hm
    by_cases hij:j=i
    ·subst hij
     rw [if_pos rfl,h1] at hm
     cases hm
     exact .inl ⟨rfl,rfl⟩
    ·rw [if_neg hij] at hm
     exact .inr ⟨Ne.symm hij,hm⟩
   refine fin (ms.modify j fun e=>{ e with key:=K.ke k,val:=u }) clock (by simp [haset,hlen]) ?_ ?_ ?_ ?_
   ·intro i p m hp hm
    rw [haset,List.getElem?_set] at hp
    rcases hmod i m hm with ⟨rfl,rfl⟩ | ⟨hne,hm'⟩
    ·rw [if_pos rfl] at hp
     simp [hj] at hp
     subst hp
     exact ⟨rfl,hz⟩
    ·rw [if_neg (Ne.symm hne)] at hp
     exact hrep i (K.ke p.1) p.2 m (by simp [encE,hp]) hm'
   ·intro i m hm
    rcases hmod i m hm with ⟨rfl,rfl⟩ | ⟨hne,hm'⟩
    ·exact hborn _ (ms[i]'(by omega)) h1
    ·exact hborn _ _ hm'
   ·intro i i' m m' hm hm' hbb
    rcases hmod i m hm with ⟨rfl,rfl⟩ | ⟨hne,h2⟩ <;> rcases hmod i' m' hm' with ⟨rfl,rfl⟩ | ⟨hne',h2'⟩
    ·rfl
    ·exact hdist _ _ (ms[i]'(by omega)) _ h1 h2' hbb
    ·exact hdist _ _ _ (ms[i']'(by omega)) h2 h1 hbb
    ·exact hdist _ _ _ _ h2 h2' hbb
   ·have hbits:Instr.sameBits 10000 (K.ke k) (K.ke k)=true:=K.bits k
    simp [Instr.mapUpdate,run_underlying ht,getObj,setObj,Sem.run,hb,K.check,hfk,Instr.keyThatStays,h1,hkey,hbits]
theorem u_mapUpdateE (K:KeyF P key κ) {o:Nat} {l:List (κ×EV)} {k:κ} {dk:D} {ev:EV} (ht:P.underlying t=some (.map key e)) (hx:evo env x=some (.mp o)) (ho:st.objs[o]?=some (.map (encE K.ke l)))
  (hy:evo env y=some (.d dk)) (hk:∀ lim w v,DRep lim w dk v→v=K.ke k) (hz:evo env z=some ev) :
  OpU P base env st ⟨d,.mapUpdate t x y z,ty,pos,after,gd⟩ (st.set o (.map (encE K.ke (aset l k ev)))):=by
 intro g w tmps hinv he
 obtain ⟨w',h1,h2,h3⟩:=update_core (z:=z) K ht hx ho hy hk hinv he (evo_rep he hz)
 exact ⟨g,w',by simp [execOp,h1],h2,h3⟩
theorem u_mapUpdateD (K:KeyF P key κ) {o:Nat} {l:List (κ×α)} {val:α→D} {k:κ} {dk:D} {a:α} {ev:EV} (ht:P.underlying t=some (.map key e)) (hx:evo env x=some (.mp o)) (ho:st.objs[o]?=some (.map (mEnc K.ke val l)))
  (hy:evo env y=some (.d dk)) (hk:∀ lim w v,DRep lim w dk v→v=K.ke k) (hz:evo env z=some ev) (hle:EVle ev (.d (val a))) :
  OpU P base env st ⟨d,.mapUpdate t x y z,ty,pos,after,gd⟩ (st.set o (.map (mEnc K.ke val (aset l k a)))):=by
 intro g w tmps hinv he
 rw [mEnc_eq] at ho
 obtain ⟨w',h1,h2,h3⟩:=update_core (z:=z) K ht hx ho hy hk hinv he (hle _ _ _ _ (evo_rep he hz))
 have hs:encE K.ke (aset (valE val l) k (.d (val a)))=mEnc K.ke val (aset l k a):=by
  rw [mEnc_eq]; unfold valE; rw [aset_map (fun a=>EV.d (val a))]
 rw [hs] at h2 h3
 exact ⟨g,w',by simp [execOp,h1],h2,h3⟩
theorem v_deleteD (K:KeyF P key κ) {o:Nat} {l:List (κ×α)} {val:α→D} {k:κ} {dk:D} (ht:P.underlying t=some (.map key e)) (hx:evo env x=some (.mp o)) (ho:st.objs[o]?=some (.map (mEnc K.ke val l)))
  (hy:evo env y=some (.d dk)) (hk:∀ lim w v,DRep lim w dk v→v=K.ke k) :
  OpV P base env st ⟨d,.call ⟨.builtin .delete,#[x,y],#[t,t2]⟩,ty,pos,after,gd⟩ (.d (.tup [])) (st.set o (.map (mEnc K.ke val (aerase l k)))):=by
 intro g w tmps hinv he
 have hxr:=evo_rep he hx
 generalize hv:Act.eval ⟨tmps,[]⟩ x=v at hxr
 have hyv:Act.eval ⟨tmps,[]⟩ y=K.ke k:=by
  have:=evo_rep he hy
  cases this with | d _ _ h=>exact hk _ _ _ h
 cases hxr with
 | mp _ hlt =>
  obtain ⟨hbase,ms,clock,hb,hl,hrep,hborn,hdist⟩:=hinv.map o _ ho
  have hkeys:=map_keys hl hrep
  have hblk:g.ob o < w.heap.size:=(Array.getElem?_eq_some_iff.1 hb).1
  have hlen:ms.size=l.length:=by simpa [mEnc] using hl
  have hfk:=K.find k l ms.toList w hkeys
  have fin:∀ (ms':Array MapEntry),ms'.size=(aerase l k).length →
    (∀ (i:Nat) (p:κ×α) (m:MapEntry),(aerase l k)[i]?=some p→ms'[i]?=some m→m.key=K.ke p.1∧EVRep g w st (.d (val p.2)) m.val) →
    (∀ (i:Nat) (m:MapEntry),ms'[i]?=some m→m.born < clock)→(∀ (i j:Nat) (m m':MapEntry),ms'[i]?=some m→ms'[j]?=some m'→m.born=m'.born→i=j) →
    (execOp (Act.eval ⟨tmps,[]⟩) ⟨d,.call ⟨.builtin .delete,#[x,y],#[t,t2]⟩,ty,pos,after,gd⟩).run P w=.ok (.value (.tuple #[])) { w with heap:=w.heap.setIfInBounds (g.ob o) (.map ms' clock) } →
    ∃ v g' w',(execOp (Act.eval ⟨tmps,[]⟩) ⟨d,.call ⟨.builtin .delete,#[x,y],#[t,t2]⟩,ty,pos,after,gd⟩).run P w=.ok (.value v) w'∧EVRep g' w' (st.set o (.map (mEnc K.ke val (aerase l k)))) (.d (.tup [])) v∧Inv g' base w' (st.set o (.map (mEnc K.ke val (aerase l k))))∧Step base g w st g' w' (st.set o (.map (mEnc K.ke val (aerase l k)))):=by
   intro ms' k1 k2 k3 k4 k5
   obtain ⟨q1,q2⟩:=hinv.setMap (es':=mEnc K.ke val (aerase l k)) ho (ms':=ms') (clock':=clock) (by simpa [mEnc] using k1) (fun i kk yy m hm1 hm2=>by
    simp only [mEnc,List.getElem?_map] at hm1
    cases hp:(aerase l k)[i]? with
    | none=>rw [hp] at hm1; cases hm1
    | some p=>rw [hp] at hm1; cases hm1; exact k2 i p m hp hm2) k3 k4
   exact ⟨_,g,_,k5,.d _ _ (.tup _ _ rfl (fun i c u h=>by simp at h)),q1,q2⟩
  cases hf:afind l k with
  | none =>
   rw [hf] at hfk
   simp only [Option.bind_none] at hfk
   have her:aerase l k=l:=by unfold aerase; rw [hf]
   refine fin ms (by rw [her,hlen]) (fun i p m hp hm=>?_) hborn hdist ?_
   ·rw [her] at hp
    exact hrep i (K.ke p.1) (.d (val p.2)) m (by simp [mEnc,hp]) hm
   ·simp [execOp,resolve,invoke,builtin,hv,hyv,Builtin.delete_,run_underlying ht,getObj,setObj,Sem.run,hb,K.check,hfk]
  | some j =>
   have hj:=afind_lt hf
   have her:aerase l k=l.eraseIdx j:=by unfold aerase; rw [hf]
   have h1:ms[j]?=some (ms[j]'(by omega)):=Array.getElem?_eq_getElem (by omega)
   have h1':ms.toList[j]?=some (ms[j]'(by omega)):=by rw [Array.getElem?_toList]; exact h1
   rw [hf] at hfk
   simp only [Option.bind_some,h1',Option.map_some] at hfk
   have hms:ms.eraseIdxIfInBounds j=(ms.toList.eraseIdx j).toArray:=by
    apply Array.toList_inj.1
    unfold Array.eraseIdxIfInBounds
    rw [dif_pos (by omega)]
    simp
   have hget:∀ (i:Nat) m,(ms.eraseIdxIfInBounds j)[i]?=some m→ms[if i < j then i else i+1]?=some m:=by
    intro i m hm
    rw [hms] at hm
    simp only [List.getElem?_toArray,List.getElem?_eraseIdx,Array.getElem?_toList] at hm
    split at hm
    ·rename_i h; rw [if_pos h]; exact hm
    ·rename_i h; rw [if_neg h]; exact hm
   refine fin (ms.eraseIdxIfInBounds j) ?_ (fun i p m hp hm=>?_) (fun i m hm=>hborn _ m (hget i m hm)) (fun i i' m m' hm hm' hbb=>?_) ?_
   ·rw [her,hms]
    simp [List.length_eraseIdx,hlen,hj]
   ·rw [her,List.getElem?_eraseIdx] at hp
    have hm':=hget i m hm
    split at hp
    ·rename_i h; rw [if_pos h] at hm'; exact hrep i (K.ke p.1) (.d (val p.2)) m (by simp [mEnc,hp]) hm'
    ·rename_i h; rw [if_neg h] at hm'; exact hrep (i+1) (K.ke p.1) (.d (val p.2)) m (by simp [mEnc,hp]) hm'
   ·have:=hdist _ _ m m' (hget i m hm) (hget i' m' hm') hbb
    split at this <;> split at this <;> omega
   ·simp [execOp,resolve,invoke,builtin,hv,hyv,Builtin.delete_,run_underlying ht,getObj,setObj,Sem.run,hb,K.check,hfk]
end rules
section lit
variable {P:Program} {f:Ctx} {N:Nat} {S:Start} {Q:EV→St→Prop} {k:List Item} {κ:Type} [BEq κ] [LawfulBEq κ] {key:TypeId}
theorem ARun.split {todo:List Item} {env:Env} {st:St} (b:Bool) (ht:b=true→ARun P f N S Q todo env st) (hf:b=false→ARun P f N S Q todo env st):ARun P f N S Q todo env st:=by
 cases hb:b with
 | true=>exact ht hb
 | false=>exact hf hb
def MStep (P:Program) (N:Nat) (l:List Oper) (m:Nat) (t:TypeId) (K:KeyF P key κ) (ins:List (Nat×κ×EV)) (st0:St) (i:Nat) (o:Oper) (env:Env) (x:EV):Prop :=
  dstOk N o.dst=true ∧
  (((Nat.beq i m || ins.any fun e=>Nat.beq e.1 i)=false∧∀ st,(st=st0∨∃ es,st=st0.add (.map es))→OpAny P l env st o x) ∨
   (i=m∧o.guard=none∧x=.mp st0.objs.length∧∃ t,o.op=.makeMap t none) ∨
   (∃ kk v dk a b c,(i,kk,v)∈ins∧x=.d .any∧o.guard=none∧o.op=.insert t a b c∧evo env a=some (.mp st0.objs.length)∧evo env b=some (.d dk)∧(∀ lim w v,DRep lim w dk v→v=K.ke kk)∧evo env c=some v ∧
      ((masks l []).getD i 0).testBit m=true))
def MChain (P:Program) (N:Nat) (l:List Oper) (m:Nat) (t:TypeId) (K:KeyF P key κ) (ins:List (Nat×κ×EV)) (st0:St):Nat→List Oper→List EV→Env→Prop
 | _,[],[],_=>True
 | i,o :: os,x :: xs,env=>MStep P N l m t K ins st0 i o (renv l o env) x∧MChain P N l m t K ins st0 (i+1) os xs (env.put o.dst x)
 | _,_,_,_=>False
def MOps (P:Program) (f:Ctx) (N:Nat) (S:Start) (Q:EV→St→Prop) (l:List Oper) (p m:Nat) (t:TypeId) (K:KeyF P key κ) (ins:List (Nat×κ×EV)) (i:Nat) (os:List Oper) (k:List Item) (env:Env) (st:St):Prop :=
 ∃ xs,MChain P N l m t K ins st i os xs env∧∀ es,es.Perm (ins.map (·.2))→AOps P f N S Q l (l.drop p) k (putAll env os xs) (st.add (.map (encE K.ke es)))
variable {l:List Oper} {p m:Nat} {t:TypeId} {K:KeyF P key κ} {ins:List (Nat×κ×EV)} {i:Nat} {os:List Oper} {env:Env} {st:St} {d:Option Tmp} {op:Op} {ty:TypeId} {pos:String} {after:Array Edge} {x:EV}
theorem MOps.g (h:∀ s,(s=st∨∃ es,s=st.add (.map es))→OpG P (renv l ⟨d,op,ty,pos,after,none⟩ env) s ⟨d,op,ty,pos,after,none⟩ x) (hb:(Nat.beq i m || ins.any fun e=>Nat.beq e.1 i)=false) (hd:dstOk N d=true)
  (hk:MOps P f N S Q l p m t K ins (i+1) os k (env.put d x) st):MOps P f N S Q l p m t K ins i (⟨d,op,ty,pos,after,none⟩ :: os) k env st:=by
 obtain ⟨xs,h1,h2⟩:=hk
 exact ⟨x :: xs,⟨⟨hd,.inl ⟨hb,fun s hs=>.inl ⟨rfl,h s hs⟩⟩⟩,h1⟩,h2⟩
theorem MOps.q (h:∀ s,(s=st∨∃ es,s=st.add (.map es))→OpQ P (renv l ⟨d,op,ty,pos,after,none⟩ env) s ⟨d,op,ty,pos,after,none⟩ x) (hb:(Nat.beq i m || ins.any fun e=>Nat.beq e.1 i)=false) (hd:dstOk N d=true)
  (hk:MOps P f N S Q l p m t K ins (i+1) os k (env.put d x) st):MOps P f N S Q l p m t K ins i (⟨d,op,ty,pos,after,none⟩ :: os) k env st:=.g (fun s hs=>(h s hs).g) hb hd hk
end lit
structure Sched (l:List Oper) (p:Nat) (σ:List Nat):Prop where
 nodup:σ.Nodup
 mem:∀ i,i∈σ↔i < p
 mask:∀ pre i post,σ=pre++i :: post→∀ j,((masks l []).getD i 0).testBit j=true→j∈pre
theorem lin_main {l:List Oper} {p:Nat} (hp:p≤l.length)
  (hord:∀ i,p≤i→i < l.length→∀ j,j < i→((masks l []).getD i 0).testBit j=true)
  (hacyc:∀ (i:Nat) o,l[i]?=some o→∀ e∈o.after,Region.binds .any e=true→e.on < i) :
  ∀ (cnt fuel t:Nat) (listed:Array Bool),listed.size=l.length→Closed l listed→(∀ i,p≤i→i < l.length→listed.getD i true=false) →
   (((List.range p).filter fun i=>!listed.getD i true).length=cnt)→cnt+(l.length-p)≤fuel →
   ∃ σ:List Nat,Region.linearise.go .any l.toArray fuel t listed []=σ++List.range' p (l.length-p)∧σ.Nodup∧(∀ i,i∈σ↔i < p∧listed.getD i true=false) ∧
    ∀ pre i post,σ=pre++i :: post→∀ j,((masks l []).getD i 0).testBit j=true→j∈pre∨listed.getD j false=true:=by
 intro cnt
 induction cnt with
 | zero =>
  intro fuel t listed hs hcl hsu hcnt hfuel
  have hall:∀ i,i < p→listed.getD i true=true:=by
   intro i hi
   have h0:=List.eq_nil_of_length_eq_zero hcnt
   have hn:i ∉ (List.range p).filter fun i=>!listed.getD i true:=by rw [h0]; simp
   rw [List.mem_filter,List.mem_range] at hn
   cases hb:listed.getD i true with
   | true=>rfl
   | false=>exact absurd ⟨hi,by simp [hb]⟩ hn
  have hgo:=go_suffix hord hacyc fuel t p listed (Nat.le_refl _) hp (by omega) hs (fun i hi=>by
   by_cases h:i < p
   ·rw [hall i h]; simp [h]
   ·rw [hsu i (by omega) hi]; simp [h])
  refine ⟨[],by rw [hgo]; rfl,List.nodup_nil,fun i=>⟨fun h=>(by cases h),fun h=>?_⟩,fun pre i post h=>by simp at h⟩
  rw [hall i h.1] at h; cases h.2
 | succ cnt ih =>
  intro fuel t listed hs hcl hsu hcnt hfuel
  obtain ⟨fuel,rfl⟩:∃ n,fuel=n+1:=⟨fuel-1,by omega⟩
  -- an operation of the beginning that has not come up
  have hex:∃ i,i < p∧listed.getD i true=false:=by
   have:(List.range p).filter (fun i=>!listed.getD i true)≠[]:=fun h=>by rw [h] at hcnt; simp at hcnt
   obtain ⟨i,hi⟩:=List.exists_mem_of_ne_nil _ this
   rw [List.mem_filter,List.mem_range] at hi
   exact ⟨i,hi.1,by simpa using hi.2⟩
  have hDF:∀ i,i < l.length→listed.getD i false=listed.getD i true:=fun i hi=>by
   have hlt:i < listed.size:=by omega
   simp [Array.getD_eq_getD_getElem?,hlt]
  have hrd:((List.range l.toArray.size).filter fun i=>!listed.getD i true && ((l.toArray[i]?).map (·.after.all fun e=>!Region.binds .any e || listed.getD e.on false)).getD false)=Region.ready .any l.toArray listed:=rfl
  -- the least such is ready
  have hne:Region.ready .any l.toArray listed≠[]:=by
   have hmin:∀ n i,i≤n→i < p→listed.getD i true=false→∃ i,i < p∧listed.getD i true=false∧∀ j,j < i→listed.getD j true=true:=by
    intro n
    induction n with
    | zero=>intro i hi hp' h; exact ⟨i,hp',h,fun j hj=>by omega⟩
    | succ n ihn =>
     intro i hi hp' h
     by_cases hh':∃ j,j < i∧listed.getD j true=false
     ·obtain ⟨j,hj,hjl⟩:=hh'
      exact ihn j (by omega) (by omega) hjl
     ·refine ⟨i,hp',h,fun j hj=>?_⟩
      cases hb:listed.getD j true with
      | true=>rfl
      | false=>exact absurd ⟨j,hj,hb⟩ hh'
   obtain ⟨i0,h0,h1⟩:=hex
   obtain ⟨i,hip,hiu,hbel⟩:=hmin i0 i0 (Nat.le_refl _) h0 h1
   have hil:i < l.length:=by omega
   have:i∈Region.ready .any l.toArray listed:=by
    rw [mem_ready]
    refine ⟨hiu,l[i],by simp [hil],fun e he hb=>?_⟩
    have hlt:=hacyc i l[i] (List.getElem?_eq_getElem hil) e he hb
    rw [hDF _ (by omega)]
    exact hbel _ hlt
   intro hnil
   rw [hnil] at this
   cases this
  simp only [Region.linearise.go,hrd]
  have hlen:0 < (Region.ready .any l.toArray listed).length:=List.length_pos_iff.2 hne
  have hmod:=Nat.mod_lt t hlen
  generalize hi:(Region.ready .any l.toArray listed)[t % (Region.ready .any l.toArray listed).length]=i
  have hsome:(Region.ready .any l.toArray listed)[t % (Region.ready .any l.toArray listed).length]?=some i:=by rw [List.getElem?_eq_getElem hmod,hi]
  rw [hsome]
  simp only []
  rw [linearise_go_acc]
  have him:i∈Region.ready .any l.toArray listed:=List.mem_of_getElem? hsome
  obtain ⟨hiu,o,ho,hall⟩:=mem_ready.1 him
  have ho':l[i]?=some o:=by simpa using ho
  have hil:=(List.getElem?_eq_some_iff.1 ho').1
  have hmask:=ready_mask hcl ho' (fun e he hb=>hall e he hb)
  have hip:i < p:=by
   rcases Nat.lt_or_ge i p with h | h
   ·exact h
   ·obtain ⟨i0,h0,h1⟩:=hex
    have:=hmask i0 (hord i h hil i0 (by omega))
    rw [hDF i0 (by omega),h1] at this
    cases this
  -- what remains behind it
  have hcnt':((List.range p).filter fun j=>!(listed.setIfInBounds i true).getD j true).length=cnt:=by
   have hset:∀ j,(listed.setIfInBounds i true).getD j true=(listed.getD j true || decide (j=i)):=by
    intro j
    by_cases hji:j=i
    ·subst hji; simp [Array.getD_eq_getD_getElem?,hs,hil]
    ·rw [getD_set_ne true (Ne.symm hji)]; simp [hji]
   have hfil:((List.range p).filter fun j=>!(listed.setIfInBounds i true).getD j true)=((List.range p).filter fun j=>!listed.getD j true).filter fun j=>!decide (j=i):=by
    rw [List.filter_filter]
    refine List.filter_congr fun j _=>?_
    rw [hset j]
    cases listed.getD j true <;> simp
   rw [hfil]
   have hnd:((List.range p).filter fun j=>!listed.getD j true).Nodup:=List.nodup_range.filter _
   have hmem:i∈(List.range p).filter fun j=>!listed.getD j true:=by rw [List.mem_filter,List.mem_range]; exact ⟨hip,by simp [hiu]⟩
   have hcount:∀ (L:List Nat),L.Nodup→i∈L→(L.filter fun j=>!decide (j=i)).length+1=L.length:=by
    intro L
    induction L with
    | nil=>intro _ h; cases h
    | cons a L ihL =>
     intro hn hm
     rw [List.nodup_cons] at hn
     by_cases ha:a=i
     ·subst ha
      have:(L.filter fun j=>!decide (j=a))=L:=by
       rw [List.filter_eq_self]
       intro b hb
       have:b≠a:=fun e=>hn.1 (e▸hb)
       simp [this]
      rw [List.filter_cons]
      simp [this]
     ·have hm':i∈L:=by
       rcases List.mem_cons.1 hm with h | h
       ·exact absurd h.symm ha
       ·exact h
      rw [List.filter_cons]
      simp only [ha,decide_false,Bool.not_false,if_true,List.length_cons]
      rw [ihL hn.2 hm']
   have:=hcount _ hnd hmem
   omega
  have hcl':Closed l (listed.setIfInBounds i true):=by
   intro j oj hoj hlj e he' hb
   by_cases hji:j=i
   ·subst hji
    rw [ho'] at hoj
    cases hoj
    exact getD_set_true (hall e he' hb)
   ·rw [getD_set_ne false (Ne.symm hji)] at hlj
    exact getD_set_true (hcl j oj hoj hlj e he' hb)
  have hsu':∀ j,p≤j→j < l.length→(listed.setIfInBounds i true).getD j true=false:=fun j hj hjl=>by rw [getD_set_ne true (by omega)]; exact hsu j hj hjl
  obtain ⟨σ,h1,h2,h3,h4⟩:=ih fuel (t / (Region.ready .any l.toArray listed).length) _ (by simpa using hs) hcl' hsu' hcnt' (by omega)
  have hset:∀ j,(listed.setIfInBounds i true).getD j true=(listed.getD j true || decide (j=i)):=by
   intro j
   by_cases hji:j=i
   ·subst hji; simp [Array.getD_eq_getD_getElem?,hs,hil]
   ·rw [getD_set_ne true (Ne.symm hji)]; simp [hji]
  refine ⟨i :: σ,?_,?_,?_,?_⟩
  ·rw [h1]; rfl
  ·rw [List.nodup_cons]
   refine ⟨fun hm=>?_,h2⟩
   have:=((h3 i).1 hm).2
   rw [hset] at this
   simp at this
  ·intro j
   rw [List.mem_cons,h3,hset]
   constructor
   ·rintro (rfl | ⟨a,b⟩)
    ·exact ⟨hip,hiu⟩
    ·refine ⟨a,?_⟩
     cases hj:listed.getD j true with
     | false=>rfl
     | true=>rw [hj] at b; simp at b
   ·rintro ⟨a,b⟩
    by_cases hji:j=i
    ·exact .inl hji
    ·exact .inr ⟨a,by simp [b,hji]⟩
  ·intro pre i' post he j hj
   cases pre with
   | nil =>
    simp only [List.nil_append,List.cons.injEq] at he
    rw [←he.1] at hj
    exact .inr (hmask j hj)
   | cons a pre =>
    simp only [List.cons_append,List.cons.injEq] at he
    rcases h4 pre i' post he.2 j hj with h | h
    ·exact .inl (List.mem_cons_of_mem _ h)
    ·by_cases hji:j=i
     ·left; rw [hji,he.1]; exact List.mem_cons_self
     ·rw [getD_set_ne false (Ne.symm hji)] at h
      exact .inr h
section run
variable {P:Program} {f:Ctx} {N:Nat} {S:Start} {Q:EV→St→Prop} {k:List Item}
theorem ARun.orders {id:Nat} {l:List Oper} {env:Env} {st:St} (p:Nat) (hm:P.follows .mixedOrders=true) (hB:drawB l p=true)
  (h:∀ σ,Sched l p σ→ARun P f N S Q (.inRegion l.toArray (σ++List.range' p (l.length-p)) :: k) env st):ARun P f N S Q (.code (.region id l.toArray true) :: k) env st:=by
 simp only [drawB,Bool.and_eq_true] at hB
 obtain ⟨⟨⟨⟨hB1,hB2⟩,hB3⟩,hB4⟩,hB5⟩:=hB
 have hp:p≤l.length:=by simpa using hB5
 intro g w tmps hinv hh he hn
 refine FWP.regionDraw fun t=>?_
 have hsch:Region.schedule (P.follows .mixedOrders) l.toArray t=Region.linearise .any l.toArray t:=by simp [Region.schedule,hm]
 rw [hsch]
 have hb:Below w.heap.size w { w with drawn:=w.drawn+1 }:=(Below.refl _ w).drew
 obtain ⟨hinv',hst⟩:=hinv.grow (g':=g) hb (fun _ _=>rfl) rfl rfl
 unfold Region.linearise
 obtain ⟨σ,h1,h2,h3,h4⟩:=lin_main (l:=l) (p:=p) hp (fun i hi hil j hj=>by
   have h1:=allBelow_get hB3 hil
   simp only [Bool.or_eq_true,decide_eq_true_eq] at h1
   rcases h1 with h1 | h1
   ·omega
   ·exact allBelow_get h1 hj) (fun i o ho e he' hb'=>by
   have hil:=(List.getElem?_eq_some_iff.1 ho).1
   have h1:=allBelow_get hB4 hil
   rw [ho] at h1
   simp only [List.all_eq_true] at h1
   have:=h1 e (by simpa using he')
   simpa [hb'] using this) p l.toArray.size t (Array.replicate l.toArray.size false) (by simp) (fun i o ho hli=>by
   simp [Array.getD_eq_getD_getElem?,Array.getElem?_replicate] at hli
   split at hli <;> simp_all) (fun i hi hil=>by simp [Array.getD_eq_getD_getElem?,Array.getElem?_replicate,hil]) (by
   have:((List.range p).filter fun i=>!(Array.replicate l.toArray.size false).getD i true)=List.range p:=by
    rw [List.filter_eq_self]
    intro i hi
    have hi':=List.mem_range.1 hi
    have:i < l.length:=by omega
    simp [Array.getD_eq_getD_getElem?,Array.getElem?_replicate,this]
   rw [this]; simp) (by simp; omega)
 rw [h1]
 refine h σ ⟨h2,fun i=>?_,fun pre i post he j hj=>?_⟩ g _ tmps hinv' (hh.step hst) (he.mono hst.sevo) hn
 ·rw [h3]
  constructor
  ·exact fun h=>h.1
  ·intro hi
   have:i < l.length:=by omega
   exact ⟨hi,by simp [Array.getD_eq_getD_getElem?,Array.getElem?_replicate,this]⟩
 ·rcases h4 pre i post he j hj with h | h
  ·exact h
  ·simp [Array.getD_eq_getD_getElem?,Array.getElem?_replicate] at h
   split at h <;> simp_all
def OpC (P:Program) (base:Nat) (env:Env) (st:St) (o:Oper) (x:EV) (st':St):Prop :=
 ∀ g w tmps,Inv g base w st→EnvRep g w st env tmps→∃ f' args,(execOp (Act.eval ⟨tmps,[]⟩) o).run P w=.ok (.enter f' args) w ∧
  Calls P f' args w fun e w'=>∃ v g',e=.returned v∧EVRep g' w' st' x v∧Inv g' base w' st'∧Step base g w st g' w' st'
def OpF (P:Program) (base:Nat) (l:List Oper) (env:Env) (st:St) (o:Oper) (x:EV) (st':St):Prop:=OpE P base l env st o x st'∨(o.guard=none∧OpC P base env st o x st')
theorem ARun.runσ {l:List Oper} {p:Nat} {σ:List Nat} {env:Env} {st:St} (hs:Sched l p σ) (hp:p≤l.length) (xs:List EV) (F:List Nat→St→Prop)
  (hC1:∀ i j t,i < p→j < p→i≠j→dstAt l i=some t→dstAt l j≠some t)
  (hC2:∀ (i:Nat) o,i < p→l[i]?=some o→∀ t∈slots l o,∀ j,j < p→j≠i→dstAt l j=some t→(j < i∧((masks l []).getD i 0).testBit j=true)∨(i < j∧((masks l []).getD j 0).testBit i=true))
  (hxp:xs.length=p) (hF0:F [] st)
  (hstep:∀ pre i post st o,σ=pre++i :: post→l[i]?=some o→F pre st→dstOk N o.dst=true∧∃ x st',xs[i]?=some x∧OpF P S.base l (renv l o (putAll env ((l.take p).take i) (xs.take i))) st o x st'∧F (pre++[i]) st')
  (hsuf:∀ st,F σ st→AOps P f N S Q l (l.drop p) k (putAll env (l.take p) xs) st):ARun P f N S Q (.inRegion l.toArray (σ++List.range' p (l.length-p)) :: k) env st:=by
 have hxl:xs.length=(l.take p).length:=by simp; omega
 suffices key:∀ (post pre:List Nat) (st:St) (g:Ghost) (w:World) (tmps:Array Value),σ=pre++post→F pre st→Inv g S.base w st→Hist S g w st→tmps.size=N →
   (∀ (s:Tmp),(∀ (j:Nat) x,j∈pre→dstAt l j=some s→xs[j]?=some x→∃ v,tmps[s]?=some v∧EVRep g w st x v) ∧
    ((∀ j,j∈pre→dstAt l j≠some s)→∀ y,lookup s env=some y→∃ v,tmps[s]?=some v∧EVRep g w st y v)) →
   FWP P f (RPost S Q) (.inRegion l.toArray (post++List.range' p (l.length-p)) :: k) tmps w by
  intro g w tmps hinv hh he hN
  exact key σ [] st g w tmps rfl hF0 hinv hh hN fun s=>⟨fun j x hj=>by (cases hj),fun _ y hy=>he s y hy⟩
 intro post
 induction post with
 | nil =>
  intro pre st g w tmps hσ hF hinv hh hN hJ
  rw [List.append_nil] at hσ
  subst hσ
  have hdl:(l.drop p).length=l.length-p:=by simp
  rw [List.nil_append,←hdl]
  refine hsuf st hF p (fun j=>by rw [List.getElem?_drop]) g w tmps hinv hh (fun s y hy=>?_) hN
  rcases lookup_putAll hxl hy with ⟨j,o,h1,h2,h3⟩ | ⟨h1,h2⟩
  ·have hj:j < p:=by have:=(List.getElem?_eq_some_iff.1 h2).1; omega
   have ho:l[j]?=some o:=by rw [List.getElem?_take] at h1; rw [if_pos hj] at h1; exact h1
   exact (hJ s).1 j y ((hs.mem j).2 hj) (by simp [dstAt,ho,h3]) h2
  ·refine (hJ s).2 (fun j hj hd=>?_) y h2
   have hj':=(hs.mem j).1 hj
   cases ho:l[j]? with
   | none=>simp [dstAt,ho] at hd
   | some o=>exact h1 j o (by rw [List.getElem?_take,if_pos hj']; exact ho) (by simpa [dstAt,ho] using hd)
 | cons i post ih =>
  intro pre st g w tmps hσ hF hinv hh hN hJ
  have hi:i < p:=(hs.mem i).1 (by rw [hσ]; simp)
  have hil:i < l.length:=by omega
  obtain ⟨o,ho'⟩:∃ o,l[i]?=some o:=⟨_,List.getElem?_eq_getElem hil⟩
  have hmask:=hs.mask pre i post hσ
  have hipre:i ∉ pre:=by
   have:=hs.nodup
   rw [hσ,List.nodup_append] at this
   exact fun hm=>this.2.2 i hm i List.mem_cons_self rfl
  have hprelt:∀ j,j∈pre→j < p:=fun j hj=>(hs.mem j).1 (by rw [hσ]; simp [hj])
  obtain ⟨hd,x,st',hx,hop,hF'⟩:=hstep pre i post st o hσ ho' hF
  -- what the operation looks at
  have he:EnvRep g w st (renv l o (putAll env ((l.take p).take i) (xs.take i))) tmps:=by
   intro s y hy
   obtain ⟨hsl,hy'⟩:=renvOf_get hy
   rcases lookup_putAll (by simp [hxl]) hy' with ⟨j,o',h1,h2,h3⟩ | ⟨h1,h2⟩
   ·have hji:j < i:=by have:=(List.getElem?_eq_some_iff.1 h2).1; simp at this; omega
    have hoj:l[j]?=some o':=by
     rw [List.getElem?_take,if_pos hji,List.getElem?_take,if_pos (by omega)] at h1; exact h1
    have hdj:dstAt l j=some s:=by simp [dstAt,hoj,h3]
    rcases hC2 i o hi ho' s hsl j (by omega) (by omega) hdj with ⟨_,hb⟩ | ⟨hlt,_⟩
    ·exact (hJ s).1 j y (hmask j hb) hdj (by rw [List.getElem?_take,if_pos hji] at h2; exact h2)
    ·omega
   ·refine (hJ s).2 (fun j hj hdj=>?_) y h2
    have hji:j≠i:=fun e=>hipre (e▸hj)
    rcases hC2 i o hi ho' s hsl j (hprelt j hj) hji hdj with ⟨hlt,_⟩ | ⟨hlt,hb⟩
    ·cases hoj:l[j]? with
     | none=>simp [dstAt,hoj] at hdj
     | some o'=>exact h1 j o' (by rw [List.getElem?_take,if_pos hlt,List.getElem?_take,if_pos (hprelt j hj)]; exact hoj) (by simpa [dstAt,hoj] using hdj)
    ·-- j came ahead of i,though it must come behind it
     obtain ⟨a,b,hab⟩:=List.append_of_mem hj
     have:=hs.mask a j (b++i :: post) (by rw [hσ,hab]; simp) i hb
     exact absurd (by rw [hab]; simp [this]:i∈pre) hipre
  have next:∀ (g':Ghost) (w':World) (v:Value),EVRep g' w' st' x v→Inv g' S.base w' st'→Step S.base g w st g' w' st' →
    FWP P f (RPost S Q) (.inRegion l.toArray (post++List.range' p (l.length-p)) :: k) (Act.put ⟨tmps,[]⟩ o.dst v).tmps w':=by
   intro g' w' v hxr hinv' hst
   refine ih (pre++[i]) st' g' w' _ (by rw [hσ]; simp) hF' hinv' (hh.step hst) (by rw [size_put]; exact hN) fun s=>⟨fun j y hj hdj hy=>?_,fun hno y hy=>?_⟩
   ·by_cases hji:j=i
    ·subst hji
     have hods:o.dst=some s:=by simpa [dstAt,ho'] using hdj
     rw [hx] at hy
     cases hy
     rw [hods]
     have hsz:s < tmps.size:=by
      rw [hods] at hd
      have hd':s+1≤N:=Nat.le_of_ble_eq_true hd
      rw [hN]
      exact hd'
     exact ⟨v,by simp [Act.put,hsz],hxr⟩
    ·have hj':j∈pre:=by
      rcases List.mem_append.1 hj with h | h
      ·exact h
      ·exact absurd (List.mem_singleton.1 h) hji
     obtain ⟨u,h1,h2⟩:=(hJ s).1 j y hj' hdj hy
     have hne':o.dst≠some s:=fun e=>hC1 j i s (hprelt j hj') hi hji hdj (by simp [dstAt,ho',e])
     refine ⟨u,?_,h2.mono hst.sevo⟩
     cases hod:o.dst with
     | none=>exact h1
     | some d =>
      have:d≠s:=fun e=>hne' (by rw [hod,e])
      simp [Act.put,Array.getElem?_setIfInBounds,this,h1]
   ·have hne':o.dst≠some s:=fun e=>hno i (by simp) (by simp [dstAt,ho',e])
    obtain ⟨u,h1,h2⟩:=(hJ s).2 (fun j hj=>hno j (by simp [hj])) y hy
    refine ⟨u,?_,h2.mono hst.sevo⟩
    cases hod:o.dst with
    | none=>exact h1
    | some d =>
     have:d≠s:=fun e=>hne' (by rw [hod,e])
     simp [Act.put,Array.getElem?_setIfInBounds,this,h1]
  have hoA:l.toArray[i]?=some o:=by simpa using ho'
  show FWP P f (RPost S Q) (.inRegion l.toArray (i :: _) :: k) tmps w
  have nextG:st'=st→∀ (lim':Nat→Nat) (w':World) (v:Value),Good g w st x lim' w' v →
    FWP P f (RPost S Q) (.inRegion l.toArray (post++List.range' p (l.length-p)) :: k) (Act.put ⟨tmps,[]⟩ o.dst v).tmps w':=by
   rintro rfl lim' w' v ⟨hxr,hb,hl⟩
   obtain ⟨hinv',hst⟩:=hinv.grow (g':={ g with lim:=lim' }) hb hl rfl rfl
   exact next _ w' v hxr hinv' hst
  rcases hop with (⟨hse,hop⟩ | ⟨hg,hop⟩ | ⟨hg,rfl,hop⟩) | ⟨hg,hop⟩
  ·rcases hop with ⟨hg,hop⟩ | ⟨j,want,tt,c,b,y,env',hg,hj,hlk,hgc,rfl,hE,hop⟩
   ·have hw:Region.wanted o (yielded l.toArray tmps)=true:=by simp [Region.wanted,hg]
    rcases hop g S.base w tmps hinv he with ⟨v,lim',w',hr,hgood⟩ | ⟨f',args,hr,hc⟩
    ·exact FWP.value hoA hw hr (nextG hse lim' w' v hgood)
    ·exact FWP.call hoA hw hr (hc.mono fun e w' ⟨v,lim',h1,h2⟩=>⟨v,h1,nextG hse lim' w' v h2⟩)
   ·obtain ⟨u,hu,hur⟩:=he tt c hlk
    have hw:Region.wanted o (yielded l.toArray tmps)=b:=by
     rw [←gcond_rep hgc hur]
     have hj':((l.toArray)[j]?).bind (·.dst)=some tt:=by simpa using hj
     simp only [Region.wanted,hg,yielded,hj',Option.bind_some,hu]
     cases u <;> rfl
    cases b with
    | false=>exact FWP.unwanted hoA hw (nextG hse g.lim w undef ⟨.gd _ _ _ (fun _=>rfl) (fun h=>by cases h),.refl _ _,fun _ _=>rfl⟩)
    | true =>
     have wrap:∀ lim' w' v,Good g w st y lim' w' v→Good g w st (.gd true y) lim' w' v:=fun lim' w' v ⟨a,b,c⟩=>⟨.gd _ _ _ (fun h=>by cases h) (fun _=>a),b,c⟩
     rcases hop rfl g S.base w tmps hinv (he.gd hE rfl) with ⟨v,lim',w',hr,hgood⟩ | ⟨f',args,hr,hc⟩
     ·exact FWP.value hoA hw hr (nextG hse lim' w' v (wrap _ _ _ hgood))
     ·exact FWP.call hoA hw hr (hc.mono fun e w' ⟨v,lim',h1,h2⟩=>⟨v,h1,nextG hse lim' w' v (wrap _ _ _ h2)⟩)
  ·have hw:Region.wanted o (yielded l.toArray tmps)=true:=by simp [Region.wanted,hg]
   obtain ⟨v,g',w',hr,hxr,hinv',hst⟩:=hop g w tmps hinv he
   exact FWP.value hoA hw hr (next g' w' v hxr hinv' hst)
  ·have hw:Region.wanted o (yielded l.toArray tmps)=true:=by simp [Region.wanted,hg]
   obtain ⟨g',w',hr,hinv',hst⟩:=hop g w tmps hinv he
   exact FWP.skip hoA hw hr (next g' w' undef (.d _ _ (.any _)) hinv' hst)
  ·have hw:Region.wanted o (yielded l.toArray tmps)=true:=by simp [Region.wanted,hg]
   obtain ⟨f',args,hr,hc⟩:=hop g w tmps hinv he
   exact FWP.call hoA hw hr (hc.mono fun e w' ⟨v,g',h1,hxr,hinv',hst⟩=>⟨v,h1,next g' w' v hxr hinv' hst⟩)
def AllL:List St→(St→Prop)→Prop
 | [],_=>True
 | s :: r,p=>p s∧AllL r p
theorem AllL.get {p:St→Prop}:∀ {ss:List St} {i:Nat} {s:St},AllL ss p→ss[i]?=some s→p s
 | s :: r,0,s',h,hs=>by simp at hs; subst hs; exact h.1
 | s :: r,i+1,s',h,hs=>AllL.get h.2 (by simpa using hs)
 | [],i,s',h,hs=>by simp at hs
def mayB (l:List Oper) (E:List Nat) (i m:Nat):Bool:=E.zipIdx.all fun e=>(!((masks l []).getD i 0).testBit e.1 || decide (e.2 < m)) && (!((masks l []).getD e.1 0).testBit i || decide (m≤e.2))
def boundB (l:List Oper) (E:List Nat) (i lo hi:Nat):Bool:=(List.range (E.length+1)).all fun m=>!mayB l E i m || (decide (lo≤m) && decide (m≤hi))
def EStep (P:Program) (N base:Nat) (l:List Oper) (E:List Nat) (sts:List St) (i:Nat) (o:Oper) (env:Env) (x:EV):Prop :=
  dstOk N o.dst=true ∧
  ((∃ lo hi,(!E.any fun e=>Nat.beq e i)=true∧boundB l E i lo hi=true∧AllL ((sts.take (hi+1)).drop lo) fun s=>OpAny P l env s o x) ∨
   (∃ m s s',E[m]?=some i∧sts[m]?=some s∧sts[m+1]?=some s'∧o.guard=none∧(OpV P base env s o x s'∨(x=.d .any∧OpU P base env s o s')∨OpC P base env s o x s')))
def EChain (P:Program) (N base:Nat) (l:List Oper) (E:List Nat) (sts:List St):Nat→List Oper→List EV→Env→Prop
 | _,[],[],_=>True
 | i,o :: os,x :: xs,env=>EStep P N base l E sts i o (renv l o env) x∧EChain P N base l E sts (i+1) os xs (env.put o.dst x)
 | _,_,_,_=>False
theorem EChain.length {base:Nat} {l:List Oper} {E:List Nat} {sts:List St}:∀ {i:Nat} {os:List Oper} {xs:List EV} {env:Env},EChain P N base l E sts i os xs env→xs.length=os.length
 | _,[],[],_,_=>rfl
 | _,o :: os,x :: xs,env,h=>by simp [EChain.length h.2]
 | _,[],x :: xs,_,h=>h.elim
 | _,o :: os,[],_,h=>h.elim
theorem EChain.get {base:Nat} {l:List Oper} {E:List Nat} {sts:List St}:∀ {i:Nat} {os:List Oper} {xs:List EV} {env:Env} {j:Nat} {o:Oper},EChain P N base l E sts i os xs env→os[j]?=some o →
  ∃ x,xs[j]?=some x∧EStep P N base l E sts (i+j) o (renv l o (putAll env (os.take j) (xs.take j))) x
 | i,o' :: os,x :: xs,env,0,o,h,ho=>by
  simp at ho; subst ho
  exact ⟨x,rfl,by simpa [putAll] using h.1⟩
 | i,o' :: os,x :: xs,env,j+1,o,h,ho=>by
  obtain ⟨y,h1,h2⟩:=EChain.get (j:=j) h.2 (by simpa using ho)
  exact ⟨y,by simpa using h1,by simpa [putAll,Nat.add_assoc,Nat.add_comm 1 j] using h2⟩
 | i,[],xs,env,j,o,h,ho=>by simp at ho
 | i,o' :: os,[],_,_,_,h,_=>h.elim
theorem ARun.effσ {l:List Oper} {p:Nat} {σ:List Nat} {env:Env} {st stF:St} (hB:drawB l p=true) (hs:Sched l p σ) (E:List Nat) (sts:List St) (hE:σ.filter (fun i=>E.any fun e=>Nat.beq e i)=E) {xs:List EV}
  (h0:sts[0]?=some st) (hF:sts[E.length]?=some stF) (hch:EChain P N S.base l E sts 0 (l.take p) xs env) (hsuf:AOps P f N S Q l (l.drop p) k (putAll env (l.take p) xs) stF) :
  ARun P f N S Q (.inRegion l.toArray (σ++List.range' p (l.length-p)) :: k) env st:=by
 simp only [drawB,Bool.and_eq_true] at hB
 obtain ⟨⟨⟨⟨hB1,hB2⟩,hB3⟩,hB4⟩,hB5⟩:=hB
 have hp:p≤l.length:=by simpa using hB5
 have hxp:xs.length=p:=by rw [hch.length]; simp; omega
 refine ARun.runσ hs hp xs (fun pre s=>sts[(pre.filter fun i=>E.any fun e=>Nat.beq e i).length]?=some s) ?_ ?_ hxp h0 ?_ ?_
 ·intro i j t hi hj hij hdi hdj
  have:=allBelow_get (allBelow_get hB2 hi) hj
  simp [hij,hdi,hdj] at this
 ·intro i o hi ho t ht j hj hji hdj
  have h1:=allBelow_get hB1 hi
  rw [ho] at h1
  simp only [List.all_eq_true] at h1
  have h2:=allBelow_get (h1 t ht) hj
  simp only [hdj,bne_self_eq_false,Bool.or_false,Bool.or_eq_true,Bool.and_eq_true,decide_eq_true_eq,beq_iff_eq] at h2
  rcases h2 with (h2 | h2) | h2
  ·exact absurd h2.symm hji
  ·exact .inl h2
  ·exact .inr h2
 ·intro pre i post s o hσ ho hFs
  have hi:i < p:=(hs.mem i).1 (by rw [hσ]; simp)
  obtain ⟨x,hx,hst⟩:=hch.get (j:=i) (o:=o) (by rw [List.getElem?_take,if_pos hi]; exact ho)
  rw [Nat.zero_add] at hst
  obtain ⟨hd,hst⟩:=hst
  refine ⟨hd,x,?_⟩
  -- how far the turning operations have come
  have hsplit:E=(pre.filter fun i=>E.any fun e=>Nat.beq e i)++((i :: post).filter fun i=>E.any fun e=>Nat.beq e i):=by
   have:=hE
   rw [hσ,List.filter_append] at this
   exact this.symm
  generalize hm:(pre.filter fun i=>E.any fun e=>Nat.beq e i).length=m at hFs
  have hmE:m≤E.length:=by rw [hsplit,List.length_append,hm]; omega
  rcases hst with ⟨lo,hi',hne,hb,hall⟩ | ⟨m',s0,s1,hEm,hs0,hs1,hg,hop⟩
  ·have hnoE:(E.any fun e=>Nat.beq e i)=false:=by simpa using hne
   have hmay:mayB l E i m=true:=by
    unfold mayB
    rw [List.all_eq_true]
    rintro ⟨e,j⟩ hej
    have hEj:E[j]?=some e:=by
     have:=List.mem_zipIdx_iff_getElem?.1 hej
     simpa using this
    have hinE:(E.any fun e'=>Nat.beq e' e)=true:=List.any_eq_true.2 ⟨e,List.mem_of_getElem? hEj,Nat.beq_refl e⟩
    simp only [Bool.and_eq_true,Bool.or_eq_true,Bool.not_eq_true',decide_eq_true_eq]
    have hnodE:E.Nodup:=by rw [←hE]; exact hs.nodup.filter _
    constructor
    ·cases hbit:((masks l []).getD i 0).testBit e with
     | false=>exact .inl rfl
     | true =>
      right
      have hin:=hs.mask pre i post hσ e hbit
      have hin2:e∈pre.filter fun i=>E.any fun e=>Nat.beq e i:=List.mem_filter.2 ⟨hin,hinE⟩
      obtain ⟨a,ha,hae⟩:=List.mem_iff_getElem.1 hin2
      have:E[a]?=some e:=by rw [hsplit,List.getElem?_append_left ha,List.getElem?_eq_getElem ha,hae]
      have haj:a=j:=by
       have h1:=(List.getElem?_eq_some_iff.1 this)
       have h2:=(List.getElem?_eq_some_iff.1 hEj)
       exact (List.getElem_inj hnodE).1 (h1.2.trans h2.2.symm)
      omega
    ·cases hbit:((masks l []).getD e 0).testBit i with
     | false=>exact .inl rfl
     | true =>
      right
      -- e comes behind i
      rcases Nat.lt_or_ge j m with hjm | hjm
      ·have h1:(pre.filter fun i=>E.any fun e=>Nat.beq e i)[j]?=some e:=by
        rw [hsplit,List.getElem?_append_left (by omega)] at hEj
        exact hEj
       have hin:e∈pre:=(List.mem_filter.1 (List.mem_of_getElem? h1)).1
       obtain ⟨a,b,hab⟩:=List.append_of_mem hin
       have:=hs.mask a e (b++i :: post) (by rw [hσ,hab]; simp) i hbit
       have hipre:i ∉ pre:=by
        have:=hs.nodup
        rw [hσ,List.nodup_append] at this
        exact fun hm=>this.2.2 i hm i List.mem_cons_self rfl
       exact absurd (by rw [hab]; simp [this]:i∈pre) hipre
      ·exact hjm
   have hbd:=List.all_eq_true.1 hb m (List.mem_range.2 (by omega))
   rw [hmay] at hbd
   simp only [Bool.not_true,Bool.false_or,Bool.and_eq_true,decide_eq_true_eq] at hbd
   refine ⟨s,hx,.inl (.inl ⟨rfl,hall.get (i:=m-lo) ?_⟩),?_⟩
   ·rw [List.getElem?_drop,List.getElem?_take,if_pos (by omega),show lo+(m-lo)=m by omega]
    exact hFs
   ·rw [List.filter_append,List.filter_cons,hnoE]
    simp only [Bool.false_eq_true,if_false,List.filter_nil,List.append_nil]
    rw [hm]; exact hFs
  ·have hinE:(E.any fun e'=>Nat.beq e' i)=true:=List.any_eq_true.2 ⟨i,List.mem_of_getElem? hEm,Nat.beq_refl i⟩
   have hnodE:E.Nodup:=by rw [←hE]; exact hs.nodup.filter _
   have hEm2:E[m]?=some i:=by
    rw [hsplit,List.getElem?_append_right (by omega),hm,Nat.sub_self,List.filter_cons,hinE]
    rfl
   have hmm:m=m':=by
    have h1:=(List.getElem?_eq_some_iff.1 hEm2)
    have h2:=(List.getElem?_eq_some_iff.1 hEm)
    exact (List.getElem_inj hnodE).1 (h1.2.trans h2.2.symm)
   subst hmm
   rw [hFs] at hs0
   cases hs0
   refine ⟨s1,hx,?_,?_⟩
   ·rcases hop with h | ⟨h1,h2⟩ | h
    ·exact .inl (.inr (.inl ⟨hg,h⟩))
    ·exact .inl (.inr (.inr ⟨hg,h1,h2⟩))
    ·exact .inr ⟨hg,h⟩
   ·rw [List.filter_append,List.filter_cons,hinE]
    simp only [if_true,List.filter_nil,List.length_append,List.length_singleton,hm]
    exact hs1
 ·intro s hFs
  rw [hE,hF] at hFs
  cases hFs
  exact hsuf
theorem filter_one {σ:List Nat} (hn:σ.Nodup) {e:Nat} (he:e∈σ):σ.filter (fun i=>i==e)=[e]:=by
 induction σ with
 | nil=>cases he
 | cons c r ih =>
  rw [List.nodup_cons] at hn
  by_cases hc:c=e
  ·subst hc
   have:r.filter (fun i=>i==c)=[]:=List.filter_eq_nil_iff.2 fun i hi h=>hn.1 (by rw [beq_iff_eq] at h; exact h▸hi)
   rw [List.filter_cons,beq_self_eq_true,if_pos rfl,this]
  ·rw [List.filter_cons]
   have:(c==e)=false:=by simpa using hc
   rw [this]
   simpa using ih hn.2 ((List.mem_cons.1 he).resolve_left (Ne.symm hc))
theorem Sched.one {l:List Oper} {p:Nat} {σ:List Nat} (hs:Sched l p σ) {e:Nat} (he:e < p):σ.filter (fun i=>[e].any fun e=>Nat.beq e i)=[e]:=by
 have h1:(fun i=>[e].any fun e=>Nat.beq e i)=fun i=>i==e:=by
  funext i
  simp only [List.any_cons,List.any_nil,Bool.or_false]
  rw [Bool.eq_iff_iff,Nat.beq_eq,beq_iff_eq,eq_comm]
 rw [h1]
 exact filter_one hs.nodup ((hs.mem e).2 he)
theorem filter_two {σ:List Nat} (hn:σ.Nodup) {a b:Nat} (hab:a≠b) (ha:a∈σ) (hb:b∈σ) (q:Nat→Bool) (hq:∀ i,q i=(i==a || i==b)):σ.filter q=[a,b]∨σ.filter q=[b,a]:=by
 induction σ with
 | nil=>cases ha
 | cons c r ih =>
  rw [List.nodup_cons] at hn
  by_cases hca:c=a
  ·subst hca
   left
   have hbr:b∈r:=(List.mem_cons.1 hb).resolve_left (Ne.symm hab)
   rw [List.filter_cons,hq,beq_self_eq_true,Bool.true_or,if_pos rfl]
   congr 1
   have:r.filter q=r.filter fun i=>i==b:=List.filter_congr fun i hi=>by
    have:i≠c:=fun e=>hn.1 (e▸hi)
    rw [hq]; simp [this]
   rw [this]
   exact filter_one hn.2 hbr
  ·by_cases hcb:c=b
   ·subst hcb
    right
    have har:a∈r:=(List.mem_cons.1 ha).resolve_left (Ne.symm hca)
    rw [List.filter_cons,hq,beq_self_eq_true,Bool.or_true,if_pos rfl]
    congr 1
    have:r.filter q=r.filter fun i=>i==a:=List.filter_congr fun i hi=>by
     have:i≠c:=fun e=>hn.1 (e▸hi)
     rw [hq]; simp [this]
    rw [this]
    exact filter_one hn.2 har
   ·have har:a∈r:=(List.mem_cons.1 ha).resolve_left (Ne.symm hca)
    have hbr:b∈r:=(List.mem_cons.1 hb).resolve_left (Ne.symm hcb)
    have:=ih hn.2 har hbr
    rw [List.filter_cons,hq]
    simpa [hca,hcb] using this
theorem Sched.two {l:List Oper} {p:Nat} {σ:List Nat} (hs:Sched l p σ) {a b:Nat} (hab:a≠b) (ha:a < p) (hb:b < p) :
  σ.filter (fun i=>[a,b].any fun e=>Nat.beq e i)=[a,b]∨σ.filter (fun i=>[b,a].any fun e=>Nat.beq e i)=[b,a]:=by
 have q1:∀ i,([a,b].any fun e=>Nat.beq e i)=(i==a || i==b):=fun i=>by
  simp only [List.any_cons,List.any_nil,Bool.or_false]
  rw [Bool.eq_iff_iff]
  simp only [Bool.or_eq_true,Nat.beq_eq,beq_iff_eq]
  exact ⟨fun h=>h.elim (fun h=>.inl h.symm) (fun h=>.inr h.symm),fun h=>h.elim (fun h=>.inl h.symm) (fun h=>.inr h.symm)⟩
 have q2:∀ i,([b,a].any fun e=>Nat.beq e i)=(i==a || i==b):=fun i=>by
  simp only [List.any_cons,List.any_nil,Bool.or_false]
  rw [Bool.eq_iff_iff]
  simp only [Bool.or_eq_true,Nat.beq_eq,beq_iff_eq]
  exact ⟨fun h=>h.elim (fun h=>.inr h.symm) (fun h=>.inl h.symm),fun h=>h.elim (fun h=>.inr h.symm) (fun h=>.inl h.symm)⟩
 rcases filter_two hs.nodup hab ((hs.mem a).2 ha) ((hs.mem b).2 hb) _ q1 with h | h
 ·exact .inl h
 ·right
  have:(fun i=>[b,a].any fun e=>Nat.beq e i)=fun i=>[a,b].any fun e=>Nat.beq e i:=by
   funext i; rw [q1,q2]
  rw [this]; exact h
theorem Sched.two' {l:List Oper} {p:Nat} {σ:List Nat} (hs:Sched l p σ) {a b:Nat} (ha:a < p) (hb:b < p) (hm:((masks l []).getD b 0).testBit a=true) :
  σ.filter (fun i=>[a,b].any fun e=>Nat.beq e i)=[a,b]:=by
 have hab:a≠b:=by
  rintro rfl
  obtain ⟨x,y,hxy⟩:=List.append_of_mem ((hs.mem a).2 ha)
  have h1:=hs.mask x a y hxy a hm
  have:=hs.nodup
  rw [hxy,List.nodup_append] at this
  exact this.2.2 a h1 a List.mem_cons_self rfl
 rcases hs.two hab ha hb with h | h
 ·exact h
 ·exfalso
  obtain ⟨x,y,hxy⟩:=List.append_of_mem ((hs.mem b).2 hb)
  have h1:=hs.mask x b y hxy a hm
  rw [hxy,List.filter_append] at h
  have q:([b,a].any fun e=>Nat.beq e b)=true:=by simp
  rw [List.filter_cons,q] at h
  have h2:a∈x.filter fun i=>[b,a].any fun e=>Nat.beq e i:=List.mem_filter.2 ⟨h1,by simp⟩
  obtain ⟨u,v,huv⟩:=List.append_of_mem h2
  have hl:=congrArg List.length h
  have hbx:b ∉ x:=by
   have:=hs.nodup
   rw [hxy,List.nodup_append] at this
   exact fun hm=>this.2.2 b hm b List.mem_cons_self rfl
  cases hx:x.filter fun i=>[b,a].any fun e=>Nat.beq e i with
  | nil=>rw [hx] at h2; cases h2
  | cons c r =>
   rw [hx] at h
   simp only [List.cons_append,List.cons.injEq] at h
   have:b∈x.filter fun i=>[b,a].any fun e=>Nat.beq e i:=by rw [hx,h.1]; exact List.mem_cons_self
   exact hbx (List.mem_filter.1 this).1
def XOps (P:Program) (f:Ctx) (N:Nat) (S:Start) (Q:EV→St→Prop) (l:List Oper) (p:Nat) (E:List Nat) (sts:List St) (i:Nat) (os:List Oper) (k:List Item) (env:Env):Prop :=
 ∃ xs stF,sts[E.length]?=some stF∧EChain P N S.base l E sts i os xs env∧AOps P f N S Q l (l.drop p) k (putAll env os xs) stF
variable {l:List Oper} {p:Nat} {E:List Nat} {sts:List St} {i:Nat} {os:List Oper} {env:Env} {st:St} {d:Option Tmp} {op:Op} {ty:TypeId} {pos:String} {after:Array Edge} {x:EV}
theorem XOps.nil {stF:St} (hF:sts[E.length]?=some stF) (h:AOps P f N S Q l (l.drop p) k env stF):XOps P f N S Q l p E sts i [] k env:=⟨[],stF,hF,trivial,h⟩
def GAll (P:Program) (l:List Oper) (env:Env) (o:Oper) (x:EV):List St→Prop
 | []=>True
 | s :: r=>OpG P (renv l o env) s o x∧GAll P l env o x r
theorem GAll.all {o:Oper} {P:Program} {l:List Oper} {env:Env} {x:EV} (hg:o.guard=none):∀ {ss:List St},GAll P l env o x ss→AllL ss fun s=>OpAny P l (renv l o env) s o x
 | [],_=>trivial
 | s :: r,h=>⟨.inl ⟨hg,h.1⟩,GAll.all hg h.2⟩
theorem XOps.g (lo hi:Nat) (h:GAll P l env ⟨d,op,ty,pos,after,none⟩ x ((sts.take (hi+1)).drop lo)) (hne:(!E.any fun e=>Nat.beq e i)=true) (hb:boundB l E i lo hi=true) (hd:dstOk N d=true)
  (hk:XOps P f N S Q l p E sts (i+1) os k (env.put d x)):XOps P f N S Q l p E sts i (⟨d,op,ty,pos,after,none⟩ :: os) k env:=by
 obtain ⟨xs,stF,h0,h1,h2⟩:=hk
 exact ⟨x :: xs,stF,h0,⟨⟨hd,.inl ⟨lo,hi,hne,hb,h.all rfl⟩⟩,h1⟩,h2⟩
theorem XOps.v {s s':St} (m:Nat) (h:OpV P S.base (renv l ⟨d,op,ty,pos,after,none⟩ env) s ⟨d,op,ty,pos,after,none⟩ x s') (hE:E[m]?=some i) (h1:sts[m]?=some s) (h2:sts[m+1]?=some s') (hd:dstOk N d=true)
  (hk:XOps P f N S Q l p E sts (i+1) os k (env.put d x)):XOps P f N S Q l p E sts i (⟨d,op,ty,pos,after,none⟩ :: os) k env:=by
 obtain ⟨xs,stF,h0,h3,h4⟩:=hk
 exact ⟨x :: xs,stF,h0,⟨⟨hd,.inr ⟨m,s,s',hE,h1,h2,rfl,.inl h⟩⟩,h3⟩,h4⟩
theorem XOps.u {s s':St} (m:Nat) (h:OpU P S.base (renv l ⟨d,op,ty,pos,after,none⟩ env) s ⟨d,op,ty,pos,after,none⟩ s') (hE:E[m]?=some i) (h1:sts[m]?=some s) (h2:sts[m+1]?=some s') (hd:dstOk N d=true)
  (hk:XOps P f N S Q l p E sts (i+1) os k (env.put d (.d .any))):XOps P f N S Q l p E sts i (⟨d,op,ty,pos,after,none⟩ :: os) k env:=by
 obtain ⟨xs,stF,h0,h3,h4⟩:=hk
 exact ⟨.d .any :: xs,stF,h0,⟨⟨hd,.inr ⟨m,s,s',hE,h1,h2,rfl,.inr (.inl ⟨rfl,h⟩)⟩⟩,h3⟩,h4⟩
theorem XOps.c {s s':St} (m:Nat) (h:OpC P S.base (renv l ⟨d,op,ty,pos,after,none⟩ env) s ⟨d,op,ty,pos,after,none⟩ x s') (hE:E[m]?=some i) (h1:sts[m]?=some s) (h2:sts[m+1]?=some s') (hd:dstOk N d=true)
  (hk:XOps P f N S Q l p E sts (i+1) os k (env.put d x)):XOps P f N S Q l p E sts i (⟨d,op,ty,pos,after,none⟩ :: os) k env:=by
 obtain ⟨xs,stF,h0,h3,h4⟩:=hk
 exact ⟨x :: xs,stF,h0,⟨⟨hd,.inr ⟨m,s,s',hE,h1,h2,rfl,.inr (.inr h)⟩⟩,h3⟩,h4⟩
theorem ARun.eff {σ:List Nat} {env:Env} {st:St} (hB:drawB l p=true) (hs:Sched l p σ) (hE:σ.filter (fun i=>E.any fun e=>Nat.beq e i)=E) (h0:sts[0]?=some st) (h:XOps P f N S Q l p E sts 0 (l.take p) k env) :
  ARun P f N S Q (.inRegion l.toArray (σ++List.range' p (l.length-p)) :: k) env st:=by
 obtain ⟨xs,stF,h1,h2,h3⟩:=h
 exact .effσ hB hs E sts hE h0 h1 h2 h3
theorem ARun.orders1 {id:Nat} {l:List Oper} {env:Env} {st:St} (p a:Nat) (sts:List St) (hm:P.follows .mixedOrders=true) (hB:drawB l p=true) (ha:a < p) (h0:sts[0]?=some st)
  (h:XOps P f N S Q l p [a] sts 0 (l.take p) k env):ARun P f N S Q (.code (.region id l.toArray true) :: k) env st :=
 .orders p hm hB fun _ hσ=>.eff hB hσ (hσ.one ha) h0 h
theorem ARun.orders2 {id:Nat} {l:List Oper} {env:Env} {st:St} (p a b:Nat) (sts:List St) (hm:P.follows .mixedOrders=true) (hB:drawB l p=true) (ha:a < p) (hb:b < p) (hab:((masks l []).getD b 0).testBit a=true) (h0:sts[0]?=some st)
  (h:XOps P f N S Q l p [a,b] sts 0 (l.take p) k env):ARun P f N S Q (.code (.region id l.toArray true) :: k) env st :=
 .orders p hm hB fun _ hσ=>.eff hB hσ (hσ.two' ha hb hab) h0 h
end run
def CRepE (g:Ghost) (w:World) (st:St) (cs:List EV) (vs:Array Value):Prop :=
 vs.size=cs.length∧∀ (i:Nat) c (u:Value),cs[i]?=some c→vs[i]?=some u→EVRep g w st c u∧u.oneCell'=true
theorem CRepE.lay {g:Ghost} {w:World} {st:St} {cs new:List EV} {vs us:Array Value} {off:Nat} (h:CRepE g w st cs vs) (hn:CRepE g w st new us) (hf:off+new.length≤cs.length):CRepE g w st (putCells cs off new) (lay vs us off):=by
 obtain ⟨h1,h2⟩:=lay_get vs us off (by rw [h.1,hn.1]; exact hf)
 refine ⟨by rw [h1,h.1]; simp [putCells]; omega,fun i c u hc hu=>?_⟩
 have hi:i < vs.size:=by rw [←h1]; exact (Array.getElem?_eq_some_iff.1 hu).1
 rw [h2 i hi] at hu
 unfold putCells at hc
 have hvs:=h.1
 have hus:=hn.1
 by_cases hA:i < off
 ·rw [if_neg (by omega)] at hu
  rw [List.append_assoc,List.getElem?_append_left (by simp; omega),List.getElem?_take,if_pos hA] at hc
  exact h.2 i c u hc hu
 ·by_cases hB:i < off+new.length
  ·rw [if_pos (by omega)] at hu
   rw [List.append_assoc,List.getElem?_append_right (by simp; omega),List.getElem?_append_left (by simp; omega)] at hc
   have e1:(cs.take off).length=off:=by simp; omega
   rw [e1] at hc
   exact hn.2 _ c u hc hu
  ·rw [if_neg (by omega)] at hu
   rw [List.getElem?_append_right (by simp; omega)] at hc
   have e1:(cs.take off++new).length=off+new.length:=by simp; omega
   rw [e1,List.getElem?_drop] at hc
   have e2:off+new.length+(i-(off+new.length))=i:=by omega
   rw [e2] at hc
   exact h.2 i c u hc hu
def layE (place:Nat→Option (Nat×Nat)) (env:Env):List EV→List (Nat×Operand)→Option (List EV)
 | cs,[]=>some cs
 | cs,(i,x) :: l=>match place i,evo env x with
  | some (off,size),some e=>match cellsE e with
   | some new=>match Nat.beq new.length size,Nat.ble (off+size) cs.length with
    | true,true=>layE place env (putCells cs off new) l
    | _,_=>none
   | none=>none
  | _,_=>none
theorem layE_rep {g:Ghost} {w:World} {st:St} {env:Env} {tmps:Array Value} (he:EnvRep g w st env tmps) {place:Nat→Option (Nat×Nat)}:∀ (l:List (Nat×Operand)) (cs:List EV) (vs:Array Value) (r:List EV),layE place env cs l=some r→CRepE g w st cs vs →
  ∃ us,Instr.fill place vs (l.map fun p=>(p.1,Act.eval ⟨tmps,[]⟩ p.2))=some us∧CRepE g w st r us∧r.length=cs.length
 | [],cs,vs,r,h,hc=>by simp [layE] at h; subst h; exact ⟨vs,rfl,hc,rfl⟩
 | (i,x) :: l,cs,vs,r,h,hc=>by
  unfold layE at h
  split at h
  ·rename_i off size e hp hx
   split at h
   ·rename_i new hn
    split at h
    ·rename_i hb1 hb2
     have h1:=Nat.eq_of_beq_eq_true hb1
     have h2:=Nat.le_of_ble_eq_true hb2
     have hcn:CRepE g w st new (Act.eval ⟨tmps,[]⟩ x).cells:=cellsE_rep hn (evo_rep he hx)
     have hlay:=hc.lay hcn (off:=off) (by omega)
     obtain ⟨us,k1,k2,k3⟩:=layE_rep he l _ _ r h hlay
     refine ⟨us,?_,k2,by rw [k3]; simp [putCells]; omega⟩
     have hs:=hcn.1
     have hvs:=hc.1
     simp only [List.map_cons,Instr.fill,hp]
     rw [if_neg (by simp; omega)]
     exact k1
    ·cases h
   ·cases h
  ·cases h
section rules
variable {P:Program} {base:Nat} {env:Env} {st:St} {d:Option Tmp} {ty:TypeId} {pos:String} {after:Array Edge} {gd:Option (Nat×Bool)} {t:TypeId}
theorem q_buildE0 {fs:Array Field} {inf:TypeInfo} {z:Value} {zs r:List EV} {l:List (Nat×Operand)} (ht:P.underlying t=some (.struct fs)) (hi:P.info? t=some inf) (hz:inf.zero=some z) (hzs:cellsE (.d (cv z))=some zs)
  (hfs:fs.toList.all (fun f=>(P.info? f.type).isSome)=true) (hl:layE (placeOf P fs) env zs l=some r):OpQ P env st ⟨d,.build t l.toArray,ty,pos,after,gd⟩ (.agg r):=by
 intro g base w tmps hinv he
 have hz':CRepE g w st zs z.cells:=cellsE_rep (g:=g) (w:=w) (st:=st) hzs (.d _ _ (cv_rep _ _ z))
 obtain ⟨us,h1,h2,h3⟩:=layE_rep he l zs z.cells r hl hz'
 refine ⟨.agg us,.agg r us h2.1 (fun i u hu=>?_) fun i c u hc hu=>(h2.2 i c u hc hu).1,fun w' hb=>?_⟩
 ·have hi':i < r.length:=by rw [←h2.1]; exact (Array.getElem?_eq_some_iff.1 hu).1
  exact (h2.2 i _ u (List.getElem?_eq_getElem hi') hu).2
 ·have hpl:(fs.mapM (fun f=>do pure (f.offset,←sizeOf f.type):Field→Sem (Nat×Nat))).run P w'=.ok (fs.toList.map fun f=>(f.offset,szOf P f.type)).toArray w':=by
   rw [←Array.toArray_toList (xs:=fs),List.mapM_toArray]
   simp only [Sem.run_map,mapM_places (P:=P) fs.toList (fun f hf=>List.all_eq_true.1 hfs f hf) w',Result.andThen_ok]
  have hplace:(fun i:Nat=>((fs.toList.map fun f=>(f.offset,szOf P f.type)).toArray)[i]?)=placeOf P fs:=by
   funext i
   simp [placeOf]
  simp only [execOp,Instr.build,Sem.run_bind,zero_run hi hz,Result.andThen_ok,run_underlying ht,hpl,List.map_toArray]
  rw [hplace]
  simp [h1]
theorem q_buildE {ps:List (Nat×Nat)} {inf:TypeInfo} {z:Value} {zs r:List EV} {l:List (Nat×Operand)} (hp:placesOf P t=some ps) (hi:P.info? t=some inf) (hz:inf.zero=some z) (hzs:cellsE (.d (cv z))=some zs)
  (hl:layE (fun i=>ps[i]?) env zs l=some r):OpQ P env st ⟨d,.build t l.toArray,ty,pos,after,gd⟩ (.agg r):=by
 unfold placesOf at hp
 split at hp
 ·rename_i fs hu
  split at hp
  ·rename_i hall
   cases hp
   refine q_buildE0 hu hi hz hzs hall ?_
   rw [←hl]
   congr 1
   funext i
   simp [placeOf]
  ·cases hp
 ·cases hp
end rules
section cell
variable {P:Program} {f:Ctx} {N:Nat} {S:Start} {Q:EV→St→Prop} {todo:List Item} {env:Env} {st:St}
theorem Inv.cellLe {g:Ghost} {base:Nat} {w:World} {o ci:Nat} {T:TypeId} {cs:List EV} {x y:EV} (h:Inv g base w st) (ho:st.objs[o]?=some (.row T cs)) (hc:cs[ci]?=some x) (hle:EVle x y) :
  Inv g base w (st.set o (.row T (cs.set ci y)))∧Step base g w st g w (st.set o (.row T (cs.set ci y))):=by
 obtain ⟨b1,b2,vs,b3,b4,b5⟩:=h.row o T cs ho
 exact h.setBlock (o:=o) (x:=.row T (cs.set ci y)) (w':=w) ⟨_,ho,by simp⟩ b2 rfl (fun _ _=>rfl) rfl rfl rfl
  (fun hsv ty' cs' hx'=>by
   cases hx'
   refine ⟨vs,b3,by simpa using b4,fun i c u hci hu=>?_⟩
   rw [List.getElem?_set] at hci
   split at hci
   ·rename_i hic
    subst hic
    split at hci
    ·cases hci
     have h0:=b5 ci _ u hc hu
     exact ⟨hle _ _ _ _ (h0.1.mono hsv),h0.2⟩
    ·cases hci
   ·have h0:=b5 i c u hci hu
    exact ⟨h0.1.mono hsv,h0.2⟩) (fun _ es hx'=>by cases hx')
theorem ARun.cellLe (o ci:Nat) {T:TypeId} {cs:List EV} {x y:EV} (ho:st.objs[o]?=some (.row T cs)) (hc:cs[ci]?=some x) (hle:EVle x y)
  (h:ARun P f N S Q todo env (st.set o (.row T (cs.set ci y)))):ARun P f N S Q todo env st:=by
 intro g w tmps hinv hh he hn
 obtain ⟨h1,h2⟩:=hinv.cellLe ho hc hle
 exact h g w tmps h1 (hh.step h2) (he.mono h2.sevo) hn
end cell
section freezeCell
variable {P:Program} {f:Ctx} {N:Nat} {S:Start} {Q:EV→St→Prop} {todo:List Item} {env:Env} {st:St}
variable {ops rest:List Oper} {k:List Item}
theorem AOps.cellLe (o ci:Nat) {T:TypeId} {cs:List EV} {x y:EV} (ho:st.objs[o]?=some (.row T cs)) (hc:cs[ci]?=some x) (hle:EVle x y)
  (h:AOps P f N S Q ops rest k env (st.set o (.row T (cs.set ci y)))):AOps P f N S Q ops rest k env st :=
 fun j hj=>.cellLe o ci ho hc hle (h j hj)
end freezeCell
def memB (t:Nat):List Nat→Bool
 | []=>false
 | a :: l=>match Nat.beq t a with
  | true=>true
  | false=>memB t l
def lkp {β:Type} (t:Nat):List (Nat×β)→Option β
 | []=>none
 | (a,y) :: l=>match Nat.beq t a with
  | true=>some y
  | false=>lkp t l
def AllP:List Prop→Prop
 | []=>True
 | [p]=>p
 | p :: q :: l=>p∧AllP (q :: l)
theorem AllP.c {p:Prop} {l:List Prop} (h:AllP (p :: l)):p∧AllP l:=by
 cases l with
 | nil=>exact ⟨h,trivial⟩
 | cons q l=>exact h
def Al {α:Type} (p:α→Prop):List α→Prop
 | []=>True
 | a :: l=>p a∧Al p l
theorem memB_al {p:Nat→Prop} {t:Nat}:∀ {l:List Nat},Al p l→memB t l=true→p t
 | [],_,h=>by cases h
 | a :: l,⟨h1,h2⟩,h=>by
  unfold memB at h
  split at h
  ·rename_i hb; have:=Nat.eq_of_beq_eq_true hb; subst this; exact h1
  ·exact memB_al h2 h
theorem lkp_al {β:Type} {p:Nat×β→Prop} {t:Nat} {y:β}:∀ {l:List (Nat×β)},Al p l→lkp t l=some y→p (t,y)
 | [],_,h=>by cases h
 | (a,z) :: l,⟨h1,h2⟩,h=>by
  unfold lkp at h
  split at h
  ·rename_i hb; have:=Nat.eq_of_beq_eq_true hb; subst this; cases h; exact h1
  ·exact lkp_al h2 h
def forceL {α β:Type _}:List α→(List α→β)→β
 | [],k=>k []
 | a :: l,k=>forceL l fun l'=>k (a :: l')
theorem forceL_eq {α β:Type _}:∀ (l:List α) (k:List α→β),forceL l k=k l
 | [],_=>rfl
 | a :: l,k=>forceL_eq l fun l'=>k (a :: l')
def putK {β:Type _} (env:Env) (d:Option Tmp) (x:EV) (k:Env→β):β:=match d with
 | some d=>k ((d,x) :: env)
 | none=>k env
theorem putK_eq {β:Type _} (env:Env) (d:Option Tmp) (x:EV) (k:Env→β):putK env d x k=k (env.put d x):=by cases d <;> rfl
structure FT where
 one:List Nat
 agg:List (Nat×Nat)
 sz:List (Nat×Nat)
 fo:List (Nat×List (Nat×Nat))
 zr:List (Nat×List D)
def FT.Ok (P:Program) (T:FT):Prop :=
 Al (fun t=>(P.underlying t).map oneB=some true) T.one∧Al (fun x=>(P.underlying x.1).map oneB=some false∧(P.info? x.1).map (·.size)=some x.2) T.agg∧Al (fun x=>(P.info? x.1).map (·.size)=some x.2) T.sz ∧
 Al (fun x=>Al (fun y=>fieldOff P x.1 y.1=some y.2) x.2) T.fo∧Al (fun x=>∃ z,(P.info? x.1).bind (·.zero)=some z∧cellsE (.d (cv z))=some (x.2.map EV.d)) T.zr
def dOf:Option D→Option EV
 | some x=>some (.d x)
 | none=>none
def isU8:IntKind→Bool
 | .u8=>true
 | _=>false
def intB (op:BinOp) (a b:Int):Option Bool:=match op with
 | .lss=>some (decide (a < b))
 | .leq=>some (decide (a≤b))
 | .gtr=>some (decide (a > b))
 | .geq=>some (decide (a≥b))
 | .eql=>some (a==b)
 | .neq=>some (a != b)
 | _=>none
def strB (op:BinOp) (a b:List UInt8):Option Bool:=match op with
 | .eql=>some (a==b)
 | .neq=>some (a != b)
 | _=>none
def exB:Option Bool→Option D
 | some b=>some (.ex (.bool b))
 | none=>none
def binE (op:BinOp) (x y:D):Option D:=match x with
 | .ex (.int k a)=>match isU8 k with
  | true=>none
  | false=>match y with
   | .ex (.int k' b)=>match decide (k=k') with
    | true=>exB (intB op a b)
    | false=>none
   | _=>none
 | .ex (.string ⟨⟨a⟩⟩)=>match y with
  | .ex (.string ⟨⟨b⟩⟩)=>exB (strB op a b)
  | _=>none
 | _=>none
def loadE (n:Nat) (cs:List EV) (off:Nat):Option EV:=match Nat.ble (off+n) cs.length with
 | true=>match allD ((cs.drop off).take n) with
  | some ds=>some (.d (.agg ds))
  | none=>none
 | false=>none
def loadR (n:Nat) (cs:List D):Option EV:=match Nat.beq cs.length n with
 | true=>some (.d (.agg cs))
 | false=>match Nat.ble n cs.length with
  | true=>some (.d (.agg (cs.take n)))
  | false=>none
def rowOf (st:St) (o:Nat):Option (TypeId×List EV):=match st.objs[o]? with
 | some (.row ty cs)=>some (ty,cs)
 | _=>none
def qv (T:FT) (env:Env) (st:St):Op→Option EV
 | .move x=>evo env x
 | .assign x=>evo env x
 | .nilCheck x=>match evo env x with
  | some (.ref o f)=>some (.ref o f)
  | _=>none
 | .extract x i=>match evo env x with
  | some (.d (.tup cs))=>dOf cs[i]?
  | some (.tup cs)=>cs[i]?
  | _=>none
 | .binOp op t x y t2=>match evo env x with
  | some (.d a)=>match evo env y with
   | some (.d b)=>dOf (binE op a b)
   | _=>none
  | _=>none
 | .unOp .not t x=>match evo env x with
  | some (.d (.ex (.bool a)))=>some (.d (.ex (.bool (!a))))
  | _=>none
 | .fieldAddr s x f=>match lkp s T.fo with
  | some fs=>match lkp f fs with
   | some off=>match evo env x with
    | some (.ref o o0)=>some (.ref o (o0+off))
    | some (.d (.ro cs))=>some (.d (.ro (cs.drop off)))
    | some (.vp t k i o)=>some (.vp t k i (o+off))
    | _=>none
   | none=>none
  | none=>none
 | .load t x=>match evo env x with
  | some (.ref o off)=>match rowOf st o with
   | some (_,cs)=>match memB t T.one with
    | true=>cs[off]?
    | false=>match lkp t T.agg with
     | some n=>loadE n cs off
     | none=>none
   | none=>none
  | some (.d (.ro cs))=>match memB t T.one with
   | true=>match cs with
    | c :: _=>some (.d c)
    | []=>none
   | false=>match lkp t T.agg with
    | some n=>loadR n cs
    | none=>none
  | _=>none
 | _=>none
def pk (env:Env):Op→Option (EV×Prop)
 | .pick x y z=>match evo env x with
  | some (.d (.ex (.bool a)))=>match evo env y with
   | some (.gd c (.d (.ex (.bool v))))=>match evo env z with
    | some (.d (.ex (.bool false)))=>some (.d (.ex (.bool (a && v))),c=a)
    | _=>none
   | some (.d (.ex (.bool true)))=>match evo env z with
    | some (.gd c (.d (.ex (.bool v))))=>some (.d (.ex (.bool (a || v))),c=(!a))
    | _=>none
   | _=>none
  | _=>none
 | _=>none
section q
variable {P:Program} {T:FT} {env:Env} {st:St} {d:Option Tmp} {ty:TypeId} {pos:String} {after:Array Edge} {gd:Option (Nat×Bool)}
theorem binE_q {op:BinOp} {a b r:D} {x y:Operand} {t t2:TypeId} (hx:evo env x=some (.d a)) (hy:evo env y=some (.d b)) (h:binE op a b=some r):OpQ P env st ⟨d,.binOp op t x y t2,ty,pos,after,gd⟩ (.d r):=by
 unfold binE at h
 split at h
 ·split at h
  ·cases h
  ·split at h
   ·split at h
    ·rename_i hk
     have hk:=of_decide_eq_true hk
     subst hk
     unfold intB exB at h
     cases op <;> simp at h <;> subst h
     ·exact q_eql hx hy
     ·exact q_neq hx hy
     ·exact q_lss hx hy
     ·exact q_leq hx hy
     ·exact q_gtr hx hy
     ·exact q_geq hx hy
    ·cases h
   ·cases h
 ·split at h
  ·unfold strB exB at h
   cases op <;> simp at h <;> subst h
   ·exact q_seql hx hy
   ·exact q_sneq hx hy
  ·cases h
 ·cases h
theorem qv_sound (hT:T.Ok P) {op:Op} {x:EV} (h:qv T env st op=some x):OpQ P env st ⟨d,op,ty,pos,after,gd⟩ x:=by
 obtain ⟨h1,h2,h3,h4,h5⟩:=hT
 unfold qv at h
 split at h
 ·exact q_move h
 ·exact q_assign h
 ·split at h
  ·rename_i hx; cases h; exact q_nilRef hx
  ·cases h
 ·split at h
  ·rename_i hx
   unfold dOf at h
   split at h
   ·rename_i hc; cases h; exact q_extract hx hc
   ·cases h
  ·rename_i hx; exact q_extractE hx h
  ·cases h
 ·split at h
  ·rename_i a hx
   split at h
   ·rename_i b hy
    unfold dOf at h
    split at h
    ·rename_i r hr; cases h; exact binE_q hx hy hr
    ·cases h
   ·cases h
  ·cases h
 ·split at h
  ·rename_i hx; cases h; exact q_not hx
  ·cases h
 ·split at h
  ·rename_i fs hl
   split at h
   ·rename_i off hf
    have:=lkp_al (lkp_al h4 hl) hf
    split at h
    ·rename_i hx; cases h; exact q_fieldRef this hx
    ·rename_i hx; cases h; exact q_fieldRo this hx
    ·rename_i hx; cases h; exact q_fieldVp this hx
    ·cases h
   ·cases h
  ·cases h
 ·split at h
  ·rename_i o off hx
   split at h
   ·rename_i ty' cs hr
    unfold rowOf at hr
    split at hr
    ·rename_i ty2 cs2 ho
     cases hr
     split at h
     ·rename_i hm
      exact q_loadO (memB_al h1 hm) hx ho h
     ·split at h
      ·rename_i n hl
       unfold loadE at h
       split at h
       ·rename_i hn
        split at h
        ·rename_i ds hd
         cases h
         have:=lkp_al h2 hl
         exact q_loadOA this.1 this.2 hx ho (Nat.le_of_ble_eq_true hn) hd
        ·cases h
       ·cases h
      ·cases h
    ·cases hr
   ·cases h
  ·rename_i cs hx
   split at h
   ·rename_i hm
    split at h
    ·cases h; exact q_load (memB_al h1 hm) hx
    ·cases h
   ·split at h
    ·rename_i n hl
     have:=lkp_al h2 hl
     unfold loadR at h
     split at h
     ·rename_i hn; cases h; exact q_loadAll this.1 this.2 hx hn
     ·split at h
      ·rename_i hn; cases h; exact q_loadA this.1 this.2 (Nat.le_of_ble_eq_true hn) hx
      ·cases h
    ·cases h
  ·cases h
 ·cases h
theorem pk_sound {op:Op} {x:EV} {p:Prop} (h:pk env op=some (x,p)) (hp:p):OpQ P env st ⟨d,op,ty,pos,after,gd⟩ x:=by
 unfold pk at h
 split at h
 ·split at h
  ·rename_i a hx
   split at h
   ·rename_i c v hy
    split at h
    ·rename_i hz
     simp only [Option.some.injEq,Prod.mk.injEq] at h
     obtain ⟨rfl,rfl⟩:=h
     subst hp
     exact q_pickAndB hx hy hz
    ·cases h
   ·rename_i hy
    split at h
    ·rename_i c v hz
     simp only [Option.some.injEq,Prod.mk.injEq] at h
     obtain ⟨rfl,rfl⟩:=h
     subst hp
     exact q_pickOrB hx hy hz
    ·cases h
   ·cases h
  ·cases h
 ·cases h
end q
inductive Hint where
 | g (x:EV)
 | v (x:EV) (st:St)
 | u (st:St)
 | t (x:EV) (tk:Nat) (tl:Tail)
 | n (x:EV) (tl:Tail)
 | r (o:Nat)
 | p (n:Nat)
  | f (k:Nat) (x:EV)
 | w (k:Nat) (st:St)
def forced (n:Nat):List Hint→Option (EV×List Hint)
 | .f k x :: hs=>match Nat.beq k n with
  | true=>some (x,hs)
  | false=>none
 | _=>none
def forcedU (n:Nat):List Hint→Option (St×List Hint)
 | .w k s :: hs=>match Nat.beq k n with
  | true=>some (s,hs)
  | false=>none
 | _=>none
inductive Cf where
 | run (k:List Item)
 | ops (l rest:List Oper) (k:List Item)
 | draw (l:List Oper) (p:Nat) (os:List Oper) (k:List Item)
@[reducible] def CRun (P:Program) (f:Ctx) (N:Nat) (S:Start) (Q:EV→St→Prop):Cf→Env→St→Prop
 | .run k=>ARun P f N S Q k
 | .ops l r k=>AOps P f N S Q l r k
 | .draw l p os k=>DOps P f N S Q l p os k
structure Out where
 cf:Cf
 env:Env
 st:St
 ps:List Prop
def gdE {β:Type _} (b:Bool) (env:Env):List Tmp→List Prop→(Env→List Prop→β)→β
 | [],ps,k=>k [] ps
 | t :: ts,ps,k=>match lookup t env with
  | some (.gd c y)=>gdE b env ts ((c=b) :: ps) fun e ps=>k ((t,y) :: e) ps
  | some x=>gdE b env ts ps fun e ps=>k ((t,x) :: e) ps
  | none=>gdE b env ts ps k
theorem gdE_spec {β:Type _} {b:Bool} {env:Env}:∀ (ts:List Tmp) (ps:List Prop) (k:Env→List Prop→β),∃ e ps',gdE b env ts ps k=k e ps'∧(AllP ps'→AllP ps∧GdEnv b env e)
 | [],ps,k=>⟨[],ps,rfl,fun h=>⟨h,trivial⟩⟩
 | t :: ts,ps,k=>by
  unfold gdE
  split
  ·rename_i c y hl
   obtain ⟨e,ps',h1,h2⟩:=gdE_spec (b:=b) (env:=env) ts ((c=b) :: ps) fun e ps=>k ((t,y) :: e) ps
   refine ⟨_,_,h1,fun h=>?_⟩
   obtain ⟨h34,h5⟩:=h2 h
   obtain ⟨h3,h4⟩:=h34.c
   exact ⟨h4,.inr (.inl (by rw [hl,h3])),h5⟩
  ·rename_i x hne hl
   obtain ⟨e,ps',h1,h2⟩:=gdE_spec (b:=b) (env:=env) ts ps fun e ps=>k ((t,x) :: e) ps
   exact ⟨_,_,h1,fun h=>⟨(h2 h).1,.inl hl,(h2 h).2⟩⟩
  ·obtain ⟨e,ps',h1,h2⟩:=gdE_spec (b:=b) (env:=env) ts ps k
   exact ⟨e,ps',h1,h2⟩
def stepG (P:Program) (T:FT) (n:Nat) (st:St) (o:Oper) (b:Bool) (hs:List Hint) (F:Option Out) (K:EV→List Hint→List Prop→Option Out) (e:Env) (ps:List Prop):Option Out :=
 match forced n hs with
 | some (x,hs)=>K (.gd b x) hs ((b=true→OpG P e st o x) :: ps)
 | none=>match qv T e st o.op with
  | some x=>K (.gd b x) hs ps
  | none=>match pk e o.op with
   | some (x,p)=>K (.gd b x) hs (p :: ps)
   | none=>match hs with
    | .g x :: hs=>K (.gd b x) hs ((b=true→OpG P e st o x) :: ps)
    | _=>F
def stepQ (P:Program) (T:FT) (n:Nat) (l:List Oper) (e:Env) (st:St) (o:Oper) (hs:List Hint) (ps:List Prop) (F:Option Out) (K:EV→List Hint→List Prop→Option Out):Option Out :=
 match o.guard with
 | none=>match forced n hs with
  | some (x,hs)=>K x hs (OpG P e st o x :: ps)
  | none=>match qv T e st o.op with
   | some x=>K x hs ps
   | none=>match pk e o.op with
    | some (x,p)=>K x hs (p :: ps)
    | none=>match hs with
     | .g x :: hs=>K x hs (OpG P e st o x :: ps)
     | _=>F
 | some (j,want)=>match (l[j]?).bind (·.dst) with
  | some t=>match lookup t e with
   | some c=>match gcond c want with
    | some b=>gdE b e (opTmps o.op) ps (stepG P T n st o b hs F K)
    | none=>F
   | none=>F
  | none=>F
theorem stepQ_spec {P:Program} {T:FT} (hT:T.Ok P) {n:Nat} {l:List Oper} {e:Env} {st:St} {o:Oper} {hs:List Hint} {ps:List Prop} {F:Option Out} {K:EV→List Hint→List Prop→Option Out} {out:Option Out} (h:stepQ P T n l e st o hs ps F K=out) :
  out=F∨∃ x hs' ps',out=K x hs' ps'∧(AllP ps'→AllP ps∧OpAny P l e st o x):=by
 obtain ⟨dst,op,ty,pos,after,guard⟩:=o
 unfold stepQ at h
 dsimp only at h
 split at h
 ·split at h
  ·exact .inr ⟨_,_,_,h.symm,fun hp=>⟨hp.c.2,.inl ⟨rfl,hp.c.1⟩⟩⟩
  ·split at h
   ·rename_i x hq
    exact .inr ⟨_,_,_,h.symm,fun hp=>⟨hp,.inl ⟨rfl,(qv_sound hT hq).g⟩⟩⟩
   ·split at h
    ·rename_i x p hq
     exact .inr ⟨_,_,_,h.symm,fun hp=>⟨hp.c.2,.inl ⟨rfl,(pk_sound hq hp.c.1).g⟩⟩⟩
    ·split at h
     ·exact .inr ⟨_,_,_,h.symm,fun hp=>⟨hp.c.2,.inl ⟨rfl,hp.c.1⟩⟩⟩
     ·exact .inl h.symm
 ·rename_i j want
  split at h
  ·rename_i t ht
   split at h
   ·rename_i c hc
    split at h
    ·rename_i b hb
     obtain ⟨e',ps1,h1,h2⟩:=gdE_spec (b:=b) (env:=e) (opTmps op) ps (stepG P T n st ⟨dst,op,ty,pos,after,some (j,want)⟩ b hs F K)
     rw [h1] at h
     have mk:∀ x,(b=true→OpG P e' st ⟨dst,op,ty,pos,after,some (j,want)⟩ x)→GdEnv b e e'→OpAny P l e st ⟨dst,op,ty,pos,after,some (j,want)⟩ (.gd b x):=fun x hx hE=>.inr ⟨j,want,t,c,b,x,e',rfl,ht,hc,hb,rfl,hE,hx⟩
     unfold stepG at h
     dsimp only at h
     split at h
     ·exact .inr ⟨_,_,_,h.symm,fun hp=>⟨(h2 hp.c.2).1,mk _ hp.c.1 (h2 hp.c.2).2⟩⟩
     ·split at h
      ·rename_i x hq
       exact .inr ⟨_,_,_,h.symm,fun hp=>⟨(h2 hp).1,mk _ (fun _=>(qv_sound hT hq).g) (h2 hp).2⟩⟩
      ·split at h
       ·rename_i x p hq
        exact .inr ⟨_,_,_,h.symm,fun hp=>⟨(h2 hp.c.2).1,mk _ (fun _=>(pk_sound hq hp.c.1).g) (h2 hp.c.2).2⟩⟩
       ·split at h
        ·exact .inr ⟨_,_,_,h.symm,fun hp=>⟨(h2 hp.c.2).1,mk _ hp.c.1 (h2 hp.c.2).2⟩⟩
        ·exact .inl h.symm
    ·exact .inl h.symm
   ·exact .inl h.symm
  ·exact .inl h.symm
def stepE (P:Program) (base:Nat) (T:FT) (e:Env) (st:St) (o:Oper) (hs:List Hint) (ps:List Prop) (K:EV→St→List Hint→List Prop→Option Out):Option Out :=
  match o.guard with
  | some _=>none
  | none=>match st with
   | ⟨ob,tl⟩=>match hs with
    | .r n :: hs=>match Nat.beq n ob.length with
      | false=>none
      | true=>match o.op with
        | .box t x=>match evo e x with
          | some y=>match cellsE y with
            | some cs=>forceL cs fun cs=>forceL (ob++[.row t cs]) fun os=>K (.ref n 0) ⟨os,tl⟩ hs ps
            | none=>none
          | none=>none
        | .alloc t=>match lkp t T.zr with
          | some zs=>forceL (zs.map EV.d) fun cs=>forceL (ob++[.row t cs]) fun os=>K (.ref n 0) ⟨os,tl⟩ hs ps
          | none=>none
        | _=>none
    | .v x st' :: hs=>K x st' hs (OpV P base e st o x st' :: ps)
    | .u st' :: hs=>K (.d .any) st' hs (OpU P base e st o st' :: ps)
    | .t x tk y :: hs=>forceL (tl.set tk y) fun ts=>K x ⟨ob,ts⟩ hs (OpV P base e st o x (st.setTail tk y) :: ps)
    | .n x y :: hs=>forceL (tl++[y]) fun ts=>K x ⟨ob,ts⟩ hs (OpV P base e st o x (st.tok y) :: ps)
    | _=>none
def stepS (P:Program) (base:Nat) (T:FT) (n:Nat) (e:Env) (st:St) (o:Oper) (hs:List Hint) (ps:List Prop) (F:Option Out) (K:St→List Hint→List Prop→Option Out):Option Out :=
  match o.guard with
  | some _=>F
  | none=>match forcedU n hs with
   | some (st',hs)=>K st' hs (OpU P base e st o st' :: ps)
   | none=>match o.op with
    | .store t x y=>match evo e x with
      | some (.ref ob off)=>match rowOf st ob with
        | some (ty,cs)=>match evo e y with
          | some y=>match cellsE y with
            | some new=>match lkp t T.sz with
              | some n=>match Nat.beq n new.length with
                | true=>match Nat.ble (off+new.length) cs.length with
                  | true=>match st with
                    | ⟨os,tl⟩=>forceL (putCells cs off new) fun cs=>forceL (os.set ob (.row ty cs)) fun os=>K ⟨os,tl⟩ hs ps
                  | false=>F
                | false=>F
              | none=>F
            | none=>F
          | none=>F
        | none=>F
      | _=>F
    | _=>F
section e
variable {P:Program} {base:Nat} {T:FT} (hT:T.Ok P) {e:Env} {st:St} {o:Oper} {hs:List Hint} {ps:List Prop} {out:Out}
include hT
theorem stepE_spec {K:EV→St→List Hint→List Prop→Option Out} (h:stepE P base T e st o hs ps K=some out) :
  o.guard=none∧∃ x st' hs' ps',K x st' hs' ps'=some out∧(AllP ps'→AllP ps∧(OpV P base e st o x st'∨(x=.d .any∧OpU P base e st o st'))):=by
 obtain ⟨dst,op,ty,pos,after,guard⟩:=o
 unfold stepE at h
 dsimp only at h
 split at h
 ·cases h
 ·refine ⟨rfl,?_⟩
  simp only [forceL_eq] at h
  split at h
  ·split at h
   ·cases h
   ·rename_i hn
    have hn:=Nat.eq_of_beq_eq_true hn
    split at h
    ·rename_i t x
     split at h
     ·rename_i y hy
      split at h
      ·rename_i cs hc
       refine ⟨_,_,_,_,h,fun hp=>⟨hp,.inl ?_⟩⟩
       rw [hn]
       exact v_box hy hc
      ·cases h
     ·cases h
    ·rename_i t
     split at h
     ·rename_i zs hz
      obtain ⟨z,hz1,hz2⟩:=lkp_al hT.2.2.2.2 hz
      refine ⟨_,_,_,_,h,fun hp=>⟨hp,.inl ?_⟩⟩
      rw [hn]
      exact v_alloc hz1 hz2
     ·cases h
    ·cases h
  ·exact ⟨_,_,_,_,h,fun hp=>⟨hp.c.2,.inl hp.c.1⟩⟩
  ·exact ⟨_,_,_,_,h,fun hp=>⟨hp.c.2,.inr ⟨rfl,hp.c.1⟩⟩⟩
  ·exact ⟨_,_,_,_,h,fun hp=>⟨hp.c.2,.inl hp.c.1⟩⟩
  ·exact ⟨_,_,_,_,h,fun hp=>⟨hp.c.2,.inl hp.c.1⟩⟩
  ·cases h
theorem stepS_spec {n:Nat} {F r:Option Out} {K:St→List Hint→List Prop→Option Out} (h:stepS P base T n e st o hs ps F K=r):r=F∨(o.guard=none∧∃ st' hs' ps',r=K st' hs' ps'∧(AllP ps'→AllP ps∧OpU P base e st o st')):=by
 obtain ⟨dst,op,ty,pos,after,guard⟩:=o
 unfold stepS at h
 dsimp only at h
 split at h
 ·exact .inl h.symm
 ·split at h
  ·exact .inr ⟨rfl,_,_,_,h.symm,fun hp=>⟨hp.c.2,hp.c.1⟩⟩
  simp only [forceL_eq] at h
  split at h
  ·rename_i t x y
   split at h
   ·rename_i ob off hx
    split at h
    ·rename_i ty' cs hr
     have hr:st.objs[ob]?=some (.row ty' cs):=by
      unfold rowOf at hr
      split at hr
      ·rename_i h1; cases hr; exact h1
      ·cases hr
     split at h
     ·rename_i yv hy
      split at h
      ·rename_i new hc
       split at h
       ·rename_i n hl
        split at h
        ·rename_i hn
         have hn:=Nat.eq_of_beq_eq_true hn
         split at h
         ·rename_i hle
          have hsz:=lkp_al hT.2.2.1 hl
          refine .inr ⟨rfl,_,_,_,h.symm,fun hp=>⟨hp,u_store hx hy hr hc (Nat.le_of_ble_eq_true hle) ?_⟩⟩
          rw [←hn]; exact hsz
         ·exact .inl h.symm
        ·exact .inl h.symm
       ·exact .inl h.symm
      ·exact .inl h.symm
     ·exact .inl h.symm
    ·exact .inl h.symm
   ·exact .inl h.symm
  ·exact .inl h.symm
end e
def ctl (hs:List Hint) (ps:List Prop):List Item→(Cf→List Hint→List Prop→Option Out)→Option Out
 | .code (.seq x y) :: k,K=>K (.run (.code x :: .code y :: k)) hs ps
 | .code .skip :: k,K=>K (.run k) hs ps
 | .inBlock id :: k,K=>K (.run k) hs ps
 | .code (.block id c) :: k,K=>K (.run (.code c :: .inBlock id :: k)) hs ps
 | .code (.exit id) :: k,K=>match exitTo id k with
  | some k'=>K (.run k') hs ps
  | none=>none
 | .code (.region id ⟨l⟩ false) :: k,K=>K (.ops l l k) hs ps
 | .code (.region id ⟨l⟩ true) :: k,K=>match hs with
  | .p p :: hs=>forceL (l.take p) fun os=>K (.draw l p os k) hs ((drawB l p=true) :: ps)
  | _=>none
 | _,_=>none
def okO (N:Nat) (o:Oper):Bool:=match o.dst with
 | some d=>Nat.ble (d+1) N
 | none=>match o.guard with
  | none=>true
  | some _=>false
theorem okO_dst {N:Nat} {o:Oper} (h:okO N o=true):dstOk N o.dst=true∧(o.guard≠none→o.dst≠none):=by
 unfold okO at h
 split at h
 ·rename_i d hd; rw [hd]; exact ⟨h,fun _=>by simp⟩
 ·rename_i hd; rw [hd]
  split at h
  ·rename_i hg; exact ⟨rfl,fun h=>absurd hg h⟩
  ·cases h
def go (P:Program) (base:Nat) (T:FT) (N:Nat):Nat→Cf→Env→St→List Hint→List Prop→Option Out
 | 0,cf,env,st,hs,ps=>match hs with
  | []=>some ⟨cf,env,st,ps⟩
  | _=>none
 | n+1,cf,env,st,hs,ps=>match cf with
  | .run k=>ctl hs ps k fun cf hs ps=>go P base T N n cf env st hs ps
  | .ops l rest k=>match rest with
   | []=>go P base T N n (.run k) env st hs ps
   | o :: rest=>match okO N o with
    | true=>stepS P base T (n+1) env st o hs ps
     (stepQ P T (n+1) l env st o hs ps
      (stepE P base T env st o hs ps fun x st hs ps=>putK env o.dst x fun env=>go P base T N n (.ops l rest k) env st hs ps)
      fun x hs ps=>putK env o.dst x fun env=>go P base T N n (.ops l rest k) env st hs ps)
     fun st hs ps=>putK env o.dst (.d .any) fun env=>go P base T N n (.ops l rest k) env st hs ps
    | false=>none
  | .draw l p os k=>match os with
   | []=>forceL (l.drop p) fun r=>go P base T N n (.ops l r k) env st hs ps
   | o :: os=>match okO N o with
    | true=>stepQ P T (n+1) l (renv l o env) st o hs ps none fun x hs ps=>putK env o.dst x fun env=>go P base T N n (.draw l p os k) env st hs ps
    | false=>none
section sound
variable {P:Program} {f:Ctx} {N:Nat} {S:Start} {Q:EV→St→Prop} {T:FT}
theorem AOps.any {ops rest:List Oper} {k:List Item} {env:Env} {st:St} {o:Oper} {x:EV} (h:OpAny P ops env st o x) (hd:dstOk N o.dst=true) (hs:o.guard≠none→o.dst≠none) (hk:AOps P f N S Q ops rest k (env.put o.dst x) st) :
  AOps P f N S Q ops (o :: rest) k env st:=by
 obtain ⟨dst,op,ty,pos,after,guard⟩:=o
 rcases h with ⟨hg,h⟩ | ⟨j,want,t,c,b,y,env',hg,hj,hl,hc,rfl,hE,h⟩
 ·have hg:guard=none:=hg
  subst hg
  exact .g h hd hk
 ·have hg:guard=_:=hg
  subst hg
  cases dst with
  | none=>exact absurd rfl (hs (by simp))
  | some d=>exact .guardG hj hl hc hE hd h hk
theorem DOps.any {l os:List Oper} {p:Nat} {k:List Item} {env:Env} {st:St} {o:Oper} {x:EV} (h:OpAny P l (renv l o env) st o x) (hd:dstOk N o.dst=true) (hk:DOps P f N S Q l p os k (env.put o.dst x) st) :
  DOps P f N S Q l p (o :: os) k env st:=by
 obtain ⟨xs,h1,h2⟩:=hk
 exact ⟨x :: xs,⟨hd,h,h1⟩,h2⟩
theorem go_sound (hT:T.Ok P) (hm:P.follows .mixedOrders=true):∀ (n:Nat) (cf:Cf) (env:Env) (st:St) (hs:List Hint) (ps:List Prop) (out:Out),go P S.base T N n cf env st hs ps=some out→AllP out.ps →
  AllP ps∧(CRun P f N S Q out.cf out.env out.st→CRun P f N S Q cf env st)
 | 0,cf,env,st,hs,ps,out,h,hp=>by
  unfold go at h
  split at h
  ·cases h; exact ⟨hp,fun h=>h⟩
  ·cases h
 | n+1,.run k,env,st,hs,ps,out,h,hp=>by
  unfold go at h
  dsimp only at h
  have ih:=fun cf hs ps=>go_sound hT hm n cf env st hs ps out
  unfold ctl at h
  split at h
  ·obtain ⟨h1,h2⟩:=ih _ _ _ h hp; exact ⟨h1,fun h=>.seq (h2 h)⟩
  ·obtain ⟨h1,h2⟩:=ih _ _ _ h hp; exact ⟨h1,fun h=>.skip (h2 h)⟩
  ·obtain ⟨h1,h2⟩:=ih _ _ _ h hp; exact ⟨h1,fun h=>.inBlock (h2 h)⟩
  ·obtain ⟨h1,h2⟩:=ih _ _ _ h hp; exact ⟨h1,fun h=>.block (h2 h)⟩
  ·split at h
   ·rename_i hk
    obtain ⟨h1,h2⟩:=ih _ _ _ h hp; exact ⟨h1,fun h=>.exit hk (h2 h)⟩
   ·cases h
  ·obtain ⟨h1,h2⟩:=ih _ _ _ h hp; exact ⟨h1,fun h=>.region (h2 h)⟩
  ·split at h
   ·rw [forceL_eq] at h
    obtain ⟨h1,h2⟩:=ih _ _ _ h hp; exact ⟨h1.c.2,fun h=>.drawn _ hm h1.c.1 (h2 h)⟩
   ·cases h
  ·cases h
 | n+1,.ops l [] k,env,st,hs,ps,out,h,hp=>by
  unfold go at h
  dsimp only at h
  obtain ⟨h1,h2⟩:=go_sound hT hm n _ _ _ _ _ out h hp
  exact ⟨h1,fun h=>.nil (h2 h)⟩
 | n+1,.ops l (o :: rest) k,env,st,hs,ps,out,h,hp=>by
  unfold go at h
  dsimp only at h
  split at h
  ·rename_i ho
   obtain ⟨ho1,ho2⟩:=okO_dst ho
   rcases stepS_spec (base:=S.base) hT h with h | ⟨hg,st',hs',ps',h,hu⟩
   ·rcases stepQ_spec hT h.symm with h | ⟨x,hs',ps',h,ha⟩
    ·obtain ⟨hg,x,st',hs',ps',h,ha⟩:=stepE_spec hT h.symm
     rw [putK_eq] at h
     obtain ⟨h1,h2⟩:=go_sound hT hm n _ _ _ _ _ out h hp
     obtain ⟨h3,h4⟩:=ha h1
     refine ⟨h3,fun hk=>?_⟩
     rcases h4 with h4 | ⟨rfl,h4⟩
     ·exact .op hg ho1 h4 (h2 hk)
     ·exact .opU hg ho1 h4 (h2 hk)
    ·rw [putK_eq] at h
     obtain ⟨h1,h2⟩:=go_sound hT hm n _ _ _ _ _ out h.symm hp
     obtain ⟨h3,h4⟩:=ha h1
     exact ⟨h3,fun h=>.any h4 ho1 ho2 (h2 h)⟩
   ·rw [putK_eq] at h
    obtain ⟨h1,h2⟩:=go_sound hT hm n _ _ _ _ _ out h.symm hp
    obtain ⟨h3,h4⟩:=hu h1
    exact ⟨h3,fun h=>.opU hg ho1 h4 (h2 h)⟩
  ·cases h
 | n+1,.draw l p [] k,env,st,hs,ps,out,h,hp=>by
  unfold go at h
  dsimp only at h
  rw [forceL_eq] at h
  obtain ⟨h1,h2⟩:=go_sound hT hm n _ _ _ _ _ out h hp
  exact ⟨h1,fun h=>.nil (h2 h)⟩
 | n+1,.draw l p (o :: os) k,env,st,hs,ps,out,h,hp=>by
  unfold go at h
  dsimp only at h
  split at h
  ·rename_i ho
   obtain ⟨ho1,ho2⟩:=okO_dst ho
   rcases stepQ_spec hT h with h | ⟨x,hs',ps',h,ha⟩
   ·cases h
   ·rw [putK_eq] at h
    obtain ⟨h1,h2⟩:=go_sound hT hm n _ _ _ _ _ out h.symm hp
    obtain ⟨h3,h4⟩:=ha h1
    exact ⟨h3,fun h=>.any h4 ho1 (h2 h)⟩
  ·cases h
def resV (T:FT) (env:Env) (st:St):List ResultVar→Option (List EV)
 | []=>some []
 | .tmp t :: l=>match lookup t env with
  | some x=>match resV T env st l with
   | some r=>some (x :: r)
   | none=>none
  | none=>none
 | .cell a ty :: l=>match lookup a env with
  | some (.ref o off)=>match qv T env st (.load ty (.tmp a)) with
   | some x=>match resV T env st l with
    | some r=>some (x :: r)
    | none=>none
   | none=>none
  | _=>none
theorem resV_sound (hT:T.Ok P) {env:Env} {st:St}:∀ {l:List ResultVar} {es:List EV},resV T env st l=some es→ResEVs P env st l es
 | [],es,h=>by cases h; trivial
 | .tmp t :: l,es,h=>by
  unfold resV at h
  split at h
  ·rename_i x hx
   split at h
   ·rename_i r hr; cases h; exact ⟨hx,resV_sound hT hr⟩
   ·cases h
  ·cases h
 | .cell a ty :: l,es,h=>by
  unfold resV at h
  split at h
  ·rename_i o off ha
   split at h
   ·rename_i x hq
    split at h
    ·rename_i r hr; cases h; exact ⟨⟨⟨o,off,ha⟩,qv_sound hT hq⟩,resV_sound hT hr⟩
    ·cases h
   ·cases h
  ·cases h
theorem ARun.rc {f:FuncId} (hT:T.Ok P) {fn:Func} {xs:List ResultVar} {es:List EV} {k:List Item} {env:Env} {st:St} (hf:P.funcs[f]?=some fn) (hr:fn.results=xs.toArray) (h:resV T env st xs=some es) (hQ:Q (retEV es) st) :
  ARun P (.of f) N S Q (.code .ret :: k) env st:=.retN xs es hf hr (resV_sound hT h) hQ
theorem ARun.ite {α:Type} {b:Bool} {d:Decidable (b=true)} {e1 e2:Option α} {r:α} {c:Operand} {x y:Code} {k:List Item} {env:Env} {st:St} (H:@ite _ (b=true) d e1 e2=some r) (hc:evo env c=some (.d (.ex (.bool b))))
  (ht:e1=some r→ARun P f N S Q (.code x :: k) env st) (hf:e2=some r→ARun P f N S Q (.code y :: k) env st):ARun P f N S Q (.code (.cond c x y) :: k) env st :=
 .cond hc (fun h=>ht (by rw [if_pos h] at H; exact H)) (fun h=>hf (by rw [if_neg (by simp [h])] at H; exact H))
def selE (env:Env):List (Nat×EV)→Option Env
 | []=>some []
 | (i,_) :: l=>match lookup i env with
  | some x=>match selE env l with
   | some r=>some ((i,x) :: r)
   | none=>none
  | none=>none
theorem selE_sub {env:Env}:∀ {l:List (Nat×EV)} {env':Env},selE env l=some env'→SubEnv env env'
 | [],env',h=>by cases h; trivial
 | (i,y) :: l,env',h=>by
  unfold selE at h
  split at h
  ·rename_i x hx
   split at h
   ·rename_i r hr; cases h; exact .cons hx (.rfl' _) (selE_sub hr)
   ·cases h
  ·cases h
section back
variable {todo:List Item} {env env':Env} {st st' s0:St}
theorem ARun.z (h:ARun P f N S Q todo env' st') (hs:st=st') (hE:selE env env'=some env'):ARun P f N S Q todo env st:=hs▸.sub (selE_sub hE) h
theorem ARun.y (h:ARun P f N S Q todo env' st') (hs:st=st') (hE:SubEnv env env'):ARun P f N S Q todo env st:=hs▸.sub hE h
theorem ARun.t (n m:Nat) (h:ARun P f N S Q todo env' st') (hE:selE env env'=some env') (ho:st.objs.take n=st'.objs) (ht:st.tails.take m=st'.tails) (hn:(Nat.ble n st.objs.length && Nat.ble m st.tails.length)=true)
  (hok:(okEnv n m env' && st'.objs.all (okObj n m))=true) (hS:S.st=s0) (hb:(Nat.ble s0.objs.length n && Nat.ble s0.tails.length m)=true):ARun P f N S Q todo env st:=by
 simp only [Bool.and_eq_true] at hn hb
 exact .to n m (selE_sub hE) ho ht hn.1 hn.2 hok (by rw [hS]; exact Nat.le_of_ble_eq_true hb.1) (by rw [hS]; exact Nat.le_of_ble_eq_true hb.2) h
end back
end sound
theorem OpU.e {P:Program} {base:Nat} {env:Env} {st st1 st2:St} {o:Oper} (h:OpU P base env st o st1) (he:st1=st2):OpU P base env st o st2:=he▸h
theorem OpV.e {P:Program} {base:Nat} {env:Env} {st st1 st2:St} {o:Oper} {x:EV} (h:OpV P base env st o x st1) (he:st1=st2):OpV P base env st o x st2:=he▸h
theorem QD.m {q:D→Prop} {r:EV} {st:St} {x:D} (hq:q x) (h:EVle r (.d x)):QD q r st:=⟨x,h,hq⟩
theorem EVle.tupD {ds:List D} {es:List EV} (h:es=ds.map EV.d):EVle (.tup es) (.d (.tup ds)):=by
 subst h
 refine .tupL ?_
 induction ds with
 | nil=>trivial
 | cons d ds ih=>exact ⟨.rfl' _,ih⟩
def ftB (P:Program) (T:FT):Bool :=
 T.one.all (fun t=>decide ((P.underlying t).map oneB=some true)) && T.agg.all (fun x=>decide ((P.underlying x.1).map oneB=some false) && decide ((P.info? x.1).map (·.size)=some x.2)) && T.sz.all (fun x=>decide ((P.info? x.1).map (·.size)=some x.2)) &&
 T.fo.all (fun x=>x.2.all fun y=>decide (fieldOff P x.1 y.1=some y.2))
theorem al_of {α:Type} {p:α→Prop}:∀ {l:List α},(∀ x,x∈l→p x)→Al p l
 | [],_=>trivial
 | a :: l,h=>⟨h a (by simp),al_of fun x hx=>h x (by simp [hx])⟩
theorem FT.ok_of {P:Program} {T:FT} (h:ftB P T=true) (hz:Al (fun x=>∃ z,(P.info? x.1).bind (·.zero)=some z∧cellsE (.d (cv z))=some (x.2.map EV.d)) T.zr):T.Ok P:=by
 simp only [ftB,Bool.and_eq_true,List.all_eq_true,decide_eq_true_eq] at h
 exact ⟨al_of h.1.1.1,al_of h.1.1.2,al_of h.1.2,al_of fun x hx=>al_of (h.2 x hx),hz⟩
def goF (P:Program) (base:Nat) (T:FT) (N n:Nat) (cf:Cf) (env:Env) (st:St) (hs:List Hint):Option Out:=forceL env fun env=>match st with
 | ⟨os,ts⟩=>forceL os fun os=>forceL ts fun ts=>go P base T N n cf env ⟨os,ts⟩ hs []
theorem goF_eq {P:Program} {base:Nat} {T:FT} {N n:Nat} {cf:Cf} {env:Env} {st:St} {hs:List Hint}:goF P base T N n cf env st hs=go P base T N n cf env st hs []:=by
 unfold goF; simp only [forceL_eq]
theorem goF_sound {P:Program} {f:Ctx} {N:Nat} {S:Start} {Q:EV→St→Prop} {T:FT} (hT:T.Ok P) (hm:P.follows .mixedOrders=true) {n:Nat} {cf:Cf} {env:Env} {st:St} {hs:List Hint} {out:Out} (h:goF P S.base T N n cf env st hs=some out) (hp:AllP out.ps) :
  CRun P f N S Q out.cf out.env out.st→CRun P f N S Q cf env st:=(go_sound hT hm n cf env st hs [] out (goF_eq▸h) hp).2
structure SlT (P:Program) (t e sz:Nat):Prop where
 ht:P.underlying t=some (.slice e)
 hi:∃ inf z,P.info? e=some inf∧inf.zero=some z∧inf.size=sz∧z.cells.size=sz∧inf.bytes≤100000
theorem SlT.of {P:Program} {t e sz b:Nat} {z:Value} (ht:P.underlying t=some (.slice e)) (h:∃ i,P.info? e=some i∧i.zero=some z∧i.size=sz∧i.bytes=b) (hz:z.cells.size=sz) (hb:Nat.ble b 100000=true):SlT P t e sz :=
 let ⟨i,h1,h2,h3,h4⟩:=h
 ⟨ht,i,z,h1,h2,h3,hz,by rw [h4]; exact Nat.le_of_ble_eq_true hb⟩
section slt
variable {P:Program} {t e sz:Nat} (s:SlT P t e sz) {base:Nat} {env:Env} {st:St} {d:Option Tmp} {ty:TypeId} {pos:String} {after:Array Edge} {gd:Option (Nat×Bool)} {x y:Operand} {α:Type} {row:α→List D} {l l':List α} {ev w:EV}
include s
theorem SlT.n (hx:evo env x=some ev) (hs:asSl ev=some (sz,l.map row)):OpG P env st ⟨d,.call ⟨.builtin .len,#[x],#[t]⟩,ty,pos,after,gd⟩ (.d (cI (l.length:Int))):=(q_lenL s.ht hx hs).g
theorem SlT.ix [Inhabited α] {k:IntKind} {i:Int} (hx:evo env x=some ev) (hs:asSl ev=some (sz,l.map row)) (hy:evo env y=some (.d (.ex (.int k i)))) (h:0≤i∧i < l.length) :
  OpG P env st ⟨d,.indexAddr t x y,ty,pos,after,gd⟩ (.d (.ro (row (nth l i.toNat)))):=by
 obtain ⟨inf,z,h1,_,h3,_⟩:=s.hi
 exact (q_idxL s.ht h1 h3 hx hs hy h).g
theorem SlT.a {tk:Nat} (hx:evo env x=some (.tsl sz (l.map row) tk)) (htl:st.tails[tk]?=some ⟨e,sz,l.length,none⟩) (hy:evo env y=some w) (hs:asSl w=some (sz,l'.map row)) (hn:l.length+l'.length≤1000000000) :
  OpV P base env st ⟨d,.call ⟨.builtin .append,#[x,y],#[t,t]⟩,ty,pos,after,gd⟩ (.tsl sz ((l++l').map row) tk) (st.setTail tk ⟨e,sz,(l++l').length,none⟩):=by
 obtain ⟨inf,z,h1,h2,h3,h4,h5⟩:=s.hi
 exact v_appendL s.ht h1 h2 h3 h4 h5 hx htl hy hs hn
end slt
section ari
variable {P:Program} {env:Env} {st:St} {d:Option Tmp} {ty:TypeId} {pos:String} {after:Array Edge} {gd:Option (Nat×Bool)} {x y:Operand} {t t2:TypeId} {a b:Int}
theorem g_addI (hx:evo env x=some (.d (cI a))) (hy:evo env y=some (.d (cI b))) (h:-9223372036854775808≤a+b∧a+b≤9223372036854775807):OpG P env st ⟨d,.binOp .add t x y t2,ty,pos,after,gd⟩ (.d (cI (a+b))):=(q_addI hx hy h.1 h.2).g
theorem g_subI (hx:evo env x=some (.d (cI a))) (hy:evo env y=some (.d (cI b))) (h:-9223372036854775808≤a-b∧a-b≤9223372036854775807):OpG P env st ⟨d,.binOp .sub t x y t2,ty,pos,after,gd⟩ (.d (cI (a-b))):=(q_subI hx hy h.1 h.2).g
end ari
abbrev Hint.a {α:Type} (tk e sz:Nat) (row:α→List D) (l:List α):Hint:=.t (.tsl sz (l.map row) tk) tk ⟨e,sz,l.length,none⟩
def entB (P:Program) (f:Nat):Bool:=match P.funcs[f]? with
 | some fn=>(fn.name == "runtime.NumGoroutine")==false && fn.body.isNone==false
 | none=>false
theorem enters_of {P:Program} {l:List Nat} (hl:l.all (entB P)=true) {i f:Nat} (h:l[i]?=some f):Enters P f:=by
 have:=List.all_eq_true.1 hl f (List.mem_of_getElem? h)
 unfold entB at this
 split at this
 ·rename_i fn hf
  simp only [Bool.and_eq_true,beq_iff_eq] at this
  exact ⟨fn,hf,this.1,this.2⟩
 ·cases this
abbrev Hint.i (n:Int):Hint:=.g (.d (cI n))
abbrev Hint.b (b:Bool):Hint:=.g (.d (cB b))
abbrev Hint.c (c:UInt8):Hint:=.g (.d (cU8 c))
abbrev Hint.s (l:List UInt8):Hint:=.g (.d (cS l))
abbrev Hint.d (x:D):Hint:=.g (.d x)
section renew
variable {P:Program} {g:Ghost} {base:Nat} {w:World} {st:St}
def St.renew (st:St) (tk:Nat) (x x':Tail):St:=(st.setTail tk ⟨x.e,x.sz,0,none⟩).tok x'
theorem renew_get {tk:Nat} {x x' y:Tail} {t:Nat} (hlen:tk < st.tails.length) (h:(st.renew tk x x').tails[t]?=some y) :
  (t=st.tails.length∧y=x')∨(t=tk∧y=⟨x.e,x.sz,0,none⟩)∨(t≠tk∧t < st.tails.length∧st.tails[t]?=some y):=by
 have hl:t < (st.renew tk x x').tails.length:=(List.getElem?_eq_some_iff.1 h).1
 simp [St.renew,St.tok,St.setTail] at hl
 by_cases h1:t=st.tails.length
 ·subst h1
  left
  refine ⟨rfl,?_⟩
  simpa [St.renew,St.tok,St.setTail,eq_comm] using h
 ·right
  have hlt:t < st.tails.length:=by omega
  by_cases h2:t=tk
  ·left
   subst h2
   refine ⟨rfl,?_⟩
   simpa [St.renew,St.tok,St.setTail,hlt,List.getElem?_append_left,eq_comm] using h
  ·right
   refine ⟨h2,hlt,?_⟩
   simpa [St.renew,St.tok,St.setTail,hlt,List.getElem?_append_left,List.getElem?_set,Ne.symm h2] using h
theorem renew_old {tk:Nat} {x x' y:Tail} {t:Nat} (ht:t≠tk) (h:st.tails[t]?=some y):(st.renew tk x x').tails[t]?=some y:=by
 have hlt:t < st.tails.length:=(List.getElem?_eq_some_iff.1 h).1
 rw [←h]
 simp [St.renew,St.tok,St.setTail,List.getElem?_append_left,hlt,List.getElem?_set,Ne.symm ht]
theorem renew_new {tk:Nat} {x x':Tail}:(st.renew tk x x').tails[st.tails.length]?=some x':=by simp [St.renew,St.tok,St.setTail]
theorem Inv.renew (h:Inv g base w st) {tk:Nat} {x x':Tail} {rows rows':List (List D)} (htl:st.tails[tk]?=some x) (hx:x.own=some rows) (hx':x'.own=some rows')
  {v':Value} {w':World} {xs':List Value} (hown':w'.ownsRow base x'.e x'.sz v' x'.n xs')
  (hc:(v'.ownBlock=(g.tk tk).ownBlock∧w'.heap.size=w.heap.size∧w.grownBy w' (g.tk tk).ownBlock)∨(v'.ownBlock=some w.heap.size∧Below w.heap.size w w'))
  (hrep:RowsRep g.lim w x'.sz x'.n rows' xs') :
  ∃ g',g'.tk st.tails.length=v'∧Inv g' base w' (st.renew tk x x')∧Step base g w st g' w' (st.renew tk x x'):=by
 have hlimtk:∀ b,(g.tk tk).ownBlock=some b→g.lim b=0:=fun b hb=>(h.tail_lim htl hb).trans (pub_some hx)
 have hlt:∀ b,(g.tk tk).ownBlock=some b→base≤b∧b < w.heap.size:=fun b hb=>h.tail_lt htl hb
 have hlen:tk < st.tails.length:=(List.getElem?_eq_some_iff.1 htl).1
 have hsize:w.heap.size≤w'.heap.size:=by rcases hc with ⟨_,h1,_⟩ | ⟨_,h1⟩; omega; exact h1.size
 have hos:w'.os=w.os∧w'.tape=w.tape∧w'.output=w.output:=by rcases hc with ⟨_,_,h1⟩ | ⟨_,h1⟩ <;> exact ⟨h1.os,h1.tape,h1.output⟩
 have hsame:∀ k,k < w.heap.size→(g.tk tk).ownBlock≠some k→w'.heap[k]?=w.heap[k]?:=by
  intro k hk hne
  rcases hc with ⟨_,_,h1⟩ | ⟨_,h1⟩
  ·exact h1.block k hk (Ne.symm hne)
  ·exact h1.block k hk
 have hnew:∀ k,k < w.heap.size→(g.tk tk).ownBlock≠some k→v'.ownBlock≠some k:=by
  intro k hk hne
  rcases hc with ⟨h1,_,_⟩ | ⟨h1,_⟩ <;> rw [h1]
  ·exact hne
  ·intro he; cases he; omega
 let g':Ghost:=⟨fun b=>if v'.ownBlock=some b then 0 else g.lim b,g.ob,fun t=>if t=tk then .slice none 0 0 else if t=st.tails.length then v' else g.tk t⟩
 have hlim1:∀ b,v'.ownBlock=some b→g'.lim b=0:=fun b hb=>by show (if _ then _ else _)=_; rw [if_pos hb]
 have hlim2:∀ b,v'.ownBlock≠some b→g'.lim b=g.lim b:=fun b hb=>by show (if _ then _ else _)=_; rw [if_neg hb]
 have htk0:g'.tk tk=.slice none 0 0:=by show (if tk=tk then _ else _)=_; rw [if_pos rfl]
 have htk1:g'.tk st.tails.length=v':=by show (if st.tails.length=tk then _ else _)=_; rw [if_neg (by omega),if_pos rfl]
 have htk2:∀ t,t≠tk→t < st.tails.length→g'.tk t=g.tk t:=fun t ht hl=>by show (if t=tk then _ else _)=_; rw [if_neg ht,if_neg (by omega)]
 have hbasene:∀ k,k < base→(g.tk tk).ownBlock≠some k:=fun k hk he=>by have:=(hlt k he).1; omega
 have hbel:Below base w w':=⟨hos.1,hos.2.1,hos.2.2,hsize,fun k hk=>hsame k (Nat.lt_of_lt_of_le hk h.base) (hbasene k hk)⟩
 have hevo:Evo g.lim w g'.lim w':=by
  refine ⟨hsize,fun b hb=>?_,fun b off hb ho=>?_⟩
  ·by_cases he:v'.ownBlock=some b
   ·rw [hlim1 b he]
    have hb':(g.tk tk).ownBlock=some b:=by
     rcases hc with ⟨h1,_,_⟩ | ⟨h1,_⟩
     ·rw [←h1]; exact he
     ·rw [h1] at he; cases he; omega
    rw [hlimtk b hb']; exact Nat.zero_le _
   ·rw [hlim2 b he]; exact Nat.le_refl _
  ·by_cases he:(g.tk tk).ownBlock=some b
   ·rw [hlimtk b he] at ho; omega
   ·exact World.cell?_of_block (w:=w) (a:=⟨b,off,none⟩) (hsame b hb he)
 have hget:=fun (t:Nat) (y:Tail) (hy:(st.renew tk x x').tails[t]?=some y)=>renew_get hlen hy
 have hs:SEvo g w st g' w' (st.renew tk x x'):=by
  refine ⟨hevo,fun _ _=>rfl,Nat.le_refl _,fun t e' sz' n' ht=>?_,by simp [St.renew,St.tok,St.setTail],fun t y rows2 hlt' hy ho=>?_⟩
  ·have htt:t≠tk:=by
    intro e
    subst e
    rw [htl] at ht
    cases ht
    cases hx
   exact ⟨n',renew_old htt ht,Nat.le_refl _,fun _=>htk2 t htt (List.getElem?_eq_some_iff.1 ht).1⟩
  ·rcases hget t y hy with ⟨h1,_⟩ | ⟨_,h2⟩ | ⟨h1,h2,h3⟩
   ·omega
   ·rw [h2] at ho; cases ho
   ·exact ⟨y,rows2,h3,ho,rfl,Nat.le_refl _,fun _=>htk2 t h1 h2⟩
 have hgone:∀ o,st.live o→g.ob o < w.heap.size∧(g.tk tk).ownBlock≠some (g.ob o):=fun o ho=>⟨(h.live_lt ho).1,h.tailObj tk _ o htl ho⟩
 have hother:∀ t y,t≠tk→st.tails[t]?=some y→∀ b,(g.tk t).ownBlock=some b→b < w.heap.size∧(g.tk tk).ownBlock≠some b∧v'.ownBlock≠some b:=fun t y htt hy b hb=>by
  have h1:=(h.tail_lt hy hb).2
  have h2:=h.tailNe t tk _ _ b htt hy htl hb
  exact ⟨h1,h2,hnew b h1 h2⟩
 refine ⟨g',htk1,⟨Nat.le_trans h.base hsize,?_,?_,?_,h.ne,?_,?_,?_,h.glob.below hbel,?_⟩,⟨hs,hbel,fun b hb=>hlim2 b (hnew b (Nat.lt_of_lt_of_le hb h.base) (hbasene b hb)),fun b hb hn=>?_,fun b hb hw=>?_⟩⟩
 ·intro o ty cs hx
  obtain ⟨h1,h2,vs,h3,h4,h5⟩:=h.row o ty cs hx
  obtain ⟨k1,k2⟩:=hgone o ⟨_,hx,by simp⟩
  exact ⟨h1,(hlim2 _ (hnew _ k1 k2)).trans h2,vs,by show w'.heap[g.ob o]?=_; rw [hsame _ k1 k2]; exact h3,h4,fun i c u hc hu=>⟨(h5 i c u hc hu).1.mono hs,(h5 i c u hc hu).2⟩⟩
 ·intro o es hx
  obtain ⟨h1,ms,c,h3,h4,h5,h6⟩:=h.map o es hx
  obtain ⟨k1,k2⟩:=hgone o ⟨_,hx,by simp⟩
  exact ⟨h1,ms,c,by show w'.heap[g.ob o]?=_; rw [hsame _ k1 k2]; exact h3,h4,fun i k y m a b=>⟨(h5 i k y m a b).1,(h5 i k y m a b).2.mono hs⟩,h6⟩
 ·intro o y hx
  obtain ⟨h1,h2,h3⟩:=h.raw o y hx
  obtain ⟨k1,k2⟩:=hgone o ⟨_,hx,by simp⟩
  exact ⟨h1,(hlim2 _ (hnew _ k1 k2)).trans h2,by show w'.heap[g.ob o]?=_; rw [hsame _ k1 k2]; exact h3⟩
 ·intro t e' sz' n' ht
  rcases hget t _ ht with ⟨h1,h2⟩ | ⟨h1,h2⟩ | ⟨h1,h2,h3⟩
  ·subst h2; cases hx'
  ·subst h1
   cases h2
   rw [htk0]
   exact ⟨[],World.ownsRow_nil w' base _ _,fun b hb=>by cases hb⟩
  ·obtain ⟨ys,k1,k2⟩:=h.tail t e' sz' n' h3
   rw [htk2 t h1 h2]
   exact ⟨ys,ownsRow_keep k1 fun b hb=>hsame b (hother t _ h1 h3 b hb).1 (hother t _ h1 h3 b hb).2.1,fun b hb=>by rw [hlim2 b (hother t _ h1 h3 b hb).2.2]; exact k2 b hb⟩
 ·intro t t' y y' b hne ht ht' hb
  rcases hget t _ ht with ⟨h1,h2⟩ | ⟨h1,h2⟩ | ⟨h1,h2,h3⟩
  ·subst h1
   rw [htk1] at hb
   rcases hget t' _ ht' with ⟨k1,k2⟩ | ⟨k1,k2⟩ | ⟨k1,k2,k3⟩
   ·exact absurd k1.symm hne
   ·rw [k1,htk0]; intro e; cases e
   ·rw [htk2 t' k1 k2]
    intro hb'
    exact (hother t' _ k1 k3 b hb').2.2 hb
  ·rw [h1,htk0] at hb; cases hb
  ·rw [htk2 t h1 h2] at hb
   rcases hget t' _ ht' with ⟨k1,k2⟩ | ⟨k1,k2⟩ | ⟨k1,k2,k3⟩
   ·rw [k1,htk1]
    exact (hother t _ h1 h3 b hb).2.2
   ·rw [k1,htk0]; intro e; cases e
   ·rw [htk2 t' k1 k2]
    exact h.tailNe t t' _ _ b hne h3 k3 hb
 ·intro t y o ht ho
  have ho':st.live o:=ho
  obtain ⟨k1,k2⟩:=hgone o ho'
  rcases hget t _ ht with ⟨h1,h2⟩ | ⟨h1,h2⟩ | ⟨h1,h2,h3⟩
  ·rw [h1,htk1]; exact hnew _ k1 k2
  ·rw [h1,htk0]; intro e; cases e
  ·rw [htk2 t h1 h2]; exact h.tailObj t y o h3 ho'
 ·intro t e' sz' n' rows2 ht
  rcases hget t _ ht with ⟨h1,h2⟩ | ⟨h1,h2⟩ | ⟨h1,h2,h3⟩
  ·subst h1
   subst h2
   cases hx'
   rw [htk1]
   exact ⟨_,hown',fun b hb=>hlim1 b hb,hrep.mono hevo⟩
  ·cases h2
  ·obtain ⟨ys,k1,k2,k3⟩:=h.own t e' sz' n' rows2 h3
   rw [htk2 t h1 h2]
   exact ⟨ys,ownsRow_keep k1 fun b hb=>hsame b (hother t _ h1 h3 b hb).1 (hother t _ h1 h3 b hb).2.1,fun b hb=>by rw [hlim2 b (hother t _ h1 h3 b hb).2.2]; exact k2 b hb,k3.mono hevo⟩
 ·have hne:(g.tk tk).ownBlock≠some b:=fun e=>hn (.inr ⟨tk,x,htl,e⟩)
  exact ⟨hsame b hb hne,hlim2 b (hnew b hb hne)⟩
 ·rcases hw with ⟨o,h1,h2⟩ | ⟨t,y,h1,h2⟩
  ·exact .inl ⟨o,h1,h2⟩
  ·rcases hget t _ h1 with ⟨k1,k2⟩ | ⟨k1,k2⟩ | ⟨k1,k2,k3⟩
   ·rw [k1,htk1] at h2
    rcases hc with ⟨c1,_,_⟩ | ⟨c1,_⟩
    ·exact .inr ⟨tk,x,htl,by rw [←c1]; exact h2⟩
    ·rw [c1] at h2; cases h2; omega
   ·rw [k1,htk0] at h2; cases h2
   ·rw [htk2 t k1 k2] at h2
    exact .inr ⟨t,y,k3,h2⟩
end renew
section rows
variable {P:Program} (w:World)
def laid (cur:List Value) (o:Nat) (cs:List Value):List Value:=cur.take o++cs++cur.drop (o+cs.length)
end rows
end Go.Abs
namespace Go.Abs
open Go.RowKit
section parts
variable {lim:Nat→Nat} {w:World} {sz n m:Nat} {rows rows':List (List D)} {xs ys:List Value}
theorem RowsRep.take (h:RowsRep lim w sz n rows xs) {k:Nat} (hk:k≤n):RowsRep lim w sz k (rows.take k) (xs.take (k*sz)):=by
 have hl:=h.len
 refine ⟨by rw [List.length_take]; omega,fun r hr=>h.row r (List.mem_of_mem_take hr),fun i c u hc hu=>?_⟩
 rw [List.getElem?_take] at hu
 split at hu
 ·refine h.rep i c u ?_ hu
  rw [←List.take_append_drop k rows,List.flatten_append,List.getElem?_append_left (List.getElem?_eq_some_iff.1 hc).1]
  exact hc
 ·cases hu
end parts
section move
variable {P:Program} {f:Ctx} {N:Nat} {S:Start} {Q:EV→St→Prop} {k todo:List Item} {env:Env} {st:St}
theorem ARun.move {i tk e sz n:Nat} {rows:List (List D)} (hl:lookup i env=some (.vc tk n)) (htl:st.tails[tk]?=some ⟨e,sz,n,some rows⟩)
  (h:ARun P f N S Q todo ((i,.vc st.tails.length n) :: env) (st.renew tk ⟨e,sz,n,some rows⟩ ⟨e,sz,n,some rows⟩)):ARun P f N S Q todo env st:=by
 intro g w tmps hinv hh he hN
 obtain ⟨xs,o1,o2,o3⟩:=hinv.own tk e sz n rows htl
 obtain ⟨g',k1,k2,k3⟩:=hinv.renew (x':=⟨e,sz,n,some rows⟩) htl rfl rfl o1 (.inl ⟨rfl,rfl,⟨rfl,rfl,rfl,Nat.le_refl _,fun _ _ _=>rfl⟩⟩) o3
 refine h g' w tmps k2 (hh.step k3) (fun j y hy=>?_) hN
 unfold lookup at hy
 have he':=he.mono k3.sevo
 cases hb:Nat.beq j i with
 | true =>
  rw [hb] at hy
  cases hy
  have:=Nat.eq_of_beq_eq_true hb
  subst this
  obtain ⟨v,m1,m2⟩:=he j _ hl
  refine ⟨v,m1,?_⟩
  have hf:∃ A m c,v=.slice A m c:=by cases m2 with | vc _ _ _ _ hf _=>exact hf
  refine .vc _ _ _ (by simp [St.renew,St.tok,St.setTail]) hf fun y rows2 hy ho=>?_
  rw [renew_new] at hy
  cases hy
  refine ⟨Nat.le_refl _,fun _=>?_⟩
  rcases vc_or hinv htl m2 with hv | ⟨n0,r0,A,hv⟩
  ·exact .inl (by rw [k1]; exact hv)
  ·exact .inr ⟨n0,A,hv⟩
 | false =>
  rw [hb] at hy
  exact he' j y hy
theorem OpC.callF {f':FuncId} {base:Nat} {l:List Operand} {ts:Array TypeId} {es0 es:List EV} {x r:EV} {s0 s1 st':St} {d:Option Tmp} {ty:TypeId} {pos:String} {after:Array Edge} (hen:Enters P f') (rs tk:List Nat)
  (h1:evos env l=some es) (hc:ACallS P f' es0 s0 (QE r s1)) (hle:EVlesE es (es0.map (EV.ren (renF rs st.objs.length) (renF tk st.tails.length))))
  (hp:(partB rs tk s0 st && es0.all (okEV s0.objs.length s0.tails.length))=true) (h5:s0.objs.all (okObj s0.objs.length s0.tails.length)=true)
  (ho:rs.map (fun r=>st.objs[r]?)=s0.objs.map (fun x=>some (x.ren (renF rs st.objs.length) (renF tk st.tails.length)))) (ht:tk.map (fun r=>st.tails[r]?)=s0.tails.map some)
  (hx:r.ren (renF rs st.objs.length) (renF tk st.tails.length)=x) (hs:mergeSt st s1 rs tk=st') :
  OpC P base env st ⟨d,.call ⟨.value (.func f'),l.toArray,ts⟩,ty,pos,after,none⟩ x st':=by
 simp only [Bool.and_eq_true] at hp
 have hc':=(hc.frame rs tk hp.1 h5 hp.2 ho ht).le hle
 intro g w tmps hinv he
 obtain ⟨k1,k2⟩:=evos_rep he l es h1
 refine ⟨f',_,callS_run hen w rfl,(hc' g w base _ hinv ⟨by simp [k1],fun j x v hx hv=>k2 j x v hx (by simpa using hv)⟩).mono ?_⟩
 rintro e w' ⟨v,r',st2,g',rfl,⟨hle2,rfl⟩,hr,hinv',hh'⟩
 rw [hx] at hle2
 rw [hs] at hinv' hr hh'
 exact ⟨v,g',rfl,hle2 _ _ _ _ hr,hinv',hh'.toStep⟩
end move
section gm
variable {κ α:Type} [BEq κ] [LawfulBEq κ]
def gEnc (sz:Nat) (row:α→List D):Nat→List (κ×List α)→List (κ×EV)
 | _,[]=>[]
 | t,p :: l=>(p.1,.tsl sz (p.2.map row) t) :: gEnc sz row (t+1) l
def gTails (e:TypeId) (sz:Nat) (l:List (κ×List α)):List Tail:=l.map fun p=>⟨e,sz,p.2.length,none⟩
def gev (sz:Nat) (row:α→List D) (t:Nat) (l:List (κ×List α)) (k:κ):EV :=
 match afind l k with
 | some j=>.tsl sz (((alook l k).getD []).map row) (t+j)
 | none=>.d nilD
theorem gEnc_len (sz:Nat) (row:α→List D):∀ (t:Nat) (l:List (κ×List α)),(gEnc sz row t l).length=l.length
 | _,[]=>rfl
 | t,p :: l=>by simp [gEnc,gEnc_len sz row (t+1) l]
theorem gEnc_get (sz:Nat) (row:α→List D):∀ (t:Nat) (l:List (κ×List α)) (i:Nat),(gEnc sz row t l)[i]?=(l[i]?).map fun p=>(p.1,.tsl sz (p.2.map row) (t+i))
 | _,[],i=>by simp [gEnc]
 | t,p :: l,0=>by simp [gEnc]
 | t,p :: l,i+1=>by
  have:=gEnc_get sz row (t+1) l i
  simp only [gEnc,List.getElem?_cons_succ,this]
  rw [show t+1+i=t+(i+1) from by omega]
theorem afind_gEnc (sz:Nat) (row:α→List D) (k:κ):∀ (t:Nat) (l:List (κ×List α)),afind (gEnc sz row t l) k=afind l k
 | _,[]=>rfl
 | t,p :: l=>by
  have:=afind_gEnc sz row k (t+1) l
  unfold afind at this ⊢
  rw [gEnc,List.findIdx?_cons,List.findIdx?_cons,this]
theorem alook_gEnc (sz:Nat) (row:α→List D) (t:Nat) (l:List (κ×List α)) (k:κ):alook (gEnc sz row t l) k=match afind l k with
  | some j=>some (.tsl sz (((alook l k).getD []).map row) (t+j))
  | none=>none:=by
 rw [alook_afind,afind_gEnc,alook_afind l k]
 cases h:afind l k with
 | none=>rfl
 | some j =>
  have hj:=afind_lt h
  simp only [Option.bind_some,gEnc_get,List.getElem?_eq_getElem hj,Option.map_some,Option.getD_some]
theorem gEnc_snoc (sz:Nat) (row:α→List D) (q:κ×List α):∀ (t:Nat) (l:List (κ×List α)),gEnc sz row t (l++[q])=gEnc sz row t l++[(q.1,.tsl sz (q.2.map row) (t+l.length))]
 | t,[]=>by simp [gEnc]
 | t,p :: l=>by
  simp only [List.cons_append,gEnc,gEnc_snoc sz row q (t+1) l,List.length_cons]
  rw [show t+1+l.length=t+(l.length+1) from by omega]
theorem gEnc_set (sz:Nat) (row:α→List D) (q:κ×List α):∀ (t:Nat) (l:List (κ×List α)) (j:Nat),gEnc sz row t (l.set j q)=(gEnc sz row t l).set j (q.1,.tsl sz (q.2.map row) (t+j))
 | t,[],j=>by simp [gEnc]
 | t,p :: l,0=>by simp [gEnc]
 | t,p :: l,j+1=>by
  simp only [List.set_cons_succ,gEnc,gEnc_set sz row q (t+1) l j]
  rw [show t+1+j=t+(j+1) from by omega]
theorem aset_gEnc (sz:Nat) (row:α→List D) (t:Nat) (l:List (κ×List α)) (k:κ) (v:List α):aset (gEnc sz row t l) k (.tsl sz (v.map row) (t+(afind l k).getD l.length))=gEnc sz row t (aset l k v):=by
 unfold aset
 rw [afind_gEnc]
 cases h:afind l k with
 | none=>simp only [Option.getD_none,gEnc_snoc]
 | some j=>simp only [Option.getD_some,gEnc_set]
theorem gTails_aset (e:TypeId) (sz:Nat) (l:List (κ×List α)) (k:κ) (v:List α):gTails e sz (aset l k v)=match afind l k with
  | some j=>(gTails e sz l).set j ⟨e,sz,v.length,none⟩
  | none=>gTails e sz l++[⟨e,sz,v.length,none⟩]:=by
 unfold aset
 cases h:afind l k with
 | none=>simp [gTails]
 | some j=>simp [gTails,List.map_set]
theorem gTails_len (e:TypeId) (sz:Nat) (l:List (κ×List α)):(gTails e sz l).length=l.length:=by simp [gTails]
end gm
section rules
variable {P:Program} {base:Nat} {env:Env} {st:St} {d:Option Tmp} {ty:TypeId} {pos:String} {after:Array Edge} {gd:Option (Nat×Bool)} {t e key:TypeId} {x y z:Operand}
 {κ α:Type} [BEq κ] [LawfulBEq κ] {sz t0:Nat} {row:α→List D}
theorem q_lookupG (K:KeyF P key κ) {o:Nat} {l:List (κ×List α)} {k:κ} {dk:D} {inf:TypeInfo} {zv:Value} (ht:P.underlying t=some (.map key e)) (hi:P.info? e=some inf) (hz:inf.zero=some zv) (hz0:cv zv=nilD)
  (hx:evo env x=some (.mp o)) (ho:st.objs[o]?=some (.map (encE K.ke (gEnc sz row t0 l)))) (hy:evo env y=some (.d dk)) (hk:∀ lim w v,DRep lim w dk v→v=K.ke k) :
  OpQ P env st ⟨d,.lookup t x y false,ty,pos,after,gd⟩ (gev sz row t0 l k):=by
 intro g base w tmps hinv he
 obtain ⟨v,h1,h2⟩:=lookup_core (c:=false) (d:=d) (ty:=ty) (pos:=pos) (after:=after) (gd:=gd) K ht hi hz hx ho hy hk hinv he
 refine ⟨v,?_,fun w' hb=>by simpa using h2 w' hb⟩
 rw [alook_gEnc] at h1
 unfold gev
 cases h:afind l k with
 | none =>
  rw [h] at h1
  simp only at h1 ⊢
  subst h1
  exact .d _ _ (hz0▸cv_rep g.lim w v)
 | some j=>rw [h] at h1; exact h1
theorem v_appendG {l:List (κ×List α)} {k:κ} {l':List α} {T:List Tail} {inf:TypeInfo} {zv:Value} {w:EV} (ht:P.underlying t=some (.slice e)) (hi:P.info? e=some inf) (hz:inf.zero=some zv) (hsize:inf.size=sz) (hzs:zv.cells.size=sz) (hb:inf.bytes≤100000)
  (hx:evo env x=some (gev sz row t0 l k)) (hT:st.tails=T++gTails e sz l) (h0:T.length=t0) (hy:evo env y=some w) (hs:asSl w=some (sz,l'.map row)) (hn:((alook l k).getD []).length+l'.length≤1000000000) :
  OpV P base env st ⟨d,.call ⟨.builtin .append,#[x,y],#[t,t]⟩,ty,pos,after,gd⟩ (.tsl sz ((((alook l k).getD [])++l').map row) (t0+(afind l k).getD l.length)) ⟨st.objs,T++gTails e sz (aset l k (((alook l k).getD [])++l'))⟩:=by
 rw [gTails_aset]
 unfold gev at hx
 cases h:afind l k with
 | none =>
  rw [h] at hx
  have hl:alook l k=none:=by rw [alook_afind,h]; rfl
  rw [hl] at hn ⊢
  simp only [Option.getD_none,List.nil_append] at hn ⊢
  have:=v_appendNilL (base:=base) (st:=st) (d:=d) (ty:=ty) (pos:=pos) (after:=after) (gd:=gd) (row:=row) ht hi hz hsize hzs hb hx hy hs (by simpa using hn)
  have e1:st.tails.length=t0+l.length:=by rw [hT,List.length_append,gTails_len,h0]
  have e2:(st.tok ⟨e,sz,0,none⟩).setTail st.tails.length ⟨e,sz,l'.length,none⟩=⟨st.objs,T++(gTails e sz l++[⟨e,sz,l'.length,none⟩])⟩:=by
   rw [←List.append_assoc,←hT]
   simp [St.tok,St.setTail]
  rw [e2,e1] at this
  exact this
 | some j =>
  rw [h] at hx
  have hj:=afind_lt h
  have hl:alook l k=some l[j].2:=by rw [alook_afind,h]; simp [List.getElem?_eq_getElem hj]
  rw [hl] at hx hn ⊢
  simp only [Option.getD_some] at hx hn ⊢
  have:=v_appendL (base:=base) (st:=st) (d:=d) (ty:=ty) (pos:=pos) (after:=after) (gd:=gd) (row:=row) (l:=l[j].2) ht hi hz hsize hzs hb hx (by
   rw [hT,List.getElem?_append_right (by omega),h0,Nat.add_sub_cancel_left]
   simp [gTails,List.getElem?_eq_getElem hj]) hy hs hn
  have e2:st.setTail (t0+j) ⟨e,sz,(l[j].2++l').length,none⟩=⟨st.objs,T++(gTails e sz l).set j ⟨e,sz,(l[j].2++l').length,none⟩⟩:=by
   unfold St.setTail
   rw [hT,List.set_append_right _ _ (by omega),h0,Nat.add_sub_cancel_left]
  rw [e2] at this
  exact this
theorem u_mapUpdateG (K:KeyF P key κ) {o:Nat} {l:List (κ×List α)} {k:κ} {dk:D} {v:List α} (ht:P.underlying t=some (.map key e)) (hx:evo env x=some (.mp o)) (ho:st.objs[o]?=some (.map (encE K.ke (gEnc sz row t0 l))))
  (hy:evo env y=some (.d dk)) (hk:∀ lim w v,DRep lim w dk v→v=K.ke k) (hz:evo env z=some (.tsl sz (v.map row) (t0+(afind l k).getD l.length))) :
  OpU P base env st ⟨d,.mapUpdate t x y z,ty,pos,after,gd⟩ (st.set o (.map (encE K.ke (gEnc sz row t0 (aset l k v))))):=by
 have:=u_mapUpdateE (base:=base) (d:=d) (ty:=ty) (pos:=pos) (after:=after) (gd:=gd) K ht hx ho hy hk hz
 rw [aset_gEnc] at this
 exact this
theorem okG {n:Nat} {T:List Tail} {ke:κ→Value} {l:List (κ×List α)} (h0:T.length=t0):okObj n (T++gTails e sz l).length (.map (encE ke (gEnc sz row t0 l)))=true:=by
 unfold okObj encE
 rw [List.all_eq_true]
 intro p hp
 obtain ⟨q,hq,rfl⟩:=List.mem_map.1 hp
 obtain ⟨i,hi⟩:=List.mem_iff_getElem?.1 hq
 rw [gEnc_get] at hi
 cases hl:l[i]? with
 | none=>rw [hl] at hi; cases hi
 | some r =>
  rw [hl] at hi
  cases hi
  have:=(List.getElem?_eq_some_iff.1 hl).1
  simp only [okEV,Nat.blt_eq,List.length_append,gTails_len,h0]
  omega
end rules
section run
variable {P:Program} {f:Ctx} {N:Nat} {S:Start} {Q:EV→St→Prop} {todo:List Item} {env env':Env} {st st':St} {κ α:Type} [BEq κ] [LawfulBEq κ]
theorem setSame {w:World} {b:Nat} {o:Obj} (h:w.heap[b]?=some o):({ w with heap:=w.heap.setIfInBounds b o }:World)=w:=by
 have:w.heap.setIfInBounds b o=w.heap:=by
  apply Array.ext_getElem?
  intro i
  rw [Array.getElem?_setIfInBounds]
  split
  ·rename_i hbi
   subst hbi
   split
   ·exact h.symm
   ·rename_i hb; rw [Array.getElem?_eq_none (by omega)]
  ·rfl
 rw [this]
theorem Inv.mapLe {g:Ghost} {base:Nat} {w:World} {o:Nat} {es es':List (Value×EV)} (h:Inv g base w st) (ho:st.objs[o]?=some (.map es)) (hl:es.length=es'.length)
  (hle:∀ (i:Nat) p q,es[i]?=some p→es'[i]?=some q→p.1=q.1∧EVle p.2 q.2):Inv g base w (st.set o (.map es'))∧Step base g w st g w (st.set o (.map es')):=by
 obtain ⟨b1,ms,clock,b2,b3,b4,b5,b6⟩:=h.map o es ho
 have:=h.setMap (es':=es') ho (ms':=ms) (clock':=clock) (by omega) (fun i k x m hm1 hm2=>by
  have hi:i < es.length:=by rw [hl]; exact (List.getElem?_eq_some_iff.1 hm1).1
  have h1:=List.getElem?_eq_getElem hi
  obtain ⟨a1,a2⟩:=hle i _ _ h1 hm1
  obtain ⟨c1,c2⟩:=b4 i es[i].1 es[i].2 m h1 hm2
  exact ⟨c1.trans a1,a2 _ _ _ _ c2⟩) b5 b6
 rw [setSame b2] at this
 exact this
theorem ARun.gfreeze {e sz t0:Nat} {row:α→List D} (o:Nat) {T:List Tail} {l:List (κ×List α)} {ke:κ→Value} (ho:st.objs[o]?=some (.map (encE ke (gEnc sz row t0 l)))) (hT:st.tails=T++gTails e sz l) (h0:T.length=t0)
  (hE:selE env env'=some env') (hs:st'=⟨st.objs.set o (.map (mEnc ke (fun x=>slOf sz row x) l)),T⟩) (hok:(okEnv st'.objs.length st'.tails.length env' && st'.objs.all (okObj st'.objs.length st'.tails.length))=true)
  (hS1:S.st.objs.length≤st.objs.length) (hS2:S.st.tails.length≤T.length) (h:ARun P f N S Q todo env' st'):ARun P f N S Q todo env st:=by
 subst hs
 intro g w tmps hinv hh he hN
 obtain ⟨h1,h2⟩:=hinv.mapLe (es':=mEnc ke (fun x=>slOf sz row x) l) ho (by simp [encE,mEnc,gEnc_len]) (fun i p q hp hq=>by
  simp only [encE,mEnc,List.getElem?_map,gEnc_get] at hp hq
  cases hl:l[i]? with
  | none=>rw [hl] at hp; cases hp
  | some r=>rw [hl] at hp hq; cases hp; cases hq; exact ⟨rfl,.tsl _ _ _⟩)
 have hlen:(st.set o (.map (mEnc ke (fun x=>slOf sz row x) l))).objs.length=st.objs.length:=by simp [St.set]
 refine ARun.to (st:=st.set o (.map (mEnc ke (fun x=>slOf sz row x) l))) (st':=⟨st.objs.set o (.map (mEnc ke (fun x=>slOf sz row x) l)),T⟩) st.objs.length T.length (selE_sub hE) ?_ ?_ ?_ ?_ ?_ hS1 hS2 h g w tmps h1 (hh.step h2) (he.mono h2.sevo) hN
 ·show (st.objs.set o _).take st.objs.length=st.objs.set o _
  rw [List.take_of_length_le (by simp)]
 ·show st.tails.take T.length=T
  rw [hT]; simp
 ·rw [hlen]; exact Nat.ble_self_eq_true _
 ·show Nat.ble T.length st.tails.length=true
  rw [hT]; exact Nat.ble_eq_true_of_le (by simp)
 ·simpa [List.length_set] using hok
theorem ARun.tG {s0:St} (n:Nat) (h:ARun P f N S Q todo env' st') (hE:selE env env'=some env') (ho:st.objs.take n=st'.objs) (ht:st.tails=st'.tails) (hn:Nat.ble n st.objs.length=true)
  (hok:(okEnv n st'.tails.length env' && st'.objs.all (okObj n st'.tails.length))=true) (hS:S.st=s0) (hb:Nat.ble s0.objs.length n=true) (hb2:Nat.ble s0.tails.length st'.tails.length=true):ARun P f N S Q todo env st :=
 .to n st'.tails.length (selE_sub hE) ho (by rw [ht]; simp) hn (by rw [ht]; exact Nat.ble_self_eq_true _) hok (by rw [hS]; exact Nat.le_of_ble_eq_true hb) (by rw [hS]; exact Nat.le_of_ble_eq_true hb2) h
end run
def strlss (a b:List UInt8):Bool:=Op.bytesLess a b
section strings
variable {P:Program} {env:Env} {st:St} {d:Option Tmp} {ty:TypeId} {pos:String} {after:Array Edge} {gd:Option (Nat×Bool)} {t t2:TypeId} {x y:Operand} {a b:List UInt8} (hx:evo env x=some (.d (cS a))) (hy:evo env y=some (.d (cS b)))
include hx hy
theorem q_slss:OpQ P env st ⟨d,.binOp .lss t x y t2,ty,pos,after,gd⟩ (.d (cB (strlss a b))):=q_ex fun g w tmps w' he=>by
 simp [execOp,(evo_rep he hx).ex_inv,(evo_rep he hy).ex_inv,eqGuard,binOp,Op.stringOp,strlss]
end strings
def goH (P:Program) (base:Nat) (T:FT) (N n:Nat) (cf:Cf) (env:Env) (st:St) (hs:List Hint):Option Out:=forceL env fun env=>match st with
 | ⟨os,ts⟩=>forceL os fun os=>go P base T N n cf env ⟨os,ts⟩ hs []
theorem goH_eq {P:Program} {base:Nat} {T:FT} {N n:Nat} {cf:Cf} {env:Env} {st:St} {hs:List Hint}:goH P base T N n cf env st hs=go P base T N n cf env st hs []:=by
 unfold goH; simp only [forceL_eq]
theorem goH_sound {P:Program} {f:Ctx} {N:Nat} {S:Start} {Q:EV→St→Prop} {T:FT} (hT:T.Ok P) (hm:P.follows .mixedOrders=true) {n:Nat} {cf:Cf} {env:Env} {st:St} {hs:List Hint} {out:Out} (h:goH P S.base T N n cf env st hs=some out) (hp:AllP out.ps) :
  CRun P f N S Q out.cf out.env out.st→CRun P f N S Q cf env st:=(go_sound hT hm n cf env st hs [] out (goH_eq▸h) hp).2
section fwp
variable {P:Program} {R:Ending→World→Prop} {k:List Item} {tmps:Array Value} {w:World}
theorem FWP.beginRound {f:FuncId} {ds:List Deferred} {l:Nat} {w':World} (hr:(Instr.beginRound l).run P w=.ok () w') (h:FWP P ⟨f,ds,some l⟩ R k tmps w'):FWP P ⟨f,ds,some l⟩ R (.beginRound :: k) tmps w :=
 FWP.step (fun _=>stepR_beginRound rfl hr) h
theorem FWP.round {f:Ctx} {ops:Array Oper} {i:Nat} {rest:List Nat} {o:Oper} {l:Nat} {f':FuncId} {tm:Array Value} {assign body:Code} {w':World}
  (ho:ops[i]?=some o) (hw:Region.wanted o (yielded ops tmps)=true) (hr:(execOp (Act.eval ⟨tmps,[]⟩) o).run P w=.ok (.round l f' tm assign body) w')
  (h:FWP P ⟨f',[],some l⟩ (fun _ w2=>∃ w3,(Instr.endRound l none).run P w2=.ok (.bool true) w3∧FWP P f R (.inRegion ops rest :: k) (Act.put ⟨tmps,[]⟩ o.dst (.bool true)).tmps w3) [.code assign,.beginRound,.code body] tm w') :
  FWP P f R (.inRegion ops (i :: rest) :: k) tmps w:=by
 intro cs
 have hg:=stepGR_op (P:=P) (b:=bf f) (a:=⟨tmps,f.ds⟩) (k:=k) (cs:=cs) (w:=w) (rest:=rest) ho hw
 rw [eval_ds,semAt_of hr (by simp)] at hg
 have hfin:∀ v,((bf f).atR ⟨tmps,f.ds⟩ (.inRegion ops (i :: rest) :: k)).finish v=(bf f).atR (Act.put ⟨tmps,f.ds⟩ o.dst v) (.inRegion ops rest :: k):=by
  intro v; rw [Frame.finish_atR,ho]; rfl
 obtain ⟨e,w2,fr,⟨w3,he,hF⟩,hsteps,hfin2⟩:=h ((bf f).atR ⟨tmps,f.ds⟩ (.inRegion ops (i :: rest) :: k) :: cs)
 obtain ⟨rfl,tm2,rfl⟩:=hfin2
 have hb0:Frame.round l f' tm assign body .normal=(bf ⟨f',[],some l⟩).atR ⟨tm,[]⟩ [.code assign,.beginRound,.code body]:=by simp [Frame.round,Frame.atR,bf]
 have henter:Go.step P (lone ((bf f).atR ⟨tmps,f.ds⟩ (.inRegion ops (i :: rest) :: k)) cs w) =
   .next (lone ((bf ⟨f',[],some l⟩).atR ⟨tm,[]⟩ [.code assign,.beginRound,.code body]) ((bf f).atR ⟨tmps,f.ds⟩ (.inRegion ops (i :: rest) :: k) :: cs) w'):=by
  rw [←hb0]
  exact step_lone_go (by rw [hg]; simp [stepG.apply,hr,Frame.atR])
 obtain ⟨e,w4,fr',hR,hc,h1⟩:=hF cs
 refine ⟨e,w4,fr',hR,Comes.of_steps (.head henter (Steps.trans hsteps (.one ?_))) hc,h1⟩
 rw [←put_eq,←hfin]
 exact stepR_round_end rfl rfl he
theorem FWP.rangeFunc {f:FuncId} {g:Operand} {ps:Array Tmp} {assign body:Code} {it:FuncId} {vs:Array Value} (hg:Act.eval ⟨tmps,[]⟩ g=.func (.func it) #[] vs) (hen:Enters P it)
  (h:Calls P it (#[.func (.yield (w.heap.size+1)) #[] #[]]++vs) ((w.alloc (.deferred (some []))).alloc (.loop { state:=.ready,pending:=none,fn:=f,tmps:=tmps,params:=ps,assign,body,defers:=w.heap.size }))
   fun e w2=>(∃ v,e=.returned v)∧∃ w3,(Instr.endLoop (w.heap.size+1)).run P w2=.ok none w3∧FWP P ⟨f,[{ target:=.collected w.heap.size,args:=#[] }],none⟩ R k tmps w3) :
  FWP P (.of f) R (.code (.rangeFunc g ps assign body) :: k) tmps w:=by
 intro cs
 have he:=run_enterLoop_outer (P:=P) (w:=w) f tmps ps assign body
 generalize hW:(w.alloc (.deferred (some []))).alloc (.loop { state:=.ready,pending:=none,fn:=f,tmps:=tmps,params:=ps,assign,body,defers:=w.heap.size })=W1 at he h
 have hres:(resolve (Act.eval ⟨tmps,[]⟩) (rangeCall g (w.heap.size+1)) 0).run P W1=.ok { target:=.fn (.func it) vs,args:=#[.func (.yield (w.heap.size+1)) #[] #[]] } W1:=by
  simp only [rangeCall,resolve]
  rw [hg]
  simp [Deferred.ofValue,Act.eval]
 have hinv:(invoke (.fn (.func it) vs) #[.func (.yield (w.heap.size+1)) #[] #[]]).run P W1=.ok (.enter it (#[.func (.yield (w.heap.size+1)) #[] #[]]++vs)) W1:=by
  simp only [invoke]; exact callFunc_run hen _ _
 have henter:=stepR_rangeFunc (P:=P) (b:=bf (.of f)) (a:=⟨tmps,[]⟩) (k:=k) (cs:=cs) (w:=w) he hres hinv
 obtain ⟨e,w2,fr,⟨⟨v,rfl⟩,w3,hend,hF⟩,hsteps,_,hleave⟩:=h ((bf (.of f)).atR ⟨tmps,[{ target:=.collected w.heap.size,args:=#[] }]⟩ (.inRangeFunc (w.heap.size+1) :: k) :: cs)
 obtain ⟨e,w4,fr',hR,hc,h1⟩:=hF cs
 refine ⟨e,w4,fr',hR,Comes.of_steps (.head henter (Steps.trans hsteps (.head (step_leave_returned hleave) (.one ?_)))) hc,h1⟩
 rw [finish_atR_inRangeFunc]
 exact stepR_endRangeFunc hend
theorem FWP.retM {f:FuncId} {D:Nat} {fn:Func} {v:Value} {w':World} (hf:P.funcs[f]?=some fn) (ht:(Instr.takeDeferred D).run P w=.ok [] w') (hr:(results fn tmps).run P w'=.ok v w') (hR:R (.returned v) w') :
  FWP P ⟨f,[{ target:=.collected D,args:=#[] }],none⟩ R (.code .ret :: k) tmps w :=
 fun cs=>⟨.returned v,w',_,hR,.head (stepR_ret rfl) (.one (step_collected (by simp) rfl rfl ht)),rfl,rfl,rfl,rfl,fn,hf,hr⟩
end fwp
section inv
variable {P:Program} {base:Nat} {g:Ghost} {w:World} {st:St}
theorem Inv.setRaw (hinv:Inv g base w st) {o:Nat} {y:Obj} (ho:st.objs[o]?=some (.raw y)) (y':Obj):Inv g base (w.putObj (g.ob o) y') (st.set o (.raw y'))∧Step base g w st g (w.putObj (g.ob o) y') (st.set o (.raw y')):=by
 obtain ⟨hb,hl,hbk⟩:=hinv.raw o _ ho
 exact hinv.setBlock (o:=o) (x:=.raw y') (w':=w.putObj (g.ob o) y')
   ⟨_,ho,by simp⟩ hl (by simp [World.putObj]) (fun b hb'=>World.putObj_heap_other hb') rfl rfl rfl (fun _ ty' cs' e=>by cases e) (fun _ es e=>by cases e)
   (fun y e=>by
    cases e
    exact World.putObj_heap_same (Array.getElem?_eq_some_iff.1 hbk).1)
end inv
section run
variable {P:Program} {f:FuncId} {N:Nat} {S:Start} {Q:EV→St→Prop} {k:List Item} {env:Env} {st:St}
theorem Hist.obAt {S:Start} {g:Ghost} {w:World} {st:St} (h:Hist S g w st) {o l:Nat} (hS:S.g.ob o=l) (hlt:o < S.st.objs.length):g.ob o=l:=(h.sevo.ob o hlt).trans hS
theorem ARun.beginRound {l o:Nat} {r:Loop} (hS:S.g.ob o=l) (hlt:o < S.st.objs.length) (ho:st.objs[o]?=some (.raw (.loop r))) (hr:r.state=.ready)
  (h:ARun P ⟨f,[],some l⟩ N S Q k env (st.set o (.raw (.loop { r with state:=.busy })))):ARun P ⟨f,[],some l⟩ N S Q (.beginRound :: k) env st:=by
 intro g w tmps hinv hh he hN
 have hob:=hh.obAt hS hlt
 obtain ⟨_,_,hbk⟩:=hinv.raw o _ ho
 obtain ⟨h1,h2⟩:=hinv.setRaw ho (.loop { r with state:=.busy })
 rw [hob] at hbk h1 h2
 exact FWP.beginRound (run_beginRound hbk hr) (h g _ tmps h1 (hh.step h2) (he.mono h2.sevo) hN)
theorem ARun.roundEnd {l:Nat} (hQ:Q (.d (cB true)) st):ARun P ⟨f,[],some l⟩ N S Q [] env st :=
 fun g w tmps hinv hh he hN=>FWP.roundEnd ⟨_,_,st,g,rfl,hQ,.d _ _ (.ex _),hinv,hh⟩
theorem ARun.rangeFunc {i:Nat} {it:FuncId} {caps:List EV} {ps:Array Tmp} {assign body:Code} {st':St} (hx:lookup i env=some (.clo it caps)) (hen:Enters P it) (hlen:st'.objs.length=st.objs.length)
  (hcall:∀ (S1:Start) (tm:Array Value) (D l:Nat),S1.base=S.base→Inv S1.g S1.base S1.w S1.st→tm.size=N→EnvRep S1.g S1.w S1.st env tm→S1.g.ob (st.objs.length+1)=l →
   S1.st=⟨st.objs++[.raw (.deferred (some [])),.raw (.loop { state:=.ready,pending:=none,fn:=f,tmps:=tm,params:=ps,assign,body,defers:=D })],st.tails⟩ →
   ∀ vs,ArgsRep S1.g S1.w S1.st (.d (.ex (.func (.yield l) #[] #[])) :: caps) vs →
   Calls P it vs S1.w (RPost S1 fun _ st2=>st2=⟨st'.objs++[.raw (.deferred (some [])),.raw (.loop { state:=.ready,pending:=none,fn:=f,tmps:=tm,params:=ps,assign,body,defers:=D })],st'.tails⟩))
  (hk:∀ (S1:Start) (D:Nat) (x:Obj),S1.base=S.base→S1.g.ob st.objs.length=D→S1.st=⟨st'.objs++[.raw (.deferred (some [])),.raw x],st'.tails⟩ →
   ARun P ⟨f,[{ target:=.collected D,args:=#[] }],none⟩ N S1 Q k env ⟨st'.objs++[.raw (.deferred (some [])),.raw x],st'.tails⟩) :
  ARun P (.of f) N S Q (.code (.rangeFunc (.tmp i) ps assign body) :: k) env st:=by
 intro g w tmps hinv hh he hN
 obtain ⟨v,hv1,hv2⟩:=he i _ hx
 cases hv2 with
 | clo _ _ vs hvs hcl =>
 have hg:Act.eval ⟨tmps,[]⟩ (.tmp i)=.func (.func it) #[] vs:=by simp [Act.eval,Array.getD_eq_getD_getElem?,hv1]
 obtain ⟨g1,i1,s1,ob1⟩:=hinv.newObj (.raw (.deferred (some []))) (.deferred (some [])) (fun ty' cs' e=>by cases e) (fun es e=>by cases e) (fun y e=>by cases e; rfl)
 obtain ⟨g2,i2,s2,ob2⟩:=i1.newObj (.raw (.loop { state:=.ready,pending:=none,fn:=f,tmps:=tmps,params:=ps,assign,body,defers:=w.heap.size })) (.loop { state:=.ready,pending:=none,fn:=f,tmps:=tmps,params:=ps,assign,body,defers:=w.heap.size }) (fun ty' cs' e=>by cases e) (fun es e=>by cases e) (fun y e=>by cases e; rfl)
 have hst:(st.add (.raw (.deferred (some [])))).add (.raw (.loop { state:=.ready,pending:=none,fn:=f,tmps:=tmps,params:=ps,assign,body,defers:=w.heap.size })) =
   ⟨st.objs++[.raw (.deferred (some [])),.raw (.loop { state:=.ready,pending:=none,fn:=f,tmps:=tmps,params:=ps,assign,body,defers:=w.heap.size })],st.tails⟩:=by simp [St.add]
 rw [hst] at i2 s2
 have hl2:g2.ob (st.objs.length+1)=w.heap.size+1:=by
  have:(st.add (.raw (.deferred (some [])))).objs.length=st.objs.length+1:=by simp [St.add]
  rw [←this,ob2]; simp [World.size_alloc]
 have hs12:=s1.trans s2
 have hD2:g2.ob st.objs.length=w.heap.size:=by
  have:st.objs.length < (st.add (.raw (.deferred (some [])))).objs.length:=by simp [St.add]
  rw [s2.sevo.ob _ this,ob1]
 have he2:=he.mono hs12.sevo
 have hargs:ArgsRep g2 ((w.alloc (.deferred (some []))).alloc (.loop { state:=.ready,pending:=none,fn:=f,tmps:=tmps,params:=ps,assign,body,defers:=w.heap.size })) ⟨st.objs++[.raw (.deferred (some [])),.raw (.loop { state:=.ready,pending:=none,fn:=f,tmps:=tmps,params:=ps,assign,body,defers:=w.heap.size })],st.tails⟩ (.d (.ex (.func (.yield (w.heap.size+1)) #[] #[])) :: caps) (#[.func (.yield (w.heap.size+1)) #[] #[]]++vs):=by
  refine ⟨by simp [hvs,Nat.add_comm],fun j y u hy hu=>?_⟩
  cases j with
  | zero =>
   rw [Array.getElem?_append_left (by simp)] at hu
   simp at hy hu
   subst hy; subst hu
   exact .d _ _ (.ex _)
  | succ j =>
   simp only [List.getElem?_cons_succ] at hy
   rw [Array.getElem?_append_right (by simp)] at hu
   exact (hcl j y u hy (by simpa using hu)).mono hs12.sevo
 refine FWP.rangeFunc hg hen ?_
 refine (hcall ⟨g2,_,_,S.base⟩ tmps w.heap.size (w.heap.size+1) rfl i2 hN he2 hl2 rfl _ hargs).mono ?_
 rintro e w2 ⟨v,r,st2,g3,rfl,rfl,hr,hinv3,hh3⟩
 refine ⟨⟨v,rfl⟩,?_⟩
 have hoL:(⟨st'.objs++[.raw (.deferred (some [])),.raw (.loop { state:=.ready,pending:=none,fn:=f,tmps:=tmps,params:=ps,assign,body,defers:=w.heap.size })],st'.tails⟩:St).objs[st.objs.length+1]?=some (.raw (.loop { state:=.ready,pending:=none,fn:=f,tmps:=tmps,params:=ps,assign,body,defers:=w.heap.size })):=by
  rw [List.getElem?_append_right (by omega)]
  simp [hlen]
 have hob3:g3.ob (st.objs.length+1)=w.heap.size+1:=(hh3.sevo.ob _ (by simp)).trans hl2
 have hob3D:g3.ob st.objs.length=w.heap.size:=(hh3.sevo.ob _ (by simp)).trans hD2
 obtain ⟨_,_,hbk⟩:=hinv3.raw _ _ hoL
 rw [hob3] at hbk
 obtain ⟨q1,q2⟩:=hinv3.setRaw hoL (.loop { state:=.exhausted,pending:=none,fn:=f,tmps:=tmps,params:=ps,assign,body,defers:=w.heap.size })
 rw [hob3] at q1 q2
 refine ⟨_,run_endLoop hbk (by simp),?_⟩
 have hset:(⟨st'.objs++[.raw (.deferred (some [])),.raw (.loop { state:=.ready,pending:=none,fn:=f,tmps:=tmps,params:=ps,assign,body,defers:=w.heap.size })],st'.tails⟩:St).set (st.objs.length+1) (.raw (.loop { state:=.exhausted,pending:=none,fn:=f,tmps:=tmps,params:=ps,assign,body,defers:=w.heap.size })) =
   ⟨st'.objs++[.raw (.deferred (some [])),.raw (.loop { state:=.exhausted,pending:=none,fn:=f,tmps:=tmps,params:=ps,assign,body,defers:=w.heap.size })],st'.tails⟩:=by
  unfold St.set
  simp only
  rw [List.set_append_right _ _ (by omega),←hlen,Nat.add_sub_cancel_left]
  rfl
 rw [hset] at q1 q2
 have hstep:=(hs12.trans hh3.toStep).trans q2
 refine (hk ⟨g3,_,_,S.base⟩ w.heap.size _ rfl hob3D rfl g3 _ tmps q1 (Hist.refl ⟨g3,_,_,S.base⟩) (he.mono hstep.sevo) hN).mono ?_
 rintro e w4 ⟨v4,r4,st4,g4,e1,e2,e3,e4,e5⟩
 exact ⟨v4,r4,st4,g4,e1,e2,e3,e4,(hh.step hstep).step e5.toStep⟩
theorem ARun.retM {fn:Func} {D o:Nat} (xs:List ResultVar) (es:List EV) (hf:P.funcs[f]?=some fn) (hr:fn.results=xs.toArray) (hS:S.g.ob o=D) (hlt:o < S.st.objs.length) (ho:st.objs[o]?=some (.raw (.deferred (some []))))
  (h:ResEVs P env (st.set o (.raw (.deferred none))) xs es) (hQ:Q (retEV es) (st.set o (.raw (.deferred none)))):ARun P ⟨f,[{ target:=.collected D,args:=#[] }],none⟩ N S Q (.code .ret :: k) env st:=by
 intro g w tmps hi hh he hn
 have hob:=hh.obAt hS hlt
 obtain ⟨_,_,hbk⟩:=hi.raw o _ ho
 obtain ⟨q1,q2⟩:=hi.setRaw ho (.deferred none)
 rw [hob] at hbk q1 q2
 have he2:=he.mono q2.sevo
 obtain ⟨vs,h1,h2,h3⟩:=res_all q1 he2 h
 have hrun:(results fn tmps).run P (w.putObj D (.deferred none))=.ok (if h:vs.toArray.size=1 then vs.toArray[0] else .tuple vs.toArray) (w.putObj D (.deferred none)):=by
  have hfun:(results fn tmps)=(do let vs ←fn.results.mapM (actOf tmps); pure (if h:vs.size=1 then vs[0] else .tuple vs)):=by
   unfold results
   congr 1
  rw [hfun,hr,List.mapM_toArray]
  simp only [Sem.run_bind,Sem.run_map,h1,Result.andThen_ok,Sem.run_pure]
 refine FWP.retM hf (run_takeDeferred hbk) hrun ⟨_,retEV es,_,g,rfl,hQ,?_,q1,hh.step q2⟩
 by_cases hl:vs.toArray.size=1
 ·rw [dif_pos hl]
  match vs,es,h2,hl,h3 with
  | [v],[e],_,_,h3=>exact h3 0 e v rfl rfl
  | [],_,_,hl,_=>simp at hl
  | _ :: _ :: _,_,_,hl,_=>simp at hl
 ·rw [dif_neg hl]
  match vs,es,h2,hl,h3 with
  | [v],_,_,hl,_=>simp at hl
  | [],[],_,_,_=>exact .tup _ _ rfl (by simp)
  | a :: b :: l,a' :: b' :: l',h2,_,h3=>exact .tup _ _ (by simpa using h2) (fun i e v he hv=>h3 i e v he (by simpa using hv))
end run
theorem Calls.enterS {P:Program} {f:FuncId} {fn:Func} {c:Code} {N:Nat} {S:Start} {Q:EV→St→Prop} {args:List EV} {vs:Array Value} (hf:P.funcs[f]?=some fn) (hb:fn.body=some c) (hN:fn.ntmps=N) (hl:Nat.ble args.length N=true)
  (hi:Inv S.g S.base S.w S.st) (ha:ArgsRep S.g S.w S.st args vs) (h:ARun P (.of f) N S Q [.code c] (argEnv 0 args) S.st):Calls P f vs S.w (RPost S Q):=by
 have hl':=Nat.le_of_ble_eq_true hl
 have hsz:=ha.1
 refine FWP.calls hf hb ?_
 refine h S.g S.w _ hi (Hist.refl S) ?_ (by simp [hN]; omega)
 intro j y hy
 obtain ⟨k,rfl,hk⟩:=argEnv_lookup args 0 j y hy
 have hk':=(List.getElem?_eq_some_iff.1 hk).1
 refine ⟨vs[k]'(by omega),?_,ha.2 k y _ hk (by simp [hsz,hk'])⟩
 rw [Nat.zero_add,Array.getElem?_append_left (by omega)]
 simp [hsz,hk']
section yield
variable {P:Program} {f:Ctx} {N:Nat} {S:Start} {Q:EV→St→Prop} {k:List Item} {env:Env} {st:St} {ops rest:List Oper} {ty:TypeId} {pos:String} {after:Array Edge}
theorem AOps.yieldG {b:Bool} {d:Tmp} {j:Nat} {t x y:Tmp} {c:EV} {o l p:Nat} {r:Loop} {a:D} {ts:Array TypeId} {st':St} (hj:(ops[j]?).bind (·.dst)=some t) (hl:lookup t env=some c) (hc:gcond c true=some b) (hbt:b=true) (hd:dstOk N (some d)=true)
  (hx:lookup x env=some (.gd b (.d (.ex (.func (.yield l) #[] #[]))))) (hy:lookup y env=some (.gd b (.d a))) (ho:st.objs[o]?=some (.raw (.loop r))) (hlt:o < S.st.objs.length) (hS:S.g.ob o=l) (hp:r.params=#[p])
  (hround:∀ S2:Start,SEvo S.g S.w S.st S2.g S2.w S2.st→S2.base=S.base→S2.st=st→Inv S2.g S2.base S2.w S2.st→∀ v,DRep S2.g.lim S2.w a v →
   FWP P ⟨r.fn,[],some l⟩ (RPost S2 fun _ st2=>∃ r2,st2.objs[o]?=some (.raw (.loop r2))∧st'=st2.set o (.raw (.loop { r2 with state:=.ready,pending:=none }))) [.code r.assign,.beginRound,.code r.body] (r.tmps.setIfInBounds p v) S2.w)
  (hk:AOps P f N S Q ops rest k ((d,.gd b (.d (cB true))) :: env) st') :
  AOps P f N S Q ops (⟨some d,.call ⟨.value (.tmp x),#[.tmp y],ts⟩,ty,pos,after,some (j,true)⟩ :: rest) k env st:=by
 subst hbt
 intro i hi g w tmps hinv hh he hn
 have ho':ops.toArray[i]?=some ⟨some d,.call ⟨.value (.tmp x),#[.tmp y],ts⟩,ty,pos,after,some (j,true)⟩:=by simpa using (hi 0).symm
 obtain ⟨v,hv,hr⟩:=he t c hl
 have hw:Region.wanted ⟨some d,.call ⟨.value (.tmp x),#[.tmp y],ts⟩,ty,pos,after,some (j,true)⟩ (yielded ops.toArray tmps)=true:=by
  have hgr:=gcond_rep hc hr
  have hj':((ops.toArray)[j]?).bind (·.dst)=some t:=by simpa using hj
  simp only [Region.wanted,yielded,hj',Option.bind_some,hv]
  revert hgr
  cases v <;> exact fun h=>h
 rw [List.length_cons,range'_succ']
 have hi':∀ j:Nat,rest[j]?=ops[i+1+j]?:=fun j=>by have:=hi (j+1); simpa [Nat.add_assoc,Nat.add_comm 1 j] using this
 obtain ⟨vx,hx1,hx2⟩:=he x _ hx
 obtain ⟨vy,hy1,hy2⟩:=he y _ hy
 have hvx:vx=.func (.yield l) #[] #[]:=by
  cases hx2 with
  | gd _ _ _ _ h=>cases h rfl with | d _ _ h=>exact drep_ex h
 have hvy:DRep g.lim w a vy:=by
  cases hy2 with
  | gd _ _ _ _ h=>cases h rfl with | d _ _ h=>exact h
 subst hvx
 have hob:=hh.obAt hS hlt
 obtain ⟨_,_,hbk⟩:=hinv.raw o _ ho
 rw [hob] at hbk
 have hyl:=run_yield (P:=P) (args:=#[vy]) hbk (by rw [hp]; rfl)
 have hrun:(execOp (Act.eval ⟨tmps,[]⟩) ⟨some d,.call ⟨.value (.tmp x),#[.tmp y],ts⟩,ty,pos,after,some (j,true)⟩).run P w=.ok (.round l r.fn (r.tmps.setIfInBounds p vy) r.assign r.body) w:=by
  have e1:Act.eval ⟨tmps,[]⟩ (.tmp x)=.func (.yield l) #[] #[]:=by simp [Act.eval,Array.getD_eq_getD_getElem?,hx1]
  have e2:Act.eval ⟨tmps,[]⟩ (.tmp y)=vy:=by simp [Act.eval,Array.getD_eq_getD_getElem?,hy1]
  rw [hp] at hyl
  simp only [execOp,resolve]
  rw [e1]
  simp only [Deferred.ofValue,Sem.run_bind,Sem.run_pure,Result.andThen_ok,invoke]
  simpa [e2] using hyl
 refine FWP.round ho' hw hrun ?_
 refine (hround ⟨g,w,st,S.base⟩ hh.sevo rfl rfl hinv vy hvy).mono ?_
 rintro e w2 ⟨v2,r2,st2,g2,rfl,⟨rr,hor,hst'⟩,hrr,hinv2,hh2⟩
 obtain ⟨_,_,hbk2⟩:=hinv2.raw o _ hor
 obtain ⟨q1,q2⟩:=hinv2.setRaw hor (.loop { rr with state:=.ready,pending:=none })
 have hob2:g2.ob o=l:=(hh2.sevo.ob o (List.getElem?_eq_some_iff.1 ho).1).trans hob
 rw [hob2] at hbk2 q1 q2
 rw [←hst'] at q1 q2
 refine ⟨_,run_endRound none hbk2,?_⟩
 have hstep:=hh2.toStep.trans q2
 subst hn
 exact hk (i+1) hi' g2 _ _ q1 (hh.step hstep) (envPut (d:=some d) (he.mono hstep.sevo) hd (.gd _ _ _ (fun h=>by cases h) (fun _=>.d _ _ (.ex _)))) size_put
end yield
end Go.Abs
namespace Go.Proofs.YtnjdcednocmcnaaDoor
open Go.RowKit Go.Abs
theorem hMix:Tryd.prog.follows .mixedOrders=true:=by kernel_rfl
theorem in_3:∃ i,Tryd.prog.info? 3=some i∧i.zero=some (.int .i64 0)∧i.size=1∧i.bytes=8:=info_parts (by kernel_rfl)
theorem in_4:∃ i,Tryd.prog.info? 4=some i∧i.zero=some (.bool false)∧i.size=1∧i.bytes=1:=info_parts (by kernel_rfl)
theorem in_9:∃ i,Tryd.prog.info? 9=some i∧i.zero=some (.string ⟨#[]⟩)∧i.size=1∧i.bytes=16:=info_parts (by kernel_rfl)
theorem sz_24:(Tryd.prog.info? 24).map (·.size)=some 12:=by kernel_rfl
theorem in_24:∃ i,Tryd.prog.info? 24=some i∧i.zero=some (.agg #[.int .i64 0,.int .i64 0,.int .i64 0,.string ⟨#[]⟩,.string ⟨#[]⟩,.int .i64 0,.int .i64 0,.int .i64 0,.int .i64 0,.bool false,.int .i64 0,.bool false])∧i.size=12∧i.bytes=112:=info_parts (by kernel_rfl)
theorem sz_29:(Tryd.prog.info? 29).map (·.size)=some 12:=by kernel_rfl
theorem in_29:∃ i,Tryd.prog.info? 29=some i∧i.zero=some (.agg #[.int .i64 0,.int .i64 0,.int .i64 0,.int .i64 0,.string ⟨#[]⟩,.string ⟨#[]⟩,.int .i64 0,.int .i64 0,.int .i64 0,.bool false,.int .i64 0,.int .i64 0])∧i.size=12∧i.bytes=112:=info_parts (by kernel_rfl)
theorem sz_38:(Tryd.prog.info? 38).map (·.size)=some 8:=by kernel_rfl
theorem in_38:∃ i,Tryd.prog.info? 38=some i∧i.zero=some (.agg #[.int .i64 0,.int .i64 0,.int .i64 0,.string ⟨#[]⟩,.slice none 0 0,.slice none 0 0,.bool false,.bool false])∧i.size=8∧i.bytes=96:=info_parts (by kernel_rfl)
theorem sz_43:(Tryd.prog.info? 43).map (·.size)=some 7:=by kernel_rfl
theorem in_43:∃ i,Tryd.prog.info? 43=some i∧i.zero=some (.agg #[.int .i64 0,.int .i64 0,.int .i64 0,.int .i64 0,.string ⟨#[]⟩,.string ⟨#[]⟩,.int .i64 0])∧i.size=7∧i.bytes=72:=info_parts (by kernel_rfl)
theorem in_54:∃ i,Tryd.prog.info? 54=some i∧i.zero=some (.agg #[.int .i64 0,.int .i64 0,.int .i64 0,.string ⟨#[]⟩,.string ⟨#[]⟩,.int .i64 0,.int .i64 0,.int .i64 0,.int .i64 0,.bool false,.int .i64 0,.bool false])∧i.size=12∧i.bytes=112:=info_parts (by kernel_rfl)
theorem in_56:∃ i,Tryd.prog.info? 56=some i∧i.zero=some (.agg #[.int .i64 0,.int .i64 0,.int .i64 0,.string ⟨#[]⟩,.string ⟨#[]⟩,.int .i64 0,.int .i64 0,.int .i64 0,.int .i64 0,.bool false,.int .i64 0,.bool false,.slice none 0 0])∧i.size=13∧i.bytes=136:=info_parts (by kernel_rfl)
theorem in_65:∃ i,Tryd.prog.info? 65=some i∧i.zero=some (.slice none 0 0)∧i.size=1∧i.bytes=24:=info_parts (by kernel_rfl)
theorem sz_77:(Tryd.prog.info? 77).map (·.size)=some 6:=by kernel_rfl
theorem in_77:∃ i,Tryd.prog.info? 77=some i∧i.zero=some (.agg #[.int .i64 0,.int .i64 0,.int .i64 0,.bool false,.bool false,.slice none 0 0])∧i.size=6∧i.bytes=56:=info_parts (by kernel_rfl)
theorem in_116:∃ i,Tryd.prog.info? 116=some i∧i.zero=some (.agg #[.map none,.map none,.map none,.map none,.map none,.slice none 0 0,.slice none 0 0])∧i.size=7∧i.bytes=88:=info_parts (by kernel_rfl)
theorem fo_38_1:fieldOff Tryd.prog 38 1=some 1:=by kernel_rfl
theorem fo_43_2:fieldOff Tryd.prog 43 2=some 2:=by kernel_rfl
theorem fo_43_3:fieldOff Tryd.prog 43 3=some 3:=by kernel_rfl
theorem fo_116_0:fieldOff Tryd.prog 116 0=some 0:=by kernel_rfl
theorem fo_116_1:fieldOff Tryd.prog 116 1=some 1:=by kernel_rfl
theorem one_3:(Tryd.prog.underlying 3).map oneB=some true:=by kernel_rfl
theorem one_24:(Tryd.prog.underlying 24).map oneB=some false:=by kernel_rfl
theorem one_38:(Tryd.prog.underlying 38).map oneB=some false:=by kernel_rfl
theorem one_43:(Tryd.prog.underlying 43).map oneB=some false:=by kernel_rfl
theorem one_60:(Tryd.prog.underlying 60).map oneB=some true:=by kernel_rfl
theorem one_111:(Tryd.prog.underlying 111).map oneB=some true:=by kernel_rfl
theorem one_112:(Tryd.prog.underlying 112).map oneB=some true:=by kernel_rfl
theorem pl_24:placesOf Tryd.prog 24=some [(0,1),(1,1),(2,1),(3,1),(4,1),(5,1),(6,1),(7,1),(8,1),(9,1),(10,1),(11,1)]:=by kernel_rfl
theorem pl_29:placesOf Tryd.prog 29=some [(0,1),(1,1),(2,1),(3,1),(4,1),(5,1),(6,1),(7,1),(8,1),(9,1),(10,1),(11,1)]:=by kernel_rfl
theorem pl_38:placesOf Tryd.prog 38=some [(0,1),(1,1),(2,1),(3,1),(4,1),(5,1),(6,1),(7,1)]:=by kernel_rfl
theorem pl_43:placesOf Tryd.prog 43=some [(0,1),(1,1),(2,1),(3,1),(4,1),(5,1),(6,1)]:=by kernel_rfl
theorem pl_54:placesOf Tryd.prog 54=some [(0,12)]:=by kernel_rfl
theorem pl_56:placesOf Tryd.prog 56=some [(0,12),(12,1)]:=by kernel_rfl
theorem pl_77:placesOf Tryd.prog 77=some [(0,1),(1,1),(2,1),(3,1),(4,1),(5,1)]:=by kernel_rfl
theorem pl_116:placesOf Tryd.prog 116=some [(0,1),(1,1),(2,1),(3,1),(4,1),(5,1),(6,1)]:=by kernel_rfl
theorem zr_24:(Tryd.prog.info? 24).bind (·.zero)=some (.agg #[.int .i64 0,.int .i64 0,.int .i64 0,.string ⟨#[]⟩,.string ⟨#[]⟩,.int .i64 0,.int .i64 0,.int .i64 0,.int .i64 0,.bool false,.int .i64 0,.bool false]):=by kernel_rfl
theorem zr_29:(Tryd.prog.info? 29).bind (·.zero)=some (.agg #[.int .i64 0,.int .i64 0,.int .i64 0,.int .i64 0,.string ⟨#[]⟩,.string ⟨#[]⟩,.int .i64 0,.int .i64 0,.int .i64 0,.bool false,.int .i64 0,.int .i64 0]):=by kernel_rfl
theorem zr_38:(Tryd.prog.info? 38).bind (·.zero)=some (.agg #[.int .i64 0,.int .i64 0,.int .i64 0,.string ⟨#[]⟩,.slice none 0 0,.slice none 0 0,.bool false,.bool false]):=by kernel_rfl
theorem zr_43:(Tryd.prog.info? 43).bind (·.zero)=some (.agg #[.int .i64 0,.int .i64 0,.int .i64 0,.int .i64 0,.string ⟨#[]⟩,.string ⟨#[]⟩,.int .i64 0]):=by kernel_rfl
theorem zr_56:(Tryd.prog.info? 56).bind (·.zero)=some (.agg #[.int .i64 0,.int .i64 0,.int .i64 0,.string ⟨#[]⟩,.string ⟨#[]⟩,.int .i64 0,.int .i64 0,.int .i64 0,.int .i64 0,.bool false,.int .i64 0,.bool false,.slice none 0 0]):=by kernel_rfl
theorem zr_62:(Tryd.prog.info? 62).bind (·.zero)=some (.agg #[.slice none 0 0,.slice none 0 0]):=by kernel_rfl
theorem zr_67:(Tryd.prog.info? 67).bind (·.zero)=some (.agg #[.slice none 0 0,.slice none 0 0,.slice none 0 0]):=by kernel_rfl
theorem zr_77:(Tryd.prog.info? 77).bind (·.zero)=some (.agg #[.int .i64 0,.int .i64 0,.int .i64 0,.bool false,.bool false,.slice none 0 0]):=by kernel_rfl
theorem zr_79:(Tryd.prog.info? 79).bind (·.zero)=some (.agg #[.bool false,.bool false,.bool false,.bool false,.bool false]):=by kernel_rfl
theorem zr_102:(Tryd.prog.info? 102).bind (·.zero)=some (.pointer none):=by kernel_rfl
def ens:List Nat:=[38,49,50,48,51,28,36,27,52,25,53,37,39,40,54,55,66,56,57,42,43,44,31,79,80,71,72,62,63,70,64,65,46,45,32,33,34,20,21,22,19,11,17,47,35,10,16]
theorem en (i:Nat) {f:Nat} (h:ens[i]?=some f):Go.Abs.Enters Tryd.prog f:=Go.Abs.enters_of (by kernel_rfl) h
def FTc:FT:=⟨[3,4,9,22,36,59,60,65,85,102,111,112,113,114],[(24,12),(29,12),(38,8),(43,7),(54,12),(56,13),(62,2),(67,3),(77,6),(79,5)],[(3,1),(4,1),(9,1),(24,12),(29,12),(36,1),(38,8),(43,7),(56,13),(59,1),(60,1),(62,2),(65,1),(67,3),(77,6),(79,5),(102,1)],[(24,[(0,0),(1,1),(2,2),(3,3),(4,4),(5,5),(6,6),(7,7),(8,8),(9,9),(10,10),(11,11)]),(29,[(0,0),(1,1),(2,2),(3,3),(4,4),(5,5),(6,6),(7,7),(8,8),(9,9),(10,10),(11,11)]),(38,[(0,0),(1,1),(3,3),(4,4),(5,5),(6,6),(7,7)]),(43,[(0,0),(1,1),(2,2),(3,3),(4,4),(5,5),(6,6)]),(54,[(0,0)]),(56,[(0,0),(1,12)]),(62,[(0,0),(1,1)]),(67,[(0,0),(1,1),(2,2)]),(77,[(0,0),(3,3),(4,4),(5,5)]),(116,[(0,0),(1,1),(2,2),(3,3),(4,4),(5,5),(6,6)])],[(24,[cI 0,cI 0,cI 0,cS ([]:List UInt8),cS ([]:List UInt8),cI 0,cI 0,cI 0,cI 0,cB false,cI 0,cB false]),(29,[cI 0,cI 0,cI 0,cI 0,cS ([]:List UInt8),cS ([]:List UInt8),cI 0,cI 0,cI 0,cB false,cI 0,cI 0]),(38,[cI 0,cI 0,cI 0,cS ([]:List UInt8),nilD,nilD,cB false,cB false]),(43,[cI 0,cI 0,cI 0,cI 0,cS ([]:List UInt8),cS ([]:List UInt8),cI 0]),(56,[cI 0,cI 0,cI 0,cS ([]:List UInt8),cS ([]:List UInt8),cI 0,cI 0,cI 0,cI 0,cB false,cI 0,cB false,nilD]),(62,[nilD,nilD]),(67,[nilD,nilD,nilD]),(77,[cI 0,cI 0,cI 0,cB false,cB false,nilD]),(79,[cB false,cB false,cB false,cB false,cB false]),(102,[.ex (.pointer none)])]⟩
theorem ftok:FTc.Ok Tryd.prog:=FT.ok_of (by kernel_rfl) ⟨⟨_,zr_24,rfl⟩,⟨_,zr_29,rfl⟩,⟨_,zr_38,rfl⟩,⟨_,zr_43,rfl⟩,⟨_,zr_56,rfl⟩,⟨_,zr_62,rfl⟩,⟨_,zr_67,rfl⟩,⟨_,zr_77,rfl⟩,⟨_,zr_79,rfl⟩,⟨_,zr_102,rfl⟩,trivial⟩
theorem s22:SlT Tryd.prog 22 43 7:=.of Tryd.underlying22 in_43 rfl rfl
theorem s36:SlT Tryd.prog 36 9 1:=.of Tryd.underlying36 in_9 rfl rfl
theorem s59:SlT Tryd.prog 59 77 6:=.of Tryd.underlying59 in_77 rfl rfl
theorem s60:SlT Tryd.prog 60 38 8:=.of Tryd.underlying60 in_38 rfl rfl
theorem s65:SlT Tryd.prog 65 3 1:=.of Tryd.underlying65 in_3 rfl rfl
end Go.Proofs.YtnjdcednocmcnaaDoor
namespace Go.Abs
open Go.Proofs Go.Proofs.YtnjdcednocmcnaaDoor
section
variable {f:Ctx} {N p p':Nat} {S:Start} {Q:EV→St→Prop} {k k':List Item} {l o l' o':List Oper} {env env':Env} {st st':St} {ps:List Prop}
theorem ARun.A (n:Nat) (hs:List Hint) (h:goF Tryd.prog S.base FTc N n (.run k) env st hs=some ⟨.run k',env',st',ps⟩) (hp:AllP ps) (hk:ARun Tryd.prog f N S Q k' env' st'):ARun Tryd.prog f N S Q k env st:=goF_sound ftok hMix h hp hk
theorem ARun.AH (n:Nat) (hs:List Hint) (h:goH Tryd.prog S.base FTc N n (.run k) env st hs=some ⟨.run k',env',st',ps⟩) (hp:AllP ps) (hk:ARun Tryd.prog f N S Q k' env' st'):ARun Tryd.prog f N S Q k env st:=goH_sound ftok hMix h hp hk
theorem ARun.B (n:Nat) (hs:List Hint) (h:goF Tryd.prog S.base FTc N n (.run k) env st hs=some ⟨.ops l' o' k',env',st',ps⟩) (hp:AllP ps) (hk:AOps Tryd.prog f N S Q l' o' k' env' st'):ARun Tryd.prog f N S Q k env st:=goF_sound ftok hMix h hp hk
theorem ARun.BH (n:Nat) (hs:List Hint) (h:goH Tryd.prog S.base FTc N n (.run k) env st hs=some ⟨.ops l' o' k',env',st',ps⟩) (hp:AllP ps) (hk:AOps Tryd.prog f N S Q l' o' k' env' st'):ARun Tryd.prog f N S Q k env st:=goH_sound ftok hMix h hp hk
theorem ARun.C (n:Nat) (hs:List Hint) (h:goF Tryd.prog S.base FTc N n (.run k) env st hs=some ⟨.draw l' p' o' k',env',st',ps⟩) (hp:AllP ps) (hk:DOps Tryd.prog f N S Q l' p' o' k' env' st'):ARun Tryd.prog f N S Q k env st:=goF_sound ftok hMix h hp hk
theorem AOps.A (n:Nat) (hs:List Hint) (h:goF Tryd.prog S.base FTc N n (.ops l o k) env st hs=some ⟨.run k',env',st',ps⟩) (hp:AllP ps) (hk:ARun Tryd.prog f N S Q k' env' st'):AOps Tryd.prog f N S Q l o k env st:=goF_sound ftok hMix h hp hk
theorem AOps.AH (n:Nat) (hs:List Hint) (h:goH Tryd.prog S.base FTc N n (.ops l o k) env st hs=some ⟨.run k',env',st',ps⟩) (hp:AllP ps) (hk:ARun Tryd.prog f N S Q k' env' st'):AOps Tryd.prog f N S Q l o k env st:=goH_sound ftok hMix h hp hk
theorem AOps.B (n:Nat) (hs:List Hint) (h:goF Tryd.prog S.base FTc N n (.ops l o k) env st hs=some ⟨.ops l' o' k',env',st',ps⟩) (hp:AllP ps) (hk:AOps Tryd.prog f N S Q l' o' k' env' st'):AOps Tryd.prog f N S Q l o k env st:=goF_sound ftok hMix h hp hk
theorem AOps.C (n:Nat) (hs:List Hint) (h:goF Tryd.prog S.base FTc N n (.ops l o k) env st hs=some ⟨.draw l' p' o' k',env',st',ps⟩) (hp:AllP ps) (hk:DOps Tryd.prog f N S Q l' p' o' k' env' st'):AOps Tryd.prog f N S Q l o k env st:=goF_sound ftok hMix h hp hk
theorem DOps.C (n:Nat) (hs:List Hint) (h:goF Tryd.prog S.base FTc N n (.draw l p o k) env st hs=some ⟨.draw l' p' o' k',env',st',ps⟩) (hp:AllP ps) (hk:DOps Tryd.prog f N S Q l' p' o' k' env' st'):DOps Tryd.prog f N S Q l p o k env st:=goF_sound ftok hMix h hp hk
theorem ARun.R {f:FuncId} {fn:Func} {xs:List ResultVar} {es:List EV} (hf:Tryd.prog.funcs[f]?=some fn) (hr:fn.results=xs.toArray) (h:resV FTc env st xs=some es) (hQ:Q (retEV es) st):ARun Tryd.prog (.of f) N S Q (.code .ret :: k) env st:=.rc ftok hf hr h hQ
end
end Go.Abs
namespace Go.Proofs.YtnjdcednocmcnaaDoor
end Go.Proofs.YtnjdcednocmcnaaDoor
namespace Go.Proofs.YtnjdcednocmcnaaDoor
open Go.RowKit Go.Abs
structure Event where
 at_:Int
 kind:Int
 account:Int
 sub:Int
 number:(List UInt8)
 name:(List UInt8)
 value:Int
instance:Inhabited Event:=⟨⟨default,default,default,default,default,default,default⟩⟩
def Event.row (x:Event):List D:=[cI x.at_,cI x.kind,cI x.account,cI x.sub,cS x.number,cS x.name,cI x.value]
structure Account where
 id:Int
 since:Int
 anchor:Int
 prepaid:Bool
 closed:Bool
 subs:(List Int)
instance:Inhabited Account:=⟨⟨default,default,default,default,default,default⟩⟩
def Account.row (x:Account):List D:=[cI x.id,cI x.since,cI x.anchor,cB x.prepaid,cB x.closed,slOf 1 rI x.subs]
structure Sub where
 id:Int
 account:Int
 since:Int
 plan:(List UInt8)
 numbers:(List (List UInt8))
 products:(List (List UInt8))
 suspended:Bool
 family:Bool
instance:Inhabited Sub:=⟨⟨default,default,default,default,default,default,default,default⟩⟩
def Sub.row (x:Sub):List D:=[cI x.id,cI x.account,cI x.since,cS x.plan,slOf 1 rS x.numbers,slOf 1 rS x.products,cB x.suspended,cB x.family]
structure Billingref17Book where
 accounts:(List Account)
 subs:(List Sub)
 ended:(List Int)
instance:Inhabited Billingref17Book:=⟨⟨default,default,default⟩⟩
def Billingref17Book.row (x:Billingref17Book):List D:=[slOf 6 Account.row x.accounts,slOf 8 Sub.row x.subs,slOf 1 rI x.ended]
structure Record where
 source:Int
 serial:Int
 kind:Int
 a:(List UInt8)
 b:(List UInt8)
 start:Int
 units:Int
 call:Int
 part:Int
 last:Bool
 trunk:Int
 inbound:Bool
instance:Inhabited Record:=⟨⟨default,default,default,default,default,default,default,default,default,default,default,default⟩⟩
def Record.row (x:Record):List D:=[cI x.source,cI x.serial,cI x.kind,cS x.a,cS x.b,cI x.start,cI x.units,cI x.call,cI x.part,cB x.last,cI x.trunk,cB x.inbound]
structure EnrichSource where
 record:Record
instance:Inhabited EnrichSource:=⟨⟨default⟩⟩
def EnrichSource.row (x:EnrichSource):List D:=[cI x.record.source,cI x.record.serial,cI x.record.kind,cS x.record.a,cS x.record.b,cI x.record.start,cI x.record.units,cI x.record.call,cI x.record.part,cB x.record.last,cI x.record.trunk,cB x.record.inbound]
structure Customers where
 accounts:(List Account)
 subs:(List Sub)
instance:Inhabited Customers:=⟨⟨default,default⟩⟩
def Customers.row (x:Customers):List D:=[slOf 6 Account.row x.accounts,slOf 8 Sub.row x.subs]
structure EnrichWork where
 source:EnrichSource
 events:(List Event)
instance:Inhabited EnrichWork:=⟨⟨default,default⟩⟩
def EnrichWork.row (x:EnrichWork):List D:=[cI x.source.record.source,cI x.source.record.serial,cI x.source.record.kind,cS x.source.record.a,cS x.source.record.b,cI x.source.record.start,cI x.source.record.units,cI x.source.record.call,cI x.source.record.part,cB x.source.record.last,cI x.source.record.trunk,cB x.source.record.inbound,slOf 7 Event.row x.events]
structure Usage where
 id:Int
 kind:Int
 account:Int
 sub:Int
 a:(List UInt8)
 b:(List UInt8)
 start:Int
 units:Int
 trunk:Int
 inbound:Bool
 source:Int
 serial:Int
instance:Inhabited Usage:=⟨⟨default,default,default,default,default,default,default,default,default,default,default,default⟩⟩
def Usage.row (x:Usage):List D:=[cI x.id,cI x.kind,cI x.account,cI x.sub,cS x.a,cS x.b,cI x.start,cI x.units,cI x.trunk,cB x.inbound,cI x.source,cI x.serial]
def x_Itoa (n:Int):Option (List UInt8):=ck (-9223372036854775808≤n∧n≤9223372036854775807) (some (Go.Lib.itoa n))
def x_Join (xs:List (List UInt8)) (sep:List UInt8):Option (List UInt8):=ck (xs.length≤1000000000∧(Go.Lib.join xs sep).length≤1000000000) (some (Go.Lib.join xs sep))
def f_w21_opened:Option (List Event) :=
 some ([(⟨0,1,1,0,([]:List UInt8),([112,111,115,116,112,97,105,100]:List UInt8),1⟩:Event),(⟨0,3,1,2,([]:List UInt8),([98,97,115,105,99]:List UInt8),0⟩:Event),(⟨100,5,0,2,([52,57,49,53]:List UInt8),([]:List UInt8),0⟩:Event),(⟨200,10,0,2,([]:List UInt8),([]:List UInt8),0⟩:Event)]:List Event)
def f_textual_within (v0n:Int) (v1lo:Int) (v2hi:Int):Option Bool :=
 some ((decide (v0n≥v1lo)) && (decide (v0n≤v2hi)))
def f_digits_digit (v0c:UInt8):Option Bool :=
 some ((decide (v0c≥48)) && (decide (v0c≤57)))
def f_digits_Valid_j1 (v0s:List UInt8):Option Bool :=
 some ((decide ((v0s.length:Int)≥1)) && (decide ((v0s.length:Int)≤15)))
def f_digits_Valid_l1 (v0s:List UInt8) (v6l1:Int):Option ((Int) ⊕ Bool) :=
 if (decide (v6l1 < (v0s.length:Int)))=true then (ck ((0:Int)≤v6l1∧v6l1 < (v0s.length:Int)) ((f_digits_digit (nth v0s v6l1.toNat)).bind fun y1=>if (!y1)=true then some (.inr false) else ck (R64 (v6l1+1)) (some (.inl (v6l1+1))))) else (f_digits_Valid_j1 v0s).map (fun z=>.inr z)
def f_digits_Valid (v0s:List UInt8):Option Bool :=
 loop (fun s=>f_digits_Valid_l1 v0s s) 0
def f_textual_check_j1 (v0:Record) (v4j1:Int):Option Int :=
 (f_textual_within v0.source 1 99).bind fun y1=>(gcall (!(!y1)) (f_textual_within v0.serial 1 999999999)).bind fun y2=>if ((!y1) || (!y2))=true then some 6 else (f_textual_within v0.kind 1 4).bind fun y3=>if (!y3)=true then some 7 else (f_digits_Valid v0.a).bind fun y4=>(gcall (!(!y4)) (f_digits_Valid v0.b)).bind fun y5=>if ((!y4) || ((!y5) && (!(((v0.kind==3) || (v0.kind==4)) && (v0.b==([]:List UInt8))))))=true then some 12 else (f_textual_within v0.start 0 12622780799).bind fun y6=>if (!y6)=true then some 15 else (f_textual_within v0.units 0 v4j1).bind fun y7=>if (!y7)=true then some 6 else ck ((v0.kind==1)=true→(R64 (v0.start+v0.units))) (if ((v0.kind==1) && (decide ((v0.start+v0.units) > 12622780800)))=true then some 15 else (f_textual_within v0.call 0 999999999).bind fun y8=>(gcall (!(!y8)) (f_textual_within v0.part 0 99)).bind fun y9=>if ((!y8) || (!y9))=true then some 6 else if (((v0.part==0) != (v0.call==0)) || (v0.last && (v0.part==0)))=true then some 8 else (f_textual_within v0.trunk 0 999).bind fun y10=>if (!y10)=true then some 6 else if (v0.inbound && (v0.trunk==0))=true then some 8 else some 0)
def f_textual_check (v0:Record):Option Int :=
 if (v0.kind==1)=true then (f_textual_check_j1 v0 604800) else f_textual_check_j1 v0 1099511627776
def f_textual_Encode_j3 (v7j3:List (List UInt8)):Option ((List UInt8)×Int) :=
 (x_Join v7j3 ([32]:List UInt8)).bind fun y6=>some (y6,0)
def f_textual_Encode_j4 (v0:Record) (v7j2:List (List UInt8)) (v8j4:List UInt8):Option ((List UInt8)×Int) :=
 (x_Itoa v0.trunk).bind fun y7=>ck (v7j2.length+([v8j4,y7]:List (List UInt8)).length≤1000000000) (f_textual_Encode_j3 (v7j2++([v8j4,y7]:List (List UInt8))))
def f_textual_Encode_j2 (v0:Record) (v7j2:List (List UInt8)):Option ((List UInt8)×Int) :=
 if (v0.trunk != 0)=true then (if v0.inbound=true then (f_textual_Encode_j4 v0 v7j2 ([105,110]:List UInt8)) else f_textual_Encode_j4 v0 v7j2 ([111,117,116]:List UInt8)) else f_textual_Encode_j3 v7j2
def f_textual_Encode_j1 (v0:Record) (v6j1:List UInt8):Option ((List UInt8)×Int) :=
 ck (R64 (v0.kind-1)) (ck ((0:Int)≤v0.kind-1∧v0.kind-1≤v0.kind∧v0.kind≤(([118,116,100,99]:List UInt8).length:Int)) ((x_Itoa v0.source).bind fun y2=>(x_Itoa v0.serial).bind fun y3=>(x_Itoa v0.start).bind fun y4=>(x_Itoa v0.units).bind fun y5=>if (v0.part != 0)=true then ((x_Itoa v0.call).bind fun y8=>(x_Itoa v0.part).bind fun y9=>ck (([(([118,116,100,99]:List UInt8).take v0.kind.toNat).drop (v0.kind-1).toNat,y2,y3,v0.a,v6j1,y4,y5]:List (List UInt8)).length+([([112,97,114,116]:List UInt8),y8,y9]:List (List UInt8)).length≤1000000000) (if v0.last=true then (ck ((([(([118,116,100,99]:List UInt8).take v0.kind.toNat).drop (v0.kind-1).toNat,y2,y3,v0.a,v6j1,y4,y5]:List (List UInt8))++([([112,97,114,116]:List UInt8),y8,y9]:List (List UInt8))).length+([([108,97,115,116]:List UInt8)]:List (List UInt8)).length≤1000000000) (f_textual_Encode_j2 v0 ((([(([118,116,100,99]:List UInt8).take v0.kind.toNat).drop (v0.kind-1).toNat,y2,y3,v0.a,v6j1,y4,y5]:List (List UInt8))++([([112,97,114,116]:List UInt8),y8,y9]:List (List UInt8)))++([([108,97,115,116]:List UInt8)]:List (List UInt8))))) else f_textual_Encode_j2 v0 (([(([118,116,100,99]:List UInt8).take v0.kind.toNat).drop (v0.kind-1).toNat,y2,y3,v0.a,v6j1,y4,y5]:List (List UInt8))++([([112,97,114,116]:List UInt8),y8,y9]:List (List UInt8))))) else f_textual_Encode_j2 v0 ([(([118,116,100,99]:List UInt8).take v0.kind.toNat).drop (v0.kind-1).toNat,y2,y3,v0.a,v6j1,y4,y5]:List (List UInt8))))
def f_textual_Encode (v0:Record):Option ((List UInt8)×Int) :=
 (f_textual_check v0).bind fun y1=>if (y1 != 0)=true then some (([]:List UInt8),y1) else if (v0.b==([]:List UInt8))=true then (f_textual_Encode_j1 v0 ([45]:List UInt8)) else f_textual_Encode_j1 v0 v0.b
def f_validate_Check (v0r:Record):Option Int :=
 (f_textual_Encode v0r).bind fun y1=>some y1.2
def f_enrich_source_number (v0s:EnrichSource):Option (List UInt8) :=
 if v0s.record.inbound=true then some v0s.record.b else some v0s.record.a
def f_customer_place_int_j1 (v0list:List Int) (v1x:Int) (v5atj1:Int):Option (List Int) :=
 ck ((0:Int)≤v5atj1∧v5atj1≤(v0list.length:Int)) (ck ((v0list.take v5atj1.toNat).length≤1000000000) (ck ((v0list.take v5atj1.toNat).length+([v1x]:List Int).length≤1000000000) (ck ((0:Int)≤v5atj1∧v5atj1≤(v0list.length:Int)) (ck (((v0list.take v5atj1.toNat)++([v1x]:List Int)).length+(v0list.drop v5atj1.toNat).length≤1000000000) (some (((v0list.take v5atj1.toNat)++([v1x]:List Int))++(v0list.drop v5atj1.toNat)))))))
def f_customer_place_int_l1 (v0list:List Int) (v1x:Int) (v5atl1:Int):Option ((Int) ⊕ (List Int)) :=
 ck ((decide (v5atl1 < (v0list.length:Int)))=true→((0:Int)≤v5atl1∧v5atl1 < (v0list.length:Int))) (if ((decide (v5atl1 < (v0list.length:Int))) && (decide ((nth v0list v5atl1.toNat) < v1x)))=true then (ck (R64 (v5atl1+1)) (some (.inl (v5atl1+1)))) else (f_customer_place_int_j1 v0list v1x v5atl1).map (fun z=>.inr z))
def f_customer_place_int (v0list:List Int) (v1x:Int):Option (List Int) :=
 loop (fun s=>f_customer_place_int_l1 v0list v1x s) 0
def f_customer_place_string_j1 (v0list:List (List UInt8)) (v1x:List UInt8) (v5atj1:Int):Option (List (List UInt8)) :=
 ck ((0:Int)≤v5atj1∧v5atj1≤(v0list.length:Int)) (ck ((v0list.take v5atj1.toNat).length≤1000000000) (ck ((v0list.take v5atj1.toNat).length+([v1x]:List (List UInt8)).length≤1000000000) (ck ((0:Int)≤v5atj1∧v5atj1≤(v0list.length:Int)) (ck (((v0list.take v5atj1.toNat)++([v1x]:List (List UInt8))).length+(v0list.drop v5atj1.toNat).length≤1000000000) (some (((v0list.take v5atj1.toNat)++([v1x]:List (List UInt8)))++(v0list.drop v5atj1.toNat)))))))
def f_customer_place_string_l1 (v0list:List (List UInt8)) (v1x:List UInt8) (v5atl1:Int):Option ((Int) ⊕ (List (List UInt8))) :=
 ck ((decide (v5atl1 < (v0list.length:Int)))=true→((0:Int)≤v5atl1∧v5atl1 < (v0list.length:Int))) (if ((decide (v5atl1 < (v0list.length:Int))) && (strlss (nth v0list v5atl1.toNat) v1x))=true then (ck (R64 (v5atl1+1)) (some (.inl (v5atl1+1)))) else (f_customer_place_string_j1 v0list v1x v5atl1).map (fun z=>.inr z))
def f_customer_place_string (v0list:List (List UInt8)) (v1x:List UInt8):Option (List (List UInt8)) :=
 loop (fun s=>f_customer_place_string_l1 v0list v1x s) 0
def f_customer_remove_l1 (v0list:List (List UInt8)) (v1x:List UInt8) (v5outl1:List (List UInt8)) (v10l1:Int):Option ((List (List UInt8)×Int) ⊕ (List (List UInt8))) :=
 if (decide (v10l1 < (v0list.length:Int)))=true then (ck ((0:Int)≤v10l1∧v10l1 < (v0list.length:Int)) (if ((nth v0list v10l1.toNat) != v1x)=true then (ck (v5outl1.length+([nth v0list v10l1.toNat]:List (List UInt8)).length≤1000000000) (ck (R64 (v10l1+1)) (some (.inl (v5outl1++([nth v0list v10l1.toNat]:List (List UInt8)),v10l1+1))))) else ck (R64 (v10l1+1)) (some (.inl (v5outl1,v10l1+1))))) else some (.inr v5outl1)
def f_customer_remove (v0list:List (List UInt8)) (v1x:List UInt8):Option (List (List UInt8)) :=
 loop (fun s=>f_customer_remove_l1 v0list v1x s.1 s.2) (([]:List (List UInt8)),0)
def g_customer_begin:Option ((List (Int×Account))×(List (Int×Sub))×(List (Int×Bool))×(List ((List UInt8)×Int))×(List (Int×Int))) :=
 some (([]:List (Int×Account)),([]:List (Int×Sub)),([]:List (Int×Bool)),([]:List ((List UInt8)×Int)),([]:List (Int×Int)))
def g_customer_upto (v0events:List Event) (v1t:Int):Option ((List Event)×Int) :=
 some (v0events,v1t)
def g_customer_world_changed (v1:Sub) (v2:Event) (o0c5p:List Int) (o0c6p:List Int) (o1c0p:List (Int×Account)) (o2c0p:List (Int×Sub)) (o3c0p:List (Int×Bool)) (o4c0p:List ((List UInt8)×Int)) (o5c0p:List (Int×Int)):Option (Sub×(List ((List UInt8)×Int))) :=
 if (v2.kind==5)=true then ((f_customer_place_string v1.numbers v2.number).bind fun y1=>some ((⟨v1.id,v1.account,v1.since,v1.plan,y1,v1.products,v1.suspended,v1.family⟩:Sub),aset o4c0p v2.number v2.sub)) else if (v2.kind==6)=true then ((f_customer_remove v1.numbers v2.number).bind fun y2=>some ((⟨v1.id,v1.account,v1.since,v1.plan,y2,v1.products,v1.suspended,v1.family⟩:Sub),aerase o4c0p v2.number)) else if (v2.kind==7)=true then some ((⟨v1.id,v1.account,v1.since,v2.name,v1.numbers,v1.products,v1.suspended,v1.family⟩:Sub),o4c0p) else if (v2.kind==8)=true then ((f_customer_place_string v1.products v2.name).bind fun y3=>some ((⟨v1.id,v1.account,v1.since,v1.plan,v1.numbers,y3,v1.suspended,v1.family⟩:Sub),o4c0p)) else if (v2.kind==9)=true then ((f_customer_remove v1.products v2.name).bind fun y4=>some ((⟨v1.id,v1.account,v1.since,v1.plan,v1.numbers,y4,v1.suspended,v1.family⟩:Sub),o4c0p)) else if (v2.kind==10)=true then some ((⟨v1.id,v1.account,v1.since,v1.plan,v1.numbers,v1.products,true,v1.family⟩:Sub),o4c0p) else if (v2.kind==11)=true then some ((⟨v1.id,v1.account,v1.since,v1.plan,v1.numbers,v1.products,false,v1.family⟩:Sub),o4c0p) else if (v2.kind==12)=true then some ((⟨v1.id,v1.account,v1.since,v1.plan,v1.numbers,v1.products,v1.suspended,true⟩:Sub),o4c0p) else if (v2.kind==13)=true then some ((⟨v1.id,v1.account,v1.since,v1.plan,v1.numbers,v1.products,v1.suspended,false⟩:Sub),o4c0p) else some (v1,o4c0p)
def g_customer_world_apply_j1 (v1:Event) (o0c6p:List Int) (o1c0p:List (Int×Account)) (o2c0p:List (Int×Sub)) (o3c0p:List (Int×Bool)) (o4c0p:List ((List UInt8)×Int)) (o5c0p:List (Int×Int)) (o0c5j1:List Int):Option ((List Int)×(List Int)×(List (Int×Account))×(List (Int×Sub))×(List (Int×Bool))×(List ((List UInt8)×Int))×(List (Int×Int))) :=
 some (o0c5j1,o0c6p,aset o1c0p v1.account (⟨v1.account,v1.at_,v1.value,(v1.name==([112,114,101,112,97,105,100]:List UInt8)),false,([]:List Int)⟩:Account),o2c0p,o3c0p,o4c0p,o5c0p)
def g_customer_world_apply_j2 (v1:Event) (o0c5p:List Int) (o1c0p:List (Int×Account)) (o2c0p:List (Int×Sub)) (o3c0p:List (Int×Bool)) (o4c0p:List ((List UInt8)×Int)) (o5c0p:List (Int×Int)) (o0c6j2:List Int):Option ((List Int)×(List Int)×(List (Int×Account))×(List (Int×Sub))×(List (Int×Bool))×(List ((List UInt8)×Int))×(List (Int×Int))) :=
 ck (R64 (((alook o5c0p v1.account).getD 0)+1)) (some (o0c5p,o0c6j2,o1c0p,aset o2c0p v1.sub (⟨v1.sub,v1.account,v1.at_,v1.name,([]:List (List UInt8)),([]:List (List UInt8)),false,false⟩:Sub),aset o3c0p v1.sub true,o4c0p,aset o5c0p v1.account (((alook o5c0p v1.account).getD 0)+1)))
def g_customer_world_apply_j3 (v1:Event) (o0c5p:List Int) (o0c6p:List Int) (o1c0p:List (Int×Account)) (o2c0p:List (Int×Sub)) (o3c0p:List (Int×Bool)) (o5c0p:List (Int×Int)) (o4c0j3:List ((List UInt8)×Int)):Option ((List Int)×(List Int)×(List (Int×Account))×(List (Int×Sub))×(List (Int×Bool))×(List ((List UInt8)×Int))×(List (Int×Int))) :=
 ck (R64 (((alook o5c0p (((alook o2c0p v1.sub).getD (⟨0,0,0,([]:List UInt8),([]:List (List UInt8)),([]:List (List UInt8)),false,false⟩:Sub)).account)).getD 0) - 1)) (some (o0c5p,o0c6p,o1c0p,aerase o2c0p v1.sub,o3c0p,o4c0j3,aset o5c0p (((alook o2c0p v1.sub).getD (⟨0,0,0,([]:List UInt8),([]:List (List UInt8)),([]:List (List UInt8)),false,false⟩:Sub)).account) (((alook o5c0p (((alook o2c0p v1.sub).getD (⟨0,0,0,([]:List UInt8),([]:List (List UInt8)),([]:List (List UInt8)),false,false⟩:Sub)).account)).getD 0) - 1)))
def g_customer_world_apply_l1 (v1:Event) (o0c5p:List Int) (o0c6p:List Int) (o1c0p:List (Int×Account)) (o2c0p:List (Int×Sub)) (o3c0p:List (Int×Bool)) (o5c0p:List (Int×Int)) (v153l1:Int) (o4c0l1:List ((List UInt8)×Int)):Option ((Int×(List ((List UInt8)×Int))) ⊕ ((List Int)×(List Int)×(List (Int×Account))×(List (Int×Sub))×(List (Int×Bool))×(List ((List UInt8)×Int))×(List (Int×Int)))) :=
 if (decide (v153l1 < ((((alook o2c0p v1.sub).getD (⟨0,0,0,([]:List UInt8),([]:List (List UInt8)),([]:List (List UInt8)),false,false⟩:Sub)).numbers).length:Int)))=true then (ck ((0:Int)≤v153l1∧v153l1 < ((((alook o2c0p v1.sub).getD (⟨0,0,0,([]:List UInt8),([]:List (List UInt8)),([]:List (List UInt8)),false,false⟩:Sub)).numbers).length:Int)) (ck (R64 (v153l1+1)) (some (.inl (v153l1+1,aerase o4c0l1 (nth (((alook o2c0p v1.sub).getD (⟨0,0,0,([]:List UInt8),([]:List (List UInt8)),([]:List (List UInt8)),false,false⟩:Sub)).numbers) v153l1.toNat)))))) else (g_customer_world_apply_j3 v1 o0c5p o0c6p o1c0p o2c0p o3c0p o5c0p o4c0l1).map (fun z=>.inr z)
def g_customer_world_apply_j4 (v1:Event) (o0c5p:List Int) (o0c6p:List Int) (o1c0p:List (Int×Account)) (o2c0p:List (Int×Sub)) (o3c0p:List (Int×Bool)) (o4c0p:List ((List UInt8)×Int)) (o5c0p:List (Int×Int)) (v177j4:Bool):Option ((List Int)×(List Int)×(List (Int×Account))×(List (Int×Sub))×(List (Int×Bool))×(List ((List UInt8)×Int))×(List (Int×Int))) :=
 if v177j4=true then some (o0c5p,o0c6p,o1c0p,o2c0p,o3c0p,o4c0p,o5c0p) else if ((alook o2c0p v1.sub).isSome)=true then ((g_customer_world_changed ((alook o2c0p v1.sub).getD (⟨0,0,0,([]:List UInt8),([]:List (List UInt8)),([]:List (List UInt8)),false,false⟩:Sub)) v1 o0c5p o0c6p o1c0p o2c0p o3c0p o4c0p o5c0p).bind fun y3=>some (o0c5p,o0c6p,o1c0p,aset o2c0p v1.sub y3.1,o3c0p,y3.2,o5c0p)) else some (o0c5p,o0c6p,o1c0p,o2c0p,o3c0p,o4c0p,o5c0p)
def g_customer_world_apply (v1:Event) (o0c5p:List Int) (o0c6p:List Int) (o1c0p:List (Int×Account)) (o2c0p:List (Int×Sub)) (o3c0p:List (Int×Bool)) (o4c0p:List ((List UInt8)×Int)) (o5c0p:List (Int×Int)):Option ((List Int)×(List Int)×(List (Int×Account))×(List (Int×Sub))×(List (Int×Bool))×(List ((List UInt8)×Int))×(List (Int×Int))) :=
 if (v1.kind==1)=true then (if (!((alook o1c0p v1.account).isSome))=true then ((f_customer_place_int o0c5p v1.account).bind fun y1=>g_customer_world_apply_j1 v1 o0c6p o1c0p o2c0p o3c0p o4c0p o5c0p y1) else g_customer_world_apply_j1 v1 o0c6p o1c0p o2c0p o3c0p o4c0p o5c0p o0c5p) else if (v1.kind==2)=true then some (o0c5p,o0c6p,aset o1c0p v1.account (⟨((alook o1c0p v1.account).getD (⟨0,0,0,false,false,([]:List Int)⟩:Account)).id,((alook o1c0p v1.account).getD (⟨0,0,0,false,false,([]:List Int)⟩:Account)).since,((alook o1c0p v1.account).getD (⟨0,0,0,false,false,([]:List Int)⟩:Account)).anchor,((alook o1c0p v1.account).getD (⟨0,0,0,false,false,([]:List Int)⟩:Account)).prepaid,true,((alook o1c0p v1.account).getD (⟨0,0,0,false,false,([]:List Int)⟩:Account)).subs⟩:Account),o2c0p,o3c0p,o4c0p,o5c0p) else if (v1.kind==3)=true then (if (!((alook o3c0p v1.sub).getD false))=true then ((f_customer_place_int o0c6p v1.sub).bind fun y2=>g_customer_world_apply_j2 v1 o0c5p o1c0p o2c0p o3c0p o4c0p o5c0p y2) else g_customer_world_apply_j2 v1 o0c5p o1c0p o2c0p o3c0p o4c0p o5c0p o0c6p) else if (v1.kind==4)=true then (loop (fun s=>g_customer_world_apply_l1 v1 o0c5p o0c6p o1c0p o2c0p o3c0p o5c0p s.1 s.2) (0,o4c0p)) else if (v1.kind==14)=true then (g_customer_world_apply_j4 v1 o0c5p o0c6p o1c0p o2c0p o3c0p o4c0p o5c0p (v1.kind==14)) else g_customer_world_apply_j4 v1 o0c5p o0c6p o1c0p o2c0p o3c0p o4c0p o5c0p (v1.kind==15)
def f_customer_State_r (e:Event) (o1c5p:List Int) (o1c6p:List Int) (o2c0p:List (Int×Account)) (o3c0p:List (Int×Sub)) (o4c0p:List (Int×Bool)) (o5c0p:List ((List UInt8)×Int)) (o6c0p:List (Int×Int)):Option ((List Int)×(List Int)×(List (Int×Account))×(List (Int×Sub))×(List (Int×Bool))×(List ((List UInt8)×Int))×(List (Int×Int))) :=
 (g_customer_world_apply e o1c5p o1c6p o2c0p o3c0p o4c0p o5c0p o6c0p).bind fun y1=>some (y1.1,y1.2.1,y1.2.2.1,y1.2.2.2.1,y1.2.2.2.2.1,y1.2.2.2.2.2.1,y1.2.2.2.2.2.2)
def f_customer_upto_1_l1 (o8c0p:List Event) (o9c0p:Int) (v8l1:Int) (o1c5l1:List Int) (o1c6l1:List Int) (o2c0l1:List (Int×Account)) (o3c0l1:List (Int×Sub)) (o4c0l1:List (Int×Bool)) (o5c0l1:List ((List UInt8)×Int)) (o6c0l1:List (Int×Int)):Option ((Int×List Int×List Int×(List (Int×Account))×(List (Int×Sub))×(List (Int×Bool))×(List ((List UInt8)×Int))×(List (Int×Int))) ⊕ ((List Int)×(List Int)×(List (Int×Account))×(List (Int×Sub))×(List (Int×Bool))×(List ((List UInt8)×Int))×(List (Int×Int)))) :=
 if (decide (v8l1 < (o8c0p.length:Int)))=true then (ck ((0:Int)≤v8l1∧v8l1 < (o8c0p.length:Int)) (if (decide (((nth o8c0p v8l1.toNat).at_)≤o9c0p))=true then ((f_customer_State_r (nth o8c0p v8l1.toNat) o1c5l1 o1c6l1 o2c0l1 o3c0l1 o4c0l1 o5c0l1 o6c0l1).bind fun y1=>ck (R64 (v8l1+1)) (some (.inl (v8l1+1,y1.1,y1.2.1,y1.2.2.1,y1.2.2.2.1,y1.2.2.2.2.1,y1.2.2.2.2.2.1,y1.2.2.2.2.2.2)))) else ck (R64 (v8l1+1)) (some (.inl (v8l1+1,o1c5l1,o1c6l1,o2c0l1,o3c0l1,o4c0l1,o5c0l1,o6c0l1))))) else some (.inr (o1c5l1,o1c6l1,o2c0l1,o3c0l1,o4c0l1,o5c0l1,o6c0l1))
def f_customer_upto_1 (o8c0p:List Event) (o9c0p:Int) (o1c5p:List Int) (o1c6p:List Int) (o2c0p:List (Int×Account)) (o3c0p:List (Int×Sub)) (o4c0p:List (Int×Bool)) (o5c0p:List ((List UInt8)×Int)) (o6c0p:List (Int×Int)):Option ((List Int)×(List Int)×(List (Int×Account))×(List (Int×Sub))×(List (Int×Bool))×(List ((List UInt8)×Int))×(List (Int×Int))) :=
 loop (fun s=>f_customer_upto_1_l1 o8c0p o9c0p s.1 s.2.1 s.2.2.1 s.2.2.2.1 s.2.2.2.2.1 s.2.2.2.2.2.1 s.2.2.2.2.2.2.1 s.2.2.2.2.2.2.2) (0,o1c5p,o1c6p,o2c0p,o3c0p,o4c0p,o5c0p,o6c0p)
def g_customer_world_customers_l1 (o0c5p:List Int) (o1c0p:List (Int×Account)) (o7c1j1:List Sub) (o8c0j1:List (Int×(List Int))) (v55l1:Int) (o7c0l1:List Account):Option ((Int×List Account) ⊕ Customers) :=
 if (decide (v55l1 < (o0c5p.length:Int)))=true then (ck ((0:Int)≤v55l1∧v55l1 < (o0c5p.length:Int)) (ck (o7c0l1.length+([(⟨((alook o1c0p (nth o0c5p v55l1.toNat)).getD (⟨0,0,0,false,false,([]:List Int)⟩:Account)).id,((alook o1c0p (nth o0c5p v55l1.toNat)).getD (⟨0,0,0,false,false,([]:List Int)⟩:Account)).since,((alook o1c0p (nth o0c5p v55l1.toNat)).getD (⟨0,0,0,false,false,([]:List Int)⟩:Account)).anchor,((alook o1c0p (nth o0c5p v55l1.toNat)).getD (⟨0,0,0,false,false,([]:List Int)⟩:Account)).prepaid,((alook o1c0p (nth o0c5p v55l1.toNat)).getD (⟨0,0,0,false,false,([]:List Int)⟩:Account)).closed,(alook o8c0j1 (nth o0c5p v55l1.toNat)).getD ([]:List Int)⟩:Account)]:List Account).length≤1000000000) (ck (R64 (v55l1+1)) (some (.inl (v55l1+1,o7c0l1++([(⟨((alook o1c0p (nth o0c5p v55l1.toNat)).getD (⟨0,0,0,false,false,([]:List Int)⟩:Account)).id,((alook o1c0p (nth o0c5p v55l1.toNat)).getD (⟨0,0,0,false,false,([]:List Int)⟩:Account)).since,((alook o1c0p (nth o0c5p v55l1.toNat)).getD (⟨0,0,0,false,false,([]:List Int)⟩:Account)).anchor,((alook o1c0p (nth o0c5p v55l1.toNat)).getD (⟨0,0,0,false,false,([]:List Int)⟩:Account)).prepaid,((alook o1c0p (nth o0c5p v55l1.toNat)).getD (⟨0,0,0,false,false,([]:List Int)⟩:Account)).closed,(alook o8c0j1 (nth o0c5p v55l1.toNat)).getD ([]:List Int)⟩:Account)]:List Account))))))) else some (.inr (⟨o7c0l1,o7c1j1⟩:Customers))
def g_customer_world_customers_j1 (o0c5p:List Int) (o1c0p:List (Int×Account)) (o7c1j1:List Sub) (o8c0j1:List (Int×(List Int))):Option Customers :=
 loop (fun s=>g_customer_world_customers_l1 o0c5p o1c0p o7c1j1 o8c0j1 s.1 s.2) (0,([]:List Account))
def g_customer_world_customers_l2 (o0c5p:List Int) (o0c6p:List Int) (o1c0p:List (Int×Account)) (o2c0p:List (Int×Sub)) (v18l2:Int) (o7c1l2:List Sub) (o8c0l2:List (Int×(List Int))):Option ((Int×List Sub×(List (Int×(List Int)))) ⊕ Customers) :=
 if (decide (v18l2 < (o0c6p.length:Int)))=true then (ck ((0:Int)≤v18l2∧v18l2 < (o0c6p.length:Int)) (if (!((alook o2c0p (nth o0c6p v18l2.toNat)).isSome))=true then (ck (R64 (v18l2+1)) (some (.inl (v18l2+1,o7c1l2,o8c0l2)))) else ck (((alook o8c0l2 (((alook o2c0p (nth o0c6p v18l2.toNat)).getD (⟨0,0,0,([]:List UInt8),([]:List (List UInt8)),([]:List (List UInt8)),false,false⟩:Sub)).account)).getD ([]:List Int)).length+([nth o0c6p v18l2.toNat]:List Int).length≤1000000000) (ck (o7c1l2.length+([(alook o2c0p (nth o0c6p v18l2.toNat)).getD (⟨0,0,0,([]:List UInt8),([]:List (List UInt8)),([]:List (List UInt8)),false,false⟩:Sub)]:List Sub).length≤1000000000) (ck (R64 (v18l2+1)) (some (.inl (v18l2+1,o7c1l2++([(alook o2c0p (nth o0c6p v18l2.toNat)).getD (⟨0,0,0,([]:List UInt8),([]:List (List UInt8)),([]:List (List UInt8)),false,false⟩:Sub)]:List Sub),aset o8c0l2 (((alook o2c0p (nth o0c6p v18l2.toNat)).getD (⟨0,0,0,([]:List UInt8),([]:List (List UInt8)),([]:List (List UInt8)),false,false⟩:Sub)).account) (((alook o8c0l2 (((alook o2c0p (nth o0c6p v18l2.toNat)).getD (⟨0,0,0,([]:List UInt8),([]:List (List UInt8)),([]:List (List UInt8)),false,false⟩:Sub)).account)).getD ([]:List Int))++([nth o0c6p v18l2.toNat]:List Int))))))))) else (g_customer_world_customers_j1 o0c5p o1c0p o7c1l2 o8c0l2).map (fun z=>.inr z)
def g_customer_world_customers (o0c5p:List Int) (o0c6p:List Int) (o1c0p:List (Int×Account)) (o2c0p:List (Int×Sub)) (o3c0p:List (Int×Bool)) (o4c0p:List ((List UInt8)×Int)) (o5c0p:List (Int×Int)):Option Customers :=
 loop (fun s=>g_customer_world_customers_l2 o0c5p o0c6p o1c0p o2c0p s.1 s.2.1 s.2.2) (0,([]:List Sub),([]:List (Int×(List Int))))
def f_customer_State (v0events:List Event) (v1t:Int):Option Customers :=
 (g_customer_begin).bind fun y1=>(g_customer_upto v0events v1t).bind fun y2=>(f_customer_upto_1 y2.1 y2.2 ([]:List Int) ([]:List Int) y1.1 y1.2.1 y1.2.2.1 y1.2.2.2.1 y1.2.2.2.2).bind fun y3=>(g_customer_world_customers y3.1 y3.2.1 y3.2.2.1 y3.2.2.2.1 y3.2.2.2.2.1 y3.2.2.2.2.2.1 y3.2.2.2.2.2.2).bind fun y4=>some y4
def g_numbering_owners_l2 (y1:Customers) (v16l1:Int) (v23l2:Int) (o0c0l2:List ((List UInt8)×Int)):Option ((Int×(List ((List UInt8)×Int))) ⊕ ((Int×(List ((List UInt8)×Int))) ⊕ (List ((List UInt8)×Int)))) :=
 if (decide (v23l2 < (((nth y1.subs v16l1.toNat).numbers).length:Int)))=true then (ck ((0:Int)≤v23l2∧v23l2 < (((nth y1.subs v16l1.toNat).numbers).length:Int)) (ck (R64 (v23l2+1)) (some (.inl (v23l2+1,aset o0c0l2 (nth ((nth y1.subs v16l1.toNat).numbers) v23l2.toNat) ((nth y1.subs v16l1.toNat).id)))))) else ck (R64 (v16l1+1)) (some (.inr (.inl (v16l1+1,o0c0l2))))
def g_numbering_owners_l1 (y1:Customers) (v16l1:Int) (o0c0l1:List ((List UInt8)×Int)):Option ((Int×(List ((List UInt8)×Int))) ⊕ (List ((List UInt8)×Int))) :=
 if (decide (v16l1 < (y1.subs.length:Int)))=true then (ck ((0:Int)≤v16l1∧v16l1 < (y1.subs.length:Int)) (loop (fun s=>g_numbering_owners_l2 y1 v16l1 s.1 s.2) (0,o0c0l1))) else some (.inr o0c0l1)
def g_numbering_owners (v0events:List Event) (v1t:Int):Option (List ((List UInt8)×Int)) :=
 (f_customer_State v0events v1t).bind fun y1=>loop (fun s=>g_numbering_owners_l1 y1 s.1 s.2) (0,([]:List ((List UInt8)×Int)))
def f_numbering_Owner (v0events:List Event) (v1number:List UInt8) (v2t:Int):Option (Int×Bool) :=
 (g_numbering_owners v0events v2t).bind fun y1=>some ((alook y1 v1number).getD 0,(alook y1 v1number).isSome)
def f_customer_Sub_l1 (v1id:Int) (y1:Customers) (v15l1:Int):Option ((Int) ⊕ (Sub×Bool)) :=
 if (decide (v15l1 < (y1.subs.length:Int)))=true then (ck ((0:Int)≤v15l1∧v15l1 < (y1.subs.length:Int)) (if (((nth y1.subs v15l1.toNat).id)==v1id)=true then some (.inr (nth y1.subs v15l1.toNat,true)) else ck (R64 (v15l1+1)) (some (.inl (v15l1+1))))) else some (.inr ((⟨0,0,0,([]:List UInt8),([]:List (List UInt8)),([]:List (List UInt8)),false,false⟩:Sub),false))
def f_customer_Sub (v0events:List Event) (v1id:Int) (v2t:Int):Option (Sub×Bool) :=
 (f_customer_State v0events v2t).bind fun y1=>loop (fun s=>f_customer_Sub_l1 v1id y1 s) 0
def f_enrich_work_owner (v0w:EnrichWork):Option (Sub×Bool) :=
 (f_enrich_source_number v0w.source).bind fun y1=>(f_numbering_Owner v0w.events y1 v0w.source.record.start).bind fun y2=>if (!y2.2)=true then some ((⟨0,0,0,([]:List UInt8),([]:List (List UInt8)),([]:List (List UInt8)),false,false⟩:Sub),false) else (f_customer_Sub v0w.events y2.1 v0w.source.record.start).bind fun y3=>some (y3.1,y3.2)
def f_enrich_source_usage (v0s:EnrichSource) (v1id:Int) (v2sub:Sub):Option Usage :=
 some (⟨v1id,v0s.record.kind,v2sub.account,v2sub.id,v0s.record.a,v0s.record.b,v0s.record.start,v0s.record.units,v0s.record.trunk,v0s.record.inbound,v0s.record.source,v0s.record.serial⟩:Usage)
def f_enrich_Usage (v0events:List Event) (v1r:Record) (v2id:Int):Option (Usage×Int) :=
 (f_validate_Check v1r).bind fun y1=>if (y1 != 0)=true then some ((⟨0,0,0,0,([]:List UInt8),([]:List UInt8),0,0,0,false,0,0⟩:Usage),y1) else if (v1r.part != 0)=true then some ((⟨0,0,0,0,([]:List UInt8),([]:List UInt8),0,0,0,false,0,0⟩:Usage),8) else (f_enrich_work_owner (⟨(⟨v1r⟩:EnrichSource),v0events⟩:EnrichWork)).bind fun y2=>if (!y2.2)=true then some ((⟨0,0,0,0,([]:List UInt8),([]:List UInt8),0,0,0,false,0,0⟩:Usage),11) else if (y2.1.suspended && (!v1r.inbound))=true then some ((⟨0,0,0,0,([]:List UInt8),([]:List UInt8),0,0,0,false,0,0⟩:Usage),16) else (f_enrich_source_usage (⟨v1r⟩:EnrichSource) v2id y2.1).bind fun y3=>some (y3,0)
def f_enrich_Retail (v0u:Usage):Option Bool :=
 some (!v0u.inbound)
def f_w21_awake:Option Bool :=
 (f_w21_opened).bind fun y1=>(f_enrich_Usage y1 (⟨1,1,1,([52,57,49,53]:List UInt8),([51,51]:List UInt8),100,5,0,0,false,0,false⟩:Record) 9).bind fun y2=>(f_w21_opened).bind fun y3=>(f_enrich_Usage y3 (⟨1,1,1,([52,57,49,53]:List UInt8),([51,51]:List UInt8),99,5,0,0,false,0,false⟩:Record) 9).bind fun y4=>(f_w21_opened).bind fun y5=>(f_enrich_Usage y5 (⟨1,1,1,([52,57,49,53]:List UInt8),([51,51]:List UInt8),200,5,0,0,false,0,false⟩:Record) 9).bind fun y6=>(f_w21_opened).bind fun y7=>(f_enrich_Usage y7 (⟨1,2,1,([51,51]:List UInt8),([52,57,49,53]:List UInt8),200,5,0,0,false,5,true⟩:Record) 9).bind fun y8=>(gcall (((((((y2.2==0) && (y4.2==11)) && (y6.2==16)) && (y8.2==0)) && (y2.1.id==9)) && (y2.1.account==1)) && (y2.1.sub==2)) (f_enrich_Retail y2.1)).bind fun y9=>(gcall (((((((((y2.2==0) && (y4.2==11)) && (y6.2==16)) && (y8.2==0)) && (y2.1.id==9)) && (y2.1.account==1)) && (y2.1.sub==2)) && y9) && (y8.1.sub==2)) (f_enrich_Retail y8.1)).bind fun y10=>some ((((((((((y2.2==0) && (y4.2==11)) && (y6.2==16)) && (y8.2==0)) && (y2.1.id==9)) && (y2.1.account==1)) && (y2.1.sub==2)) && y9) && (y8.1.sub==2)) && (!y10))
def f_enrich_Key (v0u:Usage):Option (Int×Int) :=
 some (v0u.source,v0u.serial)
def f_w21_EnrichKeys (v0u:Usage):Option Bool :=
 (f_enrich_Key v0u).bind fun y1=>(f_enrich_Retail v0u).bind fun y2=>(gcall (((y2==(!v0u.inbound)) && (y1.1==v0u.source)) && (y1.2==v0u.serial)) (f_w21_awake)).bind fun y3=>some ((((y2==(!v0u.inbound)) && (y1.1==v0u.source)) && (y1.2==v0u.serial)) && y3)
end Go.Proofs.YtnjdcednocmcnaaDoor
namespace Go.Abs
open Go.RowKit
theorem DArgs.one {lim:Nat→Nat} {w:World} {d:D} {vs:Array Value} (h:DArgs lim w [d] vs):∃ v,vs=#[v]∧DRep lim w d v:=by
 obtain ⟨h1,h2⟩:=h
 match vs,h1 with
 | ⟨[v]⟩,_=>exact ⟨v,rfl,h2 0 d v rfl rfl⟩
theorem DArgs.two {lim:Nat→Nat} {w:World} {d e:D} {vs:Array Value} (h:DArgs lim w [d,e] vs):∃ v u,vs=#[v,u]∧DRep lim w d v∧DRep lim w e u:=by
 obtain ⟨h1,h2⟩:=h
 match vs,h1 with
 | ⟨[v,u]⟩,_=>exact ⟨v,u,rfl,h2 0 d v rfl rfl,h2 1 e u rfl rfl⟩
theorem below_grow (w:World) (k:Nat) (os:Array Obj):Below w.heap.size w (Go.Sort.grow (w.drewN k) os) :=
 ⟨rfl,rfl,rfl,by simp [Go.Sort.grow],fun b hb=>by
  show ((w.drewN k).heap++os)[b]?=_
  rw [Array.getElem?_append_left (show b < (w.drewN k).heap.size from hb)]
  rfl⟩
theorem ACall.lib {P:Program} {f:FuncId} {args:List D} {u:Value}
  (h:∀ lim w vs,Globs w.heap.size w→DArgs lim w args vs→Calls P f vs w fun e w'=>e=.returned u∧Below w.heap.size w w'):ACall P f args (·=.ex u):=by
 intro lim w vs hg ha
 refine (h lim w vs hg ha).mono ?_
 rintro e w' ⟨rfl,hb⟩
 exact ⟨u,.ex u,lim,rfl,rfl,.ex u,⟨hb.size,fun _ _=>Nat.le_refl _,fun b off hb' _=>hb.cell (p:=⟨b,off,none⟩) hb'⟩,hb,fun _ _=>rfl⟩
theorem strs_cells {lim:Nat→Nat} {w:World} {xs:List (List UInt8)} {v:Value} (h:DRep lim w (.sl 1 (xs.map rS)) v) :
  (∃ A c,v=.slice A 0 c∧xs=[])∨∃ b off c,v=.slice (some ⟨b,off,none⟩) xs.length c∧xs.length≤c∧b < w.heap.size∧∀ (j:Nat) x,xs[j]?=some x→w.cell? ⟨b,off+j,none⟩=some (.string ⟨x.toArray⟩):=by
 generalize hr:xs.map rS=rows at h
 cases h with
 | nil _ A =>
  have:xs=[]:=by simpa using hr
  exact .inl ⟨A,0,rfl,this⟩
 | sl _ _ b off c hc hrow hx hcell =>
  subst hr
  rw [List.length_map] at *
  by_cases h0:xs=[]
  ·subst h0; exact .inl ⟨_,c,rfl,rfl⟩
  ·refine .inr ⟨b,off,c,rfl,hc,?_,fun j x hj=>?_⟩
   ·have hl:0 < xs.length:=List.length_pos_iff.2 h0
    obtain ⟨_,u,hu,_⟩:=hx 0 (by omega)
    exact World.block_lt_of_cell? w _ hu
   ·have hjl:=(List.getElem?_eq_some_iff.1 hj).1
    obtain ⟨_,u,hu,_⟩:=hx j (by omega)
    have:=hcell j 0 (rS x) (.ex (.string ⟨x.toArray⟩)) u (by rw [List.getElem?_map,hj]; rfl) rfl (by rw [Nat.mul_one,Nat.add_zero]; exact hu)
    rw [hu,drep_ex this]
end Go.Abs
namespace Go.Proofs.YtnjdcednocmcnaaDoor
open Go.Shelf
def Tryd.lays156_ren:Go.Shelf.Ren:=⟨fun | 156=>44 | 165=>59 | 166=>60 | 169=>61 | 240=>68 | 241=>69 | 276=>77 | 277=>78 | n=>n,fun | 31=>36 | 9=>9 | 3=>3 | 4=>4 | 0=>0 | 20=>20 | 72=>96 | 76=>100 | 70=>93 | 37=>94 | 75=>99 | 127=>110 | 164=>126 | 5=>5 | 80=>75 | n=>n,fun | n=>n⟩
theorem Tryd.lays156:Go.Proofs.Lays.n156 Tryd.prog Tryd.lays156_ren:={
 mixed:=by kernel_rfl
 f156:=Tryd.func44.trans (congrArg some (by kernel_rfl))
 f165:=Tryd.func59.trans (congrArg some (by kernel_rfl))
 f166:=Tryd.func60.trans (congrArg some (by kernel_rfl))
 f169:=Tryd.func61.trans (congrArg some (by kernel_rfl))
 f240:=Tryd.func68.trans (congrArg some (by kernel_rfl))
 f241:=Tryd.func69.trans (congrArg some (by kernel_rfl))
 f276:=Tryd.func77.trans (congrArg some (by kernel_rfl))
 f277:=Tryd.func78.trans (congrArg some (by kernel_rfl))
 t0:=Tryd.underlying0
 a0:=Tryd.isAgg0
 z0:=Tryd.sizeOf0
 v0:=Tryd.zeroValue0
 t3:=Tryd.underlying3
 a3:=Tryd.isAgg3
 z3:=Tryd.sizeOf3
 v3:=Tryd.zeroValue3
 t4:=Tryd.underlying4
 a4:=Tryd.isAgg4
 z4:=Tryd.sizeOf4
 v4:=Tryd.zeroValue4
 t9:=Tryd.underlying9
 a9:=Tryd.isAgg9
 z9:=Tryd.sizeOf9
 v9:=Tryd.zeroValue9
 t20:=Tryd.underlying20
 a20:=Tryd.isAgg20
 z20:=Tryd.sizeOf20
 v20:=Tryd.zeroValue20
 t31:=Tryd.underlying36
 a31:=Tryd.isAgg36
 z31:=Tryd.sizeOf36
 v31:=Tryd.zeroValue36
 t37:=Tryd.underlying94
 a37:=Tryd.isAgg94
 z37:=Tryd.sizeOf94
 v37:=Tryd.zeroValue94
 t70:=Tryd.underlying93
 a70:=Tryd.isAgg93
 z70:=Tryd.sizeOf93
 v70:=Tryd.zeroValue93
 t72:=Tryd.underlying96
 a72:=Tryd.isAgg96
 z72:=Tryd.sizeOf96
 v72:=Tryd.zeroValue96
 t75:=Tryd.underlying99
 a75:=Tryd.isAgg99
 z75:=Tryd.sizeOf99
 v75:=Tryd.zeroValue99
 t76:=Tryd.underlying100
 a76:=Tryd.isAgg100
 z76:=Tryd.sizeOf100
 v76:=Tryd.zeroValue100
 t127:=Tryd.underlying110
 a127:=Tryd.isAgg110
 z127:=Tryd.sizeOf110
 v127:=Tryd.zeroValue110
 t164:=Tryd.underlying126
 a164:=Tryd.isAgg126
 z164:=Tryd.sizeOf126
 v164:=Tryd.zeroValue126 }
theorem Tryd.Builder_Extra_156:Builder.Extra Tryd.prog Tryd.lays156_ren:={
 sizeBuilder:=by kernel_rfl
 liesBuilder:=by kernel_rfl
 t5:=Tryd.underlying5
 a5:=Tryd.isAgg5
 z5:=Tryd.sizeOf5
 v5:=Tryd.zeroValue5
 infoByte:=by kernel_rfl
 cellsByte:=by kernel_rfl
 sizeByte:=by kernel_rfl
 neB5:=by decide }
open Go.RowKit in
theorem Tryd.strings_Join_none (a:Option Addr) (c:Nat) (sep:ByteArray) (w:World) :
  Calls Tryd.prog 44 #[.slice a 0 c,.string sep] w fun e w'=>e=.returned (.string ⟨#[]⟩)∧w'=w:=Any.strings_Join_none Tryd.lays156 Tryd.Builder_Extra_156 a c sep w
open Go.RowKit in
theorem Tryd.strings_Join (bk o c:Nat) (xs:List ByteArray) (sep:ByteArray) (w:World) (hcells:∀ (j:Nat) x,xs[j]?=some x→w.cell? ⟨bk,o+j,none⟩=some (.string x)) (hbk:bk < w.heap.size) (hN:xs.length≤140737488355328) (hcap:xs.length≤c) (hlen:(Lib.join (xs.map (·.data.toList)) sep.data.toList).length≤140737488355328) :
  Calls Tryd.prog 44 #[.slice (some ⟨bk,o,none⟩) xs.length c,.string sep] w fun e w'=>e=.returned (.string ⟨(Lib.join (xs.map (·.data.toList)) sep.data.toList).toArray⟩)∧Below w.heap.size w w':=Any.strings_Join Tryd.lays156 Tryd.Builder_Extra_156 bk o c xs sep w hcells hbk hN hcap hlen
def Tryd.laysM171_ren:Go.Shelf.Ren:=⟨fun | 171=>43 | 243=>58 | 246=>67 | 283=>73 | 284=>74 | 285=>75 | 286=>76 | 129=>82 | 317=>81 | 318=>83 | 319=>84 | 320=>85 | 337=>86 | 338=>87 | n=>n,fun | 3=>3 | 9=>9 | 2=>2 | 4=>4 | 171=>120 | 0=>0 | 53=>121 | 37=>94 | 5=>5 | 173=>124 | 212=>131 | 51=>132 | 20=>20 | 213=>133 | 46=>134 | 232=>137 | 233=>138 | n=>n,fun | 17=>0 | 18=>2 | 19=>3 | n=>n⟩
theorem Tryd.laysM171:Go.Proofs.LaysM.n171 Tryd.prog Tryd.laysM171_ren:={
 mixed:=by kernel_rfl
 f129:=Tryd.func82.trans (congrArg some (by kernel_rfl))
 f171:=Tryd.func43.trans (congrArg some (by kernel_rfl))
 f243:=Tryd.func58.trans (congrArg some (by kernel_rfl))
 f246:=Tryd.func67.trans (congrArg some (by kernel_rfl))
 f283:=Tryd.func73.trans (congrArg some (by kernel_rfl))
 f284:=Tryd.func74.trans (congrArg some (by kernel_rfl))
 f285:=Tryd.func75.trans (congrArg some (by kernel_rfl))
 f286:=Tryd.func76.trans (congrArg some (by kernel_rfl))
 f317:=Tryd.func81.trans (congrArg some (by kernel_rfl))
 f318:=Tryd.func83.trans (congrArg some (by kernel_rfl))
 f319:=Tryd.func84.trans (congrArg some (by kernel_rfl))
 f320:=Tryd.func85.trans (congrArg some (by kernel_rfl))
 f337:=Tryd.func86.trans (congrArg some (by kernel_rfl))
 f338:=Tryd.func87.trans (congrArg some (by kernel_rfl))
 t0:=Tryd.underlying0
 a0:=Tryd.isAgg0
 z0:=Tryd.sizeOf0
 v0:=Tryd.zeroValue0
 t2:=Tryd.underlying2
 a2:=Tryd.isAgg2
 z2:=Tryd.sizeOf2
 v2:=Tryd.zeroValue2
 t3:=Tryd.underlying3
 a3:=Tryd.isAgg3
 z3:=Tryd.sizeOf3
 v3:=Tryd.zeroValue3
 t4:=Tryd.underlying4
 a4:=Tryd.isAgg4
 z4:=Tryd.sizeOf4
 v4:=Tryd.zeroValue4
 t5:=Tryd.underlying5
 a5:=Tryd.isAgg5
 z5:=Tryd.sizeOf5
 v5:=Tryd.zeroValue5
 t9:=Tryd.underlying9
 a9:=Tryd.isAgg9
 z9:=Tryd.sizeOf9
 v9:=Tryd.zeroValue9
 t20:=Tryd.underlying20
 a20:=Tryd.isAgg20
 z20:=Tryd.sizeOf20
 v20:=Tryd.zeroValue20
 t37:=Tryd.underlying94
 a37:=Tryd.isAgg94
 z37:=Tryd.sizeOf94
 v37:=Tryd.zeroValue94
 t46:=Tryd.underlying134
 a46:=Tryd.isAgg134
 z46:=Tryd.sizeOf134
 v46:=Tryd.zeroValue134
 t51:=Tryd.underlying132
 a51:=Tryd.isAgg132
 z51:=Tryd.sizeOf132
 v51:=Tryd.zeroValue132
 t53:=Tryd.underlying121
 a53:=Tryd.isAgg121
 z53:=Tryd.sizeOf121
 v53:=Tryd.zeroValue121
 t171:=Tryd.underlying120
 a171:=Tryd.isAgg120
 z171:=Tryd.sizeOf120
 v171:=Tryd.zeroValue120
 t173:=Tryd.underlying124
 a173:=Tryd.isAgg124
 z173:=Tryd.sizeOf124
 v173:=Tryd.zeroValue124
 t212:=Tryd.underlying131
 a212:=Tryd.isAgg131
 z212:=Tryd.sizeOf131
 v212:=Tryd.zeroValue131
 t213:=Tryd.underlying133
 a213:=Tryd.isAgg133
 z213:=Tryd.sizeOf133
 t232:=Tryd.underlying137
 a232:=Tryd.isAgg137
 z232:=Tryd.sizeOf137
 v232:=Tryd.zeroValue137
 t233:=Tryd.underlying138
 a233:=Tryd.isAgg138
 z233:=Tryd.sizeOf138
 v233:=Tryd.zeroValue138
 g17:=by kernel_rfl
 g18:=by kernel_rfl
 g19:=by kernel_rfl
 i0:=by kernel_rfl
 i2:=by kernel_rfl
 i3:=by kernel_rfl
 i4:=by kernel_rfl
 i5:=by kernel_rfl
 i9:=by kernel_rfl
 i20:=by kernel_rfl
 i37:=by kernel_rfl
 i46:=by kernel_rfl
 i51:=by kernel_rfl
 i53:=by kernel_rfl
 i171:=by kernel_rfl
 i173:=by kernel_rfl
 i212:=by kernel_rfl
 i232:=by kernel_rfl
 i233:=by kernel_rfl
 m17:=by kernel_rfl
 m18:=by kernel_rfl
 m19:=by kernel_rfl }
open Go.RowKit Go.Sort Go.Lib in
theorem Tryd.strconv_Itoa (n:Int) (h0:-9223372036854775808≤n) (h1:n≤9223372036854775807) (w:World) (htab:Lib.TabIs Tryd.prog w "internal/strconv.uint64pow10" .u64 Lib.pow10Tab) :
  Calls Tryd.prog 43 #[.int .i64 n] w fun e w'=>e=.returned (.string ⟨(Lib.itoa n).toArray⟩)∧∃ k os,w'=grow (w.drewN k) os:=Any.strconv_Itoa Tryd.laysM171 n h0 h1 w htab
end Go.Proofs.YtnjdcednocmcnaaDoor
namespace Go.Proofs.YtnjdcednocmcnaaDoor
open Go.RowKit Go.Abs
theorem tab_is {w:World} (h:Globs w.heap.size w):Go.Lib.TabIs Tryd.prog w "internal/strconv.uint64pow10" .u64 Go.Lib.pow10Tab:=by
 obtain ⟨_,ty,fr,h2⟩:=h.1 (0,(Go.Lib.pow10Tab.map fun z=>Value.int .u64 z).toArray) (by simp [GL])
 have hn:Tryd.prog.globalNamed "internal/strconv.uint64pow10" = some 0:=by kernel_rfl
 unfold Go.Lib.TabIs World.var?
 rw [hn]
 simp only [Option.bind_some]
 simp only at h2
 rw [h2]
theorem c_x_Itoa {n:Int} {r:List UInt8} (H:x_Itoa n=some r):ACall Tryd.prog 43 [cI n] (·=cS r):=by
 obtain ⟨h,H⟩:=ck_some H; cases H
 refine ACall.lib fun lim w vs hg ha=>?_
 obtain ⟨v,rfl,hv⟩:=ha.one
 rw [drep_ex hv]
 refine (Tryd.strconv_Itoa n h.1 h.2 w (tab_is hg)).mono ?_
 rintro e w' ⟨rfl,k,os,rfl⟩
 exact ⟨rfl,below_grow w k os⟩
theorem c_x_Join {xs:List (List UInt8)} {sep r:List UInt8} (H:x_Join xs sep=some r):ACall Tryd.prog 44 [slOf 1 rS xs,cS sep] (·=cS r):=by
 obtain ⟨h,H⟩:=ck_some H; cases H
 refine ACall.lib fun lim w vs hg ha=>?_
 obtain ⟨v,u,rfl,hv,hu⟩:=ha.two
 rw [drep_ex hu]
 rcases strs_cells hv with ⟨A,c,rfl,rfl⟩ | ⟨b,off,c,rfl,hc,hb,hcell⟩
 ·exact (Tryd.strings_Join_none A c ⟨sep.toArray⟩ w).mono fun e w' ⟨he,hw⟩=>⟨he,hw▸Below.refl _ _⟩
 ·have hm:(xs.map fun x=>(⟨x.toArray⟩:ByteArray)).map (·.data.toList)=xs:=by simp [Function.comp_def]
  have:=Tryd.strings_Join b off c (xs.map fun x=>(⟨x.toArray⟩:ByteArray)) ⟨sep.toArray⟩ w (fun j x hj=>by
   rw [List.getElem?_map] at hj
   obtain ⟨y,hy,rfl⟩:=Option.map_eq_some_iff.1 hj
   exact hcell j y hy) hb (by simp; omega) (by simpa using hc) (by rw [hm]; simp; omega)
  rw [hm,List.length_map] at this
  exact this
end Go.Proofs.YtnjdcednocmcnaaDoor
set_option maxRecDepth 100000
set_option maxHeartbeats 1000000
namespace Go.Proofs.YtnjdcednocmcnaaDoor
open Go.RowKit Go.Abs Go.Proofs.Tryd
set_option maxRecDepth 100000
set_option maxHeartbeats 1000000
theorem c_f_w21_opened {r:(List Event)} (H:f_w21_opened=some r):ACall prog 19 [] (·=slOf 7 Event.row r):=by
 obtain ⟨i43,hi43,hz43,hs43,hb43⟩:=in_43
 refine ACall.enter' func19 rfl ntmps19 rfl fun S hS=>?_
 unfold f_w21_opened at H
 refine .A 13 [.d (.agg (Event.row (⟨0,1,1,0,([]:List UInt8),([112,111,115,116,112,97,105,100]:List UInt8),1⟩:Event))),.d (.agg (Event.row (⟨0,3,1,2,([]:List UInt8),([98,97,115,105,99]:List UInt8),0⟩:Event))),.d (.agg (Event.row (⟨100,5,0,2,([52,57,49,53]:List UInt8),([]:List UInt8),0⟩:Event))),.d (.agg (Event.row (⟨200,10,0,2,([]:List UInt8),([]:List UInt8),0⟩:Event))),.d (slOf 7 Event.row ([(⟨0,1,1,0,([]:List UInt8),([112,111,115,116,112,97,105,100]:List UInt8),1⟩:Event),(⟨0,3,1,2,([]:List UInt8),([98,97,115,105,99]:List UInt8),0⟩:Event),(⟨100,5,0,2,([52,57,49,53]:List UInt8),([]:List UInt8),0⟩:Event),(⟨200,10,0,2,([]:List UInt8),([]:List UInt8),0⟩:Event)]:List Event))] rfl ⟨g_buildSliceN (n:=4) (rows:=([(⟨0,1,1,0,([]:List UInt8),([112,111,115,116,112,97,105,100]:List UInt8),1⟩:Event),(⟨0,3,1,2,([]:List UInt8),([98,97,115,105,99]:List UInt8),0⟩:Event),(⟨100,5,0,2,([52,57,49,53]:List UInt8),([]:List UInt8),0⟩:Event),(⟨200,10,0,2,([]:List UInt8),([]:List UInt8),0⟩:Event)]:List Event).map Event.row) underlying22 hi43 hs43 hz43 rfl rfl rfl rfl rfl,OpQ.g (q_buildP pl_43 hi43 hz43 rfl rfl),OpQ.g (q_buildP pl_43 hi43 hz43 rfl rfl),OpQ.g (q_buildP pl_43 hi43 hz43 rfl rfl),OpQ.g (q_buildP pl_43 hi43 hz43 rfl rfl)⟩ ?_
 refine .R func19 results19 rfl ?_
 cases H
 exact .m rfl (.rfl' _)
set_option maxRecDepth 100000
set_option maxHeartbeats 1000000
theorem c_f_textual_within {v0n:Int} {v1lo:Int} {v2hi:Int} {r:Bool} (H:f_textual_within v0n v1lo v2hi=some r):ACall prog 56 [cI v0n,cI v1lo,cI v2hi] (·=cB r):=by
 refine ACall.enter' func56 rfl ntmps56 rfl fun S hS=>?_
 unfold f_textual_within at H
 refine .A 16 [] rfl ⟨rfl,rfl,rfl⟩ ?_
 refine .R func56 results56 rfl ?_
 cases H
 exact .m rfl (.rfl' _)
theorem c_f_digits_digit {v0c:UInt8} {r:Bool} (H:f_digits_digit v0c=some r):ACall prog 66 [cU8 v0c] (·=cB r):=by
 refine ACall.enter' func66 rfl ntmps66 rfl fun S hS=>?_
 unfold f_digits_digit at H
 refine .A 14 [.b (decide (v0c≥48)),.b (decide (v0c≤57))] rfl ⟨rfl,fun hg=>OpQ.g (q8_leq (a:=v0c) (b:=57) rfl rfl),rfl,OpQ.g (q8_geq (a:=v0c) (b:=48) rfl rfl)⟩ ?_
 refine .R func66 results66 rfl ?_
 cases H
 exact .m rfl (.rfl' _)
theorem c_f_digits_Valid {v0s:List UInt8} {r:Bool} (H:f_digits_Valid v0s=some r):ACall prog 57 [cS v0s] (·=cB r):=by
 refine ACall.enter' func57 rfl ntmps57 rfl fun S hS=>?_
 unfold f_digits_Valid at H
 refine .A 11 [.i (v0s.length:Int)] rfl (OpQ.g (q_lenS underlying9 rfl)) ?_
 refine .blockJoin2 (ι:=Unit) (fun _=>[(0,.d (cS v0s))]) (fun _=>⟨[],[]⟩) (fun s=>f_digits_Valid_j1 v0s=some r) ?_ ?_
 ·rintro _ H
  replace H:f_digits_Valid_j1 v0s=some r:=H
  unfold f_digits_Valid_j1 at H
  refine .A 12 [.i (v0s.length:Int),.i (v0s.length:Int)] rfl ⟨rfl,rfl,fun hg=>OpQ.g (q_lenS underlying9 rfl),rfl,OpQ.g (q_lenS underlying9 rfl)⟩ ?_
  refine .R func57 results57 rfl ?_
  cases H
  exact .m rfl (.rfl' _)
 ·intro hj1 hj1x
  obtain ⟨n1,H⟩:=loop_some H
  refine .loop (ι:=Nat×(Int)) (fun ⟨_,v6l1⟩=>[(0,.d (cS v0s)),(5,.d (cI (v0s.length:Int))),(6,.d (cI v6l1))]) (fun ⟨_,v6l1⟩=>⟨[],[]⟩) (fun p=>iter (fun s=>f_digits_Valid_l1 v0s s) p.1 p.2=some r) (·.1) (n1,0) H (.cons rfl (.rfl' _) (.cons rfl (.rfl' _) (.cons rfl (.rfl' _) (.nil)))) rfl ?_
  rintro ⟨m1,v6l1⟩ HI ih1
  obtain ⟨n1,q1,hm1,H,HK1⟩:=iter_succ HI
  clear HI
  replace H:f_digits_Valid_l1 v0s v6l1=some q1:=H
  unfold f_digits_Valid_l1 at H
  refine .A 5 [] rfl trivial ?_
  refine .ite H rfl (fun H=>?_) (fun H=>?_)
  ·obtain ⟨hk1,H⟩:=ck_some H
   obtain ⟨y1,hy1,H⟩:=bind_some' H
   refine .A 16 [.c (nth v0s v6l1.toNat),.b y1] rfl ⟨g_call (en 16 rfl) rfl rfl (c_f_digits_digit (hy1)),OpQ.g (q_indexL (i:=v6l1) underlying9 rfl rfl hk1)⟩ ?_
   refine .ite H rfl (fun H=>?_) (fun H=>?_)
   ·refine .A 4 [] rfl trivial ?_
    refine .R func57 results57 rfl ?_
    cases H
    cases HK1
    exact .m rfl (.rfl' _)
   ·obtain ⟨hk2,H⟩:=ck_some H
    refine .A 6 [.i (v6l1+1)] rfl (g_addI rfl rfl hk2) ?_
    cases H
    exact .z (ih1 (n1,(v6l1+1)) HK1 hm1) rfl rfl
  ·refine .A 1 [] rfl trivial ?_
   obtain ⟨q0,H9,hq0⟩:=map_some' H; clear H; cases hq0
   cases HK1
   have H:=H9
   exact .z (hj1x () H) rfl rfl
theorem c_f_textual_check {v0:Record} {r:Int} (H:f_textual_check v0=some r):ACall prog 42 [.agg (Record.row v0)] (·=cI r):=by
 refine ACall.enter' func42 rfl ntmps42 rfl fun S hS=>?_
 unfold f_textual_check at H
 refine .A 21 [.r 0] rfl ⟨rfl,rfl,rfl⟩ ?_
 refine .seqJoin (ι:=Int) (fun v4j1=>[(1,.ref 0 0),(3,.d (cB ((v0.kind==3) || (v0.kind==4)))),(4,.d (cI v4j1))]) (fun v4j1=>⟨[.row 24 [.d (cI v0.source),.d (cI v0.serial),.d (cI v0.kind),.d (cS v0.a),.d (cS v0.b),.d (cI v0.start),.d (cI v0.units),.d (cI v0.call),.d (cI v0.part),.d (cB v0.last),.d (cI v0.trunk),.d (cB v0.inbound)]],[]⟩) (fun s=>f_textual_check_j1 v0 s=some r) ?_ ?_
 ·rintro v4j1 H
  replace H:f_textual_check_j1 v0 v4j1=some r:=H
  unfold f_textual_check_j1 at H
  obtain ⟨y1,hy1,H⟩:=bind_some' H
  obtain ⟨y2,hy2,H⟩:=bind_some' H
  refine .A 16 [.b y1,.b y2] rfl ⟨rfl,rfl,fun hg=>g_call (en 17 rfl) rfl rfl (c_f_textual_within (gcall_some hy2 hg)),rfl,rfl,g_call (en 17 rfl) rfl rfl (c_f_textual_within (hy1))⟩ ?_
  refine .ite H rfl (fun H=>?_) (fun H=>?_)
  ·refine .A 4 [] rfl trivial ?_
   refine .R func42 results42 rfl ?_
   cases H
   exact .m rfl (.rfl' _)
  ·obtain ⟨y3,hy3,H⟩:=bind_some' H
   refine .A 8 [.b y3] rfl (g_call (en 17 rfl) rfl rfl (c_f_textual_within (hy3))) ?_
   refine .ite H rfl (fun H=>?_) (fun H=>?_)
   ·refine .A 4 [] rfl trivial ?_
    refine .R func42 results42 rfl ?_
    cases H
    exact .m rfl (.rfl' _)
   ·obtain ⟨y4,hy4,H⟩:=bind_some' H
    obtain ⟨y5,hy5,H⟩:=bind_some' H
    refine .B 17 [.b y4,.b y5] rfl ⟨rfl,rfl,rfl,rfl,rfl,fun hg=>g_call (en 18 rfl) rfl rfl (c_f_digits_Valid (gcall_some hy5 hg)),rfl,rfl,g_call (en 18 rfl) rfl rfl (c_f_digits_Valid (hy4))⟩ ?_
    refine .guardG (env':=[(44,_),(47,_)]) rfl rfl rfl ⟨.inr (.inl rfl),⟨.inr (.inr ⟨_,_,rfl,rfl⟩),trivial⟩⟩ rfl (fun hg=>OpQ.g (q_pickAndB rfl rfl rfl)) ?_
    refine .B 1 [] rfl rfl ?_
    refine .guardG (env':=[(42,_),(49,_)]) rfl rfl rfl ⟨.inr (.inl rfl),⟨.inr (.inr ⟨_,_,rfl,rfl⟩),trivial⟩⟩ rfl (fun hg=>OpQ.g (q_pickAndB rfl rfl rfl)) ?_
    refine .A 3 [] rfl rfl ?_
    refine .ite H rfl (fun H=>?_) (fun H=>?_)
    ·refine .A 4 [] rfl trivial ?_
     refine .R func42 results42 rfl ?_
     cases H
     exact .m rfl (.rfl' _)
    ·obtain ⟨y6,hy6,H⟩:=bind_some' H
     refine .A 8 [.b y6] rfl (g_call (en 17 rfl) rfl rfl (c_f_textual_within (hy6))) ?_
     refine .ite H rfl (fun H=>?_) (fun H=>?_)
     ·refine .A 4 [] rfl trivial ?_
      refine .R func42 results42 rfl ?_
      cases H
      exact .m rfl (.rfl' _)
     ·obtain ⟨y7,hy7,H⟩:=bind_some' H
      refine .A 9 [.b y7] rfl (g_call (en 17 rfl) rfl rfl (c_f_textual_within (hy7))) ?_
      refine .ite H rfl (fun H=>?_) (fun H=>?_)
      ·refine .A 4 [] rfl trivial ?_
       refine .R func42 results42 rfl ?_
       cases H
       exact .m rfl (.rfl' _)
      ·obtain ⟨hk1,H⟩:=ck_some H
       refine .A 15 [.i (v0.start+v0.units)] rfl ⟨rfl,rfl,fun hg=>g_addI rfl rfl (hk1 hg),rfl,rfl,rfl,rfl⟩ ?_
       refine .ite H rfl (fun H=>?_) (fun H=>?_)
       ·refine .A 4 [] rfl trivial ?_
        refine .R func42 results42 rfl ?_
        cases H
        exact .m rfl (.rfl' _)
       ·obtain ⟨y8,hy8,H⟩:=bind_some' H
        obtain ⟨y9,hy9,H⟩:=bind_some' H
        refine .A 14 [.b y8,.b y9] rfl ⟨rfl,rfl,fun hg=>g_call (en 17 rfl) rfl rfl (c_f_textual_within (gcall_some hy9 hg)),rfl,rfl,g_call (en 17 rfl) rfl rfl (c_f_textual_within (hy8))⟩ ?_
        refine .ite H rfl (fun H=>?_) (fun H=>?_)
        ·refine .A 4 [] rfl trivial ?_
         refine .R func42 results42 rfl ?_
         cases H
         exact .m rfl (.rfl' _)
        ·refine .B 16 [.b ((v0.part==0) != (v0.call==0))] rfl ⟨rfl,rfl,rfl,rfl,OpQ.g (q_bneq rfl underlying4 rfl)⟩ ?_
         refine .guardG (env':=[(97,_),(100,_)]) rfl rfl rfl ⟨.inr (.inl rfl),⟨.inr (.inr ⟨_,_,rfl,rfl⟩),trivial⟩⟩ rfl (fun hg=>OpQ.g (q_pickAndB rfl rfl rfl)) ?_
         refine .A 3 [] rfl rfl ?_
         refine .ite H rfl (fun H=>?_) (fun H=>?_)
         ·refine .A 4 [] rfl trivial ?_
          refine .R func42 results42 rfl ?_
          cases H
          exact .m rfl (.rfl' _)
         ·obtain ⟨y10,hy10,H⟩:=bind_some' H
          refine .A 8 [.b y10] rfl (g_call (en 17 rfl) rfl rfl (c_f_textual_within (hy10))) ?_
          refine .ite H rfl (fun H=>?_) (fun H=>?_)
          ·refine .A 4 [] rfl trivial ?_
           refine .R func42 results42 rfl ?_
           cases H
           exact .m rfl (.rfl' _)
          ·refine .A 11 [] rfl ⟨rfl,rfl,rfl⟩ ?_
           refine .ite H rfl (fun H=>?_) (fun H=>?_)
           ·refine .A 4 [] rfl trivial ?_
            refine .R func42 results42 rfl ?_
            cases H
            exact .m rfl (.rfl' _)
           ·refine .A 6 [] rfl trivial ?_
            refine .R func42 results42 rfl ?_
            cases H
            exact .m rfl (.rfl' _)
 ·intro hj1
  refine .A 6 [] rfl trivial ?_
  refine .ite H rfl (fun H=>?_) (fun H=>?_)
  ·refine .A 3 [] rfl trivial ?_
   exact .z (hj1 604800 H) rfl rfl
  ·refine .A 1 [] rfl trivial ?_
   exact .z (hj1 1099511627776 H) rfl rfl
theorem c_f_textual_Encode {v0:Record} {r:(List UInt8)×Int} (H:f_textual_Encode v0=some r):ACall prog 31 [.agg (Record.row v0)] (·=.tup [cS r.1,cI r.2]):=by
 obtain ⟨i9,hi9,hz9,hs9,hb9⟩:=in_9
 refine ACall.enter' func31 rfl ntmps31 rfl fun S hS=>?_
 unfold f_textual_Encode at H
 obtain ⟨y1,hy1,H⟩:=bind_some' H
 refine .A 18 [.r 0,.i y1] rfl (g_call (en 19 rfl) rfl rfl (c_f_textual_check (hy1))) ?_
 refine .ite H rfl (fun H=>?_) (fun H=>?_)
 ·refine .A 6 [] rfl trivial ?_
  refine .R func31 results31 rfl ?_
  cases H
  exact .m rfl (.tupD rfl)
 ·refine .A 11 [] rfl trivial ?_
  refine .seqJoin (ι:=List UInt8) (fun v6j1=>[(1,.ref 0 0),(5,.d (.ex (.func (.func 43) #[] #[]))),(6,.d (cS v6j1))]) (fun v6j1=>⟨[.row 24 [.d (cI v0.source),.d (cI v0.serial),.d (cI v0.kind),.d (cS v0.a),.d (cS v0.b),.d (cI v0.start),.d (cI v0.units),.d (cI v0.call),.d (cI v0.part),.d (cB v0.last),.d (cI v0.trunk),.d (cB v0.inbound)]],[]⟩) (fun s=>f_textual_Encode_j1 v0 s=some r) ?_ ?_
  ·rintro v6j1 H
   replace H:f_textual_Encode_j1 v0 v6j1=some r:=H
   unfold f_textual_Encode_j1 at H
   obtain ⟨hk1,H⟩:=ck_some H
   obtain ⟨hk2,H⟩:=ck_some H
   obtain ⟨y2,hy2,H⟩:=bind_some' H
   obtain ⟨y3,hy3,H⟩:=bind_some' H
   obtain ⟨y4,hy4,H⟩:=bind_some' H
   obtain ⟨y5,hy5,H⟩:=bind_some' H
   refine .A 31 [.p 25,.i (v0.kind-1),.s ((([118,116,100,99]:List UInt8).take v0.kind.toNat).drop (v0.kind-1).toNat),.s y2,.s y3,.s y4,.s y5,.n (.tsl 1 (([(([118,116,100,99]:List UInt8).take v0.kind.toNat).drop (v0.kind-1).toNat,y2,y3,v0.a,v6j1,y4,y5]:List (List UInt8)).map rS) 0) ⟨9,1,([(([118,116,100,99]:List UInt8).take v0.kind.toNat).drop (v0.kind-1).toNat,y2,y3,v0.a,v6j1,y4,y5]:List (List UInt8)).length,none⟩] rfl ⟨.e (v_buildSliceT (n:=7) underlying36 hi9 hs9 hz9 rfl rfl rfl rfl rfl) rfl,g_callF (en 20 rfl) rfl rfl rfl (c_x_Itoa (hy5)),g_callF (en 20 rfl) rfl rfl rfl (c_x_Itoa (hy4)),g_callF (en 20 rfl) rfl rfl rfl (c_x_Itoa (hy3)),g_callF (en 20 rfl) rfl rfl rfl (c_x_Itoa (hy2)),OpQ.g (q_strLHL underlying9 rfl rfl rfl hk2),g_subI rfl rfl hk1,(show drawB _ _=true by kernel_rfl)⟩ ?_
   refine .seqJoin (ι:=List (List UInt8)) (fun v7j2=>[(1,.ref 0 0),(5,.d (.ex (.func (.func 43) #[] #[]))),(7,.tsl 1 (v7j2.map rS) 0)]) (fun v7j2=>⟨[.row 24 [.d (cI v0.source),.d (cI v0.serial),.d (cI v0.kind),.d (cS v0.a),.d (cS v0.b),.d (cI v0.start),.d (cI v0.units),.d (cI v0.call),.d (cI v0.part),.d (cB v0.last),.d (cI v0.trunk),.d (cB v0.inbound)]],[⟨9,1,v7j2.length,none⟩]⟩) (fun s=>f_textual_Encode_j2 v0 s=some r) ?_ ?_
   ·rintro v7j2 H
    replace H:f_textual_Encode_j2 v0 v7j2=some r:=H
    unfold f_textual_Encode_j2 at H
    refine .seqJoin (ι:=List (List UInt8)) (fun v7j3=>[(7,.tsl 1 (v7j3.map rS) 0)]) (fun v7j3=>⟨[.row 24 [.d (cI v0.source),.d (cI v0.serial),.d (cI v0.kind),.d (cS v0.a),.d (cS v0.b),.d (cI v0.start),.d (cI v0.units),.d (cI v0.call),.d (cI v0.part),.d (cB v0.last),.d (cI v0.trunk),.d (cB v0.inbound)]],[⟨9,1,v7j3.length,none⟩]⟩) (fun s=>f_textual_Encode_j3 s=some r) ?_ ?_
    ·rintro v7j3 H
     replace H:f_textual_Encode_j3 v7j3=some r:=H
     unfold f_textual_Encode_j3 at H
     obtain ⟨y6,hy6,H⟩:=bind_some' H
     refine .A 7 [.s y6] rfl (g_call (en 21 rfl) rfl rfl (c_x_Join (hy6))) ?_
     refine .R func31 results31 rfl ?_
     cases H
     exact .m rfl (.tupD rfl)
    ·intro hj3
     refine .A 6 [] rfl trivial ?_
     refine .ite H rfl (fun H=>?_) (fun H=>?_)
     ·refine .A 4 [] rfl trivial ?_
      refine .seqJoin (ι:=List UInt8) (fun v8j4=>[(1,.ref 0 0),(5,.d (.ex (.func (.func 43) #[] #[]))),(7,.tsl 1 (v7j2.map rS) 0),(8,.d (cS v8j4))]) (fun v8j4=>⟨[.row 24 [.d (cI v0.source),.d (cI v0.serial),.d (cI v0.kind),.d (cS v0.a),.d (cS v0.b),.d (cI v0.start),.d (cI v0.units),.d (cI v0.call),.d (cI v0.part),.d (cB v0.last),.d (cI v0.trunk),.d (cB v0.inbound)]],[⟨9,1,v7j2.length,none⟩]⟩) (fun s=>f_textual_Encode_j4 v0 v7j2 s=some r) ?_ ?_
      ·rintro v8j4 H
       replace H:f_textual_Encode_j4 v0 v7j2 v8j4=some r:=H
       unfold f_textual_Encode_j4 at H
       obtain ⟨y7,hy7,H⟩:=bind_some' H
       obtain ⟨hk3,H⟩:=ck_some H
       refine .A 11 [.s y7,.d (slOf 1 rS ([v8j4,y7]:List (List UInt8))),.a 0 9 1 rS (v7j2++([v8j4,y7]:List (List UInt8)))] rfl ⟨s36.a rfl rfl rfl rfl hk3,g_buildSliceN (n:=2) (rows:=([v8j4,y7]:List (List UInt8)).map rS) underlying36 hi9 hs9 hz9 rfl rfl rfl rfl rfl,g_callF (en 20 rfl) rfl rfl rfl (c_x_Itoa (hy7))⟩ ?_
       exact .z (hj3 (v7j2++([v8j4,y7]:List (List UInt8))) H) rfl rfl
      ·intro hj4
       refine .A 5 [] rfl trivial ?_
       refine .ite H rfl (fun H=>?_) (fun H=>?_)
       ·refine .A 3 [] rfl trivial ?_
        exact .z (hj4 ([105,110]:List UInt8) H) rfl rfl
       ·refine .A 1 [] rfl trivial ?_
        exact .z (hj4 ([111,117,116]:List UInt8) H) rfl rfl
     ·refine .A 1 [] rfl trivial ?_
      exact .z (hj3 v7j2 H) rfl rfl
   ·intro hj2
    refine .A 6 [] rfl trivial ?_
    refine .ite H rfl (fun H=>?_) (fun H=>?_)
    ·obtain ⟨y8,hy8,H⟩:=bind_some' H
     obtain ⟨y9,hy9,H⟩:=bind_some' H
     obtain ⟨hk4,H⟩:=ck_some H
     refine .A 21 [.p 10,.s y8,.s y9,.d (slOf 1 rS ([([112,97,114,116]:List UInt8),y8,y9]:List (List UInt8))),.a 0 9 1 rS (([(([118,116,100,99]:List UInt8).take v0.kind.toNat).drop (v0.kind-1).toNat,y2,y3,v0.a,v6j1,y4,y5]:List (List UInt8))++([([112,97,114,116]:List UInt8),y8,y9]:List (List UInt8)))] rfl ⟨s36.a rfl rfl rfl rfl hk4,g_buildSliceN (n:=3) (rows:=([([112,97,114,116]:List UInt8),y8,y9]:List (List UInt8)).map rS) underlying36 hi9 hs9 hz9 rfl rfl rfl rfl rfl,g_callF (en 20 rfl) rfl rfl rfl (c_x_Itoa (hy9)),g_callF (en 20 rfl) rfl rfl rfl (c_x_Itoa (hy8)),(show drawB _ _=true by kernel_rfl)⟩ ?_
     refine .ite H rfl (fun H=>?_) (fun H=>?_)
     ·obtain ⟨hk5,H⟩:=ck_some H
      refine .A 6 [.d (slOf 1 rS ([([108,97,115,116]:List UInt8)]:List (List UInt8))),.a 0 9 1 rS ((([(([118,116,100,99]:List UInt8).take v0.kind.toNat).drop (v0.kind-1).toNat,y2,y3,v0.a,v6j1,y4,y5]:List (List UInt8))++([([112,97,114,116]:List UInt8),y8,y9]:List (List UInt8)))++([([108,97,115,116]:List UInt8)]:List (List UInt8)))] rfl ⟨s36.a rfl rfl rfl rfl hk5,g_buildSlice1 underlying36 hi9 hs9 hz9 rfl rfl rfl rfl rfl⟩ ?_
      exact .z (hj2 ((([(([118,116,100,99]:List UInt8).take v0.kind.toNat).drop (v0.kind-1).toNat,y2,y3,v0.a,v6j1,y4,y5]:List (List UInt8))++([([112,97,114,116]:List UInt8),y8,y9]:List (List UInt8)))++([([108,97,115,116]:List UInt8)]:List (List UInt8))) H) rfl rfl
     ·refine .A 1 [] rfl trivial ?_
      exact .z (hj2 (([(([118,116,100,99]:List UInt8).take v0.kind.toNat).drop (v0.kind-1).toNat,y2,y3,v0.a,v6j1,y4,y5]:List (List UInt8))++([([112,97,114,116]:List UInt8),y8,y9]:List (List UInt8))) H) rfl rfl
    ·refine .A 1 [] rfl trivial ?_
     exact .z (hj2 ([(([118,116,100,99]:List UInt8).take v0.kind.toNat).drop (v0.kind-1).toNat,y2,y3,v0.a,v6j1,y4,y5]:List (List UInt8)) H) rfl rfl
  ·intro hj1
   refine .A 5 [] rfl trivial ?_
   refine .ite H rfl (fun H=>?_) (fun H=>?_)
   ·refine .A 3 [] rfl trivial ?_
    exact .z (hj1 ([45]:List UInt8) H) rfl rfl
   ·refine .A 1 [] rfl trivial ?_
    exact .z (hj1 v0.b H) rfl rfl
theorem c_f_validate_Check {v0r:Record} {r:Int} (H:f_validate_Check v0r=some r):ACall prog 20 [.agg (Record.row v0r)] (·=cI r):=by
 refine ACall.enter' func20 rfl ntmps20 rfl fun S hS=>?_
 unfold f_validate_Check at H
 obtain ⟨y1,hy1,H⟩:=bind_some' H
 refine .A 20 [.r 0,.d (.tup [cS y1.1,cI y1.2])] rfl (g_call (en 22 rfl) rfl rfl (c_f_textual_Encode (hy1))) ?_
 refine .R func20 results20 rfl ?_
 cases H
 exact .m rfl (.rfl' _)
theorem c_f_enrich_source_number {v0s:EnrichSource} {r:(List UInt8)} (H:f_enrich_source_number v0s=some r):ACall prog 33 [.agg (EnrichSource.row v0s)] (·=cS r):=by
 refine ACall.enter' func33 rfl ntmps33 rfl fun S hS=>?_
 unfold f_enrich_source_number at H
 refine .A 12 [.r 0] rfl trivial ?_
 refine .ite H rfl (fun H=>?_) (fun H=>?_)
 ·refine .A 7 [] rfl trivial ?_
  refine .R func33 results33 rfl ?_
  cases H
  exact .m rfl (.rfl' _)
 ·refine .A 8 [] rfl trivial ?_
  refine .R func33 results33 rfl ?_
  cases H
  exact .m rfl (.rfl' _)
theorem c_f_customer_place_int {v0list:List Int} {v1x:Int} {r:(List Int)} (H:f_customer_place_int v0list v1x=some r):ACall prog 71 [slOf 1 rI v0list,cI v1x] (·=slOf 1 rI r):=by
 obtain ⟨i3,hi3,hz3,hs3,hb3⟩:=in_3
 refine ACall.enter' func71 rfl ntmps71 rfl fun S hS=>?_
 unfold f_customer_place_int at H
 refine .A 9 [] rfl trivial ?_
 refine .blockJoin2 (ι:=Int) (fun v5atj1=>[(0,.d (slOf 1 rI v0list)),(1,.d (cI v1x)),(5,.d (cI v5atj1))]) (fun v5atj1=>⟨[],[]⟩) (fun s=>f_customer_place_int_j1 v0list v1x s=some r) ?_ ?_
 ·rintro v5atj1 H
  replace H:f_customer_place_int_j1 v0list v1x v5atj1=some r:=H
  unfold f_customer_place_int_j1 at H
  obtain ⟨hk1,H⟩:=ck_some H
  obtain ⟨hk2,H⟩:=ck_some H
  obtain ⟨hk3,H⟩:=ck_some H
  obtain ⟨hk4,H⟩:=ck_some H
  obtain ⟨hk5,H⟩:=ck_some H
  refine .A 25 [.d (slOf 1 rI (v0list.take v5atj1.toNat)),.n (.tsl 1 ((v0list.take v5atj1.toNat).map rI) 0) ⟨3,1,(v0list.take v5atj1.toNat).length,none⟩,.d (slOf 1 rI ([v1x]:List Int)),.a 0 3 1 rI ((v0list.take v5atj1.toNat)++([v1x]:List Int)),.d (slOf 1 rI (v0list.drop v5atj1.toNat)),.a 0 3 1 rI (((v0list.take v5atj1.toNat)++([v1x]:List Int))++(v0list.drop v5atj1.toNat))] rfl ⟨s65.a rfl rfl rfl rfl hk5,OpQ.g (q_slLL (l:=v0list) (row:=rI) underlying65 hi3 hs3 rfl rfl rfl hk4),s65.a rfl rfl rfl rfl hk3,g_buildSlice1 underlying65 hi3 hs3 hz3 rfl rfl rfl rfl rfl,.e (v_appendNilL (l':=v0list.take v5atj1.toNat) (row:=rI) underlying65 hi3 hz3 hs3 rfl (by rw [hb3]; decide) rfl rfl rfl hk2) rfl,OpQ.g (q_slHL (l:=v0list) (row:=rI) underlying65 hi3 hs3 rfl rfl rfl hk1)⟩ ?_
  refine .R func71 results71 rfl ?_
  cases H
  exact .m rfl (.tsl _ _ _)
 ·intro hj1 hj1x
  obtain ⟨n1,H⟩:=loop_some H
  refine .loop (ι:=Nat×(Int)) (fun ⟨_,v5atl1⟩=>[(0,.d (slOf 1 rI v0list)),(1,.d (cI v1x)),(5,.d (cI v5atl1))]) (fun ⟨_,v5atl1⟩=>⟨[],[]⟩) (fun p=>iter (fun s=>f_customer_place_int_l1 v0list v1x s) p.1 p.2=some r) (·.1) (n1,0) H (.cons rfl (.rfl' _) (.cons rfl (.rfl' _) (.cons rfl (.rfl' _) (.nil)))) rfl ?_
  rintro ⟨m1,v5atl1⟩ HI ih1
  obtain ⟨n1,q1,hm1,H,HK1⟩:=iter_succ HI
  clear HI
  replace H:f_customer_place_int_l1 v0list v1x v5atl1=some q1:=H
  unfold f_customer_place_int_l1 at H
  obtain ⟨hk6,H⟩:=ck_some H
  refine .A 16 [.i (v0list.length:Int),.d (.ro (rI (nth v0list v5atl1.toNat)))] rfl ⟨rfl,rfl,rfl,rfl,fun hg=>s65.ix rfl rfl rfl (hk6 hg),rfl,rfl,s65.n rfl rfl⟩ ?_
  refine .ite H rfl (fun H=>?_) (fun H=>?_)
  ·obtain ⟨hk7,H⟩:=ck_some H
   refine .A 8 [.i (v5atl1+1)] rfl (g_addI rfl rfl hk7) ?_
   cases H
   exact .z (ih1 (n1,(v5atl1+1)) HK1 hm1) rfl rfl
  ·refine .A 1 [] rfl trivial ?_
   obtain ⟨q0,H9,hq0⟩:=map_some' H; clear H; cases hq0
   cases HK1
   have H:=H9
   exact .z (hj1x v5atl1 H) rfl rfl
theorem c_f_customer_place_string {v0list:List (List UInt8)} {v1x:List UInt8} {r:(List (List UInt8))} (H:f_customer_place_string v0list v1x=some r):ACall prog 79 [slOf 1 rS v0list,cS v1x] (·=slOf 1 rS r):=by
 obtain ⟨i9,hi9,hz9,hs9,hb9⟩:=in_9
 refine ACall.enter' func79 rfl ntmps79 rfl fun S hS=>?_
 unfold f_customer_place_string at H
 refine .A 9 [] rfl trivial ?_
 refine .blockJoin2 (ι:=Int) (fun v5atj1=>[(0,.d (slOf 1 rS v0list)),(1,.d (cS v1x)),(5,.d (cI v5atj1))]) (fun v5atj1=>⟨[],[]⟩) (fun s=>f_customer_place_string_j1 v0list v1x s=some r) ?_ ?_
 ·rintro v5atj1 H
  replace H:f_customer_place_string_j1 v0list v1x v5atj1=some r:=H
  unfold f_customer_place_string_j1 at H
  obtain ⟨hk1,H⟩:=ck_some H
  obtain ⟨hk2,H⟩:=ck_some H
  obtain ⟨hk3,H⟩:=ck_some H
  obtain ⟨hk4,H⟩:=ck_some H
  obtain ⟨hk5,H⟩:=ck_some H
  refine .A 25 [.d (slOf 1 rS (v0list.take v5atj1.toNat)),.n (.tsl 1 ((v0list.take v5atj1.toNat).map rS) 0) ⟨9,1,(v0list.take v5atj1.toNat).length,none⟩,.d (slOf 1 rS ([v1x]:List (List UInt8))),.a 0 9 1 rS ((v0list.take v5atj1.toNat)++([v1x]:List (List UInt8))),.d (slOf 1 rS (v0list.drop v5atj1.toNat)),.a 0 9 1 rS (((v0list.take v5atj1.toNat)++([v1x]:List (List UInt8)))++(v0list.drop v5atj1.toNat))] rfl ⟨s36.a rfl rfl rfl rfl hk5,OpQ.g (q_slLL (l:=v0list) (row:=rS) underlying36 hi9 hs9 rfl rfl rfl hk4),s36.a rfl rfl rfl rfl hk3,g_buildSlice1 underlying36 hi9 hs9 hz9 rfl rfl rfl rfl rfl,.e (v_appendNilL (l':=v0list.take v5atj1.toNat) (row:=rS) underlying36 hi9 hz9 hs9 rfl (by rw [hb9]; decide) rfl rfl rfl hk2) rfl,OpQ.g (q_slHL (l:=v0list) (row:=rS) underlying36 hi9 hs9 rfl rfl rfl hk1)⟩ ?_
  refine .R func79 results79 rfl ?_
  cases H
  exact .m rfl (.tsl _ _ _)
 ·intro hj1 hj1x
  obtain ⟨n1,H⟩:=loop_some H
  refine .loop (ι:=Nat×(Int)) (fun ⟨_,v5atl1⟩=>[(0,.d (slOf 1 rS v0list)),(1,.d (cS v1x)),(5,.d (cI v5atl1))]) (fun ⟨_,v5atl1⟩=>⟨[],[]⟩) (fun p=>iter (fun s=>f_customer_place_string_l1 v0list v1x s) p.1 p.2=some r) (·.1) (n1,0) H (.cons rfl (.rfl' _) (.cons rfl (.rfl' _) (.cons rfl (.rfl' _) (.nil)))) rfl ?_
  rintro ⟨m1,v5atl1⟩ HI ih1
  obtain ⟨n1,q1,hm1,H,HK1⟩:=iter_succ HI
  clear HI
  replace H:f_customer_place_string_l1 v0list v1x v5atl1=some q1:=H
  unfold f_customer_place_string_l1 at H
  obtain ⟨hk6,H⟩:=ck_some H
  refine .A 16 [.i (v0list.length:Int),.d (.ro (rS (nth v0list v5atl1.toNat))),.b (strlss (nth v0list v5atl1.toNat) v1x)] rfl ⟨rfl,fun hg=>OpQ.g (q_slss rfl rfl),rfl,rfl,rfl,fun hg=>s36.ix rfl rfl rfl (hk6 hg),rfl,rfl,s36.n rfl rfl⟩ ?_
  refine .ite H rfl (fun H=>?_) (fun H=>?_)
  ·obtain ⟨hk7,H⟩:=ck_some H
   refine .A 8 [.i (v5atl1+1)] rfl (g_addI rfl rfl hk7) ?_
   cases H
   exact .z (ih1 (n1,(v5atl1+1)) HK1 hm1) rfl rfl
  ·refine .A 1 [] rfl trivial ?_
   obtain ⟨q0,H9,hq0⟩:=map_some' H; clear H; cases hq0
   cases HK1
   have H:=H9
   exact .z (hj1x v5atl1 H) rfl rfl
theorem c_f_customer_remove {v0list:List (List UInt8)} {v1x:List UInt8} {r:(List (List UInt8))} (H:f_customer_remove v0list v1x=some r):ACall prog 80 [slOf 1 rS v0list,cS v1x] (·=slOf 1 rS r):=by
 obtain ⟨i9,hi9,hz9,hs9,hb9⟩:=in_9
 refine ACall.enter' func80 rfl ntmps80 rfl fun S hS=>?_
 unfold f_customer_remove at H
 refine .A 16 [.i (v0list.length:Int)] rfl (s36.n rfl rfl) ?_
 refine .tok (i:=5) (e:=9) (sz:=1) rfl ?_
 obtain ⟨n1,H⟩:=loop_some H
 refine .loop (ι:=Nat×(List (List UInt8)×Int)) (fun ⟨_,v5outl1,v10l1⟩=>[(1,.d (cS v1x)),(5,.tsl 1 (v5outl1.map rS) 0),(8,.d (slOf 1 rS v0list)),(9,.d (cI (v0list.length:Int))),(10,.d (cI v10l1))]) (fun ⟨_,v5outl1,v10l1⟩=>⟨[],[⟨9,1,v5outl1.length,none⟩]⟩) (fun p=>iter (fun s=>f_customer_remove_l1 v0list v1x s.1 s.2) p.1 p.2=some r) (·.1) (n1,(([]:List (List UInt8)),0)) H (.cons rfl (.rfl' _) (.cons rfl (.rfl' _) (.cons rfl (.rfl' _) (.cons rfl (.rfl' _) (.cons rfl (.rfl' _) (.nil)))))) rfl ?_
 rintro ⟨m1,v5outl1,v10l1⟩ HI ih1
 obtain ⟨n1,q1,hm1,H,HK1⟩:=iter_succ HI
 clear HI
 replace H:f_customer_remove_l1 v0list v1x v5outl1 v10l1=some q1:=H
 unfold f_customer_remove_l1 at H
 refine .A 5 [] rfl trivial ?_
 refine .ite H rfl (fun H=>?_) (fun H=>?_)
 ·obtain ⟨hk1,H⟩:=ck_some H
  refine .A 15 [.d (.ro (rS (nth v0list v10l1.toNat)))] rfl (s36.ix rfl rfl rfl hk1) ?_
  refine .ite H rfl (fun H=>?_) (fun H=>?_)
  ·obtain ⟨hk2,H⟩:=ck_some H
   obtain ⟨hk3,H⟩:=ck_some H
   refine .A 12 [.d (slOf 1 rS ([nth v0list v10l1.toNat]:List (List UInt8))),.a 0 9 1 rS (v5outl1++([nth v0list v10l1.toNat]:List (List UInt8))),.i (v10l1+1)] rfl ⟨g_addI rfl rfl hk3,s36.a rfl rfl rfl rfl hk2,g_buildSlice1 underlying36 hi9 hs9 hz9 rfl rfl rfl rfl rfl⟩ ?_
   cases H
   exact .z (ih1 (n1,(v5outl1++([nth v0list v10l1.toNat]:List (List UInt8)),v10l1+1)) HK1 hm1) rfl rfl
  ·obtain ⟨hk4,H⟩:=ck_some H
   refine .A 6 [.i (v10l1+1)] rfl (g_addI rfl rfl hk4) ?_
   cases H
   exact .z (ih1 (n1,(v5outl1,v10l1+1)) HK1 hm1) rfl rfl
 ·refine .A 6 [] rfl trivial ?_
  refine .R func80 results80 rfl ?_
  cases H
  cases HK1
  exact .m rfl (.tsl _ _ _)
end Go.Proofs.YtnjdcednocmcnaaDoor
