/- Our own texts G1 G2 D4 D5 G3 G4 G5 G9 G10 G11 G12 G13 G14 G15 G16 G17 G18 G19 G20 G21 G22 G23 G24 G25 G26 G27 G28 G29 LTys of this seat in one. -/
import Derived.Test.YtnjdcednocmcnaaDoorYF0
import Derived.Laws.RangeString
import Derived.Laws.RangeAny
import Derived.Laws.MakeOwn
import Derived.Laws.CopyRow
import Derived.ChangeKeysEq
import Derived.Lib.AppendZerosOnto
import Derived.WalkKit
import Derived.Lib.Walk
import Derived.Shelf.RegionOpenPlain
import Derived.Lib.Overlaps
import Derived.Lib.SliceRun
import Derived.Lib.JoinLaws
import Derived.RangeFuncLeaves
import Derived.RangeFuncRecord
import Derived.Test.YtnjdcednocmcnaaDoorRows
set_option linter.unusedSimpArgs false
set_option linter.unusedVariables false
set_option linter.unusedSectionVars false
namespace Go.Abs
open Go.RowKit
def renF (rs:List Nat) (N i:Nat):Nat:=match rs[i]? with
 | some r=>r
 | none=>N+(i-rs.length)
structure Emb (rs:List Nat) (N:Nat):Prop where
 lt:∀ r,r∈rs→r < N
 inj:∀ (i j:Nat) (r:Nat),rs[i]?=some r→rs[j]?=some r→i=j
theorem ren_lt {rs:List Nat} {N i:Nat} (h:Emb rs N) (hi:i < rs.length):renF rs N i < N∧rs[i]?=some (renF rs N i):=by
 have e:rs[i]?=some rs[i]:=List.getElem?_eq_getElem hi
 unfold renF
 rw [e]
 exact ⟨h.lt _ (List.getElem_mem hi),rfl⟩
theorem ren_ge {rs:List Nat} {N i:Nat} (hi:rs.length≤i):renF rs N i=N+(i-rs.length):=by
 unfold renF
 rw [List.getElem?_eq_none hi]
theorem ren_inj {rs:List Nat} {N i j:Nat} (h:Emb rs N) (e:renF rs N i=renF rs N j):i=j:=by
 by_cases hi:i < rs.length <;> by_cases hj:j < rs.length
 ·obtain ⟨_,h1⟩:=ren_lt h hi
  obtain ⟨_,h2⟩:=ren_lt h hj
  rw [e] at h1
  exact h.inj i j _ h1 h2
 ·obtain ⟨h1,_⟩:=ren_lt h hi
  rw [ren_ge (i:=j) (by omega)] at e
  omega
 ·obtain ⟨h1,_⟩:=ren_lt h hj
  rw [ren_ge (i:=i) (by omega)] at e
  omega
 ·rw [ren_ge (i:=i) (by omega),ren_ge (i:=j) (by omega)] at e
  omega
open Classical in
noncomputable def invF (rs:List Nat) (N o:Nat):Option Nat:=if h:∃ i,renF rs N i=o then some h.choose else none
theorem inv_ren {rs:List Nat} {N:Nat} (h:Emb rs N) (i:Nat):invF rs N (renF rs N i)=some i:=by
 have hex:∃ j,renF rs N j=renF rs N i:=⟨i,rfl⟩
 unfold invF
 rw [dif_pos hex]
 congr 1
 exact ren_inj h hex.choose_spec
theorem inv_some {rs:List Nat} {N o i:Nat} (e:invF rs N o=some i):renF rs N i=o:=by
 unfold invF at e
 split at e
 ·rename_i hex
  cases e
  exact hex.choose_spec
 ·cases e
theorem inv_none {rs:List Nat} {N o:Nat} (e:invF rs N o=none):o < N∧∀ i,renF rs N i≠o:=by
 unfold invF at e
 split at e
 ·cases e
 ·rename_i hex
  refine ⟨?_,fun i hi=>hex ⟨i,hi⟩⟩
  false_or_by_contra
  rename_i hlt
  exact hex ⟨rs.length+(o-N),by rw [ren_ge (by omega)]; omega⟩
theorem inv_small {rs:List Nat} {N o i:Nat} (h:Emb rs N) (e:invF rs N o=some i) (ho:o < N):i < rs.length:=by
 have:=inv_some e
 false_or_by_contra
 rw [ren_ge (by omega)] at this
 omega
def mergeL {α:Type}:List α→List Nat→List α→List α
 | l,r :: rs,x :: xs=>mergeL (l.set r x) rs xs
 | l,_,xs=>l++xs
theorem mergeL_len {α:Type}:∀ (rs:List Nat) (l xs:List α),rs.length≤xs.length→(mergeL l rs xs).length=l.length+(xs.length-rs.length)
 | [],l,xs,_=>by simp [mergeL]
 | r :: rs,l,[],h=>by simp at h
 | r :: rs,l,x :: xs,h=>by
  simp only [mergeL]
  rw [mergeL_len rs _ xs (by simpa using h)]
  simp
theorem mergeL_other {α:Type}:∀ (rs:List Nat) (l xs:List α) (o:Nat),o < l.length→o ∉ rs→(mergeL l rs xs)[o]?=l[o]?
 | [],l,xs,o,ho,_=>by simp [mergeL,List.getElem?_append_left ho]
 | r :: rs,l,[],o,ho,_=>by simp [mergeL]
 | r :: rs,l,x :: xs,o,ho,hn=>by
  simp only [mergeL]
  simp only [List.mem_cons,not_or] at hn
  rw [mergeL_other rs _ xs o (by simpa using ho) hn.2,List.getElem?_set,if_neg (Ne.symm hn.1)]
theorem mergeL_get {α:Type}:∀ (rs:List Nat) (l xs:List α) (N:Nat),l.length=N→Emb rs N→rs.length≤xs.length→∀ i,(mergeL l rs xs)[renF rs N i]?=xs[i]?
 | [],l,xs,N,hN,_,_,i=>by
  rw [ren_ge (by simp)]
  simp only [mergeL,List.length_nil,Nat.sub_zero,←hN]
  rw [List.getElem?_append_right (by omega)]
  simp
 | r :: rs,l,[],N,hN,_,h,i=>by simp at h
 | r :: rs,l,x :: xs,N,hN,he,h,i=>by
  have he':Emb rs N:=⟨fun r hr=>he.lt r (by simp [hr]),fun i j r a b=>by
   have:=he.inj (i+1) (j+1) r (by simpa using a) (by simpa using b)
   omega⟩
  have hr:r < N:=he.lt r (by simp)
  have hnr:r ∉ rs:=fun hm=>by
   obtain ⟨j,hj⟩:=List.mem_iff_getElem?.1 hm
   have:=he.inj 0 (j+1) r (by simp) (by simpa using hj)
   omega
  simp only [mergeL]
  cases i with
  | zero =>
   have:renF (r :: rs) N 0=r:=by simp [renF]
   rw [this,mergeL_other rs _ xs r (by simpa [hN] using hr) hnr]
   simp [List.getElem?_set,hN,hr]
  | succ i =>
   have:renF (r :: rs) N (i+1)=renF rs N i:=by
    unfold renF
    simp only [List.getElem?_cons_succ,List.length_cons]
    split
    ·rfl
    ·omega
   rw [this,mergeL_get rs _ xs N (by simpa using hN) he' (by simpa using h) i]
   simp
def embB (rs:List Nat) (N:Nat):Bool:=rs.all (fun r=>Nat.blt r N) && nodupB rs
where nodupB:List Nat→Bool
 | []=>true
 | r :: rs=>rs.all (fun x=>!Nat.beq x r) && nodupB rs
theorem Emb.of {rs:List Nat} {N:Nat} (h:embB rs N=true):Emb rs N:=by
 simp only [embB,Bool.and_eq_true,List.all_eq_true] at h
 refine ⟨fun r hr=>blt_lt (h.1 r hr),?_⟩
 have key:∀ (l:List Nat),embB.nodupB l=true→∀ (i j:Nat) (r:Nat),l[i]?=some r→l[j]?=some r→i=j:=by
  intro l
  induction l with
  | nil=>intro _ i j r hi; simp at hi
  | cons x l ih =>
   intro hn i j r hi hj
   simp only [embB.nodupB,Bool.and_eq_true,List.all_eq_true] at hn
   cases i with
   | zero =>
    cases j with
    | zero=>rfl
    | succ j =>
     simp at hi hj
     subst hi
     have:=hn.1 x (List.mem_of_getElem? hj)
     simp at this
   | succ i =>
    cases j with
    | zero =>
     simp at hi hj
     subst hj
     have:=hn.1 x (List.mem_of_getElem? hi)
     simp at this
    | succ j =>
     have:=ih hn.2 i j r (by simpa using hi) (by simpa using hj)
     omega
 exact key rs h.2
section ren
def EV.ren (ρ τ:Nat→Nat):EV→EV
 | .d x=>.d x
 | .ref o off=>.ref (ρ o) off
 | .osl o off n c=>.osl (ρ o) off n c
 | .tsl sz rows t=>.tsl sz rows (τ t)
 | .mp o=>.mp (ρ o)
 | .vc t k=>.vc (τ t) k
 | .vp t k i off=>.vp (τ t) k i off
 | .vw t k lo n=>.vw (τ t) k lo n
 | .clo f cs=>.clo f (rens ρ τ cs)
 | .agg cs=>.agg (rens ρ τ cs)
 | .tup cs=>.tup (rens ρ τ cs)
 | .gd b x=>.gd b (EV.ren ρ τ x)
where
 rens (ρ τ:Nat→Nat):List EV→List EV
 | []=>[]
 | x :: l=>EV.ren ρ τ x :: rens ρ τ l
theorem rens_map (ρ τ:Nat→Nat):∀ l:List EV,EV.ren.rens ρ τ l=l.map (EV.ren ρ τ)
 | []=>rfl
 | x :: l=>by simp [EV.ren.rens,rens_map ρ τ l]
def AObj.ren (ρ τ:Nat→Nat):AObj→AObj
 | .row ty cs=>.row ty (EV.ren.rens ρ τ cs)
 | .map es=>.map (es.map fun p=>(p.1,p.2.ren ρ τ))
 | .raw x=>.raw x
 | .gone=>.gone
theorem AObj.ren_gone {ρ τ:Nat→Nat} {x:AObj} (h:x.ren ρ τ=.gone):x=.gone:=by cases x <;> first | rfl | cases h
def Ghost.sub (g:Ghost) (ρ τ:Nat→Nat):Ghost:=⟨g.lim,fun o=>g.ob (ρ o),fun t=>g.tk (τ t)⟩
variable {ρ τ:Nat→Nat} {g g':Ghost} {w:World} {s0 st:St}
theorem EVRep.down (ht:∀ t x,s0.tails[t]?=some x→st.tails[τ t]?=some x):∀ {x:EV} {v:Value},okEV s0.objs.length s0.tails.length x=true→EVRep g w st (x.ren ρ τ) v→EVRep (g.sub ρ τ) w s0 x v:=by
 have hget:∀ {t:Nat},t < s0.tails.length→∀ {x:Tail},st.tails[τ t]?=some x→s0.tails[t]?=some x:=fun {t} hlt {x} hx=>by
  have h1:=ht t _ (List.getElem?_eq_getElem hlt)
  rw [hx] at h1
  cases h1
  exact List.getElem?_eq_getElem hlt
 have main:∀ {y:EV} {v:Value},EVRep g w st y v→∀ x:EV,okEV s0.objs.length s0.tails.length x=true→y=x.ren ρ τ→EVRep (g.sub ρ τ) w s0 x v:=by
  intro y v h
  induction h with
  | d a v h =>
   intro x hx e
   cases x <;> simp only [EV.ren] at e <;> cases e
   exact .d _ _ h
  | ref o off h =>
   intro x hx e
   cases x <;> simp only [EV.ren] at e <;> cases e
   exact .ref (g:=g.sub ρ τ) _ _ (blt_lt hx)
  | osl o off n c h =>
   intro x hx e
   cases x <;> simp only [EV.ren] at e <;> cases e
   exact .osl (g:=g.sub ρ τ) _ _ _ _ (blt_lt hx)
  | tsl sz rows t v el n hd ht' hn hv =>
   intro x hx e
   cases x <;> simp only [EV.ren] at e <;> cases e
   exact .tsl sz rows _ v el n hd (hget (blt_lt hx) ht') hn hv
  | mp o h =>
   intro x hx e
   cases x <;> simp only [EV.ren] at e <;> cases e
   exact .mp (g:=g.sub ρ τ) _ (blt_lt hx)
  | clo f cs vs hs h ih =>
   intro x hx e
   cases x <;> simp only [EV.ren] at e <;> cases e
   rename_i ds
   simp only [okEV] at hx
   rw [rens_map] at hs ih
   refine .clo f _ vs (by simpa using hs) fun i c u hc hu=>ih i (c.ren ρ τ) u (by rw [List.getElem?_map,hc]; rfl) hu c (okEVs_get hx i c hc) rfl
  | agg cs vs hs h1 h ih =>
   intro x hx e
   cases x <;> simp only [EV.ren] at e <;> cases e
   simp only [okEV] at hx
   rw [rens_map] at hs ih
   refine .agg _ vs (by simpa using hs) h1 fun i c u hc hu=>ih i (c.ren ρ τ) u (by rw [List.getElem?_map,hc]; rfl) hu c (okEVs_get hx i c hc) rfl
  | tup cs vs hs h ih =>
   intro x hx e
   cases x <;> simp only [EV.ren] at e <;> cases e
   simp only [okEV] at hx
   rw [rens_map] at hs ih
   refine .tup _ vs (by simpa using hs) fun i c u hc hu=>ih i (c.ren ρ τ) u (by rw [List.getElem?_map,hc]; rfl) hu c (okEVs_get hx i c hc) rfl
  | gd b a v h0 h ih =>
   intro x hx e
   cases x <;> simp only [EV.ren] at e <;> cases e
   simp only [okEV] at hx
   exact .gd _ _ v h0 fun hb=>ih hb _ hx rfl
  | vc t k v ht' hf h =>
   intro x hx e
   cases x <;> simp only [EV.ren] at e <;> cases e
   exact .vc _ _ v (blt_lt hx) hf fun x rows hy=>h x rows (ht _ _ hy)
  | vp t k i off v ht' hf h =>
   intro x hx e
   cases x <;> simp only [EV.ren] at e <;> cases e
   exact .vp _ _ _ _ v (blt_lt hx) hf fun x rows hy=>h x rows (ht _ _ hy)
  | vw t k lo n v ht' hf h =>
   intro x hx e
   cases x <;> simp only [EV.ren] at e <;> cases e
   exact .vw _ _ _ _ v (blt_lt hx) hf fun x rows hy=>h x rows (ht _ _ hy)
 intro x v hx h
 exact main h x hx rfl
theorem EVRep.up {g1:Ghost} {s1:St} (hob:∀ o,o < s1.objs.length→g'.ob (ρ o)=g1.ob o∧ρ o < st.objs.length) (hlim:g'.lim=g1.lim)
  (ht:∀ t,t < s1.tails.length→st.tails[τ t]?=s1.tails[t]?∧g'.tk (τ t)=g1.tk t) {x:EV} {v:Value} (h:EVRep g1 w s1 x v):EVRep g' w st (x.ren ρ τ) v:=by
 have hlt:∀ {t:Nat},t < s1.tails.length→τ t < st.tails.length:=fun {t} h=>by
  have h1:=(ht t h).1
  rw [List.getElem?_eq_getElem h] at h1
  exact (List.getElem?_eq_some_iff.1 h1).1
 induction h with
 | d a v h=>exact .d _ _ (by rw [hlim]; exact h)
 | ref o off h=>rw [←(hob o h).1]; exact .ref _ _ (hob o h).2
 | osl o off n c h=>rw [←(hob o h).1]; exact .osl _ _ _ _ (hob o h).2
 | tsl sz rows t v el n hd ht' hn hv =>
  have hl:=(List.getElem?_eq_some_iff.1 ht').1
  exact .tsl sz rows _ v el n (by rw [hlim]; exact hd) (by rw [(ht t hl).1]; exact ht') hn (by rw [(ht t hl).2]; exact hv)
 | mp o h=>rw [←(hob o h).1]; exact .mp _ (hob o h).2
 | clo f cs vs hs h ih =>
  simp only [EV.ren,rens_map]
  refine .clo f _ vs (by simpa using hs) fun i c u hc hu=>?_
  rw [List.getElem?_map] at hc
  obtain ⟨c',h1,rfl⟩:=Option.map_eq_some_iff.1 hc
  exact ih i c' u h1 hu
 | agg cs vs hs h1 h ih =>
  simp only [EV.ren,rens_map]
  refine .agg _ vs (by simpa using hs) h1 fun i c u hc hu=>?_
  rw [List.getElem?_map] at hc
  obtain ⟨c',h1,rfl⟩:=Option.map_eq_some_iff.1 hc
  exact ih i c' u h1 hu
 | tup cs vs hs h ih =>
  simp only [EV.ren,rens_map]
  refine .tup _ vs (by simpa using hs) fun i c u hc hu=>?_
  rw [List.getElem?_map] at hc
  obtain ⟨c',h1,rfl⟩:=Option.map_eq_some_iff.1 hc
  exact ih i c' u h1 hu
 | gd b a v h0 h ih=>exact .gd _ _ v h0 ih
 | vc t k v ht' hf h=>exact .vc _ _ v (hlt ht') hf fun x rows hx=>by rw [(ht t ht').1] at hx; rw [(ht t ht').2]; exact h x rows hx
 | vp t k i off v ht' hf h=>exact .vp _ _ _ _ v (hlt ht') hf fun x rows hx=>by rw [(ht t ht').1] at hx; rw [(ht t ht').2]; exact h x rows hx
 | vw t k lo n v ht' hf h=>exact .vw _ _ _ _ v (hlt ht') hf fun x rows hx=>by rw [(ht t ht').1] at hx; rw [(ht t ht').2]; exact h x rows hx
structure Part (ρ τ:Nat→Nat) (s0 st:St):Prop where
 objs:∀ (o:Nat) (x:AObj),s0.objs[o]?=some x→st.objs[ρ o]?=some (x.ren ρ τ)
 tails:∀ (t:Nat) (x:Tail),s0.tails[t]?=some x→st.tails[τ t]?=some x
 oinj:∀ o o',ρ o=ρ o'→o=o'
 tinj:∀ t t',τ t=τ t'→t=t'
 ok:∀ (o:Nat) (x:AObj),s0.objs[o]?=some x→okObj s0.objs.length s0.tails.length x=true
theorem Part.live (h:Part ρ τ s0 st) {o:Nat} (hl:s0.live o):st.live (ρ o):=by
 obtain ⟨x,hx,hne⟩:=hl
 exact ⟨_,h.objs o x hx,fun e=>hne (AObj.ren_gone e)⟩
theorem Part.owned (h:Part ρ τ s0 st) {b:Nat} (ho:Owned (g.sub ρ τ) s0 b):Owned g st b:=by
 rcases ho with ⟨o,h1,h2⟩ | ⟨t,x,h1,h2⟩
 ·exact .inl ⟨ρ o,h.live h1,h2⟩
 ·exact .inr ⟨τ t,x,h.tails t x h1,h2⟩
theorem Inv.part {base:Nat} (h:Inv g base w st) (p:Part ρ τ s0 st):Inv (g.sub ρ τ) base w s0:=by
 refine ⟨h.base,fun o ty cs hx=>?_,fun o es hx=>?_,fun o y hx=>h.raw (ρ o) y (p.objs o _ hx),fun o o' hne h1 h2=>h.ne _ _ (fun e=>hne (p.oinj o o' e)) (p.live h1) (p.live h2),fun t e sz n hx=>h.tail (τ t) e sz n (p.tails t _ hx),
  fun t t' x x' b hne h1 h2=>h.tailNe _ _ x x' b (fun e=>hne (p.tinj t t' e)) (p.tails t _ h1) (p.tails t' _ h2),fun t x o h1 h2=>h.tailObj _ x _ (p.tails t _ h1) (p.live h2),h.glob,fun t e sz n rows hx=>h.own (τ t) e sz n rows (p.tails t _ hx)⟩
 ·have ho:=p.ok o _ hx
  simp only [okObj,List.all_eq_true] at ho
  have hx':=p.objs o _ hx
  simp only [AObj.ren,rens_map] at hx'
  obtain ⟨h1,h2,vs,h3,h4,h5⟩:=h.row (ρ o) ty _ hx'
  refine ⟨h1,h2,vs,h3,by simpa using h4,fun i c u hc hu=>?_⟩
  have:=h5 i (c.ren ρ τ) u (by rw [List.getElem?_map,hc]; rfl) hu
  exact ⟨this.1.down p.tails (ho c (List.mem_of_getElem? hc)),this.2⟩
 ·have ho:=p.ok o _ hx
  simp only [okObj,List.all_eq_true] at ho
  have hx':=p.objs o _ hx
  simp only [AObj.ren] at hx'
  obtain ⟨h1,ms,c,h3,h4,h5,h6⟩:=h.map (ρ o) _ hx'
  refine ⟨h1,ms,c,h3,by simpa using h4,fun i k x m hm hm'=>?_,h6⟩
  have:=h5 i k (x.ren ρ τ) m (by rw [List.getElem?_map,hm]; rfl) hm'
  exact ⟨this.1,this.2.down p.tails (ho (k,x) (List.mem_of_getElem? hm))⟩
end ren
def mergeSt (st s1:St) (rs ts:List Nat):St :=
 ⟨mergeL st.objs rs (s1.objs.map (AObj.ren (renF rs st.objs.length) (renF ts st.tails.length))),mergeL st.tails ts s1.tails⟩
theorem Inv.mergeBack {g g1:Ghost} {w w1:World} {base:Nat} {st s0 s1:St} {rs ts:List Nat} (h:Inv g base w st) (hr:Emb rs st.objs.length) (ht:Emb ts st.tails.length)
  (hlr:rs.length=s0.objs.length) (hlt:ts.length=s0.tails.length)
  (p:Part (renF rs st.objs.length) (renF ts st.tails.length) s0 st) (h1:Inv g1 base w1 s1) (hs:Step base (g.sub (renF rs st.objs.length) (renF ts st.tails.length)) w s0 g1 w1 s1) :
  ∃ g',Inv g' base w1 (mergeSt st s1 rs ts)∧Step base g w st g' w1 (mergeSt st s1 rs ts) ∧
   ∀ x v,EVRep g1 w1 s1 x v→EVRep g' w1 (mergeSt st s1 rs ts) (x.ren (renF rs st.objs.length) (renF ts st.tails.length)) v:=by
 have hl1:rs.length≤s1.objs.length:=by rw [hlr]; exact hs.sevo.objs
 have hl2:ts.length≤s1.tails.length:=by rw [hlt]; exact hs.sevo.tlen
 generalize hN:st.objs.length=N at *
 generalize hM:st.tails.length=M at *
 generalize hρ:renF rs N=ρ at *
 generalize hτ:renF ts M=τ at *
 have hst':mergeSt st s1 rs ts=⟨mergeL st.objs rs (s1.objs.map (AObj.ren ρ τ)),mergeL st.tails ts s1.tails⟩:=by unfold mergeSt; rw [hN,hM,hρ,hτ]
 rw [hst']
 generalize hS:(⟨mergeL st.objs rs (s1.objs.map (AObj.ren ρ τ)),mergeL st.tails ts s1.tails⟩:St)=S
 have hSo:∀ i,S.objs[ρ i]?=(s1.objs[i]?).map (AObj.ren ρ τ):=fun i=>by
  rw [←hS,←hρ]
  simp only
  rw [mergeL_get rs _ _ N hN hr (by simpa using hl1) i,List.getElem?_map,hρ]
 have hSt:∀ i,S.tails[τ i]?=s1.tails[i]?:=fun i=>by
  rw [←hS,←hτ]
  exact mergeL_get ts _ _ M hM ht hl2 i
 have hSo':∀ o,invF rs N o=none→S.objs[o]?=st.objs[o]?:=fun o ho=>by
  obtain ⟨k1,k2⟩:=inv_none ho
  rw [←hS]
  exact mergeL_other rs _ _ o (by rw [hN]; exact k1) fun hm=>by
   obtain ⟨j,hj⟩:=List.mem_iff_getElem?.1 hm
   refine k2 j ?_
   simp [renF,hj]
 have hSt':∀ t,invF ts M t=none→S.tails[t]?=st.tails[t]?:=fun t ho=>by
  obtain ⟨k1,k2⟩:=inv_none ho
  rw [←hS]
  exact mergeL_other ts _ _ t (by rw [hM]; exact k1) fun hm=>by
   obtain ⟨j,hj⟩:=List.mem_iff_getElem?.1 hm
   refine k2 j ?_
   simp [renF,hj]
 have hSl:N≤S.objs.length:=by rw [←hS,←hN]; show _≤(mergeL _ _ _).length; rw [mergeL_len rs _ _ (by simpa using hl1)]; omega
 have hSlt:M≤S.tails.length:=by rw [←hS,←hM]; show _≤(mergeL _ _ _).length; rw [mergeL_len ts _ _ hl2]; omega
 let g':Ghost:=⟨g1.lim,fun o=>match invF rs N o with | some i=>g1.ob i | none=>g.ob o,fun t=>match invF ts M t with | some i=>g1.tk i | none=>g.tk t⟩
 have gob:∀ i,g'.ob (ρ i)=g1.ob i:=fun i=>by
  show (match invF rs N (ρ i) with | some i=>g1.ob i | none=>g.ob (ρ i))=_
  rw [←hρ,inv_ren hr i]
 have gtk:∀ i,g'.tk (τ i)=g1.tk i:=fun i=>by
  show (match invF ts M (τ i) with | some i=>g1.tk i | none=>g.tk (τ i))=_
  rw [←hτ,inv_ren ht i]
 have gob':∀ o,invF rs N o=none→g'.ob o=g.ob o:=fun o ho=>by
  show (match invF rs N o with | some i=>g1.ob i | none=>g.ob o)=_
  rw [ho]
 have gtk':∀ t,invF ts M t=none→g'.tk t=g.tk t:=fun t ho=>by
  show (match invF ts M t with | some i=>g1.tk i | none=>g.tk t)=_
  rw [ho]
 have rinv:∀ {o i:Nat},invF rs N o=some i→o=ρ i:=fun {o i} e=>by rw [←hρ]; exact (inv_some e).symm
 have tinv:∀ {t i:Nat},invF ts M t=some i→t=τ i:=fun {t i} e=>by rw [←hτ]; exact (inv_some e).symm
 have up:∀ {x:EV} {v:Value},EVRep g1 w1 s1 x v→EVRep g' w1 S (x.ren ρ τ) v:=fun {x v} hx=>by
  refine EVRep.up (fun o ho=>⟨gob o,?_⟩) rfl (fun t ht=>⟨hSt t,gtk t⟩) hx
  have e:=hSo o
  rw [List.getElem?_eq_getElem ho] at e
  exact (List.getElem?_eq_some_iff.1 e).1
 -- what the call does not own
 have hfar:∀ b,b < w.heap.size→¬ Owned (g.sub ρ τ) s0 b→w1.heap[b]?=w.heap[b]?∧g1.lim b=g.lim b:=hs.frame
 have hnear:∀ b,b < w.heap.size→Owned g1 s1 b→Owned (g.sub ρ τ) s0 b:=hs.fresh
 have uo:∀ o,invF rs N o=none→st.live o→g.ob o < w.heap.size∧¬ Owned (g.sub ρ τ) s0 (g.ob o):=fun o ho hl=>by
  refine ⟨(h.live_lt hl).1,fun hw=>?_⟩
  rcases hw with ⟨i,a1,a2⟩ | ⟨t,x,a1,a2⟩
  ·have hne:ρ i≠o:=fun e=>by rw [←e,←hρ,inv_ren hr i] at ho; cases ho
   exact h.ne _ _ hne (p.live a1) hl a2
  ·exact h.tailObj _ x o (p.tails t x a1) hl a2
 have ut:∀ t x b,invF ts M t=none→st.tails[t]?=some x→(g.tk t).ownBlock=some b→b < w.heap.size∧¬ Owned (g.sub ρ τ) s0 b:=fun t x b ho hx hb=>by
  refine ⟨(h.tail_lt hx hb).2,fun hw=>?_⟩
  rcases hw with ⟨i,a1,a2⟩ | ⟨i,y,a1,a2⟩
  ·exact h.tailObj t x _ hx (p.live a1) (by rw [hb]; exact congrArg some a2.symm)
  ·have hne:τ i≠t:=fun e=>by rw [←e,←hτ,inv_ren ht i] at ho; cases ho
   exact h.tailNe _ _ y x b hne (p.tails i y a1) hx a2 hb
 have s0o:∀ {o i:Nat},invF rs N o=some i→o < N→i < s0.objs.length:=fun {o i} e ho=>by rw [←hlr]; exact inv_small hr e ho
 have s0t:∀ {t i:Nat},invF ts M t=some i→t < M→i < s0.tails.length:=fun {t i} e ho=>by rw [←hlt]; exact inv_small ht e ho
 have s0tail:∀ {i:Nat},i < s0.tails.length→∀ {x:Tail},st.tails[τ i]?=some x→s0.tails[i]?=some x:=fun {i} hi {x} hx=>by
  have e:=p.tails i _ (List.getElem?_eq_getElem hi)
  rw [hx] at e
  cases e
  exact List.getElem?_eq_getElem hi
 have hsev:SEvo g w st g' w1 S:=by
  refine ⟨hs.sevo.evo,fun o ho=>?_,by rw [hN]; exact hSl,fun t e sz n hx=>?_,by rw [hM]; exact hSlt,fun t x' rows' hlt' hx ho=>?_⟩
  ·cases hi:invF rs N o with
   | none=>exact gob' o hi
   | some i =>
    have:=rinv hi
    subst this
    rw [gob,hs.sevo.ob i (s0o hi (by omega))]
    rfl
  ·cases hi:invF ts M t with
   | none=>exact ⟨n,by rw [hSt' t hi]; exact hx,Nat.le_refl _,fun _=>gtk' t hi⟩
   | some i =>
    have:=tinv hi
    subst this
    have hi0:=s0t hi (by rw [←hM]; exact (List.getElem?_eq_some_iff.1 hx).1)
    obtain ⟨n',a1,a2,a3⟩:=hs.sevo.tails i e sz n (s0tail hi0 hx)
    exact ⟨n',by rw [hSt]; exact a1,a2,fun e'=>by rw [gtk,a3 e']; rfl⟩
  ·cases hi:invF ts M t with
   | none =>
    rw [hSt' t hi] at hx
    exact ⟨x',rows',hx,ho,rfl,Nat.le_refl _,fun _=>gtk' t hi⟩
   | some i =>
    have:=tinv hi
    subst this
    have hi0:=s0t hi (by omega)
    rw [hSt] at hx
    obtain ⟨x,rows,a1,a2,a3,a4,a5⟩:=hs.sevo.own i x' rows' hi0 hx ho
    exact ⟨x,rows,p.tails i x a1,a2,a3,a4,fun e'=>by rw [gtk,a5 e']; rfl⟩
 have hlive:∀ {o i:Nat},invF rs N o=some i→S.live o→s1.live i:=fun {o i} hi ⟨x,hx,hne⟩=>by
  have:=rinv hi
  subst this
  rw [hSo] at hx
  obtain ⟨y,hy,rfl⟩:=Option.map_eq_some_iff.1 hx
  exact ⟨y,hy,fun e=>hne (by subst e; rfl)⟩
 have hlive':∀ {o:Nat},invF rs N o=none→S.live o→st.live o:=fun {o} hi ⟨x,hx,hne⟩=>⟨x,by rw [hSo' o hi] at hx; exact hx,hne⟩
 refine ⟨g',⟨h1.base,?_,?_,?_,?_,?_,?_,?_,h1.glob,?_⟩,⟨hsev,hs.below,hs.lim,fun b hb hn=>hfar b hb fun hw=>hn (p.owned hw),fun b hb hw=>?_⟩,fun x v hx=>up hx⟩
 ·intro o ty cs hx
  cases hi:invF rs N o with
  | none =>
   rw [hSo' o hi] at hx
   obtain ⟨k1,k2,vs,k3,k4,k5⟩:=h.row o ty cs hx
   obtain ⟨u1,u2⟩:=uo o hi ⟨_,hx,by simp⟩
   obtain ⟨f1,f2⟩:=hfar _ u1 u2
   rw [gob' o hi]
   exact ⟨k1,f2.trans k2,vs,f1.trans k3,k4,fun i c u hc hu=>⟨(k5 i c u hc hu).1.mono hsev,(k5 i c u hc hu).2⟩⟩
  | some i =>
   have:=rinv hi
   subst this
   rw [hSo] at hx
   obtain ⟨y,hy,hyr⟩:=Option.map_eq_some_iff.1 hx
   cases y <;> simp only [AObj.ren] at hyr <;> cases hyr
   obtain ⟨k1,k2,vs,k3,k4,k5⟩:=h1.row i ty _ hy
   rw [gob]
   refine ⟨k1,k2,vs,k3,by rw [rens_map]; simpa using k4,fun j c u hc hu=>?_⟩
   rw [rens_map,List.getElem?_map] at hc
   obtain ⟨c',hc',rfl⟩:=Option.map_eq_some_iff.1 hc
   exact ⟨up (k5 j c' u hc' hu).1,(k5 j c' u hc' hu).2⟩
 ·intro o es hx
  cases hi:invF rs N o with
  | none =>
   rw [hSo' o hi] at hx
   obtain ⟨k1,ms,c,k3,k4,k5,k6⟩:=h.map o es hx
   obtain ⟨u1,u2⟩:=uo o hi ⟨_,hx,by simp⟩
   obtain ⟨f1,f2⟩:=hfar _ u1 u2
   rw [gob' o hi]
   exact ⟨k1,ms,c,f1.trans k3,k4,fun i k x m a b=>⟨(k5 i k x m a b).1,(k5 i k x m a b).2.mono hsev⟩,k6⟩
  | some i =>
   have:=rinv hi
   subst this
   rw [hSo] at hx
   obtain ⟨y,hy,hyr⟩:=Option.map_eq_some_iff.1 hx
   cases y <;> simp only [AObj.ren] at hyr <;> cases hyr
   obtain ⟨k1,ms,c,k3,k4,k5,k6⟩:=h1.map i _ hy
   rw [gob]
   refine ⟨k1,ms,c,k3,by simpa using k4,fun j k x m hm hm'=>?_,k6⟩
   rw [List.getElem?_map] at hm
   obtain ⟨q,hq,hqe⟩:=Option.map_eq_some_iff.1 hm
   cases hqe
   have:=k5 j q.1 q.2 m hq hm'
   exact ⟨this.1,up this.2⟩
 ·intro o y hx
  cases hi:invF rs N o with
  | none =>
   rw [hSo' o hi] at hx
   obtain ⟨k1,k2,k3⟩:=h.raw o y hx
   obtain ⟨u1,u2⟩:=uo o hi ⟨_,hx,by simp⟩
   obtain ⟨f1,f2⟩:=hfar _ u1 u2
   rw [gob' o hi]
   exact ⟨k1,f2.trans k2,f1.trans k3⟩
  | some i =>
   have:=rinv hi
   subst this
   rw [hSo] at hx
   obtain ⟨z,hz,hzr⟩:=Option.map_eq_some_iff.1 hx
   cases z <;> simp only [AObj.ren] at hzr <;> cases hzr
   rw [gob]
   exact h1.raw i _ hz
 ·intro o o' hne ho ho'
  have cross:∀ {a b i:Nat},invF rs N a=some i→invF rs N b=none→S.live a→S.live b→g'.ob a≠g'.ob b:=fun {a b i} ha hb la lb e=>by
   have:=rinv ha
   subst this
   rw [gob,gob' b hb] at e
   obtain ⟨u1,u2⟩:=uo b hb (hlive' hb lb)
   exact u2 (hnear _ u1 (.inl ⟨i,hlive ha la,e⟩))
  cases hi:invF rs N o with
  | none =>
   cases hj:invF rs N o' with
   | none=>rw [gob' o hi,gob' o' hj]; exact h.ne o o' hne (hlive' hi ho) (hlive' hj ho')
   | some j=>exact (cross hj hi ho' ho).symm
  | some i =>
   cases hj:invF rs N o' with
   | none=>exact cross hi hj ho ho'
   | some j =>
    have l1:=hlive hi ho
    have l2:=hlive hj ho'
    have:=rinv hi
    subst this
    have:=rinv hj
    subst this
    rw [gob,gob]
    exact h1.ne i j (fun e=>hne (by rw [e])) l1 l2
 ·intro t e sz n hx
  cases hi:invF ts M t with
  | none =>
   rw [hSt' t hi] at hx
   obtain ⟨xs,k1,k2⟩:=h.tail t e sz n hx
   rw [gtk' t hi]
   exact ⟨xs,ownsRow_keep k1 fun b hb=>(hfar b (ut t _ b hi hx hb).1 (ut t _ b hi hx hb).2).1,fun b hb=>by rw [←k2 b hb]; exact (hfar b (ut t _ b hi hx hb).1 (ut t _ b hi hx hb).2).2⟩
  | some i =>
   have:=tinv hi
   subst this
   rw [hSt] at hx
   rw [gtk]
   exact h1.tail i e sz n hx
 ·intro t t' x x' b hne hx hx' hb
  have cross:∀ {a c i:Nat} {x x':Tail},invF ts M a=some i→invF ts M c=none→S.tails[a]?=some x→S.tails[c]?=some x'→(g'.tk a).ownBlock=some b→(g'.tk c).ownBlock=some b→False:=fun {a c i x x'} ha hc la lc ea ec=>by
   have:=tinv ha
   subst this
   rw [gtk] at ea
   rw [gtk' c hc] at ec
   rw [hSt] at la
   rw [hSt' c hc] at lc
   obtain ⟨u1,u2⟩:=ut c _ b hc lc ec
   exact u2 (hnear b u1 (.inr ⟨i,_,la,ea⟩))
  cases hi:invF ts M t with
  | none =>
   cases hj:invF ts M t' with
   | none =>
    rw [gtk' t hi] at hb
    rw [gtk' t' hj]
    rw [hSt' t hi] at hx
    rw [hSt' t' hj] at hx'
    exact h.tailNe t t' x x' b hne hx hx' hb
   | some j=>exact fun hb'=>cross hj hi hx' hx hb' hb
  | some i =>
   cases hj:invF ts M t' with
   | none=>exact fun hb'=>cross hi hj hx hx' hb hb'
   | some j =>
    have:=tinv hi
    subst this
    have:=tinv hj
    subst this
    rw [gtk] at hb
    rw [gtk]
    rw [hSt] at hx hx'
    exact h1.tailNe i j x x' b (fun e=>hne (by rw [e])) hx hx' hb
 ·intro t x o hx ho hb
  cases hi:invF ts M t with
  | none =>
   rw [gtk' t hi] at hb
   rw [hSt' t hi] at hx
   cases hj:invF rs N o with
   | none =>
    rw [gob' o hj] at hb
    exact h.tailObj t x o hx (hlive' hj ho) hb
   | some j =>
    have l2:=hlive hj ho
    have:=rinv hj
    subst this
    rw [gob] at hb
    obtain ⟨u1,u2⟩:=ut t _ _ hi hx hb
    exact u2 (hnear _ u1 (.inl ⟨j,l2,rfl⟩))
  | some i =>
   have:=tinv hi
   subst this
   rw [gtk] at hb
   rw [hSt] at hx
   cases hj:invF rs N o with
   | none =>
    rw [gob' o hj] at hb
    obtain ⟨u1,u2⟩:=uo o hj (hlive' hj ho)
    exact u2 (hnear _ u1 (.inr ⟨i,_,hx,hb⟩))
   | some j =>
    have l2:=hlive hj ho
    have:=rinv hj
    subst this
    rw [gob] at hb
    exact h1.tailObj i x j hx l2 hb
 ·intro t e sz n rows hx
  cases hi:invF ts M t with
  | none =>
   rw [hSt' t hi] at hx
   obtain ⟨xs,k1,k2,k3⟩:=h.own t e sz n rows hx
   rw [gtk' t hi]
   exact ⟨xs,ownsRow_keep k1 fun b hb=>(hfar b (ut t _ b hi hx hb).1 (ut t _ b hi hx hb).2).1,fun b hb=>by rw [←k2 b hb]; exact (hfar b (ut t _ b hi hx hb).1 (ut t _ b hi hx hb).2).2,k3.mono hsev.evo⟩
  | some i =>
   have:=tinv hi
   subst this
   rw [hSt] at hx
   rw [gtk]
   exact h1.own i e sz n rows hx
 ·rcases hw with ⟨o,a1,a2⟩ | ⟨t,x,a1,a2⟩
  ·cases hi:invF rs N o with
   | none=>exact .inl ⟨o,hlive' hi a1,by rw [←gob' o hi]; exact a2⟩
   | some i =>
    have l1:=hlive hi a1
    have:=rinv hi
    subst this
    rw [gob] at a2
    exact p.owned (hnear b hb (.inl ⟨i,l1,a2⟩))
  ·cases hi:invF ts M t with
   | none =>
    rw [gtk' t hi] at a2
    rw [hSt' t hi] at a1
    exact .inr ⟨t,x,a1,a2⟩
   | some i =>
    have:=tinv hi
    subst this
    rw [gtk] at a2
    rw [hSt] at a1
    exact p.owned (hnear b hb (.inr ⟨i,x,a1,a2⟩))
def EVlesE:List EV→List EV→Prop
 | [],[]=>True
 | e :: es,x :: xs=>EVle e x∧EVlesE es xs
 | _,_=>False
theorem EVlesE.get:∀ {es xs:List EV},EVlesE es xs→es.length=xs.length∧∀ (i:Nat) x,xs[i]?=some x→∃ e,es[i]?=some e∧EVle e x
 | [],[],_=>⟨rfl,fun i y h=>by simp at h⟩
 | e :: es,d :: ds,h=>by
  obtain ⟨h1,h2⟩:=EVlesE.get h.2
  refine ⟨by simp [h1],fun i z hz=>?_⟩
  cases i with
  | zero=>simp at hz; subst hz; exact ⟨e,rfl,h.1⟩
  | succ i=>simpa using h2 i z (by simpa using hz)
 | [],_ :: _,h=>h.elim
 | _ :: _,[],h=>h.elim
theorem ACallS.le {P:Program} {f:FuncId} {es xs:List EV} {st:St} {q:EV→St→Prop} (h:ACallS P f xs st q) (hle:EVlesE es xs):ACallS P f es st q:=by
 intro g w base vs hi ha
 obtain ⟨h1,h2⟩:=hle.get
 refine h g w base vs hi ⟨by rw [ha.1,h1],fun i x v hx hv=>?_⟩
 obtain ⟨e,he,hl⟩:=h2 i x hx
 exact hl _ _ _ _ (ha.2 i e v he hv)
section call
variable {P:Program} {f:Ctx} {N:Nat} {S:Start} {Q:EV→St→Prop} {k:List Item} {env:Env} {st:St} {ops rest:List Oper}
 {d:Option Tmp} {ty:TypeId} {pos:String} {after:Array Edge}
def QE (x:EV) (st':St) (e:EV) (s:St):Prop:=EVle e x∧s=st'
def partB (rs ts:List Nat) (s0 st:St):Bool :=
 embB rs st.objs.length && embB ts st.tails.length && Nat.beq rs.length s0.objs.length && Nat.beq ts.length s0.tails.length
theorem Part.of {rs ts:List Nat} {s0 st:St} (h:partB rs ts s0 st=true) (h5:s0.objs.all (okObj s0.objs.length s0.tails.length)=true)
  (ho:rs.map (fun r=>st.objs[r]?)=s0.objs.map (fun x=>some (x.ren (renF rs st.objs.length) (renF ts st.tails.length)))) (ht:ts.map (fun r=>st.tails[r]?)=s0.tails.map some) :
  Part (renF rs st.objs.length) (renF ts st.tails.length) s0 st∧Emb rs st.objs.length∧Emb ts st.tails.length∧rs.length=s0.objs.length∧ts.length=s0.tails.length:=by
 simp only [partB,Bool.and_eq_true] at h
 rw [List.all_eq_true] at h5
 obtain ⟨⟨⟨h1,h2⟩,h3⟩,h4⟩:=h
 have e1:=Emb.of h1
 have e2:=Emb.of h2
 have l1:=Nat.eq_of_beq_eq_true h3
 have l2:=Nat.eq_of_beq_eq_true h4
 refine ⟨⟨fun o x hx=>?_,fun t x hx=>?_,fun o o' e=>ren_inj e1 e,fun t t' e=>ren_inj e2 e,fun o x hx=>h5 x (List.mem_of_getElem? hx)⟩,e1,e2,l1,l2⟩
 ·have hlt:o < rs.length:=by rw [l1]; exact (List.getElem?_eq_some_iff.1 hx).1
  have:=congrArg (fun l=>l[o]?) ho
  simp only [List.getElem?_map,(ren_lt e1 hlt).2,hx,Option.map_some,Option.some.injEq] at this
  exact this
 ·have hlt:t < ts.length:=by rw [l2]; exact (List.getElem?_eq_some_iff.1 hx).1
  have:=congrArg (fun l=>l[t]?) ht
  simp only [List.getElem?_map,(ren_lt e2 hlt).2,hx,Option.map_some,Option.some.injEq] at this
  exact this
theorem ACallS.frame {f:FuncId} {args:List EV} {s0 s1:St} {e1:EV} (rs ts:List Nat) (h:ACallS P f args s0 (QE e1 s1)) (hp:partB rs ts s0 st=true) (h5:s0.objs.all (okObj s0.objs.length s0.tails.length)=true) (hok:args.all (okEV s0.objs.length s0.tails.length)=true)
  (ho:rs.map (fun r=>st.objs[r]?)=s0.objs.map (fun x=>some (x.ren (renF rs st.objs.length) (renF ts st.tails.length)))) (ht:ts.map (fun r=>st.tails[r]?)=s0.tails.map some) :
  ACallS P f (args.map (EV.ren (renF rs st.objs.length) (renF ts st.tails.length))) st (QE (e1.ren (renF rs st.objs.length) (renF ts st.tails.length)) (mergeSt st s1 rs ts)):=by
 obtain ⟨p,e1',e2',l1,l2⟩:=Part.of hp h5 ho ht
 intro g w base vs hi ha
 rw [List.all_eq_true] at hok
 refine (h (g.sub _ _) w base vs (hi.part p) ⟨by have:=ha.1; simpa using this,fun i x v hx hv=>?_⟩).mono ?_
 ·exact (ha.2 i _ v (by rw [List.getElem?_map,hx]; rfl) hv).down p.tails (hok x (List.mem_of_getElem? hx))
 ·rintro e w' ⟨v,r,s,g1,rfl,⟨hle,rfl⟩,hr,hinv,hh⟩
  obtain ⟨g',k1,k2,k3⟩:=hi.mergeBack e1' e2' l1 l2 p hinv hh.toStep
  exact ⟨v,_,_,g',rfl,⟨.rfl' _,rfl⟩,k3 _ _ (hle _ _ _ _ hr),k1,⟨k2.sevo,k2.below,k2.lim,k2.frame,k2.fresh⟩⟩
theorem ACallS.keep {f:FuncId} {args:List EV} {x:EV} {st':St} (h:ACallS P f args st fun e s=>∃ (rs ts:List Nat),partB rs ts st' s=true∧st'.objs.all (okObj st'.objs.length st'.tails.length)=true∧okEV st'.objs.length st'.tails.length x=true∧(Nat.ble st.objs.length rs.length && Nat.ble st.tails.length ts.length)=true ∧
   rs.take st.objs.length=List.range st.objs.length∧ts.take st.tails.length=List.range st.tails.length ∧
   rs.map (fun r=>s.objs[r]?)=st'.objs.map (fun y=>some (y.ren (renF rs s.objs.length) (renF ts s.tails.length)))∧ts.map (fun r=>s.tails[r]?)=st'.tails.map some ∧
   EVle e (x.ren (renF rs s.objs.length) (renF ts s.tails.length))):ACallS P f args st (QE x st'):=by
 intro g w base vs hi ha
 refine (h g w base vs hi ha).mono ?_
 rintro e w' ⟨v,r,s,g1,rfl,⟨rs,ts,hp,h5,hx,hl,hr0,ht0,ho,ht,hle⟩,hr,hinv,hh⟩
 obtain ⟨p,e1',e2',l1,l2⟩:=Part.of hp h5 ho ht
 simp only [Bool.and_eq_true] at hl
 have hl1:=Nat.le_of_ble_eq_true hl.1
 have hl2:=Nat.le_of_ble_eq_true hl.2
 have same:∀ {l:List Nat} {n N:Nat},l.take n=List.range n→n≤l.length→∀ i,i < n→renF l N i=i:=fun {l n N} hl hn i hi=>by
  have e:(l.take n)[i]?=some i:=by rw [hl,List.getElem?_range hi]
  rw [List.getElem?_take,if_pos hi] at e
  simp [renF,e]
 have so:=fun i hi=>same (N:=s.objs.length) hr0 hl1 i hi
 have stl:=fun i hi=>same (N:=s.tails.length) ht0 hl2 i hi
 have hgetT:∀ {i:Nat},i < st'.tails.length→st'.tails[i]?=s.tails[renF ts s.tails.length i]?:=fun {i} hi=>by
  rw [p.tails i _ (List.getElem?_eq_getElem hi),List.getElem?_eq_getElem hi]
 refine ⟨v,x,st',g1.sub _ _,rfl,⟨.rfl' _,rfl⟩,(hle _ _ _ _ hr).down p.tails hx,hinv.part p,⟨⟨hh.sevo.evo,fun o ho'=>?_,(by show st.objs.length≤_; omega),fun t e sz n hx=>?_,(by show st.tails.length≤_; omega),fun t x' rows' hlt hx' ho'=>?_⟩,hh.below,hh.lim,hh.frame,fun b hb hw=>hh.fresh b hb (p.owned hw)⟩⟩
 ·show g1.ob (renF rs s.objs.length o)=g.ob o
  rw [so o ho']
  exact hh.sevo.ob o ho'
 ·have hlt:t < st.tails.length:=(List.getElem?_eq_some_iff.1 hx).1
  obtain ⟨n',a1,a2,a3⟩:=hh.sevo.tails t e sz n hx
  refine ⟨n',?_,a2,fun e'=>?_⟩
  ·rw [hgetT (by omega),stl t hlt]; exact a1
  ·show g1.tk (renF ts s.tails.length t)=g.tk t
   rw [stl t hlt]
   exact a3 e'
 ·rw [hgetT (by have:=(List.getElem?_eq_some_iff.1 hx').1; exact this),stl t hlt] at hx'
  obtain ⟨y,rows,a1,a2,a3,a4,a5⟩:=hh.sevo.own t x' rows' hlt hx' ho'
  refine ⟨y,rows,a1,a2,a3,a4,fun e'=>?_⟩
  show g1.tk (renF ts s.tails.length t)=g.tk t
  rw [stl t hlt]
  exact a5 e'
end call
section call
variable {P:Program} {f:Ctx} {N:Nat} {S:Start} {Q:EV→St→Prop} {k:List Item} {env:Env} {st:St} {ops rest:List Oper}
 {d:Option Tmp} {ty:TypeId} {pos:String} {after:Array Edge}
theorem put_weak {d:Option Tmp} {x r:EV} (hle:EVle x r) (h:AOps P f N S Q ops rest k (env.put d r) st):AOps P f N S Q ops rest k (env.put d x) st:=by
 cases d with
 | none=>exact h
 | some t =>
  intro i hi g w tmps hinv hh he hn
  refine h i hi g w tmps hinv hh (fun j y hy=>?_) hn
  unfold Env.put lookup at hy
  cases hb:Nat.beq j t with
  | true =>
   rw [hb] at hy
   simp only [Option.some.injEq] at hy
   subst hy
   have:=Nat.eq_of_beq_eq_true hb
   subst this
   obtain ⟨v,h1,h2⟩:=he j x (by unfold Env.put lookup; rw [Nat.beq_refl])
   exact ⟨v,h1,hle _ _ _ _ h2⟩
  | false =>
   rw [hb] at hy
   exact he j y (by unfold Env.put lookup; rw [hb]; exact hy)
theorem AOps.callF {f':FuncId} {l:List Operand} {ts:Array TypeId} {es0 es:List EV} {x r:EV} {s0 s1 st':St} (hen:Enters P f') (hd:dstOk N d=true) (rs tk:List Nat)
  (h1:evos env l=some es) (hc:ACallS P f' es0 s0 (QE r s1)) (hle:EVlesE es (es0.map (EV.ren (renF rs st.objs.length) (renF tk st.tails.length))))
  (hp:(partB rs tk s0 st && es0.all (okEV s0.objs.length s0.tails.length))=true) (h5:s0.objs.all (okObj s0.objs.length s0.tails.length)=true)
  (ho:rs.map (fun r=>st.objs[r]?)=s0.objs.map (fun x=>some (x.ren (renF rs st.objs.length) (renF tk st.tails.length)))) (ht:tk.map (fun r=>st.tails[r]?)=s0.tails.map some)
  (hx:r.ren (renF rs st.objs.length) (renF tk st.tails.length)=x) (hs:mergeSt st s1 rs tk=st')
  (hk:AOps P f N S Q ops rest k (env.put d x) st') :
  AOps P f N S Q ops (⟨d,.call ⟨.value (.func f'),l.toArray,ts⟩,ty,pos,after,none⟩ :: rest) k env st:=by
 simp only [Bool.and_eq_true] at hp
 refine .callS hen hd h1 ((hc.frame rs tk hp.1 h5 hp.2 ho ht).le hle) fun y s hq=>?_
 obtain ⟨hle,rfl⟩:=hq
 rw [hx] at hle
 rw [hs]
 exact put_weak hle hk
end call
theorem okCons {n m:Nat} {x:AObj} {l:List AObj} (h1:okObj n m x=true) (h2:l.all (okObj n m)=true):(x :: l).all (okObj n m)=true:=by
 simp [h1]; simpa using h2
theorem okBoth {a b:Bool} (h1:a=true) (h2:b=true):(a && b)=true:=by rw [h1,h2]; rfl
section tok
variable {P:Program} {f:Ctx} {N:Nat} {S:Start} {Q:EV→St→Prop} {k:List Item} {todo:List Item} {env:Env} {st:St} {ops rest:List Oper}
theorem Inv.tokCell {g:Ghost} {base:Nat} {w:World} {o ci:Nat} {T:TypeId} {cs:List EV} (h:Inv g base w st) (ho:st.objs[o]?=some (.row T cs)) (hc:cs[ci]?=some (.d (.ex (.slice none 0 0)))) (e sz:Nat) :
  ∃ g',Inv g' base w ((st.tok ⟨e,sz,0,none⟩).set o (.row T (cs.set ci (.tsl sz [] st.tails.length))))∧Step base g w st g' w ((st.tok ⟨e,sz,0,none⟩).set o (.row T (cs.set ci (.tsl sz [] st.tails.length)))):=by
 obtain ⟨g1,h1,h2,h3⟩:=h.newTok e sz
 have ho1:(st.tok ⟨e,sz,0,none⟩).objs[o]?=some (.row T cs):=ho
 obtain ⟨b1,b2,vs,b3,b4,b5⟩:=h2.row o T cs ho1
 obtain ⟨hi,hs⟩:=h2.setBlock (o:=o) (x:=.row T (cs.set ci (.tsl sz [] st.tails.length))) (w':=w) ⟨_,ho1,by simp⟩ b2 rfl (fun _ _=>rfl) rfl rfl rfl
  (fun hsv ty' cs' hx'=>by
   cases hx'
   refine ⟨vs,b3,by simpa using b4,fun i c u hci hu=>?_⟩
   rw [List.getElem?_set] at hci
   split at hci
   ·rename_i hic
    subst hic
    split at hci
    ·cases hci
     have h0:=b5 ci _ u hc hu
     refine ⟨?_,h0.2⟩
     have hu0:u=.slice none 0 0:=h0.1.ex_inv
     subst hu0
     exact .tsl sz [] _ _ e 0 (.nil sz _) (by simp [St.tok,St.set]) (Nat.le_refl _) (fun _=>.inl h1.symm)
    ·cases hci
   ·have h0:=b5 i c u hci hu
    exact ⟨h0.1.mono hsv,h0.2⟩) (fun _ es hx'=>by cases hx')
 exact ⟨g1,hi,h3.trans hs⟩
theorem ARun.tokCell {o ci:Nat} {T:TypeId} {cs:List EV} {e sz:Nat} (ho:st.objs[o]?=some (.row T cs)) (hc:cs[ci]?=some (.d (.ex (.slice none 0 0))))
  (h:ARun P f N S Q todo env ((st.tok ⟨e,sz,0,none⟩).set o (.row T (cs.set ci (.tsl sz [] st.tails.length))))):ARun P f N S Q todo env st:=by
 intro g w tmps hinv hh he hn
 obtain ⟨g',h1,h2⟩:=hinv.tokCell ho hc e sz
 exact h g' w tmps h1 (hh.step h2) (he.mono h2.sevo) hn
end tok
section rules
variable {P:Program} {base:Nat} {env:Env} {st:St} {d:Option Tmp} {ty:TypeId} {pos:String} {after:Array Edge} {gd:Option (Nat×Bool)} {t:TypeId} {x:Operand}
theorem q_nilRef {o off:Nat} (hx:evo env x=some (.ref o off)):OpQ P env st ⟨d,.nilCheck x,ty,pos,after,gd⟩ (.ref o off):=fun g base w tmps hi he=>by
 have h:=evo_rep he hx
 generalize hv:Act.eval ⟨tmps,[]⟩ x=v at h
 cases h with
 | ref _ _ hlt=>exact ⟨_,.ref _ _ hlt,fun w' _=>by simp [execOp,hv]⟩
end rules
section rep
variable {g:Ghost} {base:Nat} {w:World} {st:St}
theorem vc_or (h:Inv g base w st) {t e sz n:Nat} {rows:List (List D)} {v:Value} (htl:st.tails[t]?=some ⟨e,sz,n,some rows⟩) (hv:EVRep g w st (.vc t n) v) :
  v=g.tk t∨(n=0∧rows=[]∧∃ A,v=.slice A 0 0):=by
 cases hv with
 | vc _ _ _ ht hf hh =>
  rcases (hh _ rows htl rfl).2 rfl with h1 | ⟨h1,h3⟩
  ·exact .inl h1
  ·obtain ⟨xs,_,_,k⟩:=h.own t e sz n rows htl
   exact .inr ⟨h1,List.eq_nil_of_length_eq_zero (by rw [k.len]; exact h1),h3⟩
theorem vc_val (h:Inv g base w st) {t e sz n:Nat} {rows:List (List D)} {v:Value} (htl:st.tails[t]?=some ⟨e,sz,n,some rows⟩) (hv:v=g.tk t) :
  v=g.tk t∧∃ xs,w.ownsRow base e sz v n xs∧(∀ b,v.ownBlock=some b→g.lim b=0)∧RowsRep g.lim w sz n rows xs:=by
 subst hv
 exact ⟨rfl,h.own t e sz n rows htl⟩
theorem vc_emp {t e sz:Nat} {rows:List (List D)} {v:Value} (hlt:t < st.tails.length) (htl:st.tails[t]?=some ⟨e,sz,0,some rows⟩) (hv:∃ A,v=.slice A 0 0):EVRep g w st (.vc t 0) v :=
 .vc t 0 _ hlt (by obtain ⟨A,rfl⟩:=hv; exact ⟨_,_,_,rfl⟩) fun x rows' hx ho=>by rw [htl] at hx; cases hx; exact ⟨Nat.le_refl _,fun _=>.inr ⟨rfl,hv⟩⟩
theorem own_form {w:World} {base e sz n:Nat} {v:Value} {xs:List Value} (h:w.ownsRow base e sz v n xs):(∃ A c,v=.slice A n c)∧(n≠0→∃ b c,v=.slice (some ⟨b,0,none⟩) n c):=by
 rcases h.2 with ⟨rfl,rfl⟩ | ⟨b,cap,cur,rfl,_⟩
 ·exact ⟨⟨_,_,rfl⟩,fun h0=>absurd rfl h0⟩
 ·exact ⟨⟨_,_,rfl⟩,fun _=>⟨_,_,rfl⟩⟩
theorem RowsRep.get {lim:Nat→Nat} {sz n:Nat} {rows:List (List D)} {xs:List Value} (h:RowsRep lim w sz n rows xs) (hx:xs.length=n*sz) {i j:Nat} {row:List D} {c:D} (hi:rows[i]?=some row) (hj:row[j]?=some c) :
  ∃ u,xs[i*sz+j]?=some u∧DRep lim w c u∧u.oneCell'=true:=by
 have hl:=h.row row (List.mem_of_getElem? hi)
 have hlt:i*sz+j < xs.length:=by
  rw [hx,←h.len]
  exact idx_lt (List.getElem?_eq_some_iff.1 hi).1 (by rw [←hl]; exact (List.getElem?_eq_some_iff.1 hj).1)
 exact ⟨_,List.getElem?_eq_getElem hlt,h.rep _ c _ (flat_get h.row hi hj) (List.getElem?_eq_getElem hlt)⟩
theorem own_store {P:Program} {e sz n:Nat} {b cap:Nat} {xs:List Value} (h:w.ownsRow base e sz (.slice (some ⟨b,0,none⟩) n cap) n xs) (off:Nat) (new:List Value) (hfit:off+new.length≤n*sz) (h1:∀ v∈new,v.oneCell'=true) :
  ∃ w',(storeCells ⟨b,off,none⟩ new 0).run P w=.ok () w'∧w'.ownsRow base e sz (.slice (some ⟨b,0,none⟩) n cap) n (xs.take off++new++xs.drop (off+new.length))∧w.grownBy w' (some b)∧w'.heap.size=w.heap.size:=by
 rcases h.2 with ⟨h',_⟩ | ⟨g',cap',cur,h',hb,hg,hnc,hcm,hcs,htake⟩
 ·cases h'
 ·cases h'
  have hle:n*sz≤cap*sz:=Nat.mul_le_mul_right _ hnc
  have hst:=run_storeCells_at P b off e new 0 cur w hg (by simp; omega) h1
  simp only [Nat.add_zero] at hst
  refine ⟨_,hst,⟨?_,.inr ⟨b,cap,_,rfl,hb,setRow_heap w b cur _ e (0,0) hg,hnc,hcm,?_,?_⟩⟩,⟨rfl,rfl,rfl,by simp,fun k _ hk=>setRow_other w b k _ (fun e=>hk (by rw [e]))⟩,by simp⟩
  ·have:=h.1
   simp; omega
  ·simp; omega
  ·have hx:=h.1
   apply List.ext_getElem?
   intro j
   simp only [List.toList_toArray]
   rw [List.getElem?_take]
   have hcur:∀ j,j < n*sz→cur.toList[j]?=xs[j]?:=fun j hj=>by rw [←htake,List.getElem?_take,if_pos hj]
   by_cases hj:j < n*sz
   ·rw [if_pos hj]
    by_cases h1:j < off
    ·rw [List.append_assoc,List.append_assoc,List.getElem?_append_left (by simp; omega),List.getElem?_append_left (by simp; omega),List.getElem?_take,List.getElem?_take,if_pos h1,if_pos h1]
     exact hcur j hj
    ·by_cases h2:j < off+new.length
     ·have key:∀ l r:List Value,l.length=off→(l++new++r)[j]?=new[j-off]?:=fun l r hl=>by
       rw [List.append_assoc,List.getElem?_append_right (by omega),hl,List.getElem?_append_left (by omega)]
      rw [key _ _ (by simp; omega),key _ _ (by simp; omega)]
     ·have key:∀ l r:List Value,l.length=off→(l++new++r)[j]?=r[j-(off+new.length)]?:=fun l r hl=>by
       rw [List.getElem?_append_right (by simp; omega)]; congr 1; simp; omega
      rw [key _ _ (by simp; omega),key _ _ (by simp; omega),List.getElem?_drop,List.getElem?_drop]
      have e3:off+new.length+(j-(off+new.length))=j:=by omega
      rw [e3]
      exact hcur j hj
   ·rw [if_neg hj]
    rw [List.getElem?_eq_none]
    simp; omega
theorem rows_store {lim:Nat→Nat} {sz n:Nat} {rows:List (List D)} {xs us:List Value} (h:RowsRep lim w sz n rows xs) (hx:xs.length=n*sz) {i off:Nat} {row new:List D} (hi:rows[i]?=some row) (hoff:off+new.length≤sz)
  (hu:us.length=new.length) (hrep:∀ (j:Nat) c u,new[j]?=some c→us[j]?=some u→DRep lim w c u∧u.oneCell'=true) :
  RowsRep lim w sz n (rows.set i (row.take off++new++row.drop (off+new.length))) (xs.take (i*sz+off)++us++xs.drop (i*sz+off+us.length)):=by
 have hrl:=h.row row (List.mem_of_getElem? hi)
 have hin:i < rows.length:=(List.getElem?_eq_some_iff.1 hi).1
 have hnl:(row.take off++new++row.drop (off+new.length)).length=sz:=by simp; omega
 have hrows:∀ r,r∈rows.set i (row.take off++new++row.drop (off+new.length))→r.length=sz:=fun r hr=>by
  rcases List.mem_or_eq_of_mem_set hr with h1 | h1
  ·exact h.row r h1
  ·rw [h1]; exact hnl
 refine ⟨by simpa using h.len,hrows,fun j c u hc hu'=>?_⟩
 have hfl:=flat_len hrows
 have hjl:j < n*sz:=by rw [←h.len]; have:=(List.getElem?_eq_some_iff.1 hc).1; rw [hfl] at this; simpa using this
 have hsz:0 < sz:=by
  rcases Nat.eq_zero_or_pos sz with h0 | h0
  ·subst h0; omega
  ·exact h0
 have hdm:j=(j / sz)*sz+j % sz:=by rw [Nat.mul_comm]; exact (Nat.div_add_mod j sz).symm
 have hq:j / sz < rows.length:=by rw [h.len]; exact Nat.div_lt_of_lt_mul (by rw [Nat.mul_comm]; exact hjl)
 have hm:j % sz < sz:=Nat.mod_lt _ hsz
 have hlt:i*sz+off+us.length≤n*sz:=by
  have:(i+1)*sz≤n*sz:=Nat.mul_le_mul_right _ (by rw [←h.len]; omega)
  rw [Nat.add_mul] at this
  omega
 by_cases hqi:j / sz=i
 ·-- in the row that is written
  have hget:(rows.set i (row.take off++new++row.drop (off+new.length)))[j / sz]?=some (row.take off++new++row.drop (off+new.length)):=by rw [hqi,List.getElem?_set,if_pos rfl,if_pos hin]
  have hcc:=flat_get hrows hget (List.getElem?_eq_getElem (show j % sz < _ by rw [hnl]; exact hm))
  rw [←hdm,hc] at hcc
  have hcell:(row.take off++new++row.drop (off+new.length))[j % sz]?=some c:=by cases hcc; exact List.getElem?_eq_getElem _
  rw [hqi] at hdm
  by_cases h1:j % sz < off
  ·rw [List.append_assoc,List.getElem?_append_left (by simp; omega),List.getElem?_take,if_pos h1] at hcell
   rw [List.append_assoc,List.getElem?_append_left (by simp; omega),List.getElem?_take,if_pos (by omega)] at hu'
   obtain ⟨u2,a1,a2⟩:=h.get hx hi hcell
   rw [←hdm,hu'] at a1
   cases a1
   exact a2
  ·by_cases h2:j % sz < off+new.length
   ·rw [List.append_assoc,List.getElem?_append_right (by simp; omega),List.getElem?_append_left (by simp; omega)] at hcell
    rw [List.append_assoc,List.getElem?_append_right (by simp; omega),List.getElem?_append_left (by simp; omega)] at hu'
    have e1:(List.take off row).length=off:=by simp; omega
    have e2:(List.take (i*sz+off) xs).length=i*sz+off:=by simp; omega
    rw [e1] at hcell
    rw [e2] at hu'
    have e3:j-(i*sz+off)=j % sz-off:=by omega
    rw [e3] at hu'
    exact hrep _ c u hcell hu'
   ·rw [List.getElem?_append_right (by simp; omega)] at hcell hu'
    have e1:(List.take off row++new).length=off+new.length:=by simp; omega
    have e2:(List.take (i*sz+off) xs++us).length=i*sz+off+us.length:=by simp; omega
    rw [e1,List.getElem?_drop] at hcell
    rw [e2,List.getElem?_drop] at hu'
    have e3:off+new.length+(j % sz-(off+new.length))=j % sz:=by omega
    have e4:i*sz+off+us.length+(j-(i*sz+off+us.length))=j:=by omega
    rw [e3] at hcell
    rw [e4] at hu'
    obtain ⟨u2,a1,a2⟩:=h.get hx hi hcell
    rw [←hdm,hu'] at a1
    cases a1
    exact a2
 ·have hget:(rows.set i (row.take off++new++row.drop (off+new.length)))[j / sz]?=some rows[j / sz]:=by rw [List.getElem?_set,if_neg (Ne.symm hqi)]; exact List.getElem?_eq_getElem hq
  have hrl2:=h.row rows[j / sz] (List.getElem_mem hq)
  have hcc:=flat_get hrows hget (List.getElem?_eq_getElem (show j % sz < _ by rw [hrl2]; exact hm))
  rw [←hdm,hc] at hcc
  have hcell:rows[j / sz][j % sz]?=some c:=by cases hcc; exact List.getElem?_eq_getElem _
  have hux:xs[j]?=some u:=by
   by_cases h1:j < i*sz+off
   ·rw [List.append_assoc,List.getElem?_append_left (by simp; omega),List.getElem?_take,if_pos h1] at hu'
    exact hu'
   ·have:¬ j < i*sz+off+us.length:=by
     intro h2
     apply hqi
     have h3:j < (i+1)*sz:=by rw [Nat.add_mul]; omega
     have h4:i*sz≤j:=by omega
     exact Nat.le_antisymm (Nat.le_of_lt_succ (Nat.div_lt_of_lt_mul (by rw [Nat.mul_comm]; exact h3))) ((Nat.le_div_iff_mul_le hsz).2 h4)
    rw [List.getElem?_append_right (by simp; omega)] at hu'
    have e2:(List.take (i*sz+off) xs++us).length=i*sz+off+us.length:=by simp; omega
    rw [e2,List.getElem?_drop] at hu'
    have e4:i*sz+off+us.length+(j-(i*sz+off+us.length))=j:=by omega
    rw [e4] at hu'
    exact hu'
  obtain ⟨u2,a1,a2⟩:=h.get hx (List.getElem?_eq_getElem hq) hcell
  rw [←hdm,hux] at a1
  cases a1
  exact a2
end rep
section rules
variable {P:Program} {f:Ctx} {N:Nat} {S:Start} {Q:EV→St→Prop} {k:List Item} {todo:List Item} {base:Nat} {env:Env} {st:St} {ops rest:List Oper}
 {d:Option Tmp} {ty:TypeId} {pos:String} {after:Array Edge} {gd:Option (Nat×Bool)} {t t2 e:TypeId} {x y z:Operand}
theorem ARun.lenV {α:Type} {tk:Nat} {e sz n:Nat} {l:List α} {row:α→List D} (htl:st.tails[tk]?=some ⟨e,sz,n,some (l.map row)⟩) (h:n=l.length→ARun P f N S Q todo env st):ARun P f N S Q todo env st:=by
 intro g w tmps hinv
 obtain ⟨xs,_,_,h3⟩:=hinv.own tk e sz n _ htl
 exact h (by have:=h3.len; simpa using this.symm) g w tmps hinv
theorem Inv.freeze {g:Ghost} {w:World} {tk e sz n:Nat} {rows:List (List D)} (h:Inv g base w st) (htl:st.tails[tk]?=some ⟨e,sz,n,some rows⟩) :
  ∃ g',g'.tk tk=g.tk tk∧Inv g' base w (st.setTail tk ⟨e,sz,n,none⟩)∧Step base g w st g' w (st.setTail tk ⟨e,sz,n,none⟩)∧DRep g'.lim w (.sl sz rows) (g.tk tk):=by
 obtain ⟨xs,h1,h2,h3⟩:=h.own tk e sz n rows htl
 obtain ⟨g',k1,k2,k3,k4⟩:=h.turn (x':=⟨e,sz,n,none⟩) (v':=g.tk tk) (w':=w) htl h1 (.inl ⟨rfl,rfl,⟨rfl,rfl,rfl,Nat.le_refl _,fun _ _ _=>rfl⟩⟩) (fun hh=>by cases hh) (fun rows _ rows' hh=>by cases hh) (fun rows hh=>by cases hh)
 refine ⟨g',k1,k3,k4,own_sl h1 h3.len h3.row (fun b hb=>by rw [k2 b hb,pub_none rfl]; exact Nat.le_refl _) fun j u c hu hc=>?_⟩
 exact ⟨(h3.rep j c u hc hu).1.mono k4.sevo.evo,(h3.rep j c u hc hu).2⟩
section sl
variable {α:Type} {sz:Nat} {row:α→List D} {l:List α} {ev:EV} {inf:TypeInfo} {tk n:Nat}
theorem q_idxV [Inhabited α] {kk:IntKind} {i:Int} {e':Nat} (ht:P.underlying t=some (.slice e)) (hi:P.info? e=some inf) (hsz:inf.size=sz) (hx:evo env x=some (.vc tk n)) (htl:st.tails[tk]?=some ⟨e',sz,n,some (l.map row)⟩) (hy:evo env y=some (.d (.ex (.int kk i)))) (h:0≤i∧i < l.length) :
  OpQ P env st ⟨d,.indexAddr t x y,ty,pos,after,gd⟩ (.vp tk n i.toNat 0):=fun g base w tmps hinv he=>by
 have hvk0:Act.eval ⟨tmps,[]⟩ x=g.tk tk:=by
  rcases vc_or hinv htl (evo_rep he hx) with hvk | ⟨n0,r0,A,hv⟩
  ·exact hvk
  ·have hl:l=[]:=by simpa using r0
   rw [hl] at h; simp at h; omega
 obtain ⟨hvk,xs,h2,_,h4⟩:=vc_val hinv htl hvk0
 have hn:n=l.length:=by have:=h4.len; simpa using this.symm
 obtain ⟨b,c,hv⟩:=(own_form h2).2 (by omega)
 have hlen:tk < st.tails.length:=(List.getElem?_eq_some_iff.1 htl).1
 subst hsz
 refine ⟨.pointer (some ⟨b,i.toNat*inf.size,none⟩),.vp _ _ _ _ _ hlen ⟨_,_,rfl⟩ fun x rows hx ho=>?_,fun w' _=>?_⟩
 ·rw [htl] at hx
  cases hx
  exact ⟨Nat.le_refl _,fun _=>⟨b,n,c,by rw [←hvk,hv],rfl⟩⟩
 ·have:=index_run (d:=d) (ty:=ty) (pos:=pos) (after:=after) (gd:=gd) ht hi hv (evo_rep he hy).ex_inv h.1 (by omega) w'
  rw [Addr.add_lit,Nat.zero_add] at this
  exact this
theorem q_fieldVp {s:TypeId} {f off:Nat} {i o:Nat} (hf:fieldOff P s f=some off) (hx:evo env x=some (.vp tk n i o)) :
  OpQ P env st ⟨d,.fieldAddr s x f,ty,pos,after,gd⟩ (.vp tk n i (o+off)):=fun g base w tmps hinv he=>by
 have h:=evo_rep he hx
 generalize hv:Act.eval ⟨tmps,[]⟩ x=v at h
 cases h with
 | vp _ _ _ _ _ ht hf' hh =>
  obtain ⟨b,o',rfl⟩:=hf'
  refine ⟨.pointer (some ⟨b,o'+off,none⟩),.vp _ _ _ _ _ ht ⟨_,_,rfl⟩ fun x rows hx ho=>?_,fun w' _=>by simp [execOp,hv,fieldPlace_run hf,Addr.add_lit]⟩
  obtain ⟨h1,h2⟩:=hh x rows hx ho
  refine ⟨h1,fun e=>?_⟩
  obtain ⟨b2,m,c,a1,a2⟩:=h2 e
  cases a2
  exact ⟨b,m,c,a1,by rw [Nat.add_assoc]⟩
theorem vp_cells {g:Ghost} {w:World} {i o e':Nat} {v:Value} {r:List D} {rows:List (List D)} (hinv:Inv g base w st) (htl:st.tails[tk]?=some ⟨e',sz,n,some rows⟩) (hv:EVRep g w st (.vp tk n i o) v) (hr:rows[i]?=some r) :
  ∃ b c xs,g.tk tk=.slice (some ⟨b,0,none⟩) n c∧v=.pointer (some ⟨b,i*sz+o,none⟩)∧w.ownsRow base e' sz (.slice (some ⟨b,0,none⟩) n c) n xs∧g.lim b=0∧RowsRep g.lim w sz n rows xs∧b < w.heap.size ∧
   ∀ j cc,r[j]?=some cc→∃ u,w.cell? ⟨b,i*sz+j,none⟩=some u∧xs[i*sz+j]?=some u∧DRep g.lim w cc u∧u.oneCell'=true:=by
 cases hv with
 | vp _ _ _ _ _ ht hf' hh =>
  obtain ⟨b,m,c,a1,a2⟩:=(hh _ rows htl rfl).2 rfl
  obtain ⟨xs,h1,h2,h3⟩:=hinv.own tk e' sz n rows htl
  rw [a1] at h1 h2
  have hm:m=n:=by
   rcases h1.2 with ⟨hh,_⟩ | ⟨_,_,_,hh,_⟩
   ·cases hh
   ·cases hh; rfl
  subst hm
  refine ⟨b,c,xs,a1,a2,h1,h2 b rfl,h3,(h1.lt b rfl).2,fun j cc hj=>?_⟩
  obtain ⟨u,k1,k2⟩:=h3.get h1.1 hr hj
  have:=h1.cells (g:=b) rfl _ u k1
  rw [Addr.add_lit,Nat.zero_add] at this
  exact ⟨u,this,k1,k2⟩
theorem q_loadVpA [Inhabited α] {i o e' m:Nat} {cs:List D} (h1:(P.underlying t).map oneB=some false) (hs:(P.info? t).map (·.size)=some m) (hx:evo env x=some (.vp tk n i o)) (htl:st.tails[tk]?=some ⟨e',sz,n,some (l.map row)⟩) (hi:i < l.length)
  (hm:o+m≤sz) (hc:((row (nth l i)).drop o).take m=cs):OpQ P env st ⟨d,.load t x,ty,pos,after,gd⟩ (.d (.agg cs)):=fun g base w tmps hinv he=>by
 obtain ⟨b,cp,xs,a1,a2,a3,a4,a5,a6,a7⟩:=vp_cells hinv htl (evo_rep he hx) (mapnth hi)
 have hrl:(row (nth l i)).length=sz:=a5.row _ (List.mem_of_getElem? (mapnth hi))
 have hl:cs.length=m:=by rw [←hc]; simp; omega
 let us:List Value:=(xs.drop (i*sz+o)).take m
 have hus:∀ j u,us[j]?=some u→j < m∧xs[i*sz+(o+j)]?=some u:=fun j u hu=>by
  simp only [us,List.getElem?_take,List.getElem?_drop] at hu
  split at hu
  ·rename_i hj
   exact ⟨hj,by rw [←hu]; congr 1; omega⟩
  ·cases hu
 have hcell:∀ j,j < m→∃ cc u,cs[j]?=some cc∧us[j]?=some u∧w.cell? ⟨b,i*sz+o+j,none⟩=some u∧DRep g.lim w cc u∧u.oneCell'=true:=fun j hj=>by
  have e1:(row (nth l i))[o+j]?=some ((row (nth l i))[o+j]'(by omega)):=List.getElem?_eq_getElem _
  obtain ⟨u,k1,k2,k3,k4⟩:=a7 (o+j) _ e1
  refine ⟨_,u,by rw [show cs[j]?=(((row (nth l i)).drop o).take m)[j]? from by rw [hc],List.getElem?_take,if_pos hj,List.getElem?_drop]; exact e1,?_,by rw [Nat.add_assoc]; exact k1,k3,k4⟩
  simp only [us,List.getElem?_take,List.getElem?_drop]
  rw [if_pos hj,←k2]; congr 1; omega
 have hul:us.length=m:=by
  have h1:=a3.1
  have hin:i < n:=by have:=a5.len; simp at this; omega
  have h2:(i+1)*sz≤n*sz:=Nat.mul_le_mul_right _ hin
  rw [Nat.add_mul] at h2
  simp [us]; omega
 refine ⟨.agg us.toArray,.d _ _ (.agg _ _ (by simp [hul,hl]) (fun j u hu=>?_) (fun j cc u hcc hu=>?_)),fun w' hb=>?_⟩
 ·obtain ⟨hj,_⟩:=hus j u (by simpa using hu)
  obtain ⟨cc,u',b1,b2,b3,b4,b5⟩:=hcell j hj
  have:us[j]?=some u:=by simpa using hu
  rw [b2] at this; cases this; exact b5
 ·obtain ⟨hj,_⟩:=hus j u (by simpa using hu)
  obtain ⟨cc',u',b1,b2,b3,b4,b5⟩:=hcell j hj
  have:us[j]?=some u:=by simpa using hu
  rw [b2] at this; cases this
  rw [b1] at hcc; cases hcc
  exact b4
 ·obtain ⟨inf,hinf,hsz'⟩:∃ inf,P.info? t=some inf∧inf.size=m:=by
   cases hh:P.info? t with
   | none=>rw [hh] at hs; cases hs
   | some inf=>rw [hh] at hs; exact ⟨inf,rfl,by simpa using hs⟩
  have hload:=loadCells_run (P:=P) (w:=w') (b:=b) (off:=i*sz+o) hul (fun j u hu=>by
   obtain ⟨hj,_⟩:=hus j u hu
   obtain ⟨cc,u',b1,b2,b3,b4,b5⟩:=hcell j hj
   rw [b2] at hu; cases hu
   exact (hb.cell (p:=⟨b,i*sz+o+j,none⟩) a6).trans b3)
  simp [execOp,a2,Instr.loadAt,Instr.sureAddr,loadVar,isAgg_yes h1,sizeOf,typeInfo,hinf,hsz',hload]
theorem u_storeV [Inhabited α] {i o e' m:Nat} {new:List D} {a:α} (hx:evo env x=some (.vp tk n i o)) (htl:st.tails[tk]?=some ⟨e',sz,n,some (l.map row)⟩) (hi:i < l.length) (hy:evo env y=some ev) (hc:cellsD ev=some new)
  (hs:(P.info? t).map (·.size)=some m) (hm:new.length=m) (hof:o+m≤sz) (ha:(row (nth l i)).take o++new++(row (nth l i)).drop (o+new.length)=row a) :
  OpU P base env st ⟨d,.store t x y,ty,pos,after,gd⟩ (st.setTail tk ⟨e',sz,n,some ((l.set i a).map row)⟩):=by
 intro g w tmps hinv he
 obtain ⟨b,cp,xs,a1,a2,a3,a4,a5,a6,a7⟩:=vp_cells hinv htl (evo_rep he hx) (mapnth hi)
 have hcr:=cellsD_rep hc (evo_rep he hy)
 generalize hu:Act.eval ⟨tmps,[]⟩ y=u at hcr
 have hul:u.cells.toList.length=new.length:=by simpa using hcr.1
 have hin:i < n:=by have:=a5.len; simp at this; omega
 have h2:(i+1)*sz≤n*sz:=Nat.mul_le_mul_right _ hin
 rw [Nat.add_mul] at h2
 have hone:∀ v∈u.cells.toList,v.oneCell'=true:=fun v hv=>by
  obtain ⟨j,hj⟩:=List.mem_iff_getElem?.1 hv
  have hjl:=(List.getElem?_eq_some_iff.1 hj).1
  exact (hcr.2 j new[j] v (List.getElem?_eq_getElem (by omega)) (by simpa using hj)).2
 obtain ⟨w',k1,k2,k3,k4⟩:=own_store (P:=P) a3 (i*sz+o) u.cells.toList (by omega) hone
 have hrows:=rows_store (us:=u.cells.toList) (new:=new) (off:=o) a5 a3.1 (mapnth hi) (by omega) hul (fun j c v hcc hv=>hcr.2 j c v hcc (by simpa using hv))
 rw [ha] at hrows
 have hset:(l.map row).set i (row a)=(l.set i a).map row:=by rw [List.map_set]
 rw [hset] at hrows
 obtain ⟨g',q1,q2,q3,q4⟩:=hinv.turn (x':=⟨e',sz,n,some ((l.set i a).map row)⟩) (v':=g.tk tk) (w':=w') htl (by rw [a1]; exact k2) (.inl ⟨rfl,k4,by rw [a1]; exact k3⟩) (fun hh=>by cases hh) (fun rows _ rows' _=>⟨rfl,Nat.le_refl _,fun _=>rfl⟩) (fun rows hh=>by cases hh; exact hrows)
 refine ⟨g',w',?_,q3,q4⟩
 obtain ⟨inf,hinf,hsz'⟩:∃ inf,P.info? t=some inf∧inf.size=m:=by
  cases hh:P.info? t with
  | none=>rw [hh] at hs; cases hs
  | some inf=>rw [hh] at hs; exact ⟨inf,rfl,by simpa using hs⟩
 have hcz:u.cells.size=m:=by have:=hcr.1; omega
 simp [execOp,hu,a2,Instr.storeAt,Instr.sureAddr,storeVar,sizeOf,typeInfo,hinf,hsz',hcz,k1]
end sl
end rules
section rules
variable {P:Program} {f:Ctx} {N:Nat} {S:Start} {Q:EV→St→Prop} {k:List Item} {todo:List Item} {base:Nat} {env:Env} {st:St} {ops rest:List Oper}
 {d:Option Tmp} {ty:TypeId} {pos:String} {after:Array Edge} {gd:Option (Nat×Bool)} {t t2 e:TypeId} {x y z:Operand}
section sl
variable {α:Type} {sz:Nat} {row:α→List D} {l:List α} {ev:EV} {inf:TypeInfo} {tk n:Nat}
theorem append_valV' {l':List α} {zv:Value} {d2:TypeDesc} {g:Ghost} {w:World} {v u:Value} {news:List Value} (ht:P.underlying t=some (.slice e)) (ht2:P.underlying t2=some d2) (hn2:d2=.string∨∃ e2,d2=.slice e2)
  (hi:P.info? e=some inf) (hz:inf.zero=some zv) (hsize:inf.size=sz) (hzs:zv.cells.size=sz) (hb:inf.bytes≤100000) (hinv:Inv g base w st) (hv:v=g.tk tk) (htl:st.tails[tk]?=some ⟨e,sz,n,some (l.map row)⟩)
  (hn:l.length+l'.length≤1000000000) (hsr:SrcRep P g.lim w sz u (l'.map row) news) :
  ∃ v' g' w',(Builtin.append_ #[t,t2] ty #[v,u]).run P w=.ok v' w'∧EVRep g' w' (st.setTail tk ⟨e,sz,(l++l').length,some ((l++l').map row)⟩) (.vc tk (l++l').length) v' ∧
   Inv g' base w' (st.setTail tk ⟨e,sz,(l++l').length,some ((l++l').map row)⟩)∧Step base g w st g' w' (st.setTail tk ⟨e,sz,(l++l').length,some ((l++l').map row)⟩):=by
 obtain ⟨hvk,xs,hown,hlim,hrr⟩:=vc_val hinv htl hv
 have hnl:n=l.length:=by have:=hrr.len; simpa using this.symm
 have hm:(l'.map row).length=l'.length:=by simp
 obtain ⟨v',w',hrun,hown',hm0,hc⟩:=run_append3 (P:=P) (ty:=ty) w ht ht2 hn2 hi hz hsize hzs hown hsr.src (by simp only [maxLen]; rw [hm]; omega) (by rw [hm,hnl]; exact big_le hn hb) hinv.base
 rw [hm] at hown' hm0
 have e1:(l++l').length=n+l'.length:=by rw [List.length_append,hnl]
 rw [e1]
 rw [hvk] at hc hm0
 have hrows:RowsRep g.lim w sz (n+l'.length) ((l++l').map row) (xs++news):=by
  refine ⟨by simp [hnl],fun r hr=>?_,fun j c u hcc hu=>?_⟩
  ·rw [List.map_append] at hr
   rcases List.mem_append.1 hr with h | h
   ·exact hrr.row r h
   ·exact hsr.rows r h
  ·rw [List.map_append,List.flatten_append] at hcc
   have hfl:=flat_len hrr.row
   have hxl:=hown.1
   rw [hrr.len] at hfl
   by_cases hj:j < xs.length
   ·rw [List.getElem?_append_left hj] at hu
    rw [List.getElem?_append_left (by omega)] at hcc
    exact hrr.rep j c u hcc hu
   ·rw [List.getElem?_append_right (by omega)] at hu
    rw [List.getElem?_append_right (by omega)] at hcc
    have e2:((l.map row).flatten).length=xs.length:=by omega
    rw [e2] at hcc
    exact hsr.rep _ u c hu hcc
 obtain ⟨g',q1,q2,q3,q4⟩:=hinv.turn (x':=⟨e,sz,n+l'.length,some ((l++l').map row)⟩) htl hown' hc (fun hh=>by cases hh) (fun rows _ rows' _=>⟨rfl,Nat.le_add_right _ _,fun e=>hm0 (by simp only at e; omega)⟩) (fun rows hh=>by cases hh; exact hrows)
 refine ⟨v',g',w',hrun,?_,q3,q4⟩
 have hlen:tk < st.tails.length:=(List.getElem?_eq_some_iff.1 htl).1
 obtain ⟨⟨A,c,hv⟩,_⟩:=own_form hown'
 refine .vc _ _ _ (by simpa [St.setTail] using hlen) ⟨A,_,c,hv⟩ fun y rows hy ho=>?_
 have:y=⟨e,sz,n+l'.length,some ((l++l').map row)⟩:=by
  have:(⟨e,sz,n+l'.length,some ((l++l').map row)⟩:Tail)=y:=by simpa [St.setTail,List.getElem?_set,hlen] using hy
  exact this.symm
 subst this
 exact ⟨Nat.le_refl _,fun _=>.inl q1.symm⟩
theorem append_valV {l':List α} {zv:Value} {d2:TypeDesc} {g:Ghost} {w:World} {v u:Value} {news:List Value} (ht:P.underlying t=some (.slice e)) (ht2:P.underlying t2=some d2) (hn2:d2=.string∨∃ e2,d2=.slice e2)
  (hi:P.info? e=some inf) (hz:inf.zero=some zv) (hsize:inf.size=sz) (hzs:zv.cells.size=sz) (hb:inf.bytes≤100000) (hinv:Inv g base w st) (hv:EVRep g w st (.vc tk n) v) (htl:st.tails[tk]?=some ⟨e,sz,n,some (l.map row)⟩)
  (hn:l.length+l'.length≤1000000000) (hsr:SrcRep P g.lim w sz u (l'.map row) news) :
  ∃ v' g' w',(Builtin.append_ #[t,t2] ty #[v,u]).run P w=.ok v' w'∧EVRep g' w' (st.setTail tk ⟨e,sz,(l++l').length,some ((l++l').map row)⟩) (.vc tk (l++l').length) v' ∧
   Inv g' base w' (st.setTail tk ⟨e,sz,(l++l').length,some ((l++l').map row)⟩)∧Step base g w st g' w' (st.setTail tk ⟨e,sz,(l++l').length,some ((l++l').map row)⟩):=by
 rcases vc_or hinv htl hv with hvk | ⟨n0,r0,A,hA⟩
 ·exact append_valV' ht ht2 hn2 hi hz hsize hzs hb hinv hvk htl hn hsr
 ·subst n0
  have hl:l=[]:=by simpa using r0
  subst hl
  have hlen:tk < st.tails.length:=(List.getElem?_eq_some_iff.1 htl).1
  have hm:(l'.map row).length=l'.length:=by simp
  obtain ⟨q1,q2⟩:=append_emp (P:=P) (ty:=ty) ht ht2 hn2 hi hz hsize hsr.src (by simp at hn ⊢; omega) (by rw [hm]; exact big_le (by simpa using hn) hb) A
  by_cases h0:l'.length=0
  ·have hl':l'=[]:=List.eq_nil_of_length_eq_zero h0
   subst hl'
   have hsame:st.setTail tk ⟨e,sz,([]++[]:List α).length,some (([]++[]:List α).map row)⟩=st:=by
    have h3:st.tails[tk]=⟨e,sz,0,some (([]:List α).map row)⟩:=(List.getElem?_eq_some_iff.1 htl).2
    unfold St.setTail
    show (⟨st.objs,st.tails.set tk ⟨e,sz,0,some (([]:List α).map row)⟩⟩:St)=st
    rw [←h3,List.set_getElem_self]
   rw [hsame]
   exact ⟨v,g,w,by rw [hA]; exact q1 rfl,vc_emp hlen htl ⟨A,hA⟩,hinv,.refl _ _ _ _⟩
  ·obtain ⟨v',w',hrun,hown',_,hc⟩:=run_append3 (P:=P) (ty:=ty) w ht ht2 hn2 hi hz hsize hzs (World.ownsRow_nil w base e sz) hsr.src (by simp only [maxLen]; rw [hm]; simp at hn; omega) (by rw [hm]; exact big_le (by simpa using hn) hb) hinv.base
   rw [hm] at hown'
   have hc':v'.ownBlock=some w.heap.size∧Below w.heap.size w w':=by
    rcases hc with ⟨h1,_⟩ | h
    ·exfalso
     rcases hown'.2 with ⟨_,h2⟩ | ⟨gb,cap,cur,h2,_⟩
     ·exact h0 (by omega)
     ·rw [h2] at h1; cases h1
    ·exact h
   have e1:([]++l':List α).length=0+l'.length:=by simp
   rw [e1]
   have hrows:RowsRep g.lim w sz (0+l'.length) (([]++l':List α).map row) ([]++news):=by
    refine ⟨by simp,fun r hr=>hsr.rows r (by simpa using hr),fun j c u hcc hu=>?_⟩
    exact hsr.rep j u c (by simpa using hu) (by simpa using hcc)
   obtain ⟨g',q1',q2',q3,q4⟩:=hinv.turn (x':=⟨e,sz,0+l'.length,some (([]++l':List α).map row)⟩) htl hown' (.inr hc') (fun hh=>by cases hh) (fun rows _ rows' _=>⟨rfl,Nat.zero_le _,fun e=>absurd e (by simp only; omega)⟩) (fun rows hh=>by cases hh; exact hrows)
   refine ⟨v',g',w',by rw [hA,q2 (by rw [hm]; exact h0)]; exact hrun,?_,q3,q4⟩
   obtain ⟨⟨A',c,hv'⟩,_⟩:=own_form hown'
   refine .vc _ _ _ (by simpa [St.setTail] using hlen) ⟨A',_,c,hv'⟩ fun y rows hy ho=>?_
   have:y=⟨e,sz,0+l'.length,some (([]++l':List α).map row)⟩:=by
    have:(⟨e,sz,0+l'.length,some (([]++l':List α).map row)⟩:Tail)=y:=by simpa [St.setTail,List.getElem?_set,hlen] using hy
    exact this.symm
   subst this
   exact ⟨Nat.le_refl _,fun _=>.inl q1'.symm⟩
theorem append_coreV {l':List α} {zv:Value} {d2:TypeDesc} (ht:P.underlying t=some (.slice e)) (ht2:P.underlying t2=some d2) (hn2:d2=.string∨∃ e2,d2=.slice e2)
  (hi:P.info? e=some inf) (hz:inf.zero=some zv) (hsize:inf.size=sz) (hzs:zv.cells.size=sz) (hb:inf.bytes≤100000) (hx:evo env x=some (.vc tk n)) (htl:st.tails[tk]?=some ⟨e,sz,n,some (l.map row)⟩)
  (hn:l.length+l'.length≤1000000000)
  (hsrc:∀ (g:Ghost) (w:World) (tmps:Array Value),Inv g base w st→EnvRep g w st env tmps→∃ news,SrcRep P g.lim w sz (Act.eval ⟨tmps,[]⟩ y) (l'.map row) news) :
  OpV P base env st ⟨d,.call ⟨.builtin .append,#[x,y],#[t,t2]⟩,ty,pos,after,gd⟩ (.vc tk (l++l').length) (st.setTail tk ⟨e,sz,(l++l').length,some ((l++l').map row)⟩):=by
 intro g w tmps hinv he
 obtain ⟨news,hsr⟩:=hsrc g w tmps hinv he
 obtain ⟨v',g',w',hrun,h1,h2,h3⟩:=append_valV (ty:=ty) ht ht2 hn2 hi hz hsize hzs hb hinv (evo_rep he hx) htl hn hsr
 exact ⟨v',g',w',by simp [execOp,resolve,invoke,builtin,hrun],h1,h2,h3⟩
theorem v_appendV {l':List α} {zv:Value} {w:EV} (ht:P.underlying t=some (.slice e)) (hi:P.info? e=some inf) (hz:inf.zero=some zv) (hsize:inf.size=sz) (hzs:zv.cells.size=sz) (hb:inf.bytes≤100000)
  (hx:evo env x=some (.vc tk n)) (htl:st.tails[tk]?=some ⟨e,sz,n,some (l.map row)⟩) (hy:evo env y=some w) (hs:asSl w=some (sz,l'.map row)) (hn:l.length+l'.length≤1000000000) :
  OpV P base env st ⟨d,.call ⟨.builtin .append,#[x,y],#[t,t]⟩,ty,pos,after,gd⟩ (.vc tk (l++l').length) (st.setTail tk ⟨e,sz,(l++l').length,some ((l++l').map row)⟩) :=
 append_coreV ht ht (.inr ⟨e,rfl⟩) hi hz hsize hzs hb hx htl hn fun g w tmps _ he=>srcRep_sl (asSl_rep hs (evo_rep he hy))
end sl
end rules
theorem okMap {n m:Nat} {κ α:Type} {ke:κ→Value} {val:α→D} {l:List (κ×α)}:okObj n m (.map (mEnc ke val l))=true:=by
 unfold okObj mEnc
 rw [List.all_eq_true]
 intro p hp
 obtain ⟨q,_,rfl⟩:=List.mem_map.1 hp
 rfl
theorem renMap {ρ τ:Nat→Nat} {κ α:Type} {ke:κ→Value} {val:α→D} {l:List (κ×α)}:AObj.ren ρ τ (.map (mEnc ke val l))=.map (mEnc ke val l):=by
 simp [AObj.ren,mEnc,EV.ren]
theorem renArr {ρ τ:Nat→Nat} {T:TypeId} {α:Type} {l:List α} {c1:α→D}:AObj.ren ρ τ (.row T (l.map fun b=>EV.d (c1 b)))=.row T (l.map fun b=>EV.d (c1 b)):=by
 have h:∀ l:List α,EV.ren.rens ρ τ (l.map fun b=>EV.d (c1 b))=l.map fun b=>EV.d (c1 b):=by
  intro l
  induction l with
  | nil=>rfl
  | cons x l ih=>rw [List.map_cons,EV.ren.rens,ih]; rfl
 rw [AObj.ren,h]
section drawn
variable {P:Program} {f:Ctx} {N:Nat} {S:Start} {Q:EV→St→Prop} {k:List Item}
def OpE (P:Program) (base:Nat) (l:List Oper) (env:Env) (st:St) (o:Oper) (x:EV) (st':St):Prop :=
 (st'=st∧OpAny P l env st o x)∨(o.guard=none∧OpV P base env st o x st')∨(o.guard=none∧x=.d .any∧OpU P base env st o st')
theorem drawn_mainF {l:List Oper} {p:Nat} {env:Env} {xs:List EV} (F:(Nat→Bool)→St→Prop) (hp:p≤l.length) (hxp:xs.length=p)
  (hC1:∀ i j t,i < p→j < p→i≠j→dstAt l i=some t→dstAt l j≠some t)
  (hC2:∀ (i:Nat) o,i < p→l[i]?=some o→∀ t∈slots l o,∀ j,j < p→j≠i→dstAt l j=some t→(j < i∧((masks l []).getD i 0).testBit j=true)∨(i < j∧((masks l []).getD j 0).testBit i=true))
  (hord:∀ i,p≤i→i < l.length→∀ j,j < i→((masks l []).getD i 0).testBit j=true)
  (hacyc:∀ (i:Nat) o,l[i]?=some o→∀ e∈o.after,Region.binds .any e=true→e.on < i)
  (hstep:∀ (L:Nat→Bool) (st:St) (i:Nat) (o:Oper),i < p→l[i]?=some o→L i=false→(∀ j,((masks l []).getD i 0).testBit j=true→L j=true)→(∀ a,L a=true→∀ b,((masks l []).getD a 0).testBit b=true→L b=true)→F L st →
   dstOk N o.dst=true∧∃ x st',xs[i]?=some x∧OpE P S.base l (renv l o (putAll env ((l.take p).take i) (xs.take i))) st o x st'∧F (fun j=>j==i || L j) st')
  (hsuf:∀ (L:Nat→Bool) (st:St),(∀ i,i < p→L i=true)→F L st→AOps P f N S Q l (l.drop p) k (putAll env (l.take p) xs) st) :
  ∀ (cnt fuel t:Nat) (listed:Array Bool) (g:Ghost) (w:World) (tmps:Array Value) (st:St),F (fun i=>listed.getD i false) st→listed.size=l.length→Closed l listed→(∀ i,p≤i→i < l.length→listed.getD i true=false) →
   (((List.range p).filter fun i=>!listed.getD i true).length=cnt)→cnt+(l.length-p)≤fuel→Inv g S.base w st→Hist S g w st→tmps.size=N →
   (∀ (s:Tmp),(∀ (j:Nat) x,j < p→listed.getD j false=true→dstAt l j=some s→xs[j]?=some x→∃ v,tmps[s]?=some v∧EVRep g w st x v) ∧
    ((∀ j,j < p→listed.getD j false=true→dstAt l j≠some s)→∀ y,lookup s env=some y→∃ v,tmps[s]?=some v∧EVRep g w st y v)) →
   FWP P f (RPost S Q) (.inRegion l.toArray (Region.linearise.go .any l.toArray fuel t listed []) :: k) tmps w:=by
 have hxl:xs.length=(l.take p).length:=by simp; omega
 have hxl':=hxp
 intro cnt
 induction cnt with
 | zero =>
  intro fuel t listed g w tmps st hF hs hcl hsu hcnt hfuel hinv hh hN hJ
  have hall:∀ i,i < p→listed.getD i true=true:=by
   intro i hi
   have h0:=List.eq_nil_of_length_eq_zero hcnt
   have hn:i ∉ (List.range p).filter fun i=>!listed.getD i true:=by rw [h0]; simp
   rw [List.mem_filter,List.mem_range] at hn
   cases hb:listed.getD i true with
   | true=>rfl
   | false=>exact absurd ⟨hi,by simp [hb]⟩ hn
  have hgo:=go_suffix hord hacyc fuel t p listed (Nat.le_refl _) hp (by omega) hs (fun i hi=>by
   by_cases h:i < p
   ·rw [hall i h]; simp [h]
   ·rw [hsu i (by omega) hi]; simp [h])
  rw [hgo]
  have hdl:(l.drop p).length=l.length-p:=by simp
  rw [←hdl]
  have hallF:∀ i,i < p→listed.getD i false=true:=fun i hi=>by
   have:=hall i hi
   have hlt:i < listed.size:=by omega
   simpa [Array.getD_eq_getD_getElem?,hlt] using this
  refine hsuf _ st hallF hF p (fun j=>by rw [List.getElem?_drop]) g w tmps hinv hh (fun s y hy=>?_) hN
  rcases lookup_putAll hxl hy with ⟨j,o,h1,h2,h3⟩ | ⟨h1,h2⟩
  ·have hj:j < p:=by have:=(List.getElem?_eq_some_iff.1 h2).1; omega
   have ho:l[j]?=some o:=by rw [List.getElem?_take] at h1; rw [if_pos hj] at h1; exact h1
   exact (hJ s).1 j y hj (hallF j hj) (by simp [dstAt,ho,h3]) h2
  ·refine (hJ s).2 (fun j hj _ hd=>?_) y h2
   cases ho:l[j]? with
   | none=>simp [dstAt,ho] at hd
   | some o=>exact h1 j o (by rw [List.getElem?_take,if_pos hj]; exact ho) (by simpa [dstAt,ho] using hd)
 | succ cnt ih =>
  intro fuel t listed g w tmps st hF hs hcl hsu hcnt hfuel hinv hh hN hJ
  obtain ⟨fuel,rfl⟩:∃ n,fuel=n+1:=⟨fuel-1,by omega⟩
  -- an operation of the beginning that has not come up
  have hex:∃ i,i < p∧listed.getD i true=false:=by
   have:(List.range p).filter (fun i=>!listed.getD i true)≠[]:=fun h=>by rw [h] at hcnt; simp at hcnt
   obtain ⟨i,hi⟩:=List.exists_mem_of_ne_nil _ this
   rw [List.mem_filter,List.mem_range] at hi
   exact ⟨i,hi.1,by simpa using hi.2⟩
  have hDF:∀ i,i < l.length→listed.getD i false=listed.getD i true:=fun i hi=>by
   have hlt:i < listed.size:=by omega
   simp [Array.getD_eq_getD_getElem?,hlt]
  have hrd:((List.range l.toArray.size).filter fun i=>!listed.getD i true && ((l.toArray[i]?).map (·.after.all fun e=>!Region.binds .any e || listed.getD e.on false)).getD false)=Region.ready .any l.toArray listed:=rfl
  -- the least such is ready
  have hne:Region.ready .any l.toArray listed≠[]:=by
   have hmin:∀ n i,i≤n→i < p→listed.getD i true=false→∃ i,i < p∧listed.getD i true=false∧∀ j,j < i→listed.getD j true=true:=by
    intro n
    induction n with
    | zero=>intro i hi hp' h; exact ⟨i,hp',h,fun j hj=>by omega⟩
    | succ n ihn =>
     intro i hi hp' h
     by_cases hh':∃ j,j < i∧listed.getD j true=false
     ·obtain ⟨j,hj,hjl⟩:=hh'
      exact ihn j (by omega) (by omega) hjl
     ·refine ⟨i,hp',h,fun j hj=>?_⟩
      cases hb:listed.getD j true with
      | true=>rfl
      | false=>exact absurd ⟨j,hj,hb⟩ hh'
   obtain ⟨i0,h0,h1⟩:=hex
   obtain ⟨i,hip,hiu,hbel⟩:=hmin i0 i0 (Nat.le_refl _) h0 h1
   have hil:i < l.length:=by omega
   have:i∈Region.ready .any l.toArray listed:=by
    rw [mem_ready]
    refine ⟨hiu,l[i],by simp [hil],fun e he hb=>?_⟩
    have hlt:=hacyc i l[i] (List.getElem?_eq_getElem hil) e he hb
    rw [hDF _ (by omega)]
    exact hbel _ hlt
   intro hnil
   rw [hnil] at this
   cases this
  simp only [Region.linearise.go,hrd]
  have hlen:0 < (Region.ready .any l.toArray listed).length:=List.length_pos_iff.2 hne
  have hmod:=Nat.mod_lt t hlen
  generalize hi:(Region.ready .any l.toArray listed)[t % (Region.ready .any l.toArray listed).length]=i
  have hsome:(Region.ready .any l.toArray listed)[t % (Region.ready .any l.toArray listed).length]?=some i:=by rw [List.getElem?_eq_getElem hmod,hi]
  rw [hsome]
  simp only []
  rw [linearise_go_acc]
  have him:i∈Region.ready .any l.toArray listed:=List.mem_of_getElem? hsome
  obtain ⟨hiu,o,ho,hall⟩:=mem_ready.1 him
  have ho':l[i]?=some o:=by simpa using ho
  have hil:=(List.getElem?_eq_some_iff.1 ho').1
  have hmask:=ready_mask hcl ho' (fun e he hb=>hall e he hb)
  have hip:i < p:=by
   rcases Nat.lt_or_ge i p with h | h
   ·exact h
   ·obtain ⟨i0,h0,h1⟩:=hex
    have:=hmask i0 (hord i h hil i0 (by omega))
    rw [hDF i0 (by omega),h1] at this
    cases this
  obtain ⟨hd,x,st',hx,hop,hF'⟩:=hstep _ st i o hip ho' (by show listed.getD i false=false; rw [hDF i hil,hiu]) hmask (fun a ha b hb=>by
   have hgm:=masks_good hcl l [] (by simp) (by simp)
   have hmj:(masks l [])[a]?=some ((masks l []).getD a 0):=by
    cases hm:(masks l [])[a]? with
    | none=>rw [List.getD_eq_getElem?_getD,hm] at hb; simp at hb
    | some m=>rw [List.getD_eq_getElem?_getD,hm]; rfl
   exact hgm a _ hmj ha b hb) hF
  have hFn:(fun j=>(listed.setIfInBounds i true).getD j false)=fun j=>j==i || listed.getD j false:=by
   funext j
   by_cases hji:j=i
   ·subst hji; simp [Array.getD_eq_getD_getElem?,hs,hil]
   ·rw [getD_set_ne false (Ne.symm hji)]; simp [hji]
  have hgm:=masks_good hcl l [] (by simp) (by simp)
  -- what the operation looks at
  have he:EnvRep g w st (renv l o (putAll env ((l.take p).take i) (xs.take i))) tmps:=by
   intro s y hy
   obtain ⟨hsl,hy'⟩:=renvOf_get hy
   rcases lookup_putAll (by simp [hxl]) hy' with ⟨j,o',h1,h2,h3⟩ | ⟨h1,h2⟩
   ·have hji:j < i:=by have:=(List.getElem?_eq_some_iff.1 h2).1; simp at this; omega
    have hoj:l[j]?=some o':=by
     rw [List.getElem?_take,if_pos hji,List.getElem?_take,if_pos (by omega)] at h1; exact h1
    have hdj:dstAt l j=some s:=by simp [dstAt,hoj,h3]
    rcases hC2 i o hip ho' s hsl j (by omega) (by omega) hdj with ⟨_,hb⟩ | ⟨hlt,_⟩
    ·exact (hJ s).1 j y (by omega) (hmask j hb) hdj (by rw [List.getElem?_take,if_pos hji] at h2; exact h2)
    ·omega
   ·refine (hJ s).2 (fun j hj hlj hdj=>?_) y h2
    by_cases hji:j=i
    ·subst hji
     rw [hDF j hil,hiu] at hlj
     cases hlj
    ·rcases hC2 i o hip ho' s hsl j hj hji hdj with ⟨hlt,_⟩ | ⟨hlt,hb⟩
     ·cases hoj:l[j]? with
      | none=>simp [dstAt,hoj] at hdj
      | some o'=>exact h1 j o' (by rw [List.getElem?_take,if_pos hlt,List.getElem?_take,if_pos hj]; exact hoj) (by simpa [dstAt,hoj] using hdj)
     ·have hjl:j < l.length:=by omega
      have hmj:(masks l [])[j]?=some ((masks l []).getD j 0):=by
       cases hm:(masks l [])[j]? with
       | none=>rw [List.getD_eq_getElem?_getD,hm] at hb; simp at hb
       | some m=>rw [List.getD_eq_getElem?_getD,hm]; rfl
      have:=hgm j _ hmj hlj i hb
      rw [hDF i hil,hiu] at this
      cases this
  -- what remains behind it
  have hcnt':((List.range p).filter fun j=>!(listed.setIfInBounds i true).getD j true).length=cnt:=by
   have hset:∀ j,(listed.setIfInBounds i true).getD j true=(listed.getD j true || decide (j=i)):=by
    intro j
    by_cases hji:j=i
    ·subst hji; simp [Array.getD_eq_getD_getElem?,hs,hil]
    ·rw [getD_set_ne true (Ne.symm hji)]; simp [hji]
   have hfil:((List.range p).filter fun j=>!(listed.setIfInBounds i true).getD j true)=((List.range p).filter fun j=>!listed.getD j true).filter fun j=>!decide (j=i):=by
    rw [List.filter_filter]
    refine List.filter_congr fun j _=>?_
    rw [hset j]
    cases listed.getD j true <;> simp
   rw [hfil]
   have hnd:((List.range p).filter fun j=>!listed.getD j true).Nodup:=List.nodup_range.filter _
   have hmem:i∈(List.range p).filter fun j=>!listed.getD j true:=by rw [List.mem_filter,List.mem_range]; exact ⟨hip,by simp [hiu]⟩
   have hcount:∀ (L:List Nat),L.Nodup→i∈L→(L.filter fun j=>!decide (j=i)).length+1=L.length:=by
    intro L
    induction L with
    | nil=>intro _ h; cases h
    | cons a L ihL =>
     intro hn hm
     rw [List.nodup_cons] at hn
     by_cases ha:a=i
     ·subst ha
      have:(L.filter fun j=>!decide (j=a))=L:=by
       rw [List.filter_eq_self]
       intro b hb
       have:b≠a:=fun e=>hn.1 (e▸hb)
       simp [this]
      rw [List.filter_cons]
      simp [this]
     ·have hm':i∈L:=by
       rcases List.mem_cons.1 hm with h | h
       ·exact absurd h.symm ha
       ·exact h
      rw [List.filter_cons]
      simp only [ha,decide_false,Bool.not_false,if_true,List.length_cons]
      rw [ihL hn.2 hm']
   have:=hcount _ hnd hmem
   omega
  have hcl':Closed l (listed.setIfInBounds i true):=by
   intro j oj hoj hlj e he' hb
   by_cases hji:j=i
   ·subst hji
    rw [ho'] at hoj
    cases hoj
    exact getD_set_true (hall e he' hb)
   ·rw [getD_set_ne false (Ne.symm hji)] at hlj
    exact getD_set_true (hcl j oj hoj hlj e he' hb)
  have hsu':∀ j,p≤j→j < l.length→(listed.setIfInBounds i true).getD j true=false:=fun j hj hjl=>by rw [getD_set_ne true (by omega)]; exact hsu j hj hjl
  -- the step
  have next:∀ (g':Ghost) (w':World) (v:Value),EVRep g' w' st' x v→Inv g' S.base w' st'→Step S.base g w st g' w' st' →
    FWP P f (RPost S Q) (.inRegion l.toArray (Region.linearise.go .any l.toArray fuel (t / (Region.ready .any l.toArray listed).length) (listed.setIfInBounds i true) []) :: k) (Act.put ⟨tmps,[]⟩ o.dst v).tmps w':=by
   intro g' w' v hxr hinv' hst
   refine ih fuel _ _ _ w' _ st' (by rw [hFn]; exact hF') (by simpa using hs) hcl' hsu' hcnt' (by omega) hinv' (hh.step hst) (by rw [size_put]; exact hN) fun s=>⟨fun j y hj hlj hdj hy=>?_,fun hno y hy=>?_⟩
   ·by_cases hji:j=i
    ·subst hji
     have hods:o.dst=some s:=by simpa [dstAt,ho'] using hdj
     rw [hx] at hy
     cases hy
     rw [hods]
     have hsz:s < tmps.size:=by
      rw [hods] at hd
      have hd':s+1≤N:=Nat.le_of_ble_eq_true hd
      rw [hN]
      exact hd'
     exact ⟨v,by simp [Act.put,hsz],hxr⟩
    ·rw [getD_set_ne false (Ne.symm hji)] at hlj
     obtain ⟨u,h1,h2⟩:=(hJ s).1 j y hj hlj hdj hy
     have hne':o.dst≠some s:=fun e=>hC1 j i s hj hip hji hdj (by simp [dstAt,ho',e])
     refine ⟨u,?_,h2.mono hst.sevo⟩
     cases hod:o.dst with
     | none=>exact h1
     | some d =>
      have:d≠s:=fun e=>hne' (by rw [hod,e])
      simp [Act.put,Array.getElem?_setIfInBounds,this,h1]
   ·have hne':o.dst≠some s:=fun e=>hno i hip (by simp [Array.getD_eq_getD_getElem?,hs,hil]) (by simp [dstAt,ho',e])
    obtain ⟨u,h1,h2⟩:=(hJ s).2 (fun j hj hlj=>hno j hj (by
     by_cases hji:j=i
     ·subst hji; simp [Array.getD_eq_getD_getElem?,hs,hil]
     ·rw [getD_set_ne false (Ne.symm hji)]; exact hlj)) y hy
    refine ⟨u,?_,h2.mono hst.sevo⟩
    cases hod:o.dst with
    | none=>exact h1
    | some d =>
     have:d≠s:=fun e=>hne' (by rw [hod,e])
     simp [Act.put,Array.getElem?_setIfInBounds,this,h1]
  have hoA:l.toArray[i]?=some o:=ho
  show FWP P f (RPost S Q) (.inRegion l.toArray (i :: _) :: k) tmps w
  have nextG:st'=st→∀ (lim':Nat→Nat) (w':World) (v:Value),Good g w st x lim' w' v →
    FWP P f (RPost S Q) (.inRegion l.toArray (Region.linearise.go .any l.toArray fuel (t / (Region.ready .any l.toArray listed).length) (listed.setIfInBounds i true) []) :: k) (Act.put ⟨tmps,[]⟩ o.dst v).tmps w':=by
   rintro rfl lim' w' v ⟨hxr,hb,hl⟩
   obtain ⟨hinv',hst⟩:=hinv.grow (g':={ g with lim:=lim' }) hb hl rfl rfl
   exact next _ w' v hxr hinv' hst
  rcases hop with ⟨hse,hop⟩ | ⟨hg,hop⟩ | ⟨hg,rfl,hop⟩
  ·rcases hop with ⟨hg,hop⟩ | ⟨j,want,tt,c,b,y,env',hg,hj,hlk,hgc,rfl,hE,hop⟩
   ·have hw:Region.wanted o (yielded l.toArray tmps)=true:=by simp [Region.wanted,hg]
    rcases hop g S.base w tmps hinv he with ⟨v,lim',w',hr,hgood⟩ | ⟨f',args,hr,hc⟩
    ·exact FWP.value hoA hw hr (nextG hse lim' w' v hgood)
    ·exact FWP.call hoA hw hr (hc.mono fun e w' ⟨v,lim',h1,h2⟩=>⟨v,h1,nextG hse lim' w' v h2⟩)
   ·obtain ⟨u,hu,hur⟩:=he tt c hlk
    have hw:Region.wanted o (yielded l.toArray tmps)=b:=by
     rw [←gcond_rep hgc hur]
     have hj':((l.toArray)[j]?).bind (·.dst)=some tt:=by simpa using hj
     simp only [Region.wanted,hg,yielded,hj',Option.bind_some,hu]
     cases u <;> rfl
    cases b with
    | false=>exact FWP.unwanted hoA hw (nextG hse g.lim w undef ⟨.gd _ _ _ (fun _=>rfl) (fun h=>by cases h),.refl _ _,fun _ _=>rfl⟩)
    | true =>
     have wrap:∀ lim' w' v,Good g w st y lim' w' v→Good g w st (.gd true y) lim' w' v:=fun lim' w' v ⟨a,b,c⟩=>⟨.gd _ _ _ (fun h=>by cases h) (fun _=>a),b,c⟩
     rcases hop rfl g S.base w tmps hinv (he.gd hE rfl) with ⟨v,lim',w',hr,hgood⟩ | ⟨f',args,hr,hc⟩
     ·exact FWP.value hoA hw hr (nextG hse lim' w' v (wrap _ _ _ hgood))
     ·exact FWP.call hoA hw hr (hc.mono fun e w' ⟨v,lim',h1,h2⟩=>⟨v,h1,nextG hse lim' w' v (wrap _ _ _ h2)⟩)
  ·have hw:Region.wanted o (yielded l.toArray tmps)=true:=by simp [Region.wanted,hg]
   obtain ⟨v,g',w',hr,hxr,hinv',hst⟩:=hop g w tmps hinv he
   exact FWP.value hoA hw hr (next g' w' v hxr hinv' hst)
  ·have hw:Region.wanted o (yielded l.toArray tmps)=true:=by simp [Region.wanted,hg]
   obtain ⟨g',w',hr,hinv',hst⟩:=hop g w tmps hinv he
   exact FWP.skip hoA hw hr (next g' w' undef (.d _ _ (.any _)) hinv' hst)
theorem ARun.drawnF {id:Nat} {l:List Oper} {env:Env} {st:St} (p:Nat) (xs:List EV) (F:(Nat→Bool)→St→Prop) (hm:P.follows .mixedOrders=true) (hB:drawB l p=true) (hxp:xs.length=p) (hF0:F (fun _=>false) st)
  (hstep:∀ (L:Nat→Bool) (st:St) (i:Nat) (o:Oper),i < p→l[i]?=some o→L i=false→(∀ j,((masks l []).getD i 0).testBit j=true→L j=true)→(∀ a,L a=true→∀ b,((masks l []).getD a 0).testBit b=true→L b=true)→F L st →
   dstOk N o.dst=true∧∃ x st',xs[i]?=some x∧OpE P S.base l (renv l o (putAll env ((l.take p).take i) (xs.take i))) st o x st'∧F (fun j=>j==i || L j) st')
  (hsuf:∀ (L:Nat→Bool) (st:St),(∀ i,i < p→L i=true)→F L st→AOps P f N S Q l (l.drop p) k (putAll env (l.take p) xs) st):ARun P f N S Q (.code (.region id l.toArray true) :: k) env st:=by
 simp only [drawB,Bool.and_eq_true] at hB
 obtain ⟨⟨⟨⟨hB1,hB2⟩,hB3⟩,hB4⟩,hB5⟩:=hB
 have hp:p≤l.length:=by simpa using hB5
 intro g w tmps hinv hh he hn
 refine FWP.regionDraw fun t=>?_
 have hsch:Region.schedule (P.follows .mixedOrders) l.toArray t=Region.linearise .any l.toArray t:=by simp [Region.schedule,hm]
 rw [hsch]
 have hb:Below w.heap.size w { w with drawn:=w.drawn+1 }:=(Below.refl _ w).drew
 obtain ⟨hinv',hst⟩:=hinv.grow (g':=g) hb (fun _ _=>rfl) rfl rfl
 unfold Region.linearise
 refine drawn_mainF (p:=p) (xs:=xs) F hp hxp ?_ ?_ ?_ ?_ hstep hsuf p _ t _ g _ tmps st (by
  have:(fun i=>(Array.replicate l.toArray.size false).getD i false)=fun _=>false:=by
   funext i; simp [Array.getD_eq_getD_getElem?,Array.getElem?_replicate]; split <;> rfl
  rw [this]; exact hF0) (by simp) ?_ ?_ ?_ ?_ hinv' (hh.step hst) hn fun s=>⟨fun j x hj hlj=>?_,fun _ y hy=>?_⟩
 ·intro i j t hi hj hij hdi hdj
  have:=allBelow_get (allBelow_get hB2 hi) hj
  simp [hij,hdi,hdj] at this
 ·intro i o hi ho t ht j hj hji hdj
  have h1:=allBelow_get hB1 hi
  rw [ho] at h1
  simp only [List.all_eq_true] at h1
  have h2:=allBelow_get (h1 t ht) hj
  simp only [hdj,bne_self_eq_false,Bool.or_false,Bool.or_eq_true,Bool.and_eq_true,decide_eq_true_eq,beq_iff_eq] at h2
  rcases h2 with (h2 | h2) | h2
  ·exact absurd h2.symm hji
  ·exact .inl h2
  ·exact .inr h2
 ·intro i hi hil j hj
  have h1:=allBelow_get hB3 hil
  simp only [Bool.or_eq_true,decide_eq_true_eq] at h1
  rcases h1 with h1 | h1
  ·omega
  ·exact allBelow_get h1 hj
 ·intro i o ho e he' hb'
  have hil:=(List.getElem?_eq_some_iff.1 ho).1
  have h1:=allBelow_get hB4 hil
  rw [ho] at h1
  simp only [List.all_eq_true] at h1
  have:=h1 e (by simpa using he')
  simpa [hb'] using this
 ·intro i o ho hli
  simp [Array.getD_eq_getD_getElem?,Array.getElem?_replicate] at hli
  split at hli <;> simp_all
 ·intro i hi hil
  simp [Array.getD_eq_getD_getElem?,Array.getElem?_replicate,hil]
 ·have:((List.range p).filter fun i=>!(Array.replicate l.toArray.size false).getD i true)=List.range p:=by
   rw [List.filter_eq_self]
   intro i hi
   have hi':=List.mem_range.1 hi
   have:i < l.length:=by omega
   simp [Array.getD_eq_getD_getElem?,Array.getElem?_replicate,this]
  rw [this]; simp
 ·simp; omega
 ·simp [Array.getD_eq_getD_getElem?,Array.getElem?_replicate] at hlj
  split at hlj <;> simp_all
 ·exact (he.mono hst.sevo) s y hy
end drawn
structure KeyF (P:Program) (key:TypeId) (κ:Type) [BEq κ] [LawfulBEq κ] where
 ke:κ→Value
 find:∀ {α:Type} (k:κ) (l:List (κ×α)) (ms:List MapEntry) (w:World),ms.map (·.key)=l.map (fun p=>ke p.1) →
  (Instr.findKey key (ke k) ms).run P w=.ok ((afind l k).bind fun j=>(ms[j]?).map fun m=>(j,m.val)) w
 bits:∀ a,Instr.sameBits 10000 (ke a) (ke a)=true
 check:∀ a b w,(Instr.checkKey b 10000 key (ke a)).run P w=.ok () w
def KeyKind.toF {P:Program} {key:TypeId} {κ:Type} [BEq κ] [LawfulBEq κ] (K:KeyKind P key κ):KeyF P key κ where
 ke:=K.ke
 find k l ms w h:=findKey_run K k h w
 bits:=K.bits
 check:=K.check
def intKF {P:Program} {key:TypeId} (h:P.underlying key=some (.int .i64)):KeyF P key Int:=(intKeys h).toF
def strKF {P:Program} {key:TypeId} (h:P.underlying key=some .string):KeyF P key (List UInt8):=(strKeys h).toF
theorem exKey {lim:Nat→Nat} {w:World} {u v:Value} (h:DRep lim w (.ex u) v):v=u:=by cases h; rfl
def encE {κ:Type} (ke:κ→Value) (l:List (κ×EV)):List (Value×EV):=l.map fun p=>(ke p.1,p.2)
def valE {κ α:Type} (val:α→D) (l:List (κ×α)):List (κ×EV):=l.map fun p=>(p.1,.d (val p.2))
theorem mEnc_eq {κ α:Type} {ke:κ→Value} {val:α→D} {l:List (κ×α)}:mEnc ke val l=encE ke (valE val l):=by
 simp [mEnc,encE,valE]
section alist
variable {κ α β:Type} [BEq κ] [LawfulBEq κ]
def aerase (l:List (κ×α)) (k:κ):List (κ×α):=match afind l k with
 | some j=>l.eraseIdx j
 | none=>l
theorem afind_map (f:α→β) (l:List (κ×α)) (k:κ):afind (l.map fun p=>(p.1,f p.2)) k=afind l k:=by
 unfold afind; rw [List.findIdx?_map]; rfl
theorem alook_map (f:α→β) (l:List (κ×α)) (k:κ):alook (l.map fun p=>(p.1,f p.2)) k=(alook l k).map f:=by
 rw [alook_afind,alook_afind,afind_map]
 cases afind l k with
 | none=>rfl
 | some j=>simp only [Option.bind_some,List.getElem?_map]; cases l[j]? <;> rfl
theorem aset_map (f:α→β) (l:List (κ×α)) (k:κ) (a:α):aset (l.map fun p=>(p.1,f p.2)) k (f a)=(aset l k a).map fun p=>(p.1,f p.2):=by
 unfold aset
 rw [afind_map]
 cases afind l k with
 | none=>simp
 | some j=>simp [List.map_set]
theorem alook_none {l:List (κ×α)} {k:κ} (h:k ∉ l.map (·.1)):alook l k=none:=by
 unfold alook
 rw [List.find?_eq_none.2]
 ·rfl
 ·intro p hp he
  exact h (eq_of_beq he▸List.mem_map_of_mem (f:=(·.1)) hp)
end alist
section inv
variable {P:Program} {base:Nat} {g:Ghost} {w:World} {st:St}
theorem Inv.setMap (hinv:Inv g base w st) {o:Nat} {es es':List (Value×EV)} (ho:st.objs[o]?=some (.map es)) {ms':Array MapEntry} {clock':Nat} (k1:ms'.size=es'.length)
  (k2:∀ (i:Nat) k x (m:MapEntry),es'[i]?=some (k,x)→ms'[i]?=some m→m.key=k∧EVRep g w st x m.val)
  (k3:∀ (i:Nat) (m:MapEntry),ms'[i]?=some m→m.born < clock') (k4:∀ (i j:Nat) (m m':MapEntry),ms'[i]?=some m→ms'[j]?=some m'→m.born=m'.born→i=j) :
  Inv g base { w with heap:=w.heap.setIfInBounds (g.ob o) (.map ms' clock') } (st.set o (.map es'))∧Step base g w st g { w with heap:=w.heap.setIfInBounds (g.ob o) (.map ms' clock') } (st.set o (.map es')):=by
 obtain ⟨hbase,ms,clock,hb,hl,hrep,hborn,hdist⟩:=hinv.map o _ ho
 have hblk:g.ob o < w.heap.size:=(Array.getElem?_eq_some_iff.1 hb).1
 have hset:∀ ob:Obj,({ w with heap:=w.heap.setIfInBounds (g.ob o) ob }:World).heap.size=w.heap.size:=fun ob=>by simp
 have hoth:∀ ob:Obj,∀ b,b≠g.ob o→({ w with heap:=w.heap.setIfInBounds (g.ob o) ob }:World).heap[b]?=w.heap[b]?:=fun ob b hb'=>by simp [Array.getElem?_setIfInBounds,Ne.symm hb']
 have hsame:∀ ob:Obj,({ w with heap:=w.heap.setIfInBounds (g.ob o) ob }:World).heap[g.ob o]?=some ob:=fun ob=>by simp [hblk]
 have hnoc:∀ off,w.cell? ⟨g.ob o,off,none⟩=none:=fun off=>by simp [World.cell?,hb]
 have hevo:Evo g.lim w g.lim { w with heap:=w.heap.setIfInBounds (g.ob o) (.map ms' clock') }:=by
  refine ⟨by rw [hset]; exact Nat.le_refl _,fun _ _=>Nat.le_refl _,fun b off hb' ho'=>?_⟩
  by_cases hbo:b=g.ob o
  ·subst hbo
   rw [hnoc]
   simp [World.cell?,hblk]
  ·exact World.cell?_of_block (w:=w) (a:=⟨b,off,none⟩) (hoth _ b hbo)
 have hlive:st.live o:=⟨_,ho,by simp⟩
 have hlo:o < st.objs.length:=(List.getElem?_eq_some_iff.1 ho).1
 have hs:SEvo g w st g { w with heap:=w.heap.setIfInBounds (g.ob o) (.map ms' clock') } (st.set o (.map es')) :=
  ⟨hevo,fun _ _=>rfl,by simp [St.set],fun t e sz n ht=>⟨n,ht,Nat.le_refl _,fun _=>rfl⟩,Nat.le_refl _,own_same fun _ _ _ _ h _=>⟨h,rfl⟩⟩
 have hother:∀ o' y,o'≠o→(st.set o (.map es')).objs[o']?=some y→st.objs[o']?=some y:=by
  intro o' y hne hy'
  simpa [St.set,List.getElem?_set,Ne.symm hne] using hy'
 have hrw:∀ o' y,(st.set o (.map es')).objs[o']?=some (.raw y)→base≤g.ob o'∧g.lim (g.ob o')=0∧(w.heap.setIfInBounds (g.ob o) (.map ms' clock'))[g.ob o']?=some y:=by
  intro o' y hx'
  have hne:o'≠o:=by
   rintro rfl
   simp [St.set,hlo] at hx'
  have hy':=hother o' _ hne hx'
  obtain ⟨h1,h2,h3⟩:=hinv.raw o' y hy'
  have hne':=hinv.ne o' o hne ⟨_,hy',by simp⟩ hlive
  exact ⟨h1,h2,by rw [hoth _ _ hne']; exact h3⟩
 refine ⟨⟨by rw [hset]; exact hinv.base,?_,?_,hrw,?_,?_,hinv.tailNe,?_,hinv.glob.below ⟨rfl,rfl,rfl,by rw [hset]; exact Nat.le_refl _,fun b hb'=>hoth _ b (by omega)⟩,?_⟩,⟨hs,⟨rfl,rfl,rfl,by rw [hset]; exact Nat.le_refl _,fun b hb'=>hoth _ b (by omega)⟩,fun _ _=>rfl,
   fun b _ hn=>⟨hoth _ b (fun e=>hn (.inl ⟨o,hlive,e.symm⟩)),rfl⟩,fun b _ hw=>hw.elim (fun ⟨o',a1,a2⟩=>.inl ⟨o',live_set hlive a1,a2⟩) .inr⟩⟩
 ·intro o' ty' cs hx'
  have hne:o'≠o:=by
   rintro rfl
   simp [St.set,hlo] at hx'
  have hy':=hother o' _ hne hx'
  obtain ⟨h1,h2,vs,h3,h4,h5⟩:=hinv.row o' ty' cs hy'
  have hne':=hinv.ne o' o hne ⟨_,hy',by simp⟩ hlive
  exact ⟨h1,h2,vs,by rw [hoth _ _ hne']; exact h3,h4,fun i c u hc hu=>⟨(h5 i c u hc hu).1.mono hs,(h5 i c u hc hu).2⟩⟩
 ·intro o' es2 hx'
  by_cases hne:o'=o
  ·subst hne
   have hes:es'=es2:=by simpa [St.set,hlo] using hx'
   subst hes
   exact ⟨hbase,ms',clock',hsame _,k1,fun i kk yy m hm1 hm2=>⟨(k2 i kk yy m hm1 hm2).1,(k2 i kk yy m hm1 hm2).2.mono hs⟩,k3,k4⟩
  ·have hy':=hother o' _ hne hx'
   obtain ⟨h1,ms2,c2,h3,h4,h5,h6⟩:=hinv.map o' es2 hy'
   have hne':=hinv.ne o' o hne ⟨_,hy',by simp⟩ hlive
   exact ⟨h1,ms2,c2,by rw [hoth _ _ hne']; exact h3,h4,fun i kk yy m a b=>⟨(h5 i kk yy m a b).1,(h5 i kk yy m a b).2.mono hs⟩,h6⟩
 ·exact fun o1 o2 hne h1 h2=>hinv.ne o1 o2 hne (live_set hlive h1) (live_set hlive h2)
 ·intro t' e' sz' n' ht'
  obtain ⟨xs,h1,h2⟩:=hinv.tail t' e' sz' n' ht'
  exact ⟨xs,ownsRow_keep h1 fun b hb'=>hoth _ b fun e=>hinv.tailObj t' _ o ht' hlive (by rw [hb',e]),h2⟩
 ·exact fun t' x' o' ht' hl'=>hinv.tailObj t' x' o' ht' (live_set hlive hl')
 ·intro t' e' sz' n' rows ht'
  obtain ⟨xs,h1,h2,h3⟩:=hinv.own t' e' sz' n' rows ht'
  exact ⟨xs,ownsRow_keep h1 fun b hb'=>hoth _ b fun e=>hinv.tailObj t' _ o ht' hlive (by rw [hb',e]),h2,h3.mono hevo⟩
end inv
section rules
variable {P:Program} {base:Nat} {env:Env} {st:St} {d:Option Tmp} {ty:TypeId} {pos:String} {after:Array Edge} {gd:Option (Nat×Bool)} {t t2 e key:TypeId} {x y z:Operand}
 {κ α:Type} [BEq κ] [LawfulBEq κ]
theorem encE_keys {g:Ghost} {w:World} {st:St} {l:List (κ×EV)} {ke:κ→Value} {ms:Array MapEntry} (hl:ms.size=(encE ke l).length)
  (h:∀ (i:Nat) k x (m:MapEntry),(encE ke l)[i]?=some (k,x)→ms[i]?=some m→m.key=k∧EVRep g w st x m.val):ms.toList.map (·.key)=l.map fun p=>ke p.1:=by
 apply List.ext_getElem?
 intro i
 rw [List.getElem?_map,List.getElem?_map]
 have hlen:ms.size=l.length:=by simpa [encE] using hl
 by_cases hi:i < l.length
 ·have h1:ms[i]?=some (ms[i]'(by omega)):=Array.getElem?_eq_getElem (by omega)
  have h2:l[i]?=some l[i]:=List.getElem?_eq_getElem hi
  have h3:=(h i (ke l[i].1) l[i].2 _ (by simp [encE,h2]) h1).1
  rw [h2,Array.getElem?_toList,h1]
  simp [h3]
 ·rw [List.getElem?_eq_none (by simp; omega),List.getElem?_eq_none (by omega)]; rfl
theorem lookup_core (K:KeyF P key κ) {o:Nat} {l:List (κ×EV)} {k:κ} {dk:D} {inf:TypeInfo} {zv:Value} {c:Bool} (ht:P.underlying t=some (.map key e)) (hi:P.info? e=some inf) (hz:inf.zero=some zv)
  (hx:evo env x=some (.mp o)) (ho:st.objs[o]?=some (.map (encE K.ke l))) (hy:evo env y=some (.d dk)) (hk:∀ lim w v,DRep lim w dk v→v=K.ke k)
  {g:Ghost} {w:World} {tmps:Array Value} (hinv:Inv g base w st) (he:EnvRep g w st env tmps) :
  ∃ v,(match alook l k with | some x=>EVRep g w st x v | none=>v=zv) ∧
   ∀ w',Below w.heap.size w w'→(execOp (Act.eval ⟨tmps,[]⟩) ⟨d,.lookup t x y c,ty,pos,after,gd⟩).run P w'=.ok (.value (if c=true then .tuple #[v,.bool (alook l k).isSome] else v)) w':=by
 have hxr:=evo_rep he hx
 generalize hv:Act.eval ⟨tmps,[]⟩ x=v at hxr
 have hyv:Act.eval ⟨tmps,[]⟩ y=K.ke k:=by
  have:=evo_rep he hy
  cases this with | d _ _ h=>exact hk _ _ _ h
 cases hxr with
 | mp _ hlt =>
  obtain ⟨_,ms,clock,hb,hl,hrep,_⟩:=hinv.map o _ ho
  have hkeys:=encE_keys hl hrep
  have hblk:g.ob o < w.heap.size:=(Array.getElem?_eq_some_iff.1 hb).1
  rw [alook_afind]
  cases hf:afind l k with
  | none =>
   refine ⟨zv,rfl,fun w' hb'=>?_⟩
   have hb2:w'.heap[g.ob o]?=some (.map ms clock):=(hb'.block _ hblk).trans hb
   have hfk:=K.find k l ms.toList w' hkeys
   rw [hf] at hfk
   simp [execOp,hv,hyv,Instr.lookup,run_underlying ht,getObj,Sem.run,hb2,K.check,hfk,zero_run hi hz]
  | some j =>
   have hj:=afind_lt hf
   have hlen:ms.size=l.length:=by simpa [encE] using hl
   have h1:ms[j]?=some (ms[j]'(by omega)):=Array.getElem?_eq_getElem (by omega)
   have h2:l[j]?=some l[j]:=List.getElem?_eq_getElem hj
   have h3:=(hrep j (K.ke l[j].1) l[j].2 _ (by simp [encE,h2]) h1).2
   simp only [Option.bind_some,h2,Option.map_some,Option.isSome_some]
   refine ⟨(ms[j]'(by omega)).val,h3,fun w' hb'=>?_⟩
   have hb2:w'.heap[g.ob o]?=some (.map ms clock):=(hb'.block _ hblk).trans hb
   have hfk:=K.find k l ms.toList w' hkeys
   rw [hf] at hfk
   have h1':ms.toList[j]?=some (ms[j]'(by omega)):=by rw [Array.getElem?_toList]; exact h1
   simp only [Option.bind_some,h1',Option.map_some] at hfk
   simp [execOp,hv,hyv,Instr.lookup,run_underlying ht,getObj,Sem.run,hb2,K.check,hfk]
theorem pair_rep {g:Ghost} {w:World} {st:St} {u:Value} {b:Bool} {c:D} (h:EVRep g w st (.d c) u):EVRep g w st (.d (.tup [c,.ex (.bool b)])) (.tuple #[u,.bool b]):=by
 have h':DRep g.lim w c u:=by cases h with | d _ _ h=>exact h
 refine .d _ _ (.tup _ _ rfl ?_)
 intro i c' u' hc hu
 match i with
 | 0=>simp at hc hu; subst hc; subst hu; exact h'
 | 1=>simp at hc hu; subst hc; subst hu; exact .ex _
 | n+2=>simp at hc
theorem alook_valE {val:α→D} {l:List (κ×α)} {k:κ}:alook (valE val l) k=(alook l k).map fun a=>.d (val a):=alook_map (fun a=>EV.d (val a)) l k
theorem q_lookupD (K:KeyF P key κ) {o:Nat} {l:List (κ×α)} {val:α→D} {k:κ} {dk:D} {inf:TypeInfo} {zv:Value} {a0:α} (ht:P.underlying t=some (.map key e)) (hi:P.info? e=some inf) (hz:inf.zero=some zv) (hz0:DLe (cv zv) (val a0))
  (hx:evo env x=some (.mp o)) (ho:st.objs[o]?=some (.map (mEnc K.ke val l))) (hy:evo env y=some (.d dk)) (hk:∀ lim w v,DRep lim w dk v→v=K.ke k) :
  OpQ P env st ⟨d,.lookup t x y false,ty,pos,after,gd⟩ (.d (val ((alook l k).getD a0))):=by
 intro g base w tmps hinv he
 rw [mEnc_eq] at ho
 obtain ⟨v,h1,h2⟩:=lookup_core (c:=false) (d:=d) (ty:=ty) (pos:=pos) (after:=after) (gd:=gd) K ht hi hz hx ho hy hk hinv he
 rw [alook_valE] at h1
 refine ⟨v,?_,fun w' hb=>by simpa using h2 w' hb⟩
 cases hl:alook l k with
 | none=>rw [hl] at h1; simp only [Option.map_none] at h1; subst h1; exact .d _ _ (hz0 _ _ _ (cv_rep g.lim w v))
 | some a=>rw [hl] at h1; exact h1
theorem q_lookupOkD (K:KeyF P key κ) {o:Nat} {l:List (κ×α)} {val:α→D} {k:κ} {dk:D} {inf:TypeInfo} {zv:Value} {a0:α} (ht:P.underlying t=some (.map key e)) (hi:P.info? e=some inf) (hz:inf.zero=some zv) (hz0:DLe (cv zv) (val a0))
  (hx:evo env x=some (.mp o)) (ho:st.objs[o]?=some (.map (mEnc K.ke val l))) (hy:evo env y=some (.d dk)) (hk:∀ lim w v,DRep lim w dk v→v=K.ke k) :
  OpQ P env st ⟨d,.lookup t x y true,ty,pos,after,gd⟩ (.d (.tup [val ((alook l k).getD a0),.ex (.bool (alook l k).isSome)])):=by
 intro g base w tmps hinv he
 rw [mEnc_eq] at ho
 obtain ⟨v,h1,h2⟩:=lookup_core (c:=true) (d:=d) (ty:=ty) (pos:=pos) (after:=after) (gd:=gd) K ht hi hz hx ho hy hk hinv he
 rw [alook_valE] at h1 h2
 refine ⟨_,?_,h2⟩
 rw [if_pos rfl]
 cases hl:alook l k with
 | none=>rw [hl] at h1; simp only [Option.map_none] at h1; subst h1; exact pair_rep (.d _ _ (hz0 _ _ _ (cv_rep g.lim w v)))
 | some a=>rw [hl] at h1; exact pair_rep h1
theorem update_core (K:KeyF P key κ) {o:Nat} {l:List (κ×EV)} {k:κ} {dk:D} {ev:EV} (ht:P.underlying t=some (.map key e)) (hx:evo env x=some (.mp o)) (ho:st.objs[o]?=some (.map (encE K.ke l)))
  (hy:evo env y=some (.d dk)) (hk:∀ lim w v,DRep lim w dk v→v=K.ke k) {g:Ghost} {w:World} {tmps:Array Value} (hinv:Inv g base w st) (he:EnvRep g w st env tmps) (hz:EVRep g w st ev (Act.eval ⟨tmps,[]⟩ z)) :
  ∃ w',(Instr.mapUpdate t (Act.eval ⟨tmps,[]⟩ x) (Act.eval ⟨tmps,[]⟩ y) (Act.eval ⟨tmps,[]⟩ z)).run P w=.ok () w'∧Inv g base w' (st.set o (.map (encE K.ke (aset l k ev))))∧Step base g w st g w' (st.set o (.map (encE K.ke (aset l k ev)))):=by
 have hxr:=evo_rep he hx
 generalize hv:Act.eval ⟨tmps,[]⟩ x=v at hxr
 have hyv:Act.eval ⟨tmps,[]⟩ y=K.ke k:=by
  have:=evo_rep he hy
  cases this with | d _ _ h=>exact hk _ _ _ h
 generalize hu:Act.eval ⟨tmps,[]⟩ z=u at hz
 cases hxr with
 | mp _ hlt =>
  obtain ⟨hbase,ms,clock,hb,hl,hrep,hborn,hdist⟩:=hinv.map o _ ho
  have hkeys:=encE_keys hl hrep
  have hblk:g.ob o < w.heap.size:=(Array.getElem?_eq_some_iff.1 hb).1
  have hlen:ms.size=l.length:=by simpa [encE] using hl
  have hfk:=K.find k l ms.toList w hkeys
  have fin:∀ (ms':Array MapEntry) (clock':Nat),ms'.size=(aset l k ev).length →
    (∀ (i:Nat) (p:κ×EV) (m:MapEntry),(aset l k ev)[i]?=some p→ms'[i]?=some m→m.key=K.ke p.1∧EVRep g w st p.2 m.val) →
    (∀ (i:Nat) (m:MapEntry),ms'[i]?=some m→m.born < clock')→(∀ (i j:Nat) (m m':MapEntry),ms'[i]?=some m→ms'[j]?=some m'→m.born=m'.born→i=j) →
    (Instr.mapUpdate t (.map (some (g.ob o))) (K.ke k) u).run P w=.ok () { w with heap:=w.heap.setIfInBounds (g.ob o) (.map ms' clock') } →
    ∃ w',(Instr.mapUpdate t (.map (some (g.ob o))) (Act.eval ⟨tmps,[]⟩ y) u).run P w=.ok () w'∧Inv g base w' (st.set o (.map (encE K.ke (aset l k ev))))∧Step base g w st g w' (st.set o (.map (encE K.ke (aset l k ev)))):=by
   intro ms' clock' k1 k2 k3 k4 k5
   obtain ⟨q1,q2⟩:=hinv.setMap (es':=encE K.ke (aset l k ev)) ho (ms':=ms') (clock':=clock') (by simpa [encE] using k1) (fun i kk yy m hm1 hm2=>by
    simp only [encE,List.getElem?_map] at hm1
    cases hp:(aset l k ev)[i]? with
    | none=>rw [hp] at hm1; cases hm1
    | some p=>rw [hp] at hm1; cases hm1; exact k2 i p m hp hm2) k3 k4
   exact ⟨_,by rw [hyv]; exact k5,q1,q2⟩
  cases hf:afind l k with
  | none =>
   rw [hf] at hfk
   simp only [Option.bind_none] at hfk
   have haset:aset l k ev=l++[(k,ev)]:=by unfold aset; rw [hf]
   refine fin (ms.push ⟨K.ke k,u,clock⟩) (clock+1) (by simp [haset,hlen]) ?_ ?_ ?_ ?_
   ·intro i p m hp hm
    rw [haset] at hp
    by_cases hi:i < l.length
    ·rw [List.getElem?_append_left hi] at hp
     rw [Array.getElem?_push_lt (by omega)] at hm
     exact hrep i (K.ke p.1) p.2 m (by simp [encE,hp]) (by rw [Array.getElem?_eq_getElem (by omega)]; exact hm)
    ·have hi':i=l.length:=by
      have:=(List.getElem?_eq_some_iff.1 hp).1
      simp at this
      omega
     subst hi'
     simp at hp
     subst hp
     rw [←hlen] at hm
     simp at hm
     subst hm
     exact ⟨rfl,hz⟩
   ·intro i m hm
    by_cases hi:i < ms.size
    ·rw [Array.getElem?_push_lt hi] at hm
     have:=hborn i m (by rw [Array.getElem?_eq_getElem hi]; exact hm)
     omega
    ·have hlt':=(Array.getElem?_eq_some_iff.1 hm).1
     simp at hlt'
     have:i=ms.size:=by omega
     subst this
     simp at hm
     subst hm
     exact Nat.lt_succ_self _
   ·intro i j m m' hm hm' hbb
    have get:∀ (i:Nat) m,(ms.push ⟨K.ke k,u,clock⟩)[i]?=some m→(i < ms.size∧ms[i]?=some m)∨(i=ms.size∧m.born=clock):=by
     intro i m hm
     by_cases hi:i < ms.size
     ·rw [Array.getElem?_push_lt hi] at hm
      exact .inl ⟨hi,by rw [Array.getElem?_eq_getElem hi]; exact hm⟩
     ·have hlt':=(Array.getElem?_eq_some_iff.1 hm).1
      simp at hlt'
      have:i=ms.size:=by omega
      subst this
      simp at hm
      subst hm
      exact .inr ⟨rfl,rfl⟩
    rcases get i m hm with ⟨h1,h2⟩ | ⟨h1,h2⟩ <;> rcases get j m' hm' with ⟨h3,h4⟩ | ⟨h3,h4⟩
    ·exact hdist i j m m' h2 h4 hbb
    ·have:=hborn i m h2; omega
    ·have:=hborn j m' h4; omega
    ·omega
   ·simp [Instr.mapUpdate,run_underlying ht,getObj,setObj,Sem.run,hb,K.check,hfk]
  | some j =>
   have hj:=afind_lt hf
   have haset:aset l k ev=l.set j (k,ev):=by unfold aset; rw [hf]
   have hlj:(k==l[j].1)=true:=by
    unfold afind at hf
    rw [List.findIdx?_eq_some_iff_getElem] at hf
    exact hf.2.1
   have hkj:k=l[j].1:=eq_of_beq hlj
   have h1:ms[j]?=some (ms[j]'(by omega)):=Array.getElem?_eq_getElem (by omega)
   have h1':ms.toList[j]?=some (ms[j]'(by omega)):=by rw [Array.getElem?_toList]; exact h1
   rw [hf] at hfk
   simp only [Option.bind_some,h1',Option.map_some] at hfk
   have hkey:(ms[j]'(by omega)).key=K.ke k:=by
    have:=(hrep j (K.ke l[j].1) l[j].2 _ (by simp [encE,List.getElem?_eq_getElem hj]) h1).1
    rw [this,hkj]
   have hmod:∀ (i:Nat) m,(ms.modify j fun e=>{ e with key:=K.ke k,val:=u })[i]?=some m→(i=j∧m={ (ms[j]'(by omega)) with key:=K.ke k,val:=u })∨(i≠j∧ms[i]?=some m):=by
    intro i m hm
    rw [Array.getElem?_modify] at hm
    by_cases hij:j=i
    ·subst hij
     rw [if_pos rfl,h1] at hm
     cases hm
     exact .inl ⟨rfl,rfl⟩
    ·rw [if_neg hij] at hm
     exact .inr ⟨Ne.symm hij,hm⟩
   refine fin (ms.modify j fun e=>{ e with key:=K.ke k,val:=u }) clock (by simp [haset,hlen]) ?_ ?_ ?_ ?_
   ·intro i p m hp hm
    rw [haset,List.getElem?_set] at hp
    rcases hmod i m hm with ⟨rfl,rfl⟩ | ⟨hne,hm'⟩
    ·rw [if_pos rfl] at hp
     simp [hj] at hp
     subst hp
     exact ⟨rfl,hz⟩
    ·rw [if_neg (Ne.symm hne)] at hp
     exact hrep i (K.ke p.1) p.2 m (by simp [encE,hp]) hm'
   ·intro i m hm
    rcases hmod i m hm with ⟨rfl,rfl⟩ | ⟨hne,hm'⟩
    ·exact hborn _ (ms[i]'(by omega)) h1
    ·exact hborn _ _ hm'
   ·intro i i' m m' hm hm' hbb
    rcases hmod i m hm with ⟨rfl,rfl⟩ | ⟨hne,h2⟩ <;> rcases hmod i' m' hm' with ⟨rfl,rfl⟩ | ⟨hne',h2'⟩
    ·rfl
    ·exact hdist _ _ (ms[i]'(by omega)) _ h1 h2' hbb
    ·exact hdist _ _ _ (ms[i']'(by omega)) h2 h1 hbb
    ·exact hdist _ _ _ _ h2 h2' hbb
   ·have hbits:Instr.sameBits 10000 (K.ke k) (K.ke k)=true:=K.bits k
    simp [Instr.mapUpdate,run_underlying ht,getObj,setObj,Sem.run,hb,K.check,hfk,Instr.keyThatStays,h1,hkey,hbits]
theorem u_mapUpdateE (K:KeyF P key κ) {o:Nat} {l:List (κ×EV)} {k:κ} {dk:D} {ev:EV} (ht:P.underlying t=some (.map key e)) (hx:evo env x=some (.mp o)) (ho:st.objs[o]?=some (.map (encE K.ke l)))
  (hy:evo env y=some (.d dk)) (hk:∀ lim w v,DRep lim w dk v→v=K.ke k) (hz:evo env z=some ev) :
  OpU P base env st ⟨d,.mapUpdate t x y z,ty,pos,after,gd⟩ (st.set o (.map (encE K.ke (aset l k ev)))):=by
 intro g w tmps hinv he
 obtain ⟨w',h1,h2,h3⟩:=update_core (z:=z) K ht hx ho hy hk hinv he (evo_rep he hz)
 exact ⟨g,w',by simp [execOp,h1],h2,h3⟩
theorem u_mapUpdateD (K:KeyF P key κ) {o:Nat} {l:List (κ×α)} {val:α→D} {k:κ} {dk:D} {a:α} {ev:EV} (ht:P.underlying t=some (.map key e)) (hx:evo env x=some (.mp o)) (ho:st.objs[o]?=some (.map (mEnc K.ke val l)))
  (hy:evo env y=some (.d dk)) (hk:∀ lim w v,DRep lim w dk v→v=K.ke k) (hz:evo env z=some ev) (hle:EVle ev (.d (val a))) :
  OpU P base env st ⟨d,.mapUpdate t x y z,ty,pos,after,gd⟩ (st.set o (.map (mEnc K.ke val (aset l k a)))):=by
 intro g w tmps hinv he
 rw [mEnc_eq] at ho
 obtain ⟨w',h1,h2,h3⟩:=update_core (z:=z) K ht hx ho hy hk hinv he (hle _ _ _ _ (evo_rep he hz))
 have hs:encE K.ke (aset (valE val l) k (.d (val a)))=mEnc K.ke val (aset l k a):=by
  rw [mEnc_eq]; unfold valE; rw [aset_map (fun a=>EV.d (val a))]
 rw [hs] at h2 h3
 exact ⟨g,w',by simp [execOp,h1],h2,h3⟩
theorem v_deleteD (K:KeyF P key κ) {o:Nat} {l:List (κ×α)} {val:α→D} {k:κ} {dk:D} (ht:P.underlying t=some (.map key e)) (hx:evo env x=some (.mp o)) (ho:st.objs[o]?=some (.map (mEnc K.ke val l)))
  (hy:evo env y=some (.d dk)) (hk:∀ lim w v,DRep lim w dk v→v=K.ke k) :
  OpV P base env st ⟨d,.call ⟨.builtin .delete,#[x,y],#[t,t2]⟩,ty,pos,after,gd⟩ (.d (.tup [])) (st.set o (.map (mEnc K.ke val (aerase l k)))):=by
 intro g w tmps hinv he
 have hxr:=evo_rep he hx
 generalize hv:Act.eval ⟨tmps,[]⟩ x=v at hxr
 have hyv:Act.eval ⟨tmps,[]⟩ y=K.ke k:=by
  have:=evo_rep he hy
  cases this with | d _ _ h=>exact hk _ _ _ h
 cases hxr with
 | mp _ hlt =>
  obtain ⟨hbase,ms,clock,hb,hl,hrep,hborn,hdist⟩:=hinv.map o _ ho
  have hkeys:=map_keys hl hrep
  have hblk:g.ob o < w.heap.size:=(Array.getElem?_eq_some_iff.1 hb).1
  have hlen:ms.size=l.length:=by simpa [mEnc] using hl
  have hfk:=K.find k l ms.toList w hkeys
  have fin:∀ (ms':Array MapEntry),ms'.size=(aerase l k).length →
    (∀ (i:Nat) (p:κ×α) (m:MapEntry),(aerase l k)[i]?=some p→ms'[i]?=some m→m.key=K.ke p.1∧EVRep g w st (.d (val p.2)) m.val) →
    (∀ (i:Nat) (m:MapEntry),ms'[i]?=some m→m.born < clock)→(∀ (i j:Nat) (m m':MapEntry),ms'[i]?=some m→ms'[j]?=some m'→m.born=m'.born→i=j) →
    (execOp (Act.eval ⟨tmps,[]⟩) ⟨d,.call ⟨.builtin .delete,#[x,y],#[t,t2]⟩,ty,pos,after,gd⟩).run P w=.ok (.value (.tuple #[])) { w with heap:=w.heap.setIfInBounds (g.ob o) (.map ms' clock) } →
    ∃ v g' w',(execOp (Act.eval ⟨tmps,[]⟩) ⟨d,.call ⟨.builtin .delete,#[x,y],#[t,t2]⟩,ty,pos,after,gd⟩).run P w=.ok (.value v) w'∧EVRep g' w' (st.set o (.map (mEnc K.ke val (aerase l k)))) (.d (.tup [])) v∧Inv g' base w' (st.set o (.map (mEnc K.ke val (aerase l k))))∧Step base g w st g' w' (st.set o (.map (mEnc K.ke val (aerase l k)))):=by
   intro ms' k1 k2 k3 k4 k5
   obtain ⟨q1,q2⟩:=hinv.setMap (es':=mEnc K.ke val (aerase l k)) ho (ms':=ms') (clock':=clock) (by simpa [mEnc] using k1) (fun i kk yy m hm1 hm2=>by
    simp only [mEnc,List.getElem?_map] at hm1
    cases hp:(aerase l k)[i]? with
    | none=>rw [hp] at hm1; cases hm1
    | some p=>rw [hp] at hm1; cases hm1; exact k2 i p m hp hm2) k3 k4
   exact ⟨_,g,_,k5,.d _ _ (.tup _ _ rfl (fun i c u h=>by simp at h)),q1,q2⟩
  cases hf:afind l k with
  | none =>
   rw [hf] at hfk
   simp only [Option.bind_none] at hfk
   have her:aerase l k=l:=by unfold aerase; rw [hf]
   refine fin ms (by rw [her,hlen]) (fun i p m hp hm=>?_) hborn hdist ?_
   ·rw [her] at hp
    exact hrep i (K.ke p.1) (.d (val p.2)) m (by simp [mEnc,hp]) hm
   ·simp [execOp,resolve,invoke,builtin,hv,hyv,Builtin.delete_,run_underlying ht,getObj,setObj,Sem.run,hb,K.check,hfk]
  | some j =>
   have hj:=afind_lt hf
   have her:aerase l k=l.eraseIdx j:=by unfold aerase; rw [hf]
   have h1:ms[j]?=some (ms[j]'(by omega)):=Array.getElem?_eq_getElem (by omega)
   have h1':ms.toList[j]?=some (ms[j]'(by omega)):=by rw [Array.getElem?_toList]; exact h1
   rw [hf] at hfk
   simp only [Option.bind_some,h1',Option.map_some] at hfk
   have hms:ms.eraseIdxIfInBounds j=(ms.toList.eraseIdx j).toArray:=by
    apply Array.toList_inj.1
    unfold Array.eraseIdxIfInBounds
    rw [dif_pos (by omega)]
    simp
   have hget:∀ (i:Nat) m,(ms.eraseIdxIfInBounds j)[i]?=some m→ms[if i < j then i else i+1]?=some m:=by
    intro i m hm
    rw [hms] at hm
    simp only [List.getElem?_toArray,List.getElem?_eraseIdx,Array.getElem?_toList] at hm
    split at hm
    ·rename_i h; rw [if_pos h]; exact hm
    ·rename_i h; rw [if_neg h]; exact hm
   refine fin (ms.eraseIdxIfInBounds j) ?_ (fun i p m hp hm=>?_) (fun i m hm=>hborn _ m (hget i m hm)) (fun i i' m m' hm hm' hbb=>?_) ?_
   ·rw [her,hms]
    simp [List.length_eraseIdx,hlen,hj]
   ·rw [her,List.getElem?_eraseIdx] at hp
    have hm':=hget i m hm
    split at hp
    ·rename_i h; rw [if_pos h] at hm'; exact hrep i (K.ke p.1) (.d (val p.2)) m (by simp [mEnc,hp]) hm'
    ·rename_i h; rw [if_neg h] at hm'; exact hrep (i+1) (K.ke p.1) (.d (val p.2)) m (by simp [mEnc,hp]) hm'
   ·have:=hdist _ _ m m' (hget i m hm) (hget i' m' hm') hbb
    split at this <;> split at this <;> omega
   ·simp [execOp,resolve,invoke,builtin,hv,hyv,Builtin.delete_,run_underlying ht,getObj,setObj,Sem.run,hb,K.check,hfk]
end rules
section lit
variable {P:Program} {f:Ctx} {N:Nat} {S:Start} {Q:EV→St→Prop} {k:List Item} {κ:Type} [BEq κ] [LawfulBEq κ] {key:TypeId}
theorem ARun.split {todo:List Item} {env:Env} {st:St} (b:Bool) (ht:b=true→ARun P f N S Q todo env st) (hf:b=false→ARun P f N S Q todo env st):ARun P f N S Q todo env st:=by
 cases hb:b with
 | true=>exact ht hb
 | false=>exact hf hb
def MStep (P:Program) (N:Nat) (l:List Oper) (m:Nat) (t:TypeId) (K:KeyF P key κ) (ins:List (Nat×κ×EV)) (st0:St) (i:Nat) (o:Oper) (env:Env) (x:EV):Prop :=
  dstOk N o.dst=true ∧
  (((Nat.beq i m || ins.any fun e=>Nat.beq e.1 i)=false∧∀ st,(st=st0∨∃ es,st=st0.add (.map es))→OpAny P l env st o x) ∨
   (i=m∧o.guard=none∧x=.mp st0.objs.length∧∃ t,o.op=.makeMap t none) ∨
   (∃ kk v dk a b c,(i,kk,v)∈ins∧x=.d .any∧o.guard=none∧o.op=.insert t a b c∧evo env a=some (.mp st0.objs.length)∧evo env b=some (.d dk)∧(∀ lim w v,DRep lim w dk v→v=K.ke kk)∧evo env c=some v ∧
      ((masks l []).getD i 0).testBit m=true))
def MChain (P:Program) (N:Nat) (l:List Oper) (m:Nat) (t:TypeId) (K:KeyF P key κ) (ins:List (Nat×κ×EV)) (st0:St):Nat→List Oper→List EV→Env→Prop
 | _,[],[],_=>True
 | i,o :: os,x :: xs,env=>MStep P N l m t K ins st0 i o (renv l o env) x∧MChain P N l m t K ins st0 (i+1) os xs (env.put o.dst x)
 | _,_,_,_=>False
def MOps (P:Program) (f:Ctx) (N:Nat) (S:Start) (Q:EV→St→Prop) (l:List Oper) (p m:Nat) (t:TypeId) (K:KeyF P key κ) (ins:List (Nat×κ×EV)) (i:Nat) (os:List Oper) (k:List Item) (env:Env) (st:St):Prop :=
 ∃ xs,MChain P N l m t K ins st i os xs env∧∀ es,es.Perm (ins.map (·.2))→AOps P f N S Q l (l.drop p) k (putAll env os xs) (st.add (.map (encE K.ke es)))
variable {l:List Oper} {p m:Nat} {t:TypeId} {K:KeyF P key κ} {ins:List (Nat×κ×EV)} {i:Nat} {os:List Oper} {env:Env} {st:St} {d:Option Tmp} {op:Op} {ty:TypeId} {pos:String} {after:Array Edge} {x:EV}
theorem MOps.g (h:∀ s,(s=st∨∃ es,s=st.add (.map es))→OpG P (renv l ⟨d,op,ty,pos,after,none⟩ env) s ⟨d,op,ty,pos,after,none⟩ x) (hb:(Nat.beq i m || ins.any fun e=>Nat.beq e.1 i)=false) (hd:dstOk N d=true)
  (hk:MOps P f N S Q l p m t K ins (i+1) os k (env.put d x) st):MOps P f N S Q l p m t K ins i (⟨d,op,ty,pos,after,none⟩ :: os) k env st:=by
 obtain ⟨xs,h1,h2⟩:=hk
 exact ⟨x :: xs,⟨⟨hd,.inl ⟨hb,fun s hs=>.inl ⟨rfl,h s hs⟩⟩⟩,h1⟩,h2⟩
theorem MOps.q (h:∀ s,(s=st∨∃ es,s=st.add (.map es))→OpQ P (renv l ⟨d,op,ty,pos,after,none⟩ env) s ⟨d,op,ty,pos,after,none⟩ x) (hb:(Nat.beq i m || ins.any fun e=>Nat.beq e.1 i)=false) (hd:dstOk N d=true)
  (hk:MOps P f N S Q l p m t K ins (i+1) os k (env.put d x) st):MOps P f N S Q l p m t K ins i (⟨d,op,ty,pos,after,none⟩ :: os) k env st:=.g (fun s hs=>(h s hs).g) hb hd hk
end lit
structure Sched (l:List Oper) (p:Nat) (σ:List Nat):Prop where
 nodup:σ.Nodup
 mem:∀ i,i∈σ↔i < p
 mask:∀ pre i post,σ=pre++i :: post→∀ j,((masks l []).getD i 0).testBit j=true→j∈pre
theorem lin_main {l:List Oper} {p:Nat} (hp:p≤l.length)
  (hord:∀ i,p≤i→i < l.length→∀ j,j < i→((masks l []).getD i 0).testBit j=true)
  (hacyc:∀ (i:Nat) o,l[i]?=some o→∀ e∈o.after,Region.binds .any e=true→e.on < i) :
  ∀ (cnt fuel t:Nat) (listed:Array Bool),listed.size=l.length→Closed l listed→(∀ i,p≤i→i < l.length→listed.getD i true=false) →
   (((List.range p).filter fun i=>!listed.getD i true).length=cnt)→cnt+(l.length-p)≤fuel →
   ∃ σ:List Nat,Region.linearise.go .any l.toArray fuel t listed []=σ++List.range' p (l.length-p)∧σ.Nodup∧(∀ i,i∈σ↔i < p∧listed.getD i true=false) ∧
    ∀ pre i post,σ=pre++i :: post→∀ j,((masks l []).getD i 0).testBit j=true→j∈pre∨listed.getD j false=true:=by
 intro cnt
 induction cnt with
 | zero =>
  intro fuel t listed hs hcl hsu hcnt hfuel
  have hall:∀ i,i < p→listed.getD i true=true:=by
   intro i hi
   have h0:=List.eq_nil_of_length_eq_zero hcnt
   have hn:i ∉ (List.range p).filter fun i=>!listed.getD i true:=by rw [h0]; simp
   rw [List.mem_filter,List.mem_range] at hn
   cases hb:listed.getD i true with
   | true=>rfl
   | false=>exact absurd ⟨hi,by simp [hb]⟩ hn
  have hgo:=go_suffix hord hacyc fuel t p listed (Nat.le_refl _) hp (by omega) hs (fun i hi=>by
   by_cases h:i < p
   ·rw [hall i h]; simp [h]
   ·rw [hsu i (by omega) hi]; simp [h])
  refine ⟨[],by rw [hgo]; rfl,List.nodup_nil,fun i=>⟨fun h=>(by cases h),fun h=>?_⟩,fun pre i post h=>by simp at h⟩
  rw [hall i h.1] at h; cases h.2
 | succ cnt ih =>
  intro fuel t listed hs hcl hsu hcnt hfuel
  obtain ⟨fuel,rfl⟩:∃ n,fuel=n+1:=⟨fuel-1,by omega⟩
  -- an operation of the beginning that has not come up
  have hex:∃ i,i < p∧listed.getD i true=false:=by
   have:(List.range p).filter (fun i=>!listed.getD i true)≠[]:=fun h=>by rw [h] at hcnt; simp at hcnt
   obtain ⟨i,hi⟩:=List.exists_mem_of_ne_nil _ this
   rw [List.mem_filter,List.mem_range] at hi
   exact ⟨i,hi.1,by simpa using hi.2⟩
  have hDF:∀ i,i < l.length→listed.getD i false=listed.getD i true:=fun i hi=>by
   have hlt:i < listed.size:=by omega
   simp [Array.getD_eq_getD_getElem?,hlt]
  have hrd:((List.range l.toArray.size).filter fun i=>!listed.getD i true && ((l.toArray[i]?).map (·.after.all fun e=>!Region.binds .any e || listed.getD e.on false)).getD false)=Region.ready .any l.toArray listed:=rfl
  -- the least such is ready
  have hne:Region.ready .any l.toArray listed≠[]:=by
   have hmin:∀ n i,i≤n→i < p→listed.getD i true=false→∃ i,i < p∧listed.getD i true=false∧∀ j,j < i→listed.getD j true=true:=by
    intro n
    induction n with
    | zero=>intro i hi hp' h; exact ⟨i,hp',h,fun j hj=>by omega⟩
    | succ n ihn =>
     intro i hi hp' h
     by_cases hh':∃ j,j < i∧listed.getD j true=false
     ·obtain ⟨j,hj,hjl⟩:=hh'
      exact ihn j (by omega) (by omega) hjl
     ·refine ⟨i,hp',h,fun j hj=>?_⟩
      cases hb:listed.getD j true with
      | true=>rfl
      | false=>exact absurd ⟨j,hj,hb⟩ hh'
   obtain ⟨i0,h0,h1⟩:=hex
   obtain ⟨i,hip,hiu,hbel⟩:=hmin i0 i0 (Nat.le_refl _) h0 h1
   have hil:i < l.length:=by omega
   have:i∈Region.ready .any l.toArray listed:=by
    rw [mem_ready]
    refine ⟨hiu,l[i],by simp [hil],fun e he hb=>?_⟩
    have hlt:=hacyc i l[i] (List.getElem?_eq_getElem hil) e he hb
    rw [hDF _ (by omega)]
    exact hbel _ hlt
   intro hnil
   rw [hnil] at this
   cases this
  simp only [Region.linearise.go,hrd]
  have hlen:0 < (Region.ready .any l.toArray listed).length:=List.length_pos_iff.2 hne
  have hmod:=Nat.mod_lt t hlen
  generalize hi:(Region.ready .any l.toArray listed)[t % (Region.ready .any l.toArray listed).length]=i
  have hsome:(Region.ready .any l.toArray listed)[t % (Region.ready .any l.toArray listed).length]?=some i:=by rw [List.getElem?_eq_getElem hmod,hi]
  rw [hsome]
  simp only []
  rw [linearise_go_acc]
  have him:i∈Region.ready .any l.toArray listed:=List.mem_of_getElem? hsome
  obtain ⟨hiu,o,ho,hall⟩:=mem_ready.1 him
  have ho':l[i]?=some o:=by simpa using ho
  have hil:=(List.getElem?_eq_some_iff.1 ho').1
  have hmask:=ready_mask hcl ho' (fun e he hb=>hall e he hb)
  have hip:i < p:=by
   rcases Nat.lt_or_ge i p with h | h
   ·exact h
   ·obtain ⟨i0,h0,h1⟩:=hex
    have:=hmask i0 (hord i h hil i0 (by omega))
    rw [hDF i0 (by omega),h1] at this
    cases this
  -- what remains behind it
  have hcnt':((List.range p).filter fun j=>!(listed.setIfInBounds i true).getD j true).length=cnt:=by
   have hset:∀ j,(listed.setIfInBounds i true).getD j true=(listed.getD j true || decide (j=i)):=by
    intro j
    by_cases hji:j=i
    ·subst hji; simp [Array.getD_eq_getD_getElem?,hs,hil]
    ·rw [getD_set_ne true (Ne.symm hji)]; simp [hji]
   have hfil:((List.range p).filter fun j=>!(listed.setIfInBounds i true).getD j true)=((List.range p).filter fun j=>!listed.getD j true).filter fun j=>!decide (j=i):=by
    rw [List.filter_filter]
    refine List.filter_congr fun j _=>?_
    rw [hset j]
    cases listed.getD j true <;> simp
   rw [hfil]
   have hnd:((List.range p).filter fun j=>!listed.getD j true).Nodup:=List.nodup_range.filter _
   have hmem:i∈(List.range p).filter fun j=>!listed.getD j true:=by rw [List.mem_filter,List.mem_range]; exact ⟨hip,by simp [hiu]⟩
   have hcount:∀ (L:List Nat),L.Nodup→i∈L→(L.filter fun j=>!decide (j=i)).length+1=L.length:=by
    intro L
    induction L with
    | nil=>intro _ h; cases h
    | cons a L ihL =>
     intro hn hm
     rw [List.nodup_cons] at hn
     by_cases ha:a=i
     ·subst ha
      have:(L.filter fun j=>!decide (j=a))=L:=by
       rw [List.filter_eq_self]
       intro b hb
       have:b≠a:=fun e=>hn.1 (e▸hb)
       simp [this]
      rw [List.filter_cons]
      simp [this]
     ·have hm':i∈L:=by
       rcases List.mem_cons.1 hm with h | h
       ·exact absurd h.symm ha
       ·exact h
      rw [List.filter_cons]
      simp only [ha,decide_false,Bool.not_false,if_true,List.length_cons]
      rw [ihL hn.2 hm']
   have:=hcount _ hnd hmem
   omega
  have hcl':Closed l (listed.setIfInBounds i true):=by
   intro j oj hoj hlj e he' hb
   by_cases hji:j=i
   ·subst hji
    rw [ho'] at hoj
    cases hoj
    exact getD_set_true (hall e he' hb)
   ·rw [getD_set_ne false (Ne.symm hji)] at hlj
    exact getD_set_true (hcl j oj hoj hlj e he' hb)
  have hsu':∀ j,p≤j→j < l.length→(listed.setIfInBounds i true).getD j true=false:=fun j hj hjl=>by rw [getD_set_ne true (by omega)]; exact hsu j hj hjl
  obtain ⟨σ,h1,h2,h3,h4⟩:=ih fuel (t / (Region.ready .any l.toArray listed).length) _ (by simpa using hs) hcl' hsu' hcnt' (by omega)
  have hset:∀ j,(listed.setIfInBounds i true).getD j true=(listed.getD j true || decide (j=i)):=by
   intro j
   by_cases hji:j=i
   ·subst hji; simp [Array.getD_eq_getD_getElem?,hs,hil]
   ·rw [getD_set_ne true (Ne.symm hji)]; simp [hji]
  refine ⟨i :: σ,?_,?_,?_,?_⟩
  ·rw [h1]; rfl
  ·rw [List.nodup_cons]
   refine ⟨fun hm=>?_,h2⟩
   have:=((h3 i).1 hm).2
   rw [hset] at this
   simp at this
  ·intro j
   rw [List.mem_cons,h3,hset]
   constructor
   ·rintro (rfl | ⟨a,b⟩)
    ·exact ⟨hip,hiu⟩
    ·refine ⟨a,?_⟩
     cases hj:listed.getD j true with
     | false=>rfl
     | true=>rw [hj] at b; simp at b
   ·rintro ⟨a,b⟩
    by_cases hji:j=i
    ·exact .inl hji
    ·exact .inr ⟨a,by simp [b,hji]⟩
  ·intro pre i' post he j hj
   cases pre with
   | nil =>
    simp only [List.nil_append,List.cons.injEq] at he
    rw [←he.1] at hj
    exact .inr (hmask j hj)
   | cons a pre =>
    simp only [List.cons_append,List.cons.injEq] at he
    rcases h4 pre i' post he.2 j hj with h | h
    ·exact .inl (List.mem_cons_of_mem _ h)
    ·by_cases hji:j=i
     ·left; rw [hji,he.1]; exact List.mem_cons_self
     ·rw [getD_set_ne false (Ne.symm hji)] at h
      exact .inr h
section run
variable {P:Program} {f:Ctx} {N:Nat} {S:Start} {Q:EV→St→Prop} {k:List Item}
theorem ARun.orders {id:Nat} {l:List Oper} {env:Env} {st:St} (p:Nat) (hm:P.follows .mixedOrders=true) (hB:drawB l p=true)
  (h:∀ σ,Sched l p σ→ARun P f N S Q (.inRegion l.toArray (σ++List.range' p (l.length-p)) :: k) env st):ARun P f N S Q (.code (.region id l.toArray true) :: k) env st:=by
 simp only [drawB,Bool.and_eq_true] at hB
 obtain ⟨⟨⟨⟨hB1,hB2⟩,hB3⟩,hB4⟩,hB5⟩:=hB
 have hp:p≤l.length:=by simpa using hB5
 intro g w tmps hinv hh he hn
 refine FWP.regionDraw fun t=>?_
 have hsch:Region.schedule (P.follows .mixedOrders) l.toArray t=Region.linearise .any l.toArray t:=by simp [Region.schedule,hm]
 rw [hsch]
 have hb:Below w.heap.size w { w with drawn:=w.drawn+1 }:=(Below.refl _ w).drew
 obtain ⟨hinv',hst⟩:=hinv.grow (g':=g) hb (fun _ _=>rfl) rfl rfl
 unfold Region.linearise
 obtain ⟨σ,h1,h2,h3,h4⟩:=lin_main (l:=l) (p:=p) hp (fun i hi hil j hj=>by
   have h1:=allBelow_get hB3 hil
   simp only [Bool.or_eq_true,decide_eq_true_eq] at h1
   rcases h1 with h1 | h1
   ·omega
   ·exact allBelow_get h1 hj) (fun i o ho e he' hb'=>by
   have hil:=(List.getElem?_eq_some_iff.1 ho).1
   have h1:=allBelow_get hB4 hil
   rw [ho] at h1
   simp only [List.all_eq_true] at h1
   have:=h1 e (by simpa using he')
   simpa [hb'] using this) p l.toArray.size t (Array.replicate l.toArray.size false) (by simp) (fun i o ho hli=>by
   simp [Array.getD_eq_getD_getElem?,Array.getElem?_replicate] at hli
   split at hli <;> simp_all) (fun i hi hil=>by simp [Array.getD_eq_getD_getElem?,Array.getElem?_replicate,hil]) (by
   have:((List.range p).filter fun i=>!(Array.replicate l.toArray.size false).getD i true)=List.range p:=by
    rw [List.filter_eq_self]
    intro i hi
    have hi':=List.mem_range.1 hi
    have:i < l.length:=by omega
    simp [Array.getD_eq_getD_getElem?,Array.getElem?_replicate,this]
   rw [this]; simp) (by simp; omega)
 rw [h1]
 refine h σ ⟨h2,fun i=>?_,fun pre i post he j hj=>?_⟩ g _ tmps hinv' (hh.step hst) (he.mono hst.sevo) hn
 ·rw [h3]
  constructor
  ·exact fun h=>h.1
  ·intro hi
   have:i < l.length:=by omega
   exact ⟨hi,by simp [Array.getD_eq_getD_getElem?,Array.getElem?_replicate,this]⟩
 ·rcases h4 pre i post he j hj with h | h
  ·exact h
  ·simp [Array.getD_eq_getD_getElem?,Array.getElem?_replicate] at h
   split at h <;> simp_all
def OpC (P:Program) (base:Nat) (env:Env) (st:St) (o:Oper) (x:EV) (st':St):Prop :=
 ∀ g w tmps,Inv g base w st→EnvRep g w st env tmps→∃ f' args,(execOp (Act.eval ⟨tmps,[]⟩) o).run P w=.ok (.enter f' args) w ∧
  Calls P f' args w fun e w'=>∃ v g',e=.returned v∧EVRep g' w' st' x v∧Inv g' base w' st'∧Step base g w st g' w' st'
def OpF (P:Program) (base:Nat) (l:List Oper) (env:Env) (st:St) (o:Oper) (x:EV) (st':St):Prop:=OpE P base l env st o x st'∨(o.guard=none∧OpC P base env st o x st')
theorem ARun.runσ {l:List Oper} {p:Nat} {σ:List Nat} {env:Env} {st:St} (hs:Sched l p σ) (hp:p≤l.length) (xs:List EV) (F:List Nat→St→Prop)
  (hC1:∀ i j t,i < p→j < p→i≠j→dstAt l i=some t→dstAt l j≠some t)
  (hC2:∀ (i:Nat) o,i < p→l[i]?=some o→∀ t∈slots l o,∀ j,j < p→j≠i→dstAt l j=some t→(j < i∧((masks l []).getD i 0).testBit j=true)∨(i < j∧((masks l []).getD j 0).testBit i=true))
  (hxp:xs.length=p) (hF0:F [] st)
  (hstep:∀ pre i post st o,σ=pre++i :: post→l[i]?=some o→F pre st→dstOk N o.dst=true∧∃ x st',xs[i]?=some x∧OpF P S.base l (renv l o (putAll env ((l.take p).take i) (xs.take i))) st o x st'∧F (pre++[i]) st')
  (hsuf:∀ st,F σ st→AOps P f N S Q l (l.drop p) k (putAll env (l.take p) xs) st):ARun P f N S Q (.inRegion l.toArray (σ++List.range' p (l.length-p)) :: k) env st:=by
 have hxl:xs.length=(l.take p).length:=by simp; omega
 suffices key:∀ (post pre:List Nat) (st:St) (g:Ghost) (w:World) (tmps:Array Value),σ=pre++post→F pre st→Inv g S.base w st→Hist S g w st→tmps.size=N →
   (∀ (s:Tmp),(∀ (j:Nat) x,j∈pre→dstAt l j=some s→xs[j]?=some x→∃ v,tmps[s]?=some v∧EVRep g w st x v) ∧
    ((∀ j,j∈pre→dstAt l j≠some s)→∀ y,lookup s env=some y→∃ v,tmps[s]?=some v∧EVRep g w st y v)) →
   FWP P f (RPost S Q) (.inRegion l.toArray (post++List.range' p (l.length-p)) :: k) tmps w by
  intro g w tmps hinv hh he hN
  exact key σ [] st g w tmps rfl hF0 hinv hh hN fun s=>⟨fun j x hj=>by (cases hj),fun _ y hy=>he s y hy⟩
 intro post
 induction post with
 | nil =>
  intro pre st g w tmps hσ hF hinv hh hN hJ
  rw [List.append_nil] at hσ
  subst hσ
  have hdl:(l.drop p).length=l.length-p:=by simp
  rw [List.nil_append,←hdl]
  refine hsuf st hF p (fun j=>by rw [List.getElem?_drop]) g w tmps hinv hh (fun s y hy=>?_) hN
  rcases lookup_putAll hxl hy with ⟨j,o,h1,h2,h3⟩ | ⟨h1,h2⟩
  ·have hj:j < p:=by have:=(List.getElem?_eq_some_iff.1 h2).1; omega
   have ho:l[j]?=some o:=by rw [List.getElem?_take] at h1; rw [if_pos hj] at h1; exact h1
   exact (hJ s).1 j y ((hs.mem j).2 hj) (by simp [dstAt,ho,h3]) h2
  ·refine (hJ s).2 (fun j hj hd=>?_) y h2
   have hj':=(hs.mem j).1 hj
   cases ho:l[j]? with
   | none=>simp [dstAt,ho] at hd
   | some o=>exact h1 j o (by rw [List.getElem?_take,if_pos hj']; exact ho) (by simpa [dstAt,ho] using hd)
 | cons i post ih =>
  intro pre st g w tmps hσ hF hinv hh hN hJ
  have hi:i < p:=(hs.mem i).1 (by rw [hσ]; simp)
  have hil:i < l.length:=by omega
  obtain ⟨o,ho'⟩:∃ o,l[i]?=some o:=⟨_,List.getElem?_eq_getElem hil⟩
  have hmask:=hs.mask pre i post hσ
  have hipre:i ∉ pre:=by
   have:=hs.nodup
   rw [hσ,List.nodup_append] at this
   exact fun hm=>this.2.2 i hm i List.mem_cons_self rfl
  have hprelt:∀ j,j∈pre→j < p:=fun j hj=>(hs.mem j).1 (by rw [hσ]; simp [hj])
  obtain ⟨hd,x,st',hx,hop,hF'⟩:=hstep pre i post st o hσ ho' hF
  -- what the operation looks at
  have he:EnvRep g w st (renv l o (putAll env ((l.take p).take i) (xs.take i))) tmps:=by
   intro s y hy
   obtain ⟨hsl,hy'⟩:=renvOf_get hy
   rcases lookup_putAll (by simp [hxl]) hy' with ⟨j,o',h1,h2,h3⟩ | ⟨h1,h2⟩
   ·have hji:j < i:=by have:=(List.getElem?_eq_some_iff.1 h2).1; simp at this; omega
    have hoj:l[j]?=some o':=by
     rw [List.getElem?_take,if_pos hji,List.getElem?_take,if_pos (by omega)] at h1; exact h1
    have hdj:dstAt l j=some s:=by simp [dstAt,hoj,h3]
    rcases hC2 i o hi ho' s hsl j (by omega) (by omega) hdj with ⟨_,hb⟩ | ⟨hlt,_⟩
    ·exact (hJ s).1 j y (hmask j hb) hdj (by rw [List.getElem?_take,if_pos hji] at h2; exact h2)
    ·omega
   ·refine (hJ s).2 (fun j hj hdj=>?_) y h2
    have hji:j≠i:=fun e=>hipre (e▸hj)
    rcases hC2 i o hi ho' s hsl j (hprelt j hj) hji hdj with ⟨hlt,_⟩ | ⟨hlt,hb⟩
    ·cases hoj:l[j]? with
     | none=>simp [dstAt,hoj] at hdj
     | some o'=>exact h1 j o' (by rw [List.getElem?_take,if_pos hlt,List.getElem?_take,if_pos (hprelt j hj)]; exact hoj) (by simpa [dstAt,hoj] using hdj)
    ·-- j came ahead of i,though it must come behind it
     obtain ⟨a,b,hab⟩:=List.append_of_mem hj
     have:=hs.mask a j (b++i :: post) (by rw [hσ,hab]; simp) i hb
     exact absurd (by rw [hab]; simp [this]:i∈pre) hipre
  have next:∀ (g':Ghost) (w':World) (v:Value),EVRep g' w' st' x v→Inv g' S.base w' st'→Step S.base g w st g' w' st' →
    FWP P f (RPost S Q) (.inRegion l.toArray (post++List.range' p (l.length-p)) :: k) (Act.put ⟨tmps,[]⟩ o.dst v).tmps w':=by
   intro g' w' v hxr hinv' hst
   refine ih (pre++[i]) st' g' w' _ (by rw [hσ]; simp) hF' hinv' (hh.step hst) (by rw [size_put]; exact hN) fun s=>⟨fun j y hj hdj hy=>?_,fun hno y hy=>?_⟩
   ·by_cases hji:j=i
    ·subst hji
     have hods:o.dst=some s:=by simpa [dstAt,ho'] using hdj
     rw [hx] at hy
     cases hy
     rw [hods]
     have hsz:s < tmps.size:=by
      rw [hods] at hd
      have hd':s+1≤N:=Nat.le_of_ble_eq_true hd
      rw [hN]
      exact hd'
     exact ⟨v,by simp [Act.put,hsz],hxr⟩
    ·have hj':j∈pre:=by
      rcases List.mem_append.1 hj with h | h
      ·exact h
      ·exact absurd (List.mem_singleton.1 h) hji
     obtain ⟨u,h1,h2⟩:=(hJ s).1 j y hj' hdj hy
     have hne':o.dst≠some s:=fun e=>hC1 j i s (hprelt j hj') hi hji hdj (by simp [dstAt,ho',e])
     refine ⟨u,?_,h2.mono hst.sevo⟩
     cases hod:o.dst with
     | none=>exact h1
     | some d =>
      have:d≠s:=fun e=>hne' (by rw [hod,e])
      simp [Act.put,Array.getElem?_setIfInBounds,this,h1]
   ·have hne':o.dst≠some s:=fun e=>hno i (by simp) (by simp [dstAt,ho',e])
    obtain ⟨u,h1,h2⟩:=(hJ s).2 (fun j hj=>hno j (by simp [hj])) y hy
    refine ⟨u,?_,h2.mono hst.sevo⟩
    cases hod:o.dst with
    | none=>exact h1
    | some d =>
     have:d≠s:=fun e=>hne' (by rw [hod,e])
     simp [Act.put,Array.getElem?_setIfInBounds,this,h1]
  have hoA:l.toArray[i]?=some o:=by simpa using ho'
  show FWP P f (RPost S Q) (.inRegion l.toArray (i :: _) :: k) tmps w
  have nextG:st'=st→∀ (lim':Nat→Nat) (w':World) (v:Value),Good g w st x lim' w' v →
    FWP P f (RPost S Q) (.inRegion l.toArray (post++List.range' p (l.length-p)) :: k) (Act.put ⟨tmps,[]⟩ o.dst v).tmps w':=by
   rintro rfl lim' w' v ⟨hxr,hb,hl⟩
   obtain ⟨hinv',hst⟩:=hinv.grow (g':={ g with lim:=lim' }) hb hl rfl rfl
   exact next _ w' v hxr hinv' hst
  rcases hop with (⟨hse,hop⟩ | ⟨hg,hop⟩ | ⟨hg,rfl,hop⟩) | ⟨hg,hop⟩
  ·rcases hop with ⟨hg,hop⟩ | ⟨j,want,tt,c,b,y,env',hg,hj,hlk,hgc,rfl,hE,hop⟩
   ·have hw:Region.wanted o (yielded l.toArray tmps)=true:=by simp [Region.wanted,hg]
    rcases hop g S.base w tmps hinv he with ⟨v,lim',w',hr,hgood⟩ | ⟨f',args,hr,hc⟩
    ·exact FWP.value hoA hw hr (nextG hse lim' w' v hgood)
    ·exact FWP.call hoA hw hr (hc.mono fun e w' ⟨v,lim',h1,h2⟩=>⟨v,h1,nextG hse lim' w' v h2⟩)
   ·obtain ⟨u,hu,hur⟩:=he tt c hlk
    have hw:Region.wanted o (yielded l.toArray tmps)=b:=by
     rw [←gcond_rep hgc hur]
     have hj':((l.toArray)[j]?).bind (·.dst)=some tt:=by simpa using hj
     simp only [Region.wanted,hg,yielded,hj',Option.bind_some,hu]
     cases u <;> rfl
    cases b with
    | false=>exact FWP.unwanted hoA hw (nextG hse g.lim w undef ⟨.gd _ _ _ (fun _=>rfl) (fun h=>by cases h),.refl _ _,fun _ _=>rfl⟩)
    | true =>
     have wrap:∀ lim' w' v,Good g w st y lim' w' v→Good g w st (.gd true y) lim' w' v:=fun lim' w' v ⟨a,b,c⟩=>⟨.gd _ _ _ (fun h=>by cases h) (fun _=>a),b,c⟩
     rcases hop rfl g S.base w tmps hinv (he.gd hE rfl) with ⟨v,lim',w',hr,hgood⟩ | ⟨f',args,hr,hc⟩
     ·exact FWP.value hoA hw hr (nextG hse lim' w' v (wrap _ _ _ hgood))
     ·exact FWP.call hoA hw hr (hc.mono fun e w' ⟨v,lim',h1,h2⟩=>⟨v,h1,nextG hse lim' w' v (wrap _ _ _ h2)⟩)
  ·have hw:Region.wanted o (yielded l.toArray tmps)=true:=by simp [Region.wanted,hg]
   obtain ⟨v,g',w',hr,hxr,hinv',hst⟩:=hop g w tmps hinv he
   exact FWP.value hoA hw hr (next g' w' v hxr hinv' hst)
  ·have hw:Region.wanted o (yielded l.toArray tmps)=true:=by simp [Region.wanted,hg]
   obtain ⟨g',w',hr,hinv',hst⟩:=hop g w tmps hinv he
   exact FWP.skip hoA hw hr (next g' w' undef (.d _ _ (.any _)) hinv' hst)
  ·have hw:Region.wanted o (yielded l.toArray tmps)=true:=by simp [Region.wanted,hg]
   obtain ⟨f',args,hr,hc⟩:=hop g w tmps hinv he
   exact FWP.call hoA hw hr (hc.mono fun e w' ⟨v,g',h1,hxr,hinv',hst⟩=>⟨v,h1,next g' w' v hxr hinv' hst⟩)
def AllL:List St→(St→Prop)→Prop
 | [],_=>True
 | s :: r,p=>p s∧AllL r p
theorem AllL.get {p:St→Prop}:∀ {ss:List St} {i:Nat} {s:St},AllL ss p→ss[i]?=some s→p s
 | s :: r,0,s',h,hs=>by simp at hs; subst hs; exact h.1
 | s :: r,i+1,s',h,hs=>AllL.get h.2 (by simpa using hs)
 | [],i,s',h,hs=>by simp at hs
def mayB (l:List Oper) (E:List Nat) (i m:Nat):Bool:=E.zipIdx.all fun e=>(!((masks l []).getD i 0).testBit e.1 || decide (e.2 < m)) && (!((masks l []).getD e.1 0).testBit i || decide (m≤e.2))
def boundB (l:List Oper) (E:List Nat) (i lo hi:Nat):Bool:=(List.range (E.length+1)).all fun m=>!mayB l E i m || (decide (lo≤m) && decide (m≤hi))
def EStep (P:Program) (N base:Nat) (l:List Oper) (E:List Nat) (sts:List St) (i:Nat) (o:Oper) (env:Env) (x:EV):Prop :=
  dstOk N o.dst=true ∧
  ((∃ lo hi,(!E.any fun e=>Nat.beq e i)=true∧boundB l E i lo hi=true∧AllL ((sts.take (hi+1)).drop lo) fun s=>OpAny P l env s o x) ∨
   (∃ m s s',E[m]?=some i∧sts[m]?=some s∧sts[m+1]?=some s'∧o.guard=none∧(OpV P base env s o x s'∨(x=.d .any∧OpU P base env s o s')∨OpC P base env s o x s')))
def EChain (P:Program) (N base:Nat) (l:List Oper) (E:List Nat) (sts:List St):Nat→List Oper→List EV→Env→Prop
 | _,[],[],_=>True
 | i,o :: os,x :: xs,env=>EStep P N base l E sts i o (renv l o env) x∧EChain P N base l E sts (i+1) os xs (env.put o.dst x)
 | _,_,_,_=>False
theorem EChain.length {base:Nat} {l:List Oper} {E:List Nat} {sts:List St}:∀ {i:Nat} {os:List Oper} {xs:List EV} {env:Env},EChain P N base l E sts i os xs env→xs.length=os.length
 | _,[],[],_,_=>rfl
 | _,o :: os,x :: xs,env,h=>by simp [EChain.length h.2]
 | _,[],x :: xs,_,h=>h.elim
 | _,o :: os,[],_,h=>h.elim
theorem EChain.get {base:Nat} {l:List Oper} {E:List Nat} {sts:List St}:∀ {i:Nat} {os:List Oper} {xs:List EV} {env:Env} {j:Nat} {o:Oper},EChain P N base l E sts i os xs env→os[j]?=some o →
  ∃ x,xs[j]?=some x∧EStep P N base l E sts (i+j) o (renv l o (putAll env (os.take j) (xs.take j))) x
 | i,o' :: os,x :: xs,env,0,o,h,ho=>by
  simp at ho; subst ho
  exact ⟨x,rfl,by simpa [putAll] using h.1⟩
 | i,o' :: os,x :: xs,env,j+1,o,h,ho=>by
  obtain ⟨y,h1,h2⟩:=EChain.get (j:=j) h.2 (by simpa using ho)
  exact ⟨y,by simpa using h1,by simpa [putAll,Nat.add_assoc,Nat.add_comm 1 j] using h2⟩
 | i,[],xs,env,j,o,h,ho=>by simp at ho
 | i,o' :: os,[],_,_,_,h,_=>h.elim
theorem ARun.effσ {l:List Oper} {p:Nat} {σ:List Nat} {env:Env} {st stF:St} (hB:drawB l p=true) (hs:Sched l p σ) (E:List Nat) (sts:List St) (hE:σ.filter (fun i=>E.any fun e=>Nat.beq e i)=E) {xs:List EV}
  (h0:sts[0]?=some st) (hF:sts[E.length]?=some stF) (hch:EChain P N S.base l E sts 0 (l.take p) xs env) (hsuf:AOps P f N S Q l (l.drop p) k (putAll env (l.take p) xs) stF) :
  ARun P f N S Q (.inRegion l.toArray (σ++List.range' p (l.length-p)) :: k) env st:=by
 simp only [drawB,Bool.and_eq_true] at hB
 obtain ⟨⟨⟨⟨hB1,hB2⟩,hB3⟩,hB4⟩,hB5⟩:=hB
 have hp:p≤l.length:=by simpa using hB5
 have hxp:xs.length=p:=by rw [hch.length]; simp; omega
 refine ARun.runσ hs hp xs (fun pre s=>sts[(pre.filter fun i=>E.any fun e=>Nat.beq e i).length]?=some s) ?_ ?_ hxp h0 ?_ ?_
 ·intro i j t hi hj hij hdi hdj
  have:=allBelow_get (allBelow_get hB2 hi) hj
  simp [hij,hdi,hdj] at this
 ·intro i o hi ho t ht j hj hji hdj
  have h1:=allBelow_get hB1 hi
  rw [ho] at h1
  simp only [List.all_eq_true] at h1
  have h2:=allBelow_get (h1 t ht) hj
  simp only [hdj,bne_self_eq_false,Bool.or_false,Bool.or_eq_true,Bool.and_eq_true,decide_eq_true_eq,beq_iff_eq] at h2
  rcases h2 with (h2 | h2) | h2
  ·exact absurd h2.symm hji
  ·exact .inl h2
  ·exact .inr h2
 ·intro pre i post s o hσ ho hFs
  have hi:i < p:=(hs.mem i).1 (by rw [hσ]; simp)
  obtain ⟨x,hx,hst⟩:=hch.get (j:=i) (o:=o) (by rw [List.getElem?_take,if_pos hi]; exact ho)
  rw [Nat.zero_add] at hst
  obtain ⟨hd,hst⟩:=hst
  refine ⟨hd,x,?_⟩
  -- how far the turning operations have come
  have hsplit:E=(pre.filter fun i=>E.any fun e=>Nat.beq e i)++((i :: post).filter fun i=>E.any fun e=>Nat.beq e i):=by
   have:=hE
   rw [hσ,List.filter_append] at this
   exact this.symm
  generalize hm:(pre.filter fun i=>E.any fun e=>Nat.beq e i).length=m at hFs
  have hmE:m≤E.length:=by rw [hsplit,List.length_append,hm]; omega
  rcases hst with ⟨lo,hi',hne,hb,hall⟩ | ⟨m',s0,s1,hEm,hs0,hs1,hg,hop⟩
  ·have hnoE:(E.any fun e=>Nat.beq e i)=false:=by simpa using hne
   have hmay:mayB l E i m=true:=by
    unfold mayB
    rw [List.all_eq_true]
    rintro ⟨e,j⟩ hej
    have hEj:E[j]?=some e:=by
     have:=List.mem_zipIdx_iff_getElem?.1 hej
     simpa using this
    have hinE:(E.any fun e'=>Nat.beq e' e)=true:=List.any_eq_true.2 ⟨e,List.mem_of_getElem? hEj,Nat.beq_refl e⟩
    simp only [Bool.and_eq_true,Bool.or_eq_true,Bool.not_eq_true',decide_eq_true_eq]
    have hnodE:E.Nodup:=by rw [←hE]; exact hs.nodup.filter _
    constructor
    ·cases hbit:((masks l []).getD i 0).testBit e with
     | false=>exact .inl rfl
     | true =>
      right
      have hin:=hs.mask pre i post hσ e hbit
      have hin2:e∈pre.filter fun i=>E.any fun e=>Nat.beq e i:=List.mem_filter.2 ⟨hin,hinE⟩
      obtain ⟨a,ha,hae⟩:=List.mem_iff_getElem.1 hin2
      have:E[a]?=some e:=by rw [hsplit,List.getElem?_append_left ha,List.getElem?_eq_getElem ha,hae]
      have haj:a=j:=by
       have h1:=(List.getElem?_eq_some_iff.1 this)
       have h2:=(List.getElem?_eq_some_iff.1 hEj)
       exact (List.getElem_inj hnodE).1 (h1.2.trans h2.2.symm)
      omega
    ·cases hbit:((masks l []).getD e 0).testBit i with
     | false=>exact .inl rfl
     | true =>
      right
      -- e comes behind i
      rcases Nat.lt_or_ge j m with hjm | hjm
      ·have h1:(pre.filter fun i=>E.any fun e=>Nat.beq e i)[j]?=some e:=by
        rw [hsplit,List.getElem?_append_left (by omega)] at hEj
        exact hEj
       have hin:e∈pre:=(List.mem_filter.1 (List.mem_of_getElem? h1)).1
       obtain ⟨a,b,hab⟩:=List.append_of_mem hin
       have:=hs.mask a e (b++i :: post) (by rw [hσ,hab]; simp) i hbit
       have hipre:i ∉ pre:=by
        have:=hs.nodup
        rw [hσ,List.nodup_append] at this
        exact fun hm=>this.2.2 i hm i List.mem_cons_self rfl
       exact absurd (by rw [hab]; simp [this]:i∈pre) hipre
      ·exact hjm
   have hbd:=List.all_eq_true.1 hb m (List.mem_range.2 (by omega))
   rw [hmay] at hbd
   simp only [Bool.not_true,Bool.false_or,Bool.and_eq_true,decide_eq_true_eq] at hbd
   refine ⟨s,hx,.inl (.inl ⟨rfl,hall.get (i:=m-lo) ?_⟩),?_⟩
   ·rw [List.getElem?_drop,List.getElem?_take,if_pos (by omega),show lo+(m-lo)=m by omega]
    exact hFs
   ·rw [List.filter_append,List.filter_cons,hnoE]
    simp only [Bool.false_eq_true,if_false,List.filter_nil,List.append_nil]
    rw [hm]; exact hFs
  ·have hinE:(E.any fun e'=>Nat.beq e' i)=true:=List.any_eq_true.2 ⟨i,List.mem_of_getElem? hEm,Nat.beq_refl i⟩
   have hnodE:E.Nodup:=by rw [←hE]; exact hs.nodup.filter _
   have hEm2:E[m]?=some i:=by
    rw [hsplit,List.getElem?_append_right (by omega),hm,Nat.sub_self,List.filter_cons,hinE]
    rfl
   have hmm:m=m':=by
    have h1:=(List.getElem?_eq_some_iff.1 hEm2)
    have h2:=(List.getElem?_eq_some_iff.1 hEm)
    exact (List.getElem_inj hnodE).1 (h1.2.trans h2.2.symm)
   subst hmm
   rw [hFs] at hs0
   cases hs0
   refine ⟨s1,hx,?_,?_⟩
   ·rcases hop with h | ⟨h1,h2⟩ | h
    ·exact .inl (.inr (.inl ⟨hg,h⟩))
    ·exact .inl (.inr (.inr ⟨hg,h1,h2⟩))
    ·exact .inr ⟨hg,h⟩
   ·rw [List.filter_append,List.filter_cons,hinE]
    simp only [if_true,List.filter_nil,List.length_append,List.length_singleton,hm]
    exact hs1
 ·intro s hFs
  rw [hE,hF] at hFs
  cases hFs
  exact hsuf
theorem filter_one {σ:List Nat} (hn:σ.Nodup) {e:Nat} (he:e∈σ):σ.filter (fun i=>i==e)=[e]:=by
 induction σ with
 | nil=>cases he
 | cons c r ih =>
  rw [List.nodup_cons] at hn
  by_cases hc:c=e
  ·subst hc
   have:r.filter (fun i=>i==c)=[]:=List.filter_eq_nil_iff.2 fun i hi h=>hn.1 (by rw [beq_iff_eq] at h; exact h▸hi)
   rw [List.filter_cons,beq_self_eq_true,if_pos rfl,this]
  ·rw [List.filter_cons]
   have:(c==e)=false:=by simpa using hc
   rw [this]
   simpa using ih hn.2 ((List.mem_cons.1 he).resolve_left (Ne.symm hc))
theorem Sched.one {l:List Oper} {p:Nat} {σ:List Nat} (hs:Sched l p σ) {e:Nat} (he:e < p):σ.filter (fun i=>[e].any fun e=>Nat.beq e i)=[e]:=by
 have h1:(fun i=>[e].any fun e=>Nat.beq e i)=fun i=>i==e:=by
  funext i
  simp only [List.any_cons,List.any_nil,Bool.or_false]
  rw [Bool.eq_iff_iff,Nat.beq_eq,beq_iff_eq,eq_comm]
 rw [h1]
 exact filter_one hs.nodup ((hs.mem e).2 he)
theorem filter_two {σ:List Nat} (hn:σ.Nodup) {a b:Nat} (hab:a≠b) (ha:a∈σ) (hb:b∈σ) (q:Nat→Bool) (hq:∀ i,q i=(i==a || i==b)):σ.filter q=[a,b]∨σ.filter q=[b,a]:=by
 induction σ with
 | nil=>cases ha
 | cons c r ih =>
  rw [List.nodup_cons] at hn
  by_cases hca:c=a
  ·subst hca
   left
   have hbr:b∈r:=(List.mem_cons.1 hb).resolve_left (Ne.symm hab)
   rw [List.filter_cons,hq,beq_self_eq_true,Bool.true_or,if_pos rfl]
   congr 1
   have:r.filter q=r.filter fun i=>i==b:=List.filter_congr fun i hi=>by
    have:i≠c:=fun e=>hn.1 (e▸hi)
    rw [hq]; simp [this]
   rw [this]
   exact filter_one hn.2 hbr
  ·by_cases hcb:c=b
   ·subst hcb
    right
    have har:a∈r:=(List.mem_cons.1 ha).resolve_left (Ne.symm hca)
    rw [List.filter_cons,hq,beq_self_eq_true,Bool.or_true,if_pos rfl]
    congr 1
    have:r.filter q=r.filter fun i=>i==a:=List.filter_congr fun i hi=>by
     have:i≠c:=fun e=>hn.1 (e▸hi)
     rw [hq]; simp [this]
    rw [this]
    exact filter_one hn.2 har
   ·have har:a∈r:=(List.mem_cons.1 ha).resolve_left (Ne.symm hca)
    have hbr:b∈r:=(List.mem_cons.1 hb).resolve_left (Ne.symm hcb)
    have:=ih hn.2 har hbr
    rw [List.filter_cons,hq]
    simpa [hca,hcb] using this
theorem Sched.two {l:List Oper} {p:Nat} {σ:List Nat} (hs:Sched l p σ) {a b:Nat} (hab:a≠b) (ha:a < p) (hb:b < p) :
  σ.filter (fun i=>[a,b].any fun e=>Nat.beq e i)=[a,b]∨σ.filter (fun i=>[b,a].any fun e=>Nat.beq e i)=[b,a]:=by
 have q1:∀ i,([a,b].any fun e=>Nat.beq e i)=(i==a || i==b):=fun i=>by
  simp only [List.any_cons,List.any_nil,Bool.or_false]
  rw [Bool.eq_iff_iff]
  simp only [Bool.or_eq_true,Nat.beq_eq,beq_iff_eq]
  exact ⟨fun h=>h.elim (fun h=>.inl h.symm) (fun h=>.inr h.symm),fun h=>h.elim (fun h=>.inl h.symm) (fun h=>.inr h.symm)⟩
 have q2:∀ i,([b,a].any fun e=>Nat.beq e i)=(i==a || i==b):=fun i=>by
  simp only [List.any_cons,List.any_nil,Bool.or_false]
  rw [Bool.eq_iff_iff]
  simp only [Bool.or_eq_true,Nat.beq_eq,beq_iff_eq]
  exact ⟨fun h=>h.elim (fun h=>.inr h.symm) (fun h=>.inl h.symm),fun h=>h.elim (fun h=>.inr h.symm) (fun h=>.inl h.symm)⟩
 rcases filter_two hs.nodup hab ((hs.mem a).2 ha) ((hs.mem b).2 hb) _ q1 with h | h
 ·exact .inl h
 ·right
  have:(fun i=>[b,a].any fun e=>Nat.beq e i)=fun i=>[a,b].any fun e=>Nat.beq e i:=by
   funext i; rw [q1,q2]
  rw [this]; exact h
theorem Sched.two' {l:List Oper} {p:Nat} {σ:List Nat} (hs:Sched l p σ) {a b:Nat} (ha:a < p) (hb:b < p) (hm:((masks l []).getD b 0).testBit a=true) :
  σ.filter (fun i=>[a,b].any fun e=>Nat.beq e i)=[a,b]:=by
 have hab:a≠b:=by
  rintro rfl
  obtain ⟨x,y,hxy⟩:=List.append_of_mem ((hs.mem a).2 ha)
  have h1:=hs.mask x a y hxy a hm
  have:=hs.nodup
  rw [hxy,List.nodup_append] at this
  exact this.2.2 a h1 a List.mem_cons_self rfl
 rcases hs.two hab ha hb with h | h
 ·exact h
 ·exfalso
  obtain ⟨x,y,hxy⟩:=List.append_of_mem ((hs.mem b).2 hb)
  have h1:=hs.mask x b y hxy a hm
  rw [hxy,List.filter_append] at h
  have q:([b,a].any fun e=>Nat.beq e b)=true:=by simp
  rw [List.filter_cons,q] at h
  have h2:a∈x.filter fun i=>[b,a].any fun e=>Nat.beq e i:=List.mem_filter.2 ⟨h1,by simp⟩
  obtain ⟨u,v,huv⟩:=List.append_of_mem h2
  have hl:=congrArg List.length h
  have hbx:b ∉ x:=by
   have:=hs.nodup
   rw [hxy,List.nodup_append] at this
   exact fun hm=>this.2.2 b hm b List.mem_cons_self rfl
  cases hx:x.filter fun i=>[b,a].any fun e=>Nat.beq e i with
  | nil=>rw [hx] at h2; cases h2
  | cons c r =>
   rw [hx] at h
   simp only [List.cons_append,List.cons.injEq] at h
   have:b∈x.filter fun i=>[b,a].any fun e=>Nat.beq e i:=by rw [hx,h.1]; exact List.mem_cons_self
   exact hbx (List.mem_filter.1 this).1
def XOps (P:Program) (f:Ctx) (N:Nat) (S:Start) (Q:EV→St→Prop) (l:List Oper) (p:Nat) (E:List Nat) (sts:List St) (i:Nat) (os:List Oper) (k:List Item) (env:Env):Prop :=
 ∃ xs stF,sts[E.length]?=some stF∧EChain P N S.base l E sts i os xs env∧AOps P f N S Q l (l.drop p) k (putAll env os xs) stF
variable {l:List Oper} {p:Nat} {E:List Nat} {sts:List St} {i:Nat} {os:List Oper} {env:Env} {st:St} {d:Option Tmp} {op:Op} {ty:TypeId} {pos:String} {after:Array Edge} {x:EV}
theorem XOps.nil {stF:St} (hF:sts[E.length]?=some stF) (h:AOps P f N S Q l (l.drop p) k env stF):XOps P f N S Q l p E sts i [] k env:=⟨[],stF,hF,trivial,h⟩
def GAll (P:Program) (l:List Oper) (env:Env) (o:Oper) (x:EV):List St→Prop
 | []=>True
 | s :: r=>OpG P (renv l o env) s o x∧GAll P l env o x r
theorem GAll.all {o:Oper} {P:Program} {l:List Oper} {env:Env} {x:EV} (hg:o.guard=none):∀ {ss:List St},GAll P l env o x ss→AllL ss fun s=>OpAny P l (renv l o env) s o x
 | [],_=>trivial
 | s :: r,h=>⟨.inl ⟨hg,h.1⟩,GAll.all hg h.2⟩
theorem XOps.g (lo hi:Nat) (h:GAll P l env ⟨d,op,ty,pos,after,none⟩ x ((sts.take (hi+1)).drop lo)) (hne:(!E.any fun e=>Nat.beq e i)=true) (hb:boundB l E i lo hi=true) (hd:dstOk N d=true)
  (hk:XOps P f N S Q l p E sts (i+1) os k (env.put d x)):XOps P f N S Q l p E sts i (⟨d,op,ty,pos,after,none⟩ :: os) k env:=by
 obtain ⟨xs,stF,h0,h1,h2⟩:=hk
 exact ⟨x :: xs,stF,h0,⟨⟨hd,.inl ⟨lo,hi,hne,hb,h.all rfl⟩⟩,h1⟩,h2⟩
theorem XOps.v {s s':St} (m:Nat) (h:OpV P S.base (renv l ⟨d,op,ty,pos,after,none⟩ env) s ⟨d,op,ty,pos,after,none⟩ x s') (hE:E[m]?=some i) (h1:sts[m]?=some s) (h2:sts[m+1]?=some s') (hd:dstOk N d=true)
  (hk:XOps P f N S Q l p E sts (i+1) os k (env.put d x)):XOps P f N S Q l p E sts i (⟨d,op,ty,pos,after,none⟩ :: os) k env:=by
 obtain ⟨xs,stF,h0,h3,h4⟩:=hk
 exact ⟨x :: xs,stF,h0,⟨⟨hd,.inr ⟨m,s,s',hE,h1,h2,rfl,.inl h⟩⟩,h3⟩,h4⟩
theorem XOps.u {s s':St} (m:Nat) (h:OpU P S.base (renv l ⟨d,op,ty,pos,after,none⟩ env) s ⟨d,op,ty,pos,after,none⟩ s') (hE:E[m]?=some i) (h1:sts[m]?=some s) (h2:sts[m+1]?=some s') (hd:dstOk N d=true)
  (hk:XOps P f N S Q l p E sts (i+1) os k (env.put d (.d .any))):XOps P f N S Q l p E sts i (⟨d,op,ty,pos,after,none⟩ :: os) k env:=by
 obtain ⟨xs,stF,h0,h3,h4⟩:=hk
 exact ⟨.d .any :: xs,stF,h0,⟨⟨hd,.inr ⟨m,s,s',hE,h1,h2,rfl,.inr (.inl ⟨rfl,h⟩)⟩⟩,h3⟩,h4⟩
theorem XOps.c {s s':St} (m:Nat) (h:OpC P S.base (renv l ⟨d,op,ty,pos,after,none⟩ env) s ⟨d,op,ty,pos,after,none⟩ x s') (hE:E[m]?=some i) (h1:sts[m]?=some s) (h2:sts[m+1]?=some s') (hd:dstOk N d=true)
  (hk:XOps P f N S Q l p E sts (i+1) os k (env.put d x)):XOps P f N S Q l p E sts i (⟨d,op,ty,pos,after,none⟩ :: os) k env:=by
 obtain ⟨xs,stF,h0,h3,h4⟩:=hk
 exact ⟨x :: xs,stF,h0,⟨⟨hd,.inr ⟨m,s,s',hE,h1,h2,rfl,.inr (.inr h)⟩⟩,h3⟩,h4⟩
theorem ARun.eff {σ:List Nat} {env:Env} {st:St} (hB:drawB l p=true) (hs:Sched l p σ) (hE:σ.filter (fun i=>E.any fun e=>Nat.beq e i)=E) (h0:sts[0]?=some st) (h:XOps P f N S Q l p E sts 0 (l.take p) k env) :
  ARun P f N S Q (.inRegion l.toArray (σ++List.range' p (l.length-p)) :: k) env st:=by
 obtain ⟨xs,stF,h1,h2,h3⟩:=h
 exact .effσ hB hs E sts hE h0 h1 h2 h3
theorem ARun.orders1 {id:Nat} {l:List Oper} {env:Env} {st:St} (p a:Nat) (sts:List St) (hm:P.follows .mixedOrders=true) (hB:drawB l p=true) (ha:a < p) (h0:sts[0]?=some st)
  (h:XOps P f N S Q l p [a] sts 0 (l.take p) k env):ARun P f N S Q (.code (.region id l.toArray true) :: k) env st :=
 .orders p hm hB fun _ hσ=>.eff hB hσ (hσ.one ha) h0 h
theorem ARun.orders2 {id:Nat} {l:List Oper} {env:Env} {st:St} (p a b:Nat) (sts:List St) (hm:P.follows .mixedOrders=true) (hB:drawB l p=true) (ha:a < p) (hb:b < p) (hab:((masks l []).getD b 0).testBit a=true) (h0:sts[0]?=some st)
  (h:XOps P f N S Q l p [a,b] sts 0 (l.take p) k env):ARun P f N S Q (.code (.region id l.toArray true) :: k) env st :=
 .orders p hm hB fun _ hσ=>.eff hB hσ (hσ.two' ha hb hab) h0 h
end run
section rules
variable {P:Program} {f:Ctx} {N:Nat} {S:Start} {Q:EV→St→Prop} {k:List Item} {todo:List Item} {base:Nat} {env:Env} {st:St} {ops rest:List Oper}
 {d:Option Tmp} {ty:TypeId} {pos:String} {after:Array Edge} {gd:Option (Nat×Bool)} {t t2 e:TypeId} {x y z:Operand}
section sl
variable {α:Type} {sz:Nat} {row:α→List D} {l:List α} {ev:EV} {inf:TypeInfo} {tk tk2 n n2:Nat}
theorem v_append0P {l':List α} {zv:Value} {e0:EV} {w2:EV} (ht:P.underlying t=some (.slice e)) (hi:P.info? e=some inf) (hz:inf.zero=some zv) (hsize:inf.size=sz) (hzs:zv.cells.size=sz) (hb:inf.bytes≤100000)
  (hx:evo env x=some e0) (h0:e0=.d (.e0 sz)∨e0=.d nilD) (htl:st.tails[tk]?=some ⟨e,sz,0,some (([]:List α).map row)⟩) (hy:evo env y=some w2) (hs:asSl w2=some (sz,l'.map row)) (hn:l'.length≤1000000000) :
  OpV P base env st ⟨d,.call ⟨.builtin .append,#[x,y],#[t,t]⟩,ty,pos,after,gd⟩ (.vc tk ([]++l').length) (st.setTail tk ⟨e,sz,([]++l').length,some (([]++l').map row)⟩):=by
 intro g w tmps hinv he
 have hdx:DRep g.lim w (.e0 sz) (Act.eval ⟨tmps,[]⟩ x):=by
  rcases h0 with rfl | rfl
  ·cases evo_rep he hx with | d _ _ h=>exact h
  ·rw [(evo_rep he hx).ex_inv]; exact .e0 sz none (.inl rfl)
 have hlen:tk < st.tails.length:=(List.getElem?_eq_some_iff.1 htl).1
 have hrep:EVRep g w st (.vc tk 0) (Act.eval ⟨tmps,[]⟩ x):=by
  generalize hv:Act.eval ⟨tmps,[]⟩ x=v at hdx
  cases hdx with | e0 _ A hA=>exact vc_emp hlen htl ⟨A,rfl⟩
 obtain ⟨news,hsr⟩:=srcRep_sl (P:=P) (asSl_rep hs (evo_rep he hy))
 obtain ⟨v',g',w',hrun,k1,k2,k3⟩:=append_valV (ty:=ty) (l:=([]:List α)) ht ht (.inr ⟨e,rfl⟩) hi hz hsize hzs hb hinv hrep htl (by simpa using hn) hsr
 exact ⟨v',g',w',by simp [execOp,resolve,invoke,builtin,hrun],k1,k2,k3⟩
end sl
theorem ARun.tokP {e sz:Nat} (h:ARun P f N S Q todo env (st.tok ⟨e,sz,0,some []⟩)):ARun P f N S Q todo env st:=by
 intro g w tmps hinv hh he hN
 obtain ⟨g',h1,_,_,h2,h3⟩:=hinv.newTail ⟨e,sz,0,some []⟩ (World.ownsRow_nil w S.base _ _) (.inl ⟨rfl,rfl⟩) (fun rows hr=>by cases hr; exact ⟨rfl,by simp,by simp⟩)
 exact h g' w tmps h2 (hh.step h3) (he.mono h3.sevo) hN
end rules
def codeN (L:Nat→Bool):List Nat→Nat
 | []=>0
 | e :: r=>(if L e then 1 else 0)+2*codeN L r
theorem codeN_bit (L:Nat→Bool):∀ (E:List Nat) (j e:Nat),E[j]?=some e→(codeN L E).testBit j=L e
 | e :: r,0,e',h=>by
  simp at h; subst h
  unfold codeN
  cases hL:L e <;> simp [Nat.testBit_zero] <;> omega
 | e :: r,j+1,e',h=>by
  have ih:=codeN_bit L r j e' (by simpa using h)
  unfold codeN
  rw [Nat.testBit_succ]
  have:((if L e then 1 else 0)+2*codeN L r) / 2=codeN L r:=by cases L e <;> simp <;> omega
  rw [this]; exact ih
theorem codeN_lt (L:Nat→Bool):∀ E:List Nat,codeN L E < 2 ^ E.length
 | []=>by simp [codeN]
 | e :: r=>by
  have:=codeN_lt L r
  unfold codeN
  rw [List.length_cons,Nat.pow_succ]
  cases L e <;> simp <;> omega
theorem codeN_same {L L':Nat→Bool}:∀ {E:List Nat},(∀ e∈E,L' e=L e)→codeN L' E=codeN L E
 | [],_=>rfl
 | e :: r,h=>by
  unfold codeN
  rw [h e List.mem_cons_self,codeN_same fun x hx=>h x (List.mem_cons_of_mem _ hx)]
theorem codeN_add {L:Nat→Bool} {i:Nat} (hi:L i=false):∀ {E:List Nat} {m:Nat},E.Nodup→E[m]?=some i→codeN (fun j=>j==i || L j) E=codeN L E+2 ^ m
 | e :: r,0,hn,h=>by
  simp at h; subst h
  rw [List.nodup_cons] at hn
  unfold codeN
  rw [codeN_same (L:=L) (E:=r) fun x hx=>by
   have:x≠e:=fun hh=>hn.1 (hh▸hx)
   simp [this]]
  simp [hi]; omega
 | e :: r,m+1,hn,h=>by
  rw [List.nodup_cons] at hn
  have h':r[m]?=some i:=by simpa using h
  have ih:=codeN_add hi hn.2 h'
  have hne:e≠i:=fun hh=>hn.1 (hh▸List.mem_of_getElem? h')
  unfold codeN
  rw [ih,Nat.pow_succ]
  have:(e==i)=false:=by simpa using hne
  simp only [this,Bool.false_or]
  omega
def mayN (l:List Oper) (E:List Nat) (i n:Nat):Bool :=
 E.zipIdx.all fun e=>(!((masks l []).getD i 0).testBit e.1 || n.testBit e.2) && (!(((masks l []).getD e.1 0).testBit i || Nat.beq e.1 i) || !n.testBit e.2) && (!n.testBit e.2 || E.zipIdx.all fun e'=>!((masks l []).getD e.1 0).testBit e'.1 || n.testBit e'.2)
def boundN (l:List Oper) (E:List Nat) (i:Nat) (ns:List Nat):Bool:=(List.range (2 ^ E.length)).all fun n=>!mayN l E i n || ns.any fun k=>Nat.beq k n
section run
variable {P:Program} {f:Ctx} {N:Nat} {S:Start} {Q:EV→St→Prop} {k:List Item}
def AllN (sts:List St):List Nat→(St→Prop)→Prop
 | [],_=>True
 | n :: r,p=>(∃ s,sts[n]?=some s∧p s)∧AllN sts r p
theorem AllN.get {sts:List St} {p:St→Prop}:∀ {ns:List Nat} {n:Nat},AllN sts ns p→n∈ns→∃ s,sts[n]?=some s∧p s
 | a :: r,n,h,hn=>by
  rcases List.mem_cons.1 hn with e | e
  ·rw [e]; exact h.1
  ·exact AllN.get h.2 e
def All2 (sts:List St) (d:Nat):List Nat→(St→St→Prop)→Prop
 | [],_=>True
 | n :: r,p=>(∃ s s',sts[n]?=some s∧sts[n+d]?=some s'∧p s s')∧All2 sts d r p
theorem All2.get {sts:List St} {d:Nat} {p:St→St→Prop}:∀ {ns:List Nat} {n:Nat},All2 sts d ns p→n∈ns→∃ s s',sts[n]?=some s∧sts[n+d]?=some s'∧p s s'
 | a :: r,n,h,hn=>by
  rcases List.mem_cons.1 hn with e | e
  ·rw [e]; exact h.1
  ·exact All2.get h.2 e
def NStep (P:Program) (N base:Nat) (l:List Oper) (E:List Nat) (sts:List St) (i:Nat) (o:Oper) (env:Env) (x:EV):Prop :=
  dstOk N o.dst=true∧∃ ns,boundN l E i ns=true ∧
  (((!E.any fun e=>Nat.beq e i)=true∧((∀ s,OpAny P l env s o x)∨AllN sts ns fun s=>OpAny P l env s o x)) ∨
   (∃ m,E[m]?=some i∧o.guard=none∧All2 sts (2 ^ m) ns fun s s'=>OpV P base env s o x s'∨x=.d .any∧OpU P base env s o s'))
def NChain (P:Program) (N base:Nat) (l:List Oper) (E:List Nat) (sts:List St):Nat→List Oper→List EV→Env→Prop
 | _,[],[],_=>True
 | i,o :: os,x :: xs,env=>NStep P N base l E sts i o (renv l o env) x∧NChain P N base l E sts (i+1) os xs (env.put o.dst x)
 | _,_,_,_=>False
theorem NChain.length {base:Nat} {l:List Oper} {E:List Nat} {sts:List St}:∀ {i:Nat} {os:List Oper} {xs:List EV} {env:Env},NChain P N base l E sts i os xs env→xs.length=os.length
 | _,[],[],_,_=>rfl
 | _,o :: os,x :: xs,env,h=>by simp [NChain.length h.2]
 | _,[],x :: xs,_,h=>h.elim
 | _,o :: os,[],_,h=>h.elim
theorem NChain.get {base:Nat} {l:List Oper} {E:List Nat} {sts:List St}:∀ {i:Nat} {os:List Oper} {xs:List EV} {env:Env} {j:Nat} {o:Oper},NChain P N base l E sts i os xs env→os[j]?=some o →
  ∃ x,xs[j]?=some x∧NStep P N base l E sts (i+j) o (renv l o (putAll env (os.take j) (xs.take j))) x
 | i,o' :: os,x :: xs,env,0,o,h,ho=>by
  simp at ho; subst ho
  exact ⟨x,rfl,by simpa [putAll] using h.1⟩
 | i,o' :: os,x :: xs,env,j+1,o,h,ho=>by
  obtain ⟨y,h1,h2⟩:=NChain.get (j:=j) h.2 (by simpa using ho)
  exact ⟨y,by simpa using h1,by simpa [putAll,Nat.add_assoc,Nat.add_comm 1 j] using h2⟩
 | i,[],xs,env,j,o,h,ho=>by simp at ho
 | i,o' :: os,[],_,_,_,h,_=>h.elim
theorem ARun.effN {id:Nat} {l:List Oper} {p:Nat} {env:Env} {st stF:St} (hm:P.follows .mixedOrders=true) (hB:drawB l p=true) (E:List Nat) (sts:List St) (hn:E.Nodup) (hp:∀ e∈E,e < p) {xs:List EV}
  (h0:sts[0]?=some st) (hF:sts[2 ^ E.length-1]?=some stF) (hch:NChain P N S.base l E sts 0 (l.take p) xs env) (hsuf:AOps P f N S Q l (l.drop p) k (putAll env (l.take p) xs) stF) :
  ARun P f N S Q (.code (.region id l.toArray true) :: k) env st:=by
 have hpl:p≤l.length:=by
  simp only [drawB,Bool.and_eq_true] at hB
  simpa using hB.2
 have hxp:xs.length=p:=by rw [hch.length]; simp; omega
 have hcode0:∀ E:List Nat,codeN (fun _=>false) E=0:=by
  intro E
  induction E with
  | nil=>rfl
  | cons e r ih=>unfold codeN; rw [ih]; rfl
 have hcode1:∀ (L:Nat→Bool) (E:List Nat),(∀ e∈E,L e=true)→codeN L E=2 ^ E.length-1:=by
  intro L E
  induction E with
  | nil=>intro _; rfl
  | cons e r ih =>
   intro h
   unfold codeN
   rw [h e List.mem_cons_self,ih fun x hx=>h x (List.mem_cons_of_mem _ hx),List.length_cons,Nat.pow_succ]
   have:=Nat.two_pow_pos r.length
   simp; omega
 refine ARun.drawnF p xs (fun L s=>sts[codeN L E]?=some s) hm hB hxp (by rw [hcode0]; exact h0) ?_ ?_
 ·intro L s i o hi ho hLi hmask hclosed hFs
  obtain ⟨x,hx,hst⟩:=hch.get (j:=i) (o:=o) (by rw [List.getElem?_take,if_pos hi]; exact ho)
  rw [Nat.zero_add] at hst
  obtain ⟨hd,ns,hb,hst⟩:=hst
  refine ⟨hd,x,?_⟩
  have hmay:mayN l E i (codeN L E)=true:=by
   unfold mayN
   rw [List.all_eq_true]
   rintro ⟨e,j⟩ hej
   have hEj:E[j]?=some e:=by
    have:=List.mem_zipIdx_iff_getElem?.1 hej
    simpa using this
   have hbit:=codeN_bit L E j e hEj
   simp only [Bool.and_eq_true,Bool.or_eq_true,Bool.not_eq_true',hbit]
   refine ⟨⟨?_,?_⟩,?_⟩
   ·cases hm1:((masks l []).getD i 0).testBit e with
    | false=>exact .inl rfl
    | true=>exact .inr (hmask e hm1)
   ·cases hm1:((masks l []).getD e 0).testBit i with
    | false =>
     cases hei:Nat.beq e i with
     | false=>exact .inl rfl
     | true=>exact .inr (Nat.eq_of_beq_eq_true hei▸hLi)
    | true =>
     right
     cases hLe:L e with
     | false=>rfl
     | true=>rw [hclosed e hLe i hm1] at hLi; cases hLi
   ·cases hLe:L e with
    | false=>exact .inl rfl
    | true =>
     right
     rw [List.all_eq_true]
     rintro ⟨e',j'⟩ hej'
     have hEj':E[j']?=some e':=by
      have:=List.mem_zipIdx_iff_getElem?.1 hej'
      simpa using this
     simp only [Bool.or_eq_true,Bool.not_eq_true',codeN_bit L E j' e' hEj']
     cases hm1:((masks l []).getD e 0).testBit e' with
     | false=>exact .inl rfl
     | true=>exact .inr (hclosed e hLe e' hm1)
  have hin:codeN L E∈ns:=by
   have:=List.all_eq_true.1 hb (codeN L E) (List.mem_range.2 (codeN_lt L E))
   rw [hmay] at this
   simp only [Bool.not_true,Bool.false_or] at this
   obtain ⟨a,ha,hab⟩:=List.any_eq_true.1 this
   rw [←Nat.eq_of_beq_eq_true hab]; exact ha
  rcases hst with ⟨hne,hop⟩ | ⟨m,hEm,hg,hop⟩
  ·have hnoE:(E.any fun e=>Nat.beq e i)=false:=by simpa using hne
   have hop':OpAny P l (renv l o (putAll env ((l.take p).take i) (xs.take i))) s o x:=by
    rcases hop with h | h
    ·exact h s
    ·obtain ⟨s0,h1,h2⟩:=h.get hin
     rw [hFs] at h1
     cases h1
     exact h2
   refine ⟨s,hx,.inl ⟨rfl,hop'⟩,?_⟩
   rw [codeN_same (L:=L) fun e he=>by
    have:e≠i:=fun hh=>by
     have:=List.any_eq_false.1 hnoE e he
     rw [hh,Nat.beq_refl] at this
     exact this rfl
    simp [this]]
   exact hFs
  ·obtain ⟨s0,s1,h1,h2,h3⟩:=hop.get hin
   rw [hFs] at h1
   cases h1
   refine ⟨s1,hx,?_,?_⟩
   ·rcases h3 with h | ⟨ha,hb'⟩
    ·exact .inr (.inl ⟨hg,h⟩)
    ·exact .inr (.inr ⟨hg,ha,hb'⟩)
   ·rw [codeN_add hLi hn hEm]; exact h2
 ·intro L s hL hFs
  rw [hcode1 L E fun e he=>hL e (hp e he),hF] at hFs
  cases hFs
  exact hsuf
def NOps (P:Program) (f:Ctx) (N:Nat) (S:Start) (Q:EV→St→Prop) (l:List Oper) (p:Nat) (E:List Nat) (sts:List St) (i:Nat) (os:List Oper) (k:List Item) (env:Env):Prop :=
 ∃ xs stF,sts[2 ^ E.length-1]?=some stF∧NChain P N S.base l E sts i os xs env∧AOps P f N S Q l (l.drop p) k (putAll env os xs) stF
variable {l:List Oper} {p:Nat} {E:List Nat} {sts:List St} {i:Nat} {os:List Oper} {env:Env} {st:St} {d:Option Tmp} {op:Op} {ty:TypeId} {pos:String} {after:Array Edge} {x:EV}
theorem NOps.nil {stF:St} (hF:sts[2 ^ E.length-1]?=some stF) (h:AOps P f N S Q l (l.drop p) k env stF):NOps P f N S Q l p E sts i [] k env:=⟨[],stF,hF,trivial,h⟩
theorem NOps.s (h:∀ s,OpQ P (renv l ⟨d,op,ty,pos,after,none⟩ env) s ⟨d,op,ty,pos,after,none⟩ x) (hne:(!E.any fun e=>Nat.beq e i)=true) (hd:dstOk N d=true)
  (hk:NOps P f N S Q l p E sts (i+1) os k (env.put d x)):NOps P f N S Q l p E sts i (⟨d,op,ty,pos,after,none⟩ :: os) k env:=by
 obtain ⟨xs,stF,h0,h1,h2⟩:=hk
 refine ⟨x :: xs,stF,h0,⟨⟨hd,List.range (2 ^ E.length),?_,.inl ⟨hne,.inl fun s=>.inl ⟨rfl,(h s).g⟩⟩⟩,h1⟩,h2⟩
 unfold boundN
 rw [List.all_eq_true]
 intro n hn
 simp only [Bool.or_eq_true]
 exact .inr (List.any_eq_true.2 ⟨n,hn,Nat.beq_refl n⟩)
theorem NOps.g (ns:List Nat) (h:AllN sts ns fun s=>OpG P (renv l ⟨d,op,ty,pos,after,none⟩ env) s ⟨d,op,ty,pos,after,none⟩ x) (hne:(!E.any fun e=>Nat.beq e i)=true) (hb:boundN l E i ns=true) (hd:dstOk N d=true)
  (hk:NOps P f N S Q l p E sts (i+1) os k (env.put d x)):NOps P f N S Q l p E sts i (⟨d,op,ty,pos,after,none⟩ :: os) k env:=by
 obtain ⟨xs,stF,h0,h1,h2⟩:=hk
 refine ⟨x :: xs,stF,h0,⟨⟨hd,ns,hb,.inl ⟨hne,.inr ?_⟩⟩,h1⟩,h2⟩
 have mk:∀ {ns:List Nat},(AllN sts ns fun s=>OpG P (renv l ⟨d,op,ty,pos,after,none⟩ env) s ⟨d,op,ty,pos,after,none⟩ x)→AllN sts ns fun s=>OpAny P l (renv l ⟨d,op,ty,pos,after,none⟩ env) s ⟨d,op,ty,pos,after,none⟩ x:=by
  intro ns
  induction ns with
  | nil=>exact fun _=>trivial
  | cons a r ih=>exact fun ⟨⟨s,a1,a2⟩,b⟩=>⟨⟨s,a1,.inl ⟨rfl,a2⟩⟩,ih b⟩
 exact mk h
theorem NOps.v (m:Nat) (ns:List Nat) (h:All2 sts (2 ^ m) ns fun s s'=>OpV P S.base (renv l ⟨d,op,ty,pos,after,none⟩ env) s ⟨d,op,ty,pos,after,none⟩ x s') (hE:E[m]?=some i) (hb:boundN l E i ns=true) (hd:dstOk N d=true)
  (hk:NOps P f N S Q l p E sts (i+1) os k (env.put d x)):NOps P f N S Q l p E sts i (⟨d,op,ty,pos,after,none⟩ :: os) k env:=by
 obtain ⟨xs,stF,h0,h3,h4⟩:=hk
 refine ⟨x :: xs,stF,h0,⟨⟨hd,ns,hb,.inr ⟨m,hE,rfl,?_⟩⟩,h3⟩,h4⟩
 have mk:∀ {ns:List Nat},(All2 sts (2 ^ m) ns fun s s'=>OpV P S.base (renv l ⟨d,op,ty,pos,after,none⟩ env) s ⟨d,op,ty,pos,after,none⟩ x s') →
   All2 sts (2 ^ m) ns fun s s'=>OpV P S.base (renv l ⟨d,op,ty,pos,after,none⟩ env) s ⟨d,op,ty,pos,after,none⟩ x s'∨x=.d .any∧OpU P S.base (renv l ⟨d,op,ty,pos,after,none⟩ env) s ⟨d,op,ty,pos,after,none⟩ s':=by
  intro ns
  induction ns with
  | nil=>exact fun _=>trivial
  | cons a r ih=>exact fun ⟨⟨s,s',a1,a2,a3⟩,b⟩=>⟨⟨s,s',a1,a2,.inl a3⟩,ih b⟩
 exact mk h
theorem ARun.parts {id:Nat} (p:Nat) (E:List Nat) (sts:List St) (hm:P.follows .mixedOrders=true) (hB:drawB l p=true) (hn:(E.all fun e=>decide (e < p))=true) (hd:E.Nodup) (h0:sts[0]?=some st)
  (h:NOps P f N S Q l p E sts 0 (l.take p) k env):ARun P f N S Q (.code (.region id l.toArray true) :: k) env st:=by
 obtain ⟨xs,stF,h1,h2,h3⟩:=h
 exact .effN hm hB E sts hd (fun e he=>by simpa using List.all_eq_true.1 hn e he) h0 h1 h2 h3
end run
def CRepE (g:Ghost) (w:World) (st:St) (cs:List EV) (vs:Array Value):Prop :=
 vs.size=cs.length∧∀ (i:Nat) c (u:Value),cs[i]?=some c→vs[i]?=some u→EVRep g w st c u∧u.oneCell'=true
theorem CRepE.lay {g:Ghost} {w:World} {st:St} {cs new:List EV} {vs us:Array Value} {off:Nat} (h:CRepE g w st cs vs) (hn:CRepE g w st new us) (hf:off+new.length≤cs.length):CRepE g w st (putCells cs off new) (lay vs us off):=by
 obtain ⟨h1,h2⟩:=lay_get vs us off (by rw [h.1,hn.1]; exact hf)
 refine ⟨by rw [h1,h.1]; simp [putCells]; omega,fun i c u hc hu=>?_⟩
 have hi:i < vs.size:=by rw [←h1]; exact (Array.getElem?_eq_some_iff.1 hu).1
 rw [h2 i hi] at hu
 unfold putCells at hc
 have hvs:=h.1
 have hus:=hn.1
 by_cases hA:i < off
 ·rw [if_neg (by omega)] at hu
  rw [List.append_assoc,List.getElem?_append_left (by simp; omega),List.getElem?_take,if_pos hA] at hc
  exact h.2 i c u hc hu
 ·by_cases hB:i < off+new.length
  ·rw [if_pos (by omega)] at hu
   rw [List.append_assoc,List.getElem?_append_right (by simp; omega),List.getElem?_append_left (by simp; omega)] at hc
   have e1:(cs.take off).length=off:=by simp; omega
   rw [e1] at hc
   exact hn.2 _ c u hc hu
  ·rw [if_neg (by omega)] at hu
   rw [List.getElem?_append_right (by simp; omega)] at hc
   have e1:(cs.take off++new).length=off+new.length:=by simp; omega
   rw [e1,List.getElem?_drop] at hc
   have e2:off+new.length+(i-(off+new.length))=i:=by omega
   rw [e2] at hc
   exact h.2 i c u hc hu
def layE (place:Nat→Option (Nat×Nat)) (env:Env):List EV→List (Nat×Operand)→Option (List EV)
 | cs,[]=>some cs
 | cs,(i,x) :: l=>match place i,evo env x with
  | some (off,size),some e=>match cellsE e with
   | some new=>match Nat.beq new.length size,Nat.ble (off+size) cs.length with
    | true,true=>layE place env (putCells cs off new) l
    | _,_=>none
   | none=>none
  | _,_=>none
theorem layE_rep {g:Ghost} {w:World} {st:St} {env:Env} {tmps:Array Value} (he:EnvRep g w st env tmps) {place:Nat→Option (Nat×Nat)}:∀ (l:List (Nat×Operand)) (cs:List EV) (vs:Array Value) (r:List EV),layE place env cs l=some r→CRepE g w st cs vs →
  ∃ us,Instr.fill place vs (l.map fun p=>(p.1,Act.eval ⟨tmps,[]⟩ p.2))=some us∧CRepE g w st r us∧r.length=cs.length
 | [],cs,vs,r,h,hc=>by simp [layE] at h; subst h; exact ⟨vs,rfl,hc,rfl⟩
 | (i,x) :: l,cs,vs,r,h,hc=>by
  unfold layE at h
  split at h
  ·rename_i off size e hp hx
   split at h
   ·rename_i new hn
    split at h
    ·rename_i hb1 hb2
     have h1:=Nat.eq_of_beq_eq_true hb1
     have h2:=Nat.le_of_ble_eq_true hb2
     have hcn:CRepE g w st new (Act.eval ⟨tmps,[]⟩ x).cells:=cellsE_rep hn (evo_rep he hx)
     have hlay:=hc.lay hcn (off:=off) (by omega)
     obtain ⟨us,k1,k2,k3⟩:=layE_rep he l _ _ r h hlay
     refine ⟨us,?_,k2,by rw [k3]; simp [putCells]; omega⟩
     have hs:=hcn.1
     have hvs:=hc.1
     simp only [List.map_cons,Instr.fill,hp]
     rw [if_neg (by simp; omega)]
     exact k1
    ·cases h
   ·cases h
  ·cases h
section rules
variable {P:Program} {base:Nat} {env:Env} {st:St} {d:Option Tmp} {ty:TypeId} {pos:String} {after:Array Edge} {gd:Option (Nat×Bool)} {t:TypeId}
theorem q_buildE0 {fs:Array Field} {inf:TypeInfo} {z:Value} {zs r:List EV} {l:List (Nat×Operand)} (ht:P.underlying t=some (.struct fs)) (hi:P.info? t=some inf) (hz:inf.zero=some z) (hzs:cellsE (.d (cv z))=some zs)
  (hfs:fs.toList.all (fun f=>(P.info? f.type).isSome)=true) (hl:layE (placeOf P fs) env zs l=some r):OpQ P env st ⟨d,.build t l.toArray,ty,pos,after,gd⟩ (.agg r):=by
 intro g base w tmps hinv he
 have hz':CRepE g w st zs z.cells:=cellsE_rep (g:=g) (w:=w) (st:=st) hzs (.d _ _ (cv_rep _ _ z))
 obtain ⟨us,h1,h2,h3⟩:=layE_rep he l zs z.cells r hl hz'
 refine ⟨.agg us,.agg r us h2.1 (fun i u hu=>?_) fun i c u hc hu=>(h2.2 i c u hc hu).1,fun w' hb=>?_⟩
 ·have hi':i < r.length:=by rw [←h2.1]; exact (Array.getElem?_eq_some_iff.1 hu).1
  exact (h2.2 i _ u (List.getElem?_eq_getElem hi') hu).2
 ·have hpl:(fs.mapM (fun f=>do pure (f.offset,←sizeOf f.type):Field→Sem (Nat×Nat))).run P w'=.ok (fs.toList.map fun f=>(f.offset,szOf P f.type)).toArray w':=by
   rw [←Array.toArray_toList (xs:=fs),List.mapM_toArray]
   simp only [Sem.run_map,mapM_places (P:=P) fs.toList (fun f hf=>List.all_eq_true.1 hfs f hf) w',Result.andThen_ok]
  have hplace:(fun i:Nat=>((fs.toList.map fun f=>(f.offset,szOf P f.type)).toArray)[i]?)=placeOf P fs:=by
   funext i
   simp [placeOf]
  simp only [execOp,Instr.build,Sem.run_bind,zero_run hi hz,Result.andThen_ok,run_underlying ht,hpl,List.map_toArray]
  rw [hplace]
  simp [h1]
theorem q_buildE {ps:List (Nat×Nat)} {inf:TypeInfo} {z:Value} {zs r:List EV} {l:List (Nat×Operand)} (hp:placesOf P t=some ps) (hi:P.info? t=some inf) (hz:inf.zero=some z) (hzs:cellsE (.d (cv z))=some zs)
  (hl:layE (fun i=>ps[i]?) env zs l=some r):OpQ P env st ⟨d,.build t l.toArray,ty,pos,after,gd⟩ (.agg r):=by
 unfold placesOf at hp
 split at hp
 ·rename_i fs hu
  split at hp
  ·rename_i hall
   cases hp
   refine q_buildE0 hu hi hz hzs hall ?_
   rw [←hl]
   congr 1
   funext i
   simp [placeOf]
  ·cases hp
 ·cases hp
end rules
section cell
variable {P:Program} {f:Ctx} {N:Nat} {S:Start} {Q:EV→St→Prop} {todo:List Item} {env:Env} {st:St}
theorem Inv.cellLe {g:Ghost} {base:Nat} {w:World} {o ci:Nat} {T:TypeId} {cs:List EV} {x y:EV} (h:Inv g base w st) (ho:st.objs[o]?=some (.row T cs)) (hc:cs[ci]?=some x) (hle:EVle x y) :
  Inv g base w (st.set o (.row T (cs.set ci y)))∧Step base g w st g w (st.set o (.row T (cs.set ci y))):=by
 obtain ⟨b1,b2,vs,b3,b4,b5⟩:=h.row o T cs ho
 exact h.setBlock (o:=o) (x:=.row T (cs.set ci y)) (w':=w) ⟨_,ho,by simp⟩ b2 rfl (fun _ _=>rfl) rfl rfl rfl
  (fun hsv ty' cs' hx'=>by
   cases hx'
   refine ⟨vs,b3,by simpa using b4,fun i c u hci hu=>?_⟩
   rw [List.getElem?_set] at hci
   split at hci
   ·rename_i hic
    subst hic
    split at hci
    ·cases hci
     have h0:=b5 ci _ u hc hu
     exact ⟨hle _ _ _ _ (h0.1.mono hsv),h0.2⟩
    ·cases hci
   ·have h0:=b5 i c u hci hu
    exact ⟨h0.1.mono hsv,h0.2⟩) (fun _ es hx'=>by cases hx')
theorem ARun.cellLe (o ci:Nat) {T:TypeId} {cs:List EV} {x y:EV} (ho:st.objs[o]?=some (.row T cs)) (hc:cs[ci]?=some x) (hle:EVle x y)
  (h:ARun P f N S Q todo env (st.set o (.row T (cs.set ci y)))):ARun P f N S Q todo env st:=by
 intro g w tmps hinv hh he hn
 obtain ⟨h1,h2⟩:=hinv.cellLe ho hc hle
 exact h g w tmps h1 (hh.step h2) (he.mono h2.sevo) hn
end cell
section freezeCell
variable {P:Program} {f:Ctx} {N:Nat} {S:Start} {Q:EV→St→Prop} {todo:List Item} {env:Env} {st:St}
theorem ARun.freezeCell {α:Type} {l:List α} {row:α→List D} (o ci:Nat) {tk e sz n:Nat} {T:TypeId} {cs:List EV} (ho:st.objs[o]?=some (.row T cs)) (hc:cs[ci]?=some (.vc tk n)) (htl:st.tails[tk]?=some ⟨e,sz,n,some (l.map row)⟩)
  (h:ARun P f N S Q todo env ((st.setTail tk ⟨e,sz,l.length,none⟩).set o (.row T (cs.set ci (.d (.sl sz (l.map row))))))):ARun P f N S Q todo env st:=by
 refine .lenV htl fun hn=>?_
 subst hn
 intro g w tmps hinv hh he hN
 obtain ⟨g',h1,h2,h3,h4⟩:=hinv.freeze htl
 have ho1:(st.setTail tk ⟨e,sz,l.length,none⟩).objs[o]?=some (.row T cs):=ho
 obtain ⟨a1,a2,us0,a3,a4,a5⟩:=hinv.row o T cs ho
 obtain ⟨b1,b2,vs,b3,b4,b5⟩:=h2.row o T cs ho1
 have hob:g'.ob o=g.ob o:=h3.sevo.ob o (List.getElem?_eq_some_iff.1 ho).1
 have hvs:us0=vs:=by rw [hob,a3] at b3; cases b3; rfl
 subst hvs
 obtain ⟨k1,k2⟩:=h2.setBlock (o:=o) (x:=.row T (cs.set ci (.d (.sl sz (l.map row))))) (w':=w) ⟨_,ho1,by simp⟩ b2 rfl (fun _ _=>rfl) rfl rfl rfl
  (fun hsv ty' cs' hx'=>by
   cases hx'
   refine ⟨us0,b3,by simpa using b4,fun i c u hci hu=>?_⟩
   rw [List.getElem?_set] at hci
   split at hci
   ·rename_i hic
    subst hic
    split at hci
    ·cases hci
     have h0:=a5 ci _ u hc hu
     refine ⟨?_,h0.2⟩
     rcases vc_or hinv htl h0.1 with hv | ⟨n0,r0,A,hv⟩
     ·rw [hv]; exact .d _ _ (h4.mono hsv.evo)
     ·rw [r0,hv]; exact .d _ _ (.nil sz A)
    ·cases hci
   ·have h0:=b5 i c u hci hu
    exact ⟨h0.1.mono hsv,h0.2⟩) (fun _ es hx'=>by cases hx')
 exact h g' w tmps k1 (hh.step (h3.trans k2)) ((he.mono h3.sevo).mono k2.sevo) hN
variable {ops rest:List Oper} {k:List Item}
theorem AOps.freezeCell {α:Type} {l:List α} {row:α→List D} (o ci:Nat) {tk e sz n:Nat} {T:TypeId} {cs:List EV} (ho:st.objs[o]?=some (.row T cs)) (hc:cs[ci]?=some (.vc tk n)) (htl:st.tails[tk]?=some ⟨e,sz,n,some (l.map row)⟩)
  (h:AOps P f N S Q ops rest k env ((st.setTail tk ⟨e,sz,l.length,none⟩).set o (.row T (cs.set ci (.d (.sl sz (l.map row))))))):AOps P f N S Q ops rest k env st :=
 fun j hj=>.freezeCell o ci ho hc htl (h j hj)
theorem AOps.cellLe (o ci:Nat) {T:TypeId} {cs:List EV} {x y:EV} (ho:st.objs[o]?=some (.row T cs)) (hc:cs[ci]?=some x) (hle:EVle x y)
  (h:AOps P f N S Q ops rest k env (st.set o (.row T (cs.set ci y)))):AOps P f N S Q ops rest k env st :=
 fun j hj=>.cellLe o ci ho hc hle (h j hj)
end freezeCell
def memB (t:Nat):List Nat→Bool
 | []=>false
 | a :: l=>match Nat.beq t a with
  | true=>true
  | false=>memB t l
def lkp {β:Type} (t:Nat):List (Nat×β)→Option β
 | []=>none
 | (a,y) :: l=>match Nat.beq t a with
  | true=>some y
  | false=>lkp t l
def AllP:List Prop→Prop
 | []=>True
 | [p]=>p
 | p :: q :: l=>p∧AllP (q :: l)
theorem AllP.c {p:Prop} {l:List Prop} (h:AllP (p :: l)):p∧AllP l:=by
 cases l with
 | nil=>exact ⟨h,trivial⟩
 | cons q l=>exact h
def Al {α:Type} (p:α→Prop):List α→Prop
 | []=>True
 | a :: l=>p a∧Al p l
theorem memB_al {p:Nat→Prop} {t:Nat}:∀ {l:List Nat},Al p l→memB t l=true→p t
 | [],_,h=>by cases h
 | a :: l,⟨h1,h2⟩,h=>by
  unfold memB at h
  split at h
  ·rename_i hb; have:=Nat.eq_of_beq_eq_true hb; subst this; exact h1
  ·exact memB_al h2 h
theorem lkp_al {β:Type} {p:Nat×β→Prop} {t:Nat} {y:β}:∀ {l:List (Nat×β)},Al p l→lkp t l=some y→p (t,y)
 | [],_,h=>by cases h
 | (a,z) :: l,⟨h1,h2⟩,h=>by
  unfold lkp at h
  split at h
  ·rename_i hb; have:=Nat.eq_of_beq_eq_true hb; subst this; cases h; exact h1
  ·exact lkp_al h2 h
def forceL {α β:Type _}:List α→(List α→β)→β
 | [],k=>k []
 | a :: l,k=>forceL l fun l'=>k (a :: l')
theorem forceL_eq {α β:Type _}:∀ (l:List α) (k:List α→β),forceL l k=k l
 | [],_=>rfl
 | a :: l,k=>forceL_eq l fun l'=>k (a :: l')
def putK {β:Type _} (env:Env) (d:Option Tmp) (x:EV) (k:Env→β):β:=match d with
 | some d=>k ((d,x) :: env)
 | none=>k env
theorem putK_eq {β:Type _} (env:Env) (d:Option Tmp) (x:EV) (k:Env→β):putK env d x k=k (env.put d x):=by cases d <;> rfl
structure FT where
 one:List Nat
 agg:List (Nat×Nat)
 sz:List (Nat×Nat)
 fo:List (Nat×List (Nat×Nat))
 zr:List (Nat×List D)
def FT.Ok (P:Program) (T:FT):Prop :=
 Al (fun t=>(P.underlying t).map oneB=some true) T.one∧Al (fun x=>(P.underlying x.1).map oneB=some false∧(P.info? x.1).map (·.size)=some x.2) T.agg∧Al (fun x=>(P.info? x.1).map (·.size)=some x.2) T.sz ∧
 Al (fun x=>Al (fun y=>fieldOff P x.1 y.1=some y.2) x.2) T.fo∧Al (fun x=>∃ z,(P.info? x.1).bind (·.zero)=some z∧cellsE (.d (cv z))=some (x.2.map EV.d)) T.zr
def dOf:Option D→Option EV
 | some x=>some (.d x)
 | none=>none
def isU8:IntKind→Bool
 | .u8=>true
 | _=>false
def intB (op:BinOp) (a b:Int):Option Bool:=match op with
 | .lss=>some (decide (a < b))
 | .leq=>some (decide (a≤b))
 | .gtr=>some (decide (a > b))
 | .geq=>some (decide (a≥b))
 | .eql=>some (a==b)
 | .neq=>some (a != b)
 | _=>none
def strB (op:BinOp) (a b:List UInt8):Option Bool:=match op with
 | .eql=>some (a==b)
 | .neq=>some (a != b)
 | _=>none
def exB:Option Bool→Option D
 | some b=>some (.ex (.bool b))
 | none=>none
def binE (op:BinOp) (x y:D):Option D:=match x with
 | .ex (.int k a)=>match isU8 k with
  | true=>none
  | false=>match y with
   | .ex (.int k' b)=>match decide (k=k') with
    | true=>exB (intB op a b)
    | false=>none
   | _=>none
 | .ex (.string ⟨⟨a⟩⟩)=>match y with
  | .ex (.string ⟨⟨b⟩⟩)=>exB (strB op a b)
  | _=>none
 | _=>none
def loadE (n:Nat) (cs:List EV) (off:Nat):Option EV:=match Nat.ble (off+n) cs.length with
 | true=>match allD ((cs.drop off).take n) with
  | some ds=>some (.d (.agg ds))
  | none=>none
 | false=>none
def loadR (n:Nat) (cs:List D):Option EV:=match Nat.beq cs.length n with
 | true=>some (.d (.agg cs))
 | false=>match Nat.ble n cs.length with
  | true=>some (.d (.agg (cs.take n)))
  | false=>none
def rowOf (st:St) (o:Nat):Option (TypeId×List EV):=match st.objs[o]? with
 | some (.row ty cs)=>some (ty,cs)
 | _=>none
def qv (T:FT) (env:Env) (st:St):Op→Option EV
 | .move x=>evo env x
 | .assign x=>evo env x
 | .nilCheck x=>match evo env x with
  | some (.ref o f)=>some (.ref o f)
  | _=>none
 | .extract x i=>match evo env x with
  | some (.d (.tup cs))=>dOf cs[i]?
  | some (.tup cs)=>cs[i]?
  | _=>none
 | .binOp op t x y t2=>match evo env x with
  | some (.d a)=>match evo env y with
   | some (.d b)=>dOf (binE op a b)
   | _=>none
  | _=>none
 | .unOp .not t x=>match evo env x with
  | some (.d (.ex (.bool a)))=>some (.d (.ex (.bool (!a))))
  | _=>none
 | .fieldAddr s x f=>match lkp s T.fo with
  | some fs=>match lkp f fs with
   | some off=>match evo env x with
    | some (.ref o o0)=>some (.ref o (o0+off))
    | some (.d (.ro cs))=>some (.d (.ro (cs.drop off)))
    | some (.vp t k i o)=>some (.vp t k i (o+off))
    | _=>none
   | none=>none
  | none=>none
 | .load t x=>match evo env x with
  | some (.ref o off)=>match rowOf st o with
   | some (_,cs)=>match memB t T.one with
    | true=>cs[off]?
    | false=>match lkp t T.agg with
     | some n=>loadE n cs off
     | none=>none
   | none=>none
  | some (.d (.ro cs))=>match memB t T.one with
   | true=>match cs with
    | c :: _=>some (.d c)
    | []=>none
   | false=>match lkp t T.agg with
    | some n=>loadR n cs
    | none=>none
  | _=>none
 | _=>none
def pk (env:Env):Op→Option (EV×Prop)
 | .pick x y z=>match evo env x with
  | some (.d (.ex (.bool a)))=>match evo env y with
   | some (.gd c (.d (.ex (.bool v))))=>match evo env z with
    | some (.d (.ex (.bool false)))=>some (.d (.ex (.bool (a && v))),c=a)
    | _=>none
   | some (.d (.ex (.bool true)))=>match evo env z with
    | some (.gd c (.d (.ex (.bool v))))=>some (.d (.ex (.bool (a || v))),c=(!a))
    | _=>none
   | _=>none
  | _=>none
 | _=>none
section q
variable {P:Program} {T:FT} {env:Env} {st:St} {d:Option Tmp} {ty:TypeId} {pos:String} {after:Array Edge} {gd:Option (Nat×Bool)}
theorem binE_q {op:BinOp} {a b r:D} {x y:Operand} {t t2:TypeId} (hx:evo env x=some (.d a)) (hy:evo env y=some (.d b)) (h:binE op a b=some r):OpQ P env st ⟨d,.binOp op t x y t2,ty,pos,after,gd⟩ (.d r):=by
 unfold binE at h
 split at h
 ·split at h
  ·cases h
  ·split at h
   ·split at h
    ·rename_i hk
     have hk:=of_decide_eq_true hk
     subst hk
     unfold intB exB at h
     cases op <;> simp at h <;> subst h
     ·exact q_eql hx hy
     ·exact q_neq hx hy
     ·exact q_lss hx hy
     ·exact q_leq hx hy
     ·exact q_gtr hx hy
     ·exact q_geq hx hy
    ·cases h
   ·cases h
 ·split at h
  ·unfold strB exB at h
   cases op <;> simp at h <;> subst h
   ·exact q_seql hx hy
   ·exact q_sneq hx hy
  ·cases h
 ·cases h
theorem qv_sound (hT:T.Ok P) {op:Op} {x:EV} (h:qv T env st op=some x):OpQ P env st ⟨d,op,ty,pos,after,gd⟩ x:=by
 obtain ⟨h1,h2,h3,h4,h5⟩:=hT
 unfold qv at h
 split at h
 ·exact q_move h
 ·exact q_assign h
 ·split at h
  ·rename_i hx; cases h; exact q_nilRef hx
  ·cases h
 ·split at h
  ·rename_i hx
   unfold dOf at h
   split at h
   ·rename_i hc; cases h; exact q_extract hx hc
   ·cases h
  ·rename_i hx; exact q_extractE hx h
  ·cases h
 ·split at h
  ·rename_i a hx
   split at h
   ·rename_i b hy
    unfold dOf at h
    split at h
    ·rename_i r hr; cases h; exact binE_q hx hy hr
    ·cases h
   ·cases h
  ·cases h
 ·split at h
  ·rename_i hx; cases h; exact q_not hx
  ·cases h
 ·split at h
  ·rename_i fs hl
   split at h
   ·rename_i off hf
    have:=lkp_al (lkp_al h4 hl) hf
    split at h
    ·rename_i hx; cases h; exact q_fieldRef this hx
    ·rename_i hx; cases h; exact q_fieldRo this hx
    ·rename_i hx; cases h; exact q_fieldVp this hx
    ·cases h
   ·cases h
  ·cases h
 ·split at h
  ·rename_i o off hx
   split at h
   ·rename_i ty' cs hr
    unfold rowOf at hr
    split at hr
    ·rename_i ty2 cs2 ho
     cases hr
     split at h
     ·rename_i hm
      exact q_loadO (memB_al h1 hm) hx ho h
     ·split at h
      ·rename_i n hl
       unfold loadE at h
       split at h
       ·rename_i hn
        split at h
        ·rename_i ds hd
         cases h
         have:=lkp_al h2 hl
         exact q_loadOA this.1 this.2 hx ho (Nat.le_of_ble_eq_true hn) hd
        ·cases h
       ·cases h
      ·cases h
    ·cases hr
   ·cases h
  ·rename_i cs hx
   split at h
   ·rename_i hm
    split at h
    ·cases h; exact q_load (memB_al h1 hm) hx
    ·cases h
   ·split at h
    ·rename_i n hl
     have:=lkp_al h2 hl
     unfold loadR at h
     split at h
     ·rename_i hn; cases h; exact q_loadAll this.1 this.2 hx hn
     ·split at h
      ·rename_i hn; cases h; exact q_loadA this.1 this.2 (Nat.le_of_ble_eq_true hn) hx
      ·cases h
    ·cases h
  ·cases h
 ·cases h
theorem pk_sound {op:Op} {x:EV} {p:Prop} (h:pk env op=some (x,p)) (hp:p):OpQ P env st ⟨d,op,ty,pos,after,gd⟩ x:=by
 unfold pk at h
 split at h
 ·split at h
  ·rename_i a hx
   split at h
   ·rename_i c v hy
    split at h
    ·rename_i hz
     simp only [Option.some.injEq,Prod.mk.injEq] at h
     obtain ⟨rfl,rfl⟩:=h
     subst hp
     exact q_pickAndB hx hy hz
    ·cases h
   ·rename_i hy
    split at h
    ·rename_i c v hz
     simp only [Option.some.injEq,Prod.mk.injEq] at h
     obtain ⟨rfl,rfl⟩:=h
     subst hp
     exact q_pickOrB hx hy hz
    ·cases h
   ·cases h
  ·cases h
 ·cases h
end q
inductive Hint where
 | g (x:EV)
 | v (x:EV) (st:St)
 | u (st:St)
 | t (x:EV) (tk:Nat) (tl:Tail)
 | n (x:EV) (tl:Tail)
 | r (o:Nat)
 | p (n:Nat)
  | f (k:Nat) (x:EV)
 | w (k:Nat) (st:St)
def forced (n:Nat):List Hint→Option (EV×List Hint)
 | .f k x :: hs=>match Nat.beq k n with
  | true=>some (x,hs)
  | false=>none
 | _=>none
def forcedU (n:Nat):List Hint→Option (St×List Hint)
 | .w k s :: hs=>match Nat.beq k n with
  | true=>some (s,hs)
  | false=>none
 | _=>none
inductive Cf where
 | run (k:List Item)
 | ops (l rest:List Oper) (k:List Item)
 | draw (l:List Oper) (p:Nat) (os:List Oper) (k:List Item)
@[reducible] def CRun (P:Program) (f:Ctx) (N:Nat) (S:Start) (Q:EV→St→Prop):Cf→Env→St→Prop
 | .run k=>ARun P f N S Q k
 | .ops l r k=>AOps P f N S Q l r k
 | .draw l p os k=>DOps P f N S Q l p os k
structure Out where
 cf:Cf
 env:Env
 st:St
 ps:List Prop
def gdE {β:Type _} (b:Bool) (env:Env):List Tmp→List Prop→(Env→List Prop→β)→β
 | [],ps,k=>k [] ps
 | t :: ts,ps,k=>match lookup t env with
  | some (.gd c y)=>gdE b env ts ((c=b) :: ps) fun e ps=>k ((t,y) :: e) ps
  | some x=>gdE b env ts ps fun e ps=>k ((t,x) :: e) ps
  | none=>gdE b env ts ps k
theorem gdE_spec {β:Type _} {b:Bool} {env:Env}:∀ (ts:List Tmp) (ps:List Prop) (k:Env→List Prop→β),∃ e ps',gdE b env ts ps k=k e ps'∧(AllP ps'→AllP ps∧GdEnv b env e)
 | [],ps,k=>⟨[],ps,rfl,fun h=>⟨h,trivial⟩⟩
 | t :: ts,ps,k=>by
  unfold gdE
  split
  ·rename_i c y hl
   obtain ⟨e,ps',h1,h2⟩:=gdE_spec (b:=b) (env:=env) ts ((c=b) :: ps) fun e ps=>k ((t,y) :: e) ps
   refine ⟨_,_,h1,fun h=>?_⟩
   obtain ⟨h34,h5⟩:=h2 h
   obtain ⟨h3,h4⟩:=h34.c
   exact ⟨h4,.inr (.inl (by rw [hl,h3])),h5⟩
  ·rename_i x hne hl
   obtain ⟨e,ps',h1,h2⟩:=gdE_spec (b:=b) (env:=env) ts ps fun e ps=>k ((t,x) :: e) ps
   exact ⟨_,_,h1,fun h=>⟨(h2 h).1,.inl hl,(h2 h).2⟩⟩
  ·obtain ⟨e,ps',h1,h2⟩:=gdE_spec (b:=b) (env:=env) ts ps k
   exact ⟨e,ps',h1,h2⟩
def stepG (P:Program) (T:FT) (n:Nat) (st:St) (o:Oper) (b:Bool) (hs:List Hint) (F:Option Out) (K:EV→List Hint→List Prop→Option Out) (e:Env) (ps:List Prop):Option Out :=
 match forced n hs with
 | some (x,hs)=>K (.gd b x) hs ((b=true→OpG P e st o x) :: ps)
 | none=>match qv T e st o.op with
  | some x=>K (.gd b x) hs ps
  | none=>match pk e o.op with
   | some (x,p)=>K (.gd b x) hs (p :: ps)
   | none=>match hs with
    | .g x :: hs=>K (.gd b x) hs ((b=true→OpG P e st o x) :: ps)
    | _=>F
def stepQ (P:Program) (T:FT) (n:Nat) (l:List Oper) (e:Env) (st:St) (o:Oper) (hs:List Hint) (ps:List Prop) (F:Option Out) (K:EV→List Hint→List Prop→Option Out):Option Out :=
 match o.guard with
 | none=>match forced n hs with
  | some (x,hs)=>K x hs (OpG P e st o x :: ps)
  | none=>match qv T e st o.op with
   | some x=>K x hs ps
   | none=>match pk e o.op with
    | some (x,p)=>K x hs (p :: ps)
    | none=>match hs with
     | .g x :: hs=>K x hs (OpG P e st o x :: ps)
     | _=>F
 | some (j,want)=>match (l[j]?).bind (·.dst) with
  | some t=>match lookup t e with
   | some c=>match gcond c want with
    | some b=>gdE b e (opTmps o.op) ps (stepG P T n st o b hs F K)
    | none=>F
   | none=>F
  | none=>F
theorem stepQ_spec {P:Program} {T:FT} (hT:T.Ok P) {n:Nat} {l:List Oper} {e:Env} {st:St} {o:Oper} {hs:List Hint} {ps:List Prop} {F:Option Out} {K:EV→List Hint→List Prop→Option Out} {out:Option Out} (h:stepQ P T n l e st o hs ps F K=out) :
  out=F∨∃ x hs' ps',out=K x hs' ps'∧(AllP ps'→AllP ps∧OpAny P l e st o x):=by
 obtain ⟨dst,op,ty,pos,after,guard⟩:=o
 unfold stepQ at h
 dsimp only at h
 split at h
 ·split at h
  ·exact .inr ⟨_,_,_,h.symm,fun hp=>⟨hp.c.2,.inl ⟨rfl,hp.c.1⟩⟩⟩
  ·split at h
   ·rename_i x hq
    exact .inr ⟨_,_,_,h.symm,fun hp=>⟨hp,.inl ⟨rfl,(qv_sound hT hq).g⟩⟩⟩
   ·split at h
    ·rename_i x p hq
     exact .inr ⟨_,_,_,h.symm,fun hp=>⟨hp.c.2,.inl ⟨rfl,(pk_sound hq hp.c.1).g⟩⟩⟩
    ·split at h
     ·exact .inr ⟨_,_,_,h.symm,fun hp=>⟨hp.c.2,.inl ⟨rfl,hp.c.1⟩⟩⟩
     ·exact .inl h.symm
 ·rename_i j want
  split at h
  ·rename_i t ht
   split at h
   ·rename_i c hc
    split at h
    ·rename_i b hb
     obtain ⟨e',ps1,h1,h2⟩:=gdE_spec (b:=b) (env:=e) (opTmps op) ps (stepG P T n st ⟨dst,op,ty,pos,after,some (j,want)⟩ b hs F K)
     rw [h1] at h
     have mk:∀ x,(b=true→OpG P e' st ⟨dst,op,ty,pos,after,some (j,want)⟩ x)→GdEnv b e e'→OpAny P l e st ⟨dst,op,ty,pos,after,some (j,want)⟩ (.gd b x):=fun x hx hE=>.inr ⟨j,want,t,c,b,x,e',rfl,ht,hc,hb,rfl,hE,hx⟩
     unfold stepG at h
     dsimp only at h
     split at h
     ·exact .inr ⟨_,_,_,h.symm,fun hp=>⟨(h2 hp.c.2).1,mk _ hp.c.1 (h2 hp.c.2).2⟩⟩
     ·split at h
      ·rename_i x hq
       exact .inr ⟨_,_,_,h.symm,fun hp=>⟨(h2 hp).1,mk _ (fun _=>(qv_sound hT hq).g) (h2 hp).2⟩⟩
      ·split at h
       ·rename_i x p hq
        exact .inr ⟨_,_,_,h.symm,fun hp=>⟨(h2 hp.c.2).1,mk _ (fun _=>(pk_sound hq hp.c.1).g) (h2 hp.c.2).2⟩⟩
       ·split at h
        ·exact .inr ⟨_,_,_,h.symm,fun hp=>⟨(h2 hp.c.2).1,mk _ hp.c.1 (h2 hp.c.2).2⟩⟩
        ·exact .inl h.symm
    ·exact .inl h.symm
   ·exact .inl h.symm
  ·exact .inl h.symm
def stepE (P:Program) (base:Nat) (T:FT) (e:Env) (st:St) (o:Oper) (hs:List Hint) (ps:List Prop) (K:EV→St→List Hint→List Prop→Option Out):Option Out :=
  match o.guard with
  | some _=>none
  | none=>match st with
   | ⟨ob,tl⟩=>match hs with
    | .r n :: hs=>match Nat.beq n ob.length with
      | false=>none
      | true=>match o.op with
        | .box t x=>match evo e x with
          | some y=>match cellsE y with
            | some cs=>forceL cs fun cs=>forceL (ob++[.row t cs]) fun os=>K (.ref n 0) ⟨os,tl⟩ hs ps
            | none=>none
          | none=>none
        | .alloc t=>match lkp t T.zr with
          | some zs=>forceL (zs.map EV.d) fun cs=>forceL (ob++[.row t cs]) fun os=>K (.ref n 0) ⟨os,tl⟩ hs ps
          | none=>none
        | _=>none
    | .v x st' :: hs=>K x st' hs (OpV P base e st o x st' :: ps)
    | .u st' :: hs=>K (.d .any) st' hs (OpU P base e st o st' :: ps)
    | .t x tk y :: hs=>forceL (tl.set tk y) fun ts=>K x ⟨ob,ts⟩ hs (OpV P base e st o x (st.setTail tk y) :: ps)
    | .n x y :: hs=>forceL (tl++[y]) fun ts=>K x ⟨ob,ts⟩ hs (OpV P base e st o x (st.tok y) :: ps)
    | _=>none
def stepS (P:Program) (base:Nat) (T:FT) (n:Nat) (e:Env) (st:St) (o:Oper) (hs:List Hint) (ps:List Prop) (F:Option Out) (K:St→List Hint→List Prop→Option Out):Option Out :=
  match o.guard with
  | some _=>F
  | none=>match forcedU n hs with
   | some (st',hs)=>K st' hs (OpU P base e st o st' :: ps)
   | none=>match o.op with
    | .store t x y=>match evo e x with
      | some (.ref ob off)=>match rowOf st ob with
        | some (ty,cs)=>match evo e y with
          | some y=>match cellsE y with
            | some new=>match lkp t T.sz with
              | some n=>match Nat.beq n new.length with
                | true=>match Nat.ble (off+new.length) cs.length with
                  | true=>match st with
                    | ⟨os,tl⟩=>forceL (putCells cs off new) fun cs=>forceL (os.set ob (.row ty cs)) fun os=>K ⟨os,tl⟩ hs ps
                  | false=>F
                | false=>F
              | none=>F
            | none=>F
          | none=>F
        | none=>F
      | _=>F
    | _=>F
section e
variable {P:Program} {base:Nat} {T:FT} (hT:T.Ok P) {e:Env} {st:St} {o:Oper} {hs:List Hint} {ps:List Prop} {out:Out}
include hT
theorem stepE_spec {K:EV→St→List Hint→List Prop→Option Out} (h:stepE P base T e st o hs ps K=some out) :
  o.guard=none∧∃ x st' hs' ps',K x st' hs' ps'=some out∧(AllP ps'→AllP ps∧(OpV P base e st o x st'∨(x=.d .any∧OpU P base e st o st'))):=by
 obtain ⟨dst,op,ty,pos,after,guard⟩:=o
 unfold stepE at h
 dsimp only at h
 split at h
 ·cases h
 ·refine ⟨rfl,?_⟩
  simp only [forceL_eq] at h
  split at h
  ·split at h
   ·cases h
   ·rename_i hn
    have hn:=Nat.eq_of_beq_eq_true hn
    split at h
    ·rename_i t x
     split at h
     ·rename_i y hy
      split at h
      ·rename_i cs hc
       refine ⟨_,_,_,_,h,fun hp=>⟨hp,.inl ?_⟩⟩
       rw [hn]
       exact v_box hy hc
      ·cases h
     ·cases h
    ·rename_i t
     split at h
     ·rename_i zs hz
      obtain ⟨z,hz1,hz2⟩:=lkp_al hT.2.2.2.2 hz
      refine ⟨_,_,_,_,h,fun hp=>⟨hp,.inl ?_⟩⟩
      rw [hn]
      exact v_alloc hz1 hz2
     ·cases h
    ·cases h
  ·exact ⟨_,_,_,_,h,fun hp=>⟨hp.c.2,.inl hp.c.1⟩⟩
  ·exact ⟨_,_,_,_,h,fun hp=>⟨hp.c.2,.inr ⟨rfl,hp.c.1⟩⟩⟩
  ·exact ⟨_,_,_,_,h,fun hp=>⟨hp.c.2,.inl hp.c.1⟩⟩
  ·exact ⟨_,_,_,_,h,fun hp=>⟨hp.c.2,.inl hp.c.1⟩⟩
  ·cases h
theorem stepS_spec {n:Nat} {F r:Option Out} {K:St→List Hint→List Prop→Option Out} (h:stepS P base T n e st o hs ps F K=r):r=F∨(o.guard=none∧∃ st' hs' ps',r=K st' hs' ps'∧(AllP ps'→AllP ps∧OpU P base e st o st')):=by
 obtain ⟨dst,op,ty,pos,after,guard⟩:=o
 unfold stepS at h
 dsimp only at h
 split at h
 ·exact .inl h.symm
 ·split at h
  ·exact .inr ⟨rfl,_,_,_,h.symm,fun hp=>⟨hp.c.2,hp.c.1⟩⟩
  simp only [forceL_eq] at h
  split at h
  ·rename_i t x y
   split at h
   ·rename_i ob off hx
    split at h
    ·rename_i ty' cs hr
     have hr:st.objs[ob]?=some (.row ty' cs):=by
      unfold rowOf at hr
      split at hr
      ·rename_i h1; cases hr; exact h1
      ·cases hr
     split at h
     ·rename_i yv hy
      split at h
      ·rename_i new hc
       split at h
       ·rename_i n hl
        split at h
        ·rename_i hn
         have hn:=Nat.eq_of_beq_eq_true hn
         split at h
         ·rename_i hle
          have hsz:=lkp_al hT.2.2.1 hl
          refine .inr ⟨rfl,_,_,_,h.symm,fun hp=>⟨hp,u_store hx hy hr hc (Nat.le_of_ble_eq_true hle) ?_⟩⟩
          rw [←hn]; exact hsz
         ·exact .inl h.symm
        ·exact .inl h.symm
       ·exact .inl h.symm
      ·exact .inl h.symm
     ·exact .inl h.symm
    ·exact .inl h.symm
   ·exact .inl h.symm
  ·exact .inl h.symm
end e
def ctl (hs:List Hint) (ps:List Prop):List Item→(Cf→List Hint→List Prop→Option Out)→Option Out
 | .code (.seq x y) :: k,K=>K (.run (.code x :: .code y :: k)) hs ps
 | .code .skip :: k,K=>K (.run k) hs ps
 | .inBlock id :: k,K=>K (.run k) hs ps
 | .code (.block id c) :: k,K=>K (.run (.code c :: .inBlock id :: k)) hs ps
 | .code (.exit id) :: k,K=>match exitTo id k with
  | some k'=>K (.run k') hs ps
  | none=>none
 | .code (.region id ⟨l⟩ false) :: k,K=>K (.ops l l k) hs ps
 | .code (.region id ⟨l⟩ true) :: k,K=>match hs with
  | .p p :: hs=>forceL (l.take p) fun os=>K (.draw l p os k) hs ((drawB l p=true) :: ps)
  | _=>none
 | _,_=>none
def okO (N:Nat) (o:Oper):Bool:=match o.dst with
 | some d=>Nat.ble (d+1) N
 | none=>match o.guard with
  | none=>true
  | some _=>false
theorem okO_dst {N:Nat} {o:Oper} (h:okO N o=true):dstOk N o.dst=true∧(o.guard≠none→o.dst≠none):=by
 unfold okO at h
 split at h
 ·rename_i d hd; rw [hd]; exact ⟨h,fun _=>by simp⟩
 ·rename_i hd; rw [hd]
  split at h
  ·rename_i hg; exact ⟨rfl,fun h=>absurd hg h⟩
  ·cases h
def go (P:Program) (base:Nat) (T:FT) (N:Nat):Nat→Cf→Env→St→List Hint→List Prop→Option Out
 | 0,cf,env,st,hs,ps=>match hs with
  | []=>some ⟨cf,env,st,ps⟩
  | _=>none
 | n+1,cf,env,st,hs,ps=>match cf with
  | .run k=>ctl hs ps k fun cf hs ps=>go P base T N n cf env st hs ps
  | .ops l rest k=>match rest with
   | []=>go P base T N n (.run k) env st hs ps
   | o :: rest=>match okO N o with
    | true=>stepS P base T (n+1) env st o hs ps
     (stepQ P T (n+1) l env st o hs ps
      (stepE P base T env st o hs ps fun x st hs ps=>putK env o.dst x fun env=>go P base T N n (.ops l rest k) env st hs ps)
      fun x hs ps=>putK env o.dst x fun env=>go P base T N n (.ops l rest k) env st hs ps)
     fun st hs ps=>putK env o.dst (.d .any) fun env=>go P base T N n (.ops l rest k) env st hs ps
    | false=>none
  | .draw l p os k=>match os with
   | []=>forceL (l.drop p) fun r=>go P base T N n (.ops l r k) env st hs ps
   | o :: os=>match okO N o with
    | true=>stepQ P T (n+1) l (renv l o env) st o hs ps none fun x hs ps=>putK env o.dst x fun env=>go P base T N n (.draw l p os k) env st hs ps
    | false=>none
section sound
variable {P:Program} {f:Ctx} {N:Nat} {S:Start} {Q:EV→St→Prop} {T:FT}
theorem AOps.any {ops rest:List Oper} {k:List Item} {env:Env} {st:St} {o:Oper} {x:EV} (h:OpAny P ops env st o x) (hd:dstOk N o.dst=true) (hs:o.guard≠none→o.dst≠none) (hk:AOps P f N S Q ops rest k (env.put o.dst x) st) :
  AOps P f N S Q ops (o :: rest) k env st:=by
 obtain ⟨dst,op,ty,pos,after,guard⟩:=o
 rcases h with ⟨hg,h⟩ | ⟨j,want,t,c,b,y,env',hg,hj,hl,hc,rfl,hE,h⟩
 ·have hg:guard=none:=hg
  subst hg
  exact .g h hd hk
 ·have hg:guard=_:=hg
  subst hg
  cases dst with
  | none=>exact absurd rfl (hs (by simp))
  | some d=>exact .guardG hj hl hc hE hd h hk
theorem DOps.any {l os:List Oper} {p:Nat} {k:List Item} {env:Env} {st:St} {o:Oper} {x:EV} (h:OpAny P l (renv l o env) st o x) (hd:dstOk N o.dst=true) (hk:DOps P f N S Q l p os k (env.put o.dst x) st) :
  DOps P f N S Q l p (o :: os) k env st:=by
 obtain ⟨xs,h1,h2⟩:=hk
 exact ⟨x :: xs,⟨hd,h,h1⟩,h2⟩
theorem go_sound (hT:T.Ok P) (hm:P.follows .mixedOrders=true):∀ (n:Nat) (cf:Cf) (env:Env) (st:St) (hs:List Hint) (ps:List Prop) (out:Out),go P S.base T N n cf env st hs ps=some out→AllP out.ps →
  AllP ps∧(CRun P f N S Q out.cf out.env out.st→CRun P f N S Q cf env st)
 | 0,cf,env,st,hs,ps,out,h,hp=>by
  unfold go at h
  split at h
  ·cases h; exact ⟨hp,fun h=>h⟩
  ·cases h
 | n+1,.run k,env,st,hs,ps,out,h,hp=>by
  unfold go at h
  dsimp only at h
  have ih:=fun cf hs ps=>go_sound hT hm n cf env st hs ps out
  unfold ctl at h
  split at h
  ·obtain ⟨h1,h2⟩:=ih _ _ _ h hp; exact ⟨h1,fun h=>.seq (h2 h)⟩
  ·obtain ⟨h1,h2⟩:=ih _ _ _ h hp; exact ⟨h1,fun h=>.skip (h2 h)⟩
  ·obtain ⟨h1,h2⟩:=ih _ _ _ h hp; exact ⟨h1,fun h=>.inBlock (h2 h)⟩
  ·obtain ⟨h1,h2⟩:=ih _ _ _ h hp; exact ⟨h1,fun h=>.block (h2 h)⟩
  ·split at h
   ·rename_i hk
    obtain ⟨h1,h2⟩:=ih _ _ _ h hp; exact ⟨h1,fun h=>.exit hk (h2 h)⟩
   ·cases h
  ·obtain ⟨h1,h2⟩:=ih _ _ _ h hp; exact ⟨h1,fun h=>.region (h2 h)⟩
  ·split at h
   ·rw [forceL_eq] at h
    obtain ⟨h1,h2⟩:=ih _ _ _ h hp; exact ⟨h1.c.2,fun h=>.drawn _ hm h1.c.1 (h2 h)⟩
   ·cases h
  ·cases h
 | n+1,.ops l [] k,env,st,hs,ps,out,h,hp=>by
  unfold go at h
  dsimp only at h
  obtain ⟨h1,h2⟩:=go_sound hT hm n _ _ _ _ _ out h hp
  exact ⟨h1,fun h=>.nil (h2 h)⟩
 | n+1,.ops l (o :: rest) k,env,st,hs,ps,out,h,hp=>by
  unfold go at h
  dsimp only at h
  split at h
  ·rename_i ho
   obtain ⟨ho1,ho2⟩:=okO_dst ho
   rcases stepS_spec (base:=S.base) hT h with h | ⟨hg,st',hs',ps',h,hu⟩
   ·rcases stepQ_spec hT h.symm with h | ⟨x,hs',ps',h,ha⟩
    ·obtain ⟨hg,x,st',hs',ps',h,ha⟩:=stepE_spec hT h.symm
     rw [putK_eq] at h
     obtain ⟨h1,h2⟩:=go_sound hT hm n _ _ _ _ _ out h hp
     obtain ⟨h3,h4⟩:=ha h1
     refine ⟨h3,fun hk=>?_⟩
     rcases h4 with h4 | ⟨rfl,h4⟩
     ·exact .op hg ho1 h4 (h2 hk)
     ·exact .opU hg ho1 h4 (h2 hk)
    ·rw [putK_eq] at h
     obtain ⟨h1,h2⟩:=go_sound hT hm n _ _ _ _ _ out h.symm hp
     obtain ⟨h3,h4⟩:=ha h1
     exact ⟨h3,fun h=>.any h4 ho1 ho2 (h2 h)⟩
   ·rw [putK_eq] at h
    obtain ⟨h1,h2⟩:=go_sound hT hm n _ _ _ _ _ out h.symm hp
    obtain ⟨h3,h4⟩:=hu h1
    exact ⟨h3,fun h=>.opU hg ho1 h4 (h2 h)⟩
  ·cases h
 | n+1,.draw l p [] k,env,st,hs,ps,out,h,hp=>by
  unfold go at h
  dsimp only at h
  rw [forceL_eq] at h
  obtain ⟨h1,h2⟩:=go_sound hT hm n _ _ _ _ _ out h hp
  exact ⟨h1,fun h=>.nil (h2 h)⟩
 | n+1,.draw l p (o :: os) k,env,st,hs,ps,out,h,hp=>by
  unfold go at h
  dsimp only at h
  split at h
  ·rename_i ho
   obtain ⟨ho1,ho2⟩:=okO_dst ho
   rcases stepQ_spec hT h with h | ⟨x,hs',ps',h,ha⟩
   ·cases h
   ·rw [putK_eq] at h
    obtain ⟨h1,h2⟩:=go_sound hT hm n _ _ _ _ _ out h.symm hp
    obtain ⟨h3,h4⟩:=ha h1
    exact ⟨h3,fun h=>.any h4 ho1 (h2 h)⟩
  ·cases h
def resV (T:FT) (env:Env) (st:St):List ResultVar→Option (List EV)
 | []=>some []
 | .tmp t :: l=>match lookup t env with
  | some x=>match resV T env st l with
   | some r=>some (x :: r)
   | none=>none
  | none=>none
 | .cell a ty :: l=>match lookup a env with
  | some (.ref o off)=>match qv T env st (.load ty (.tmp a)) with
   | some x=>match resV T env st l with
    | some r=>some (x :: r)
    | none=>none
   | none=>none
  | _=>none
theorem resV_sound (hT:T.Ok P) {env:Env} {st:St}:∀ {l:List ResultVar} {es:List EV},resV T env st l=some es→ResEVs P env st l es
 | [],es,h=>by cases h; trivial
 | .tmp t :: l,es,h=>by
  unfold resV at h
  split at h
  ·rename_i x hx
   split at h
   ·rename_i r hr; cases h; exact ⟨hx,resV_sound hT hr⟩
   ·cases h
  ·cases h
 | .cell a ty :: l,es,h=>by
  unfold resV at h
  split at h
  ·rename_i o off ha
   split at h
   ·rename_i x hq
    split at h
    ·rename_i r hr; cases h; exact ⟨⟨⟨o,off,ha⟩,qv_sound hT hq⟩,resV_sound hT hr⟩
    ·cases h
   ·cases h
  ·cases h
theorem ARun.rc {f:FuncId} (hT:T.Ok P) {fn:Func} {xs:List ResultVar} {es:List EV} {k:List Item} {env:Env} {st:St} (hf:P.funcs[f]?=some fn) (hr:fn.results=xs.toArray) (h:resV T env st xs=some es) (hQ:Q (retEV es) st) :
  ARun P (.of f) N S Q (.code .ret :: k) env st:=.retN xs es hf hr (resV_sound hT h) hQ
theorem ARun.ite {α:Type} {b:Bool} {d:Decidable (b=true)} {e1 e2:Option α} {r:α} {c:Operand} {x y:Code} {k:List Item} {env:Env} {st:St} (H:@ite _ (b=true) d e1 e2=some r) (hc:evo env c=some (.d (.ex (.bool b))))
  (ht:e1=some r→ARun P f N S Q (.code x :: k) env st) (hf:e2=some r→ARun P f N S Q (.code y :: k) env st):ARun P f N S Q (.code (.cond c x y) :: k) env st :=
 .cond hc (fun h=>ht (by rw [if_pos h] at H; exact H)) (fun h=>hf (by rw [if_neg (by simp [h])] at H; exact H))
def selE (env:Env):List (Nat×EV)→Option Env
 | []=>some []
 | (i,_) :: l=>match lookup i env with
  | some x=>match selE env l with
   | some r=>some ((i,x) :: r)
   | none=>none
  | none=>none
theorem selE_sub {env:Env}:∀ {l:List (Nat×EV)} {env':Env},selE env l=some env'→SubEnv env env'
 | [],env',h=>by cases h; trivial
 | (i,y) :: l,env',h=>by
  unfold selE at h
  split at h
  ·rename_i x hx
   split at h
   ·rename_i r hr; cases h; exact .cons hx (.rfl' _) (selE_sub hr)
   ·cases h
  ·cases h
section back
variable {todo:List Item} {env env':Env} {st st' s0:St}
theorem ARun.z (h:ARun P f N S Q todo env' st') (hs:st=st') (hE:selE env env'=some env'):ARun P f N S Q todo env st:=hs▸.sub (selE_sub hE) h
theorem ARun.y (h:ARun P f N S Q todo env' st') (hs:st=st') (hE:SubEnv env env'):ARun P f N S Q todo env st:=hs▸.sub hE h
theorem ARun.t (n m:Nat) (h:ARun P f N S Q todo env' st') (hE:selE env env'=some env') (ho:st.objs.take n=st'.objs) (ht:st.tails.take m=st'.tails) (hn:(Nat.ble n st.objs.length && Nat.ble m st.tails.length)=true)
  (hok:(okEnv n m env' && st'.objs.all (okObj n m))=true) (hS:S.st=s0) (hb:(Nat.ble s0.objs.length n && Nat.ble s0.tails.length m)=true):ARun P f N S Q todo env st:=by
 simp only [Bool.and_eq_true] at hn hb
 exact .to n m (selE_sub hE) ho ht hn.1 hn.2 hok (by rw [hS]; exact Nat.le_of_ble_eq_true hb.1) (by rw [hS]; exact Nat.le_of_ble_eq_true hb.2) h
end back
end sound
theorem OpU.e {P:Program} {base:Nat} {env:Env} {st st1 st2:St} {o:Oper} (h:OpU P base env st o st1) (he:st1=st2):OpU P base env st o st2:=he▸h
theorem OpV.e {P:Program} {base:Nat} {env:Env} {st st1 st2:St} {o:Oper} {x:EV} (h:OpV P base env st o x st1) (he:st1=st2):OpV P base env st o x st2:=he▸h
theorem QD.m {q:D→Prop} {r:EV} {st:St} {x:D} (hq:q x) (h:EVle r (.d x)):QD q r st:=⟨x,h,hq⟩
theorem EVle.tupD {ds:List D} {es:List EV} (h:es=ds.map EV.d):EVle (.tup es) (.d (.tup ds)):=by
 subst h
 refine .tupL ?_
 induction ds with
 | nil=>trivial
 | cons d ds ih=>exact ⟨.rfl' _,ih⟩
def ftB (P:Program) (T:FT):Bool :=
 T.one.all (fun t=>decide ((P.underlying t).map oneB=some true)) && T.agg.all (fun x=>decide ((P.underlying x.1).map oneB=some false) && decide ((P.info? x.1).map (·.size)=some x.2)) && T.sz.all (fun x=>decide ((P.info? x.1).map (·.size)=some x.2)) &&
 T.fo.all (fun x=>x.2.all fun y=>decide (fieldOff P x.1 y.1=some y.2))
theorem al_of {α:Type} {p:α→Prop}:∀ {l:List α},(∀ x,x∈l→p x)→Al p l
 | [],_=>trivial
 | a :: l,h=>⟨h a (by simp),al_of fun x hx=>h x (by simp [hx])⟩
theorem FT.ok_of {P:Program} {T:FT} (h:ftB P T=true) (hz:Al (fun x=>∃ z,(P.info? x.1).bind (·.zero)=some z∧cellsE (.d (cv z))=some (x.2.map EV.d)) T.zr):T.Ok P:=by
 simp only [ftB,Bool.and_eq_true,List.all_eq_true,decide_eq_true_eq] at h
 exact ⟨al_of h.1.1.1,al_of h.1.1.2,al_of h.1.2,al_of fun x hx=>al_of (h.2 x hx),hz⟩
def goF (P:Program) (base:Nat) (T:FT) (N n:Nat) (cf:Cf) (env:Env) (st:St) (hs:List Hint):Option Out:=forceL env fun env=>match st with
 | ⟨os,ts⟩=>forceL os fun os=>forceL ts fun ts=>go P base T N n cf env ⟨os,ts⟩ hs []
theorem goF_eq {P:Program} {base:Nat} {T:FT} {N n:Nat} {cf:Cf} {env:Env} {st:St} {hs:List Hint}:goF P base T N n cf env st hs=go P base T N n cf env st hs []:=by
 unfold goF; simp only [forceL_eq]
theorem goF_sound {P:Program} {f:Ctx} {N:Nat} {S:Start} {Q:EV→St→Prop} {T:FT} (hT:T.Ok P) (hm:P.follows .mixedOrders=true) {n:Nat} {cf:Cf} {env:Env} {st:St} {hs:List Hint} {out:Out} (h:goF P S.base T N n cf env st hs=some out) (hp:AllP out.ps) :
  CRun P f N S Q out.cf out.env out.st→CRun P f N S Q cf env st:=(go_sound hT hm n cf env st hs [] out (goF_eq▸h) hp).2
structure SlT (P:Program) (t e sz:Nat):Prop where
 ht:P.underlying t=some (.slice e)
 hi:∃ inf z,P.info? e=some inf∧inf.zero=some z∧inf.size=sz∧z.cells.size=sz∧inf.bytes≤100000
theorem SlT.of {P:Program} {t e sz b:Nat} {z:Value} (ht:P.underlying t=some (.slice e)) (h:∃ i,P.info? e=some i∧i.zero=some z∧i.size=sz∧i.bytes=b) (hz:z.cells.size=sz) (hb:Nat.ble b 100000=true):SlT P t e sz :=
 let ⟨i,h1,h2,h3,h4⟩:=h
 ⟨ht,i,z,h1,h2,h3,hz,by rw [h4]; exact Nat.le_of_ble_eq_true hb⟩
section slt
variable {P:Program} {t e sz:Nat} (s:SlT P t e sz) {base:Nat} {env:Env} {st:St} {d:Option Tmp} {ty:TypeId} {pos:String} {after:Array Edge} {gd:Option (Nat×Bool)} {x y:Operand} {α:Type} {row:α→List D} {l l':List α} {ev w:EV}
include s
theorem SlT.n (hx:evo env x=some ev) (hs:asSl ev=some (sz,l.map row)):OpG P env st ⟨d,.call ⟨.builtin .len,#[x],#[t]⟩,ty,pos,after,gd⟩ (.d (cI (l.length:Int))):=(q_lenL s.ht hx hs).g
theorem SlT.ix [Inhabited α] {k:IntKind} {i:Int} (hx:evo env x=some ev) (hs:asSl ev=some (sz,l.map row)) (hy:evo env y=some (.d (.ex (.int k i)))) (h:0≤i∧i < l.length) :
  OpG P env st ⟨d,.indexAddr t x y,ty,pos,after,gd⟩ (.d (.ro (row (nth l i.toNat)))):=by
 obtain ⟨inf,z,h1,_,h3,_⟩:=s.hi
 exact (q_idxL s.ht h1 h3 hx hs hy h).g
theorem SlT.a {tk:Nat} (hx:evo env x=some (.tsl sz (l.map row) tk)) (htl:st.tails[tk]?=some ⟨e,sz,l.length,none⟩) (hy:evo env y=some w) (hs:asSl w=some (sz,l'.map row)) (hn:l.length+l'.length≤1000000000) :
  OpV P base env st ⟨d,.call ⟨.builtin .append,#[x,y],#[t,t]⟩,ty,pos,after,gd⟩ (.tsl sz ((l++l').map row) tk) (st.setTail tk ⟨e,sz,(l++l').length,none⟩):=by
 obtain ⟨inf,z,h1,h2,h3,h4,h5⟩:=s.hi
 exact v_appendL s.ht h1 h2 h3 h4 h5 hx htl hy hs hn
end slt
section ari
variable {P:Program} {env:Env} {st:St} {d:Option Tmp} {ty:TypeId} {pos:String} {after:Array Edge} {gd:Option (Nat×Bool)} {x y:Operand} {t t2:TypeId} {a b:Int}
theorem g_addI (hx:evo env x=some (.d (cI a))) (hy:evo env y=some (.d (cI b))) (h:-9223372036854775808≤a+b∧a+b≤9223372036854775807):OpG P env st ⟨d,.binOp .add t x y t2,ty,pos,after,gd⟩ (.d (cI (a+b))):=(q_addI hx hy h.1 h.2).g
theorem g_subI (hx:evo env x=some (.d (cI a))) (hy:evo env y=some (.d (cI b))) (h:-9223372036854775808≤a-b∧a-b≤9223372036854775807):OpG P env st ⟨d,.binOp .sub t x y t2,ty,pos,after,gd⟩ (.d (cI (a-b))):=(q_subI hx hy h.1 h.2).g
end ari
abbrev Hint.a {α:Type} (tk e sz:Nat) (row:α→List D) (l:List α):Hint:=.t (.tsl sz (l.map row) tk) tk ⟨e,sz,l.length,none⟩
def entB (P:Program) (f:Nat):Bool:=match P.funcs[f]? with
 | some fn=>(fn.name == "runtime.NumGoroutine")==false && fn.body.isNone==false
 | none=>false
theorem enters_of {P:Program} {l:List Nat} (hl:l.all (entB P)=true) {i f:Nat} (h:l[i]?=some f):Enters P f:=by
 have:=List.all_eq_true.1 hl f (List.mem_of_getElem? h)
 unfold entB at this
 split at this
 ·rename_i fn hf
  simp only [Bool.and_eq_true,beq_iff_eq] at this
  exact ⟨fn,hf,this.1,this.2⟩
 ·cases this
abbrev Hint.i (n:Int):Hint:=.g (.d (cI n))
abbrev Hint.b (b:Bool):Hint:=.g (.d (cB b))
abbrev Hint.c (c:UInt8):Hint:=.g (.d (cU8 c))
abbrev Hint.s (l:List UInt8):Hint:=.g (.d (cS l))
abbrev Hint.d (x:D):Hint:=.g (.d x)
section renew
variable {P:Program} {g:Ghost} {base:Nat} {w:World} {st:St}
def St.renew (st:St) (tk:Nat) (x x':Tail):St:=(st.setTail tk ⟨x.e,x.sz,0,none⟩).tok x'
theorem renew_get {tk:Nat} {x x' y:Tail} {t:Nat} (hlen:tk < st.tails.length) (h:(st.renew tk x x').tails[t]?=some y) :
  (t=st.tails.length∧y=x')∨(t=tk∧y=⟨x.e,x.sz,0,none⟩)∨(t≠tk∧t < st.tails.length∧st.tails[t]?=some y):=by
 have hl:t < (st.renew tk x x').tails.length:=(List.getElem?_eq_some_iff.1 h).1
 simp [St.renew,St.tok,St.setTail] at hl
 by_cases h1:t=st.tails.length
 ·subst h1
  left
  refine ⟨rfl,?_⟩
  simpa [St.renew,St.tok,St.setTail,eq_comm] using h
 ·right
  have hlt:t < st.tails.length:=by omega
  by_cases h2:t=tk
  ·left
   subst h2
   refine ⟨rfl,?_⟩
   simpa [St.renew,St.tok,St.setTail,hlt,List.getElem?_append_left,eq_comm] using h
  ·right
   refine ⟨h2,hlt,?_⟩
   simpa [St.renew,St.tok,St.setTail,hlt,List.getElem?_append_left,List.getElem?_set,Ne.symm h2] using h
theorem renew_old {tk:Nat} {x x' y:Tail} {t:Nat} (ht:t≠tk) (h:st.tails[t]?=some y):(st.renew tk x x').tails[t]?=some y:=by
 have hlt:t < st.tails.length:=(List.getElem?_eq_some_iff.1 h).1
 rw [←h]
 simp [St.renew,St.tok,St.setTail,List.getElem?_append_left,hlt,List.getElem?_set,Ne.symm ht]
theorem renew_new {tk:Nat} {x x':Tail}:(st.renew tk x x').tails[st.tails.length]?=some x':=by simp [St.renew,St.tok,St.setTail]
theorem Inv.renew (h:Inv g base w st) {tk:Nat} {x x':Tail} {rows rows':List (List D)} (htl:st.tails[tk]?=some x) (hx:x.own=some rows) (hx':x'.own=some rows')
  {v':Value} {w':World} {xs':List Value} (hown':w'.ownsRow base x'.e x'.sz v' x'.n xs')
  (hc:(v'.ownBlock=(g.tk tk).ownBlock∧w'.heap.size=w.heap.size∧w.grownBy w' (g.tk tk).ownBlock)∨(v'.ownBlock=some w.heap.size∧Below w.heap.size w w'))
  (hrep:RowsRep g.lim w x'.sz x'.n rows' xs') :
  ∃ g',g'.tk st.tails.length=v'∧Inv g' base w' (st.renew tk x x')∧Step base g w st g' w' (st.renew tk x x'):=by
 have hlimtk:∀ b,(g.tk tk).ownBlock=some b→g.lim b=0:=fun b hb=>(h.tail_lim htl hb).trans (pub_some hx)
 have hlt:∀ b,(g.tk tk).ownBlock=some b→base≤b∧b < w.heap.size:=fun b hb=>h.tail_lt htl hb
 have hlen:tk < st.tails.length:=(List.getElem?_eq_some_iff.1 htl).1
 have hsize:w.heap.size≤w'.heap.size:=by rcases hc with ⟨_,h1,_⟩ | ⟨_,h1⟩; omega; exact h1.size
 have hos:w'.os=w.os∧w'.tape=w.tape∧w'.output=w.output:=by rcases hc with ⟨_,_,h1⟩ | ⟨_,h1⟩ <;> exact ⟨h1.os,h1.tape,h1.output⟩
 have hsame:∀ k,k < w.heap.size→(g.tk tk).ownBlock≠some k→w'.heap[k]?=w.heap[k]?:=by
  intro k hk hne
  rcases hc with ⟨_,_,h1⟩ | ⟨_,h1⟩
  ·exact h1.block k hk (Ne.symm hne)
  ·exact h1.block k hk
 have hnew:∀ k,k < w.heap.size→(g.tk tk).ownBlock≠some k→v'.ownBlock≠some k:=by
  intro k hk hne
  rcases hc with ⟨h1,_,_⟩ | ⟨h1,_⟩ <;> rw [h1]
  ·exact hne
  ·intro he; cases he; omega
 let g':Ghost:=⟨fun b=>if v'.ownBlock=some b then 0 else g.lim b,g.ob,fun t=>if t=tk then .slice none 0 0 else if t=st.tails.length then v' else g.tk t⟩
 have hlim1:∀ b,v'.ownBlock=some b→g'.lim b=0:=fun b hb=>by show (if _ then _ else _)=_; rw [if_pos hb]
 have hlim2:∀ b,v'.ownBlock≠some b→g'.lim b=g.lim b:=fun b hb=>by show (if _ then _ else _)=_; rw [if_neg hb]
 have htk0:g'.tk tk=.slice none 0 0:=by show (if tk=tk then _ else _)=_; rw [if_pos rfl]
 have htk1:g'.tk st.tails.length=v':=by show (if st.tails.length=tk then _ else _)=_; rw [if_neg (by omega),if_pos rfl]
 have htk2:∀ t,t≠tk→t < st.tails.length→g'.tk t=g.tk t:=fun t ht hl=>by show (if t=tk then _ else _)=_; rw [if_neg ht,if_neg (by omega)]
 have hbasene:∀ k,k < base→(g.tk tk).ownBlock≠some k:=fun k hk he=>by have:=(hlt k he).1; omega
 have hbel:Below base w w':=⟨hos.1,hos.2.1,hos.2.2,hsize,fun k hk=>hsame k (Nat.lt_of_lt_of_le hk h.base) (hbasene k hk)⟩
 have hevo:Evo g.lim w g'.lim w':=by
  refine ⟨hsize,fun b hb=>?_,fun b off hb ho=>?_⟩
  ·by_cases he:v'.ownBlock=some b
   ·rw [hlim1 b he]
    have hb':(g.tk tk).ownBlock=some b:=by
     rcases hc with ⟨h1,_,_⟩ | ⟨h1,_⟩
     ·rw [←h1]; exact he
     ·rw [h1] at he; cases he; omega
    rw [hlimtk b hb']; exact Nat.zero_le _
   ·rw [hlim2 b he]; exact Nat.le_refl _
  ·by_cases he:(g.tk tk).ownBlock=some b
   ·rw [hlimtk b he] at ho; omega
   ·exact World.cell?_of_block (w:=w) (a:=⟨b,off,none⟩) (hsame b hb he)
 have hget:=fun (t:Nat) (y:Tail) (hy:(st.renew tk x x').tails[t]?=some y)=>renew_get hlen hy
 have hs:SEvo g w st g' w' (st.renew tk x x'):=by
  refine ⟨hevo,fun _ _=>rfl,Nat.le_refl _,fun t e' sz' n' ht=>?_,by simp [St.renew,St.tok,St.setTail],fun t y rows2 hlt' hy ho=>?_⟩
  ·have htt:t≠tk:=by
    intro e
    subst e
    rw [htl] at ht
    cases ht
    cases hx
   exact ⟨n',renew_old htt ht,Nat.le_refl _,fun _=>htk2 t htt (List.getElem?_eq_some_iff.1 ht).1⟩
  ·rcases hget t y hy with ⟨h1,_⟩ | ⟨_,h2⟩ | ⟨h1,h2,h3⟩
   ·omega
   ·rw [h2] at ho; cases ho
   ·exact ⟨y,rows2,h3,ho,rfl,Nat.le_refl _,fun _=>htk2 t h1 h2⟩
 have hgone:∀ o,st.live o→g.ob o < w.heap.size∧(g.tk tk).ownBlock≠some (g.ob o):=fun o ho=>⟨(h.live_lt ho).1,h.tailObj tk _ o htl ho⟩
 have hother:∀ t y,t≠tk→st.tails[t]?=some y→∀ b,(g.tk t).ownBlock=some b→b < w.heap.size∧(g.tk tk).ownBlock≠some b∧v'.ownBlock≠some b:=fun t y htt hy b hb=>by
  have h1:=(h.tail_lt hy hb).2
  have h2:=h.tailNe t tk _ _ b htt hy htl hb
  exact ⟨h1,h2,hnew b h1 h2⟩
 refine ⟨g',htk1,⟨Nat.le_trans h.base hsize,?_,?_,?_,h.ne,?_,?_,?_,h.glob.below hbel,?_⟩,⟨hs,hbel,fun b hb=>hlim2 b (hnew b (Nat.lt_of_lt_of_le hb h.base) (hbasene b hb)),fun b hb hn=>?_,fun b hb hw=>?_⟩⟩
 ·intro o ty cs hx
  obtain ⟨h1,h2,vs,h3,h4,h5⟩:=h.row o ty cs hx
  obtain ⟨k1,k2⟩:=hgone o ⟨_,hx,by simp⟩
  exact ⟨h1,(hlim2 _ (hnew _ k1 k2)).trans h2,vs,by show w'.heap[g.ob o]?=_; rw [hsame _ k1 k2]; exact h3,h4,fun i c u hc hu=>⟨(h5 i c u hc hu).1.mono hs,(h5 i c u hc hu).2⟩⟩
 ·intro o es hx
  obtain ⟨h1,ms,c,h3,h4,h5,h6⟩:=h.map o es hx
  obtain ⟨k1,k2⟩:=hgone o ⟨_,hx,by simp⟩
  exact ⟨h1,ms,c,by show w'.heap[g.ob o]?=_; rw [hsame _ k1 k2]; exact h3,h4,fun i k y m a b=>⟨(h5 i k y m a b).1,(h5 i k y m a b).2.mono hs⟩,h6⟩
 ·intro o y hx
  obtain ⟨h1,h2,h3⟩:=h.raw o y hx
  obtain ⟨k1,k2⟩:=hgone o ⟨_,hx,by simp⟩
  exact ⟨h1,(hlim2 _ (hnew _ k1 k2)).trans h2,by show w'.heap[g.ob o]?=_; rw [hsame _ k1 k2]; exact h3⟩
 ·intro t e' sz' n' ht
  rcases hget t _ ht with ⟨h1,h2⟩ | ⟨h1,h2⟩ | ⟨h1,h2,h3⟩
  ·subst h2; cases hx'
  ·subst h1
   cases h2
   rw [htk0]
   exact ⟨[],World.ownsRow_nil w' base _ _,fun b hb=>by cases hb⟩
  ·obtain ⟨ys,k1,k2⟩:=h.tail t e' sz' n' h3
   rw [htk2 t h1 h2]
   exact ⟨ys,ownsRow_keep k1 fun b hb=>hsame b (hother t _ h1 h3 b hb).1 (hother t _ h1 h3 b hb).2.1,fun b hb=>by rw [hlim2 b (hother t _ h1 h3 b hb).2.2]; exact k2 b hb⟩
 ·intro t t' y y' b hne ht ht' hb
  rcases hget t _ ht with ⟨h1,h2⟩ | ⟨h1,h2⟩ | ⟨h1,h2,h3⟩
  ·subst h1
   rw [htk1] at hb
   rcases hget t' _ ht' with ⟨k1,k2⟩ | ⟨k1,k2⟩ | ⟨k1,k2,k3⟩
   ·exact absurd k1.symm hne
   ·rw [k1,htk0]; intro e; cases e
   ·rw [htk2 t' k1 k2]
    intro hb'
    exact (hother t' _ k1 k3 b hb').2.2 hb
  ·rw [h1,htk0] at hb; cases hb
  ·rw [htk2 t h1 h2] at hb
   rcases hget t' _ ht' with ⟨k1,k2⟩ | ⟨k1,k2⟩ | ⟨k1,k2,k3⟩
   ·rw [k1,htk1]
    exact (hother t _ h1 h3 b hb).2.2
   ·rw [k1,htk0]; intro e; cases e
   ·rw [htk2 t' k1 k2]
    exact h.tailNe t t' _ _ b hne h3 k3 hb
 ·intro t y o ht ho
  have ho':st.live o:=ho
  obtain ⟨k1,k2⟩:=hgone o ho'
  rcases hget t _ ht with ⟨h1,h2⟩ | ⟨h1,h2⟩ | ⟨h1,h2,h3⟩
  ·rw [h1,htk1]; exact hnew _ k1 k2
  ·rw [h1,htk0]; intro e; cases e
  ·rw [htk2 t h1 h2]; exact h.tailObj t y o h3 ho'
 ·intro t e' sz' n' rows2 ht
  rcases hget t _ ht with ⟨h1,h2⟩ | ⟨h1,h2⟩ | ⟨h1,h2,h3⟩
  ·subst h1
   subst h2
   cases hx'
   rw [htk1]
   exact ⟨_,hown',fun b hb=>hlim1 b hb,hrep.mono hevo⟩
  ·cases h2
  ·obtain ⟨ys,k1,k2,k3⟩:=h.own t e' sz' n' rows2 h3
   rw [htk2 t h1 h2]
   exact ⟨ys,ownsRow_keep k1 fun b hb=>hsame b (hother t _ h1 h3 b hb).1 (hother t _ h1 h3 b hb).2.1,fun b hb=>by rw [hlim2 b (hother t _ h1 h3 b hb).2.2]; exact k2 b hb,k3.mono hevo⟩
 ·have hne:(g.tk tk).ownBlock≠some b:=fun e=>hn (.inr ⟨tk,x,htl,e⟩)
  exact ⟨hsame b hb hne,hlim2 b (hnew b hb hne)⟩
 ·rcases hw with ⟨o,h1,h2⟩ | ⟨t,y,h1,h2⟩
  ·exact .inl ⟨o,h1,h2⟩
  ·rcases hget t _ h1 with ⟨k1,k2⟩ | ⟨k1,k2⟩ | ⟨k1,k2,k3⟩
   ·rw [k1,htk1] at h2
    rcases hc with ⟨c1,_,_⟩ | ⟨c1,_⟩
    ·exact .inr ⟨tk,x,htl,by rw [←c1]; exact h2⟩
    ·rw [c1] at h2; cases h2; omega
   ·rw [k1,htk0] at h2; cases h2
   ·rw [htk2 t k1 k2] at h2
    exact .inr ⟨t,y,k3,h2⟩
end renew
section rows
variable {P:Program} (w:World)
def laid (cur:List Value) (o:Nat) (cs:List Value):List Value:=cur.take o++cs++cur.drop (o+cs.length)
end rows
end Go.Abs
namespace Go.Abs
open Go.RowKit
section parts
variable {lim:Nat→Nat} {w:World} {sz n m:Nat} {rows rows':List (List D)} {xs ys:List Value}
theorem RowsRep.take (h:RowsRep lim w sz n rows xs) {k:Nat} (hk:k≤n):RowsRep lim w sz k (rows.take k) (xs.take (k*sz)):=by
 have hl:=h.len
 refine ⟨by rw [List.length_take]; omega,fun r hr=>h.row r (List.mem_of_mem_take hr),fun i c u hc hu=>?_⟩
 rw [List.getElem?_take] at hu
 split at hu
 ·refine h.rep i c u ?_ hu
  rw [←List.take_append_drop k rows,List.flatten_append,List.getElem?_append_left (List.getElem?_eq_some_iff.1 hc).1]
  exact hc
 ·cases hu
end parts
section move
variable {P:Program} {f:Ctx} {N:Nat} {S:Start} {Q:EV→St→Prop} {k todo:List Item} {env:Env} {st:St}
theorem ARun.move {i tk e sz n:Nat} {rows:List (List D)} (hl:lookup i env=some (.vc tk n)) (htl:st.tails[tk]?=some ⟨e,sz,n,some rows⟩)
  (h:ARun P f N S Q todo ((i,.vc st.tails.length n) :: env) (st.renew tk ⟨e,sz,n,some rows⟩ ⟨e,sz,n,some rows⟩)):ARun P f N S Q todo env st:=by
 intro g w tmps hinv hh he hN
 obtain ⟨xs,o1,o2,o3⟩:=hinv.own tk e sz n rows htl
 obtain ⟨g',k1,k2,k3⟩:=hinv.renew (x':=⟨e,sz,n,some rows⟩) htl rfl rfl o1 (.inl ⟨rfl,rfl,⟨rfl,rfl,rfl,Nat.le_refl _,fun _ _ _=>rfl⟩⟩) o3
 refine h g' w tmps k2 (hh.step k3) (fun j y hy=>?_) hN
 unfold lookup at hy
 have he':=he.mono k3.sevo
 cases hb:Nat.beq j i with
 | true =>
  rw [hb] at hy
  cases hy
  have:=Nat.eq_of_beq_eq_true hb
  subst this
  obtain ⟨v,m1,m2⟩:=he j _ hl
  refine ⟨v,m1,?_⟩
  have hf:∃ A m c,v=.slice A m c:=by cases m2 with | vc _ _ _ _ hf _=>exact hf
  refine .vc _ _ _ (by simp [St.renew,St.tok,St.setTail]) hf fun y rows2 hy ho=>?_
  rw [renew_new] at hy
  cases hy
  refine ⟨Nat.le_refl _,fun _=>?_⟩
  rcases vc_or hinv htl m2 with hv | ⟨n0,r0,A,hv⟩
  ·exact .inl (by rw [k1]; exact hv)
  ·exact .inr ⟨n0,A,hv⟩
 | false =>
  rw [hb] at hy
  exact he' j y hy
theorem OpC.callF {f':FuncId} {base:Nat} {l:List Operand} {ts:Array TypeId} {es0 es:List EV} {x r:EV} {s0 s1 st':St} {d:Option Tmp} {ty:TypeId} {pos:String} {after:Array Edge} (hen:Enters P f') (rs tk:List Nat)
  (h1:evos env l=some es) (hc:ACallS P f' es0 s0 (QE r s1)) (hle:EVlesE es (es0.map (EV.ren (renF rs st.objs.length) (renF tk st.tails.length))))
  (hp:(partB rs tk s0 st && es0.all (okEV s0.objs.length s0.tails.length))=true) (h5:s0.objs.all (okObj s0.objs.length s0.tails.length)=true)
  (ho:rs.map (fun r=>st.objs[r]?)=s0.objs.map (fun x=>some (x.ren (renF rs st.objs.length) (renF tk st.tails.length)))) (ht:tk.map (fun r=>st.tails[r]?)=s0.tails.map some)
  (hx:r.ren (renF rs st.objs.length) (renF tk st.tails.length)=x) (hs:mergeSt st s1 rs tk=st') :
  OpC P base env st ⟨d,.call ⟨.value (.func f'),l.toArray,ts⟩,ty,pos,after,none⟩ x st':=by
 simp only [Bool.and_eq_true] at hp
 have hc':=(hc.frame rs tk hp.1 h5 hp.2 ho ht).le hle
 intro g w tmps hinv he
 obtain ⟨k1,k2⟩:=evos_rep he l es h1
 refine ⟨f',_,callS_run hen w rfl,(hc' g w base _ hinv ⟨by simp [k1],fun j x v hx hv=>k2 j x v hx (by simpa using hv)⟩).mono ?_⟩
 rintro e w' ⟨v,r',st2,g',rfl,⟨hle2,rfl⟩,hr,hinv',hh'⟩
 rw [hx] at hle2
 rw [hs] at hinv' hr hh'
 exact ⟨v,g',rfl,hle2 _ _ _ _ hr,hinv',hh'.toStep⟩
end move
section gm
variable {κ α:Type} [BEq κ] [LawfulBEq κ]
def gEnc (sz:Nat) (row:α→List D):Nat→List (κ×List α)→List (κ×EV)
 | _,[]=>[]
 | t,p :: l=>(p.1,.tsl sz (p.2.map row) t) :: gEnc sz row (t+1) l
def gTails (e:TypeId) (sz:Nat) (l:List (κ×List α)):List Tail:=l.map fun p=>⟨e,sz,p.2.length,none⟩
def gev (sz:Nat) (row:α→List D) (t:Nat) (l:List (κ×List α)) (k:κ):EV :=
 match afind l k with
 | some j=>.tsl sz (((alook l k).getD []).map row) (t+j)
 | none=>.d nilD
theorem gEnc_len (sz:Nat) (row:α→List D):∀ (t:Nat) (l:List (κ×List α)),(gEnc sz row t l).length=l.length
 | _,[]=>rfl
 | t,p :: l=>by simp [gEnc,gEnc_len sz row (t+1) l]
theorem gEnc_get (sz:Nat) (row:α→List D):∀ (t:Nat) (l:List (κ×List α)) (i:Nat),(gEnc sz row t l)[i]?=(l[i]?).map fun p=>(p.1,.tsl sz (p.2.map row) (t+i))
 | _,[],i=>by simp [gEnc]
 | t,p :: l,0=>by simp [gEnc]
 | t,p :: l,i+1=>by
  have:=gEnc_get sz row (t+1) l i
  simp only [gEnc,List.getElem?_cons_succ,this]
  rw [show t+1+i=t+(i+1) from by omega]
theorem afind_gEnc (sz:Nat) (row:α→List D) (k:κ):∀ (t:Nat) (l:List (κ×List α)),afind (gEnc sz row t l) k=afind l k
 | _,[]=>rfl
 | t,p :: l=>by
  have:=afind_gEnc sz row k (t+1) l
  unfold afind at this ⊢
  rw [gEnc,List.findIdx?_cons,List.findIdx?_cons,this]
theorem alook_gEnc (sz:Nat) (row:α→List D) (t:Nat) (l:List (κ×List α)) (k:κ):alook (gEnc sz row t l) k=match afind l k with
  | some j=>some (.tsl sz (((alook l k).getD []).map row) (t+j))
  | none=>none:=by
 rw [alook_afind,afind_gEnc,alook_afind l k]
 cases h:afind l k with
 | none=>rfl
 | some j =>
  have hj:=afind_lt h
  simp only [Option.bind_some,gEnc_get,List.getElem?_eq_getElem hj,Option.map_some,Option.getD_some]
theorem gEnc_snoc (sz:Nat) (row:α→List D) (q:κ×List α):∀ (t:Nat) (l:List (κ×List α)),gEnc sz row t (l++[q])=gEnc sz row t l++[(q.1,.tsl sz (q.2.map row) (t+l.length))]
 | t,[]=>by simp [gEnc]
 | t,p :: l=>by
  simp only [List.cons_append,gEnc,gEnc_snoc sz row q (t+1) l,List.length_cons]
  rw [show t+1+l.length=t+(l.length+1) from by omega]
theorem gEnc_set (sz:Nat) (row:α→List D) (q:κ×List α):∀ (t:Nat) (l:List (κ×List α)) (j:Nat),gEnc sz row t (l.set j q)=(gEnc sz row t l).set j (q.1,.tsl sz (q.2.map row) (t+j))
 | t,[],j=>by simp [gEnc]
 | t,p :: l,0=>by simp [gEnc]
 | t,p :: l,j+1=>by
  simp only [List.set_cons_succ,gEnc,gEnc_set sz row q (t+1) l j]
  rw [show t+1+j=t+(j+1) from by omega]
theorem aset_gEnc (sz:Nat) (row:α→List D) (t:Nat) (l:List (κ×List α)) (k:κ) (v:List α):aset (gEnc sz row t l) k (.tsl sz (v.map row) (t+(afind l k).getD l.length))=gEnc sz row t (aset l k v):=by
 unfold aset
 rw [afind_gEnc]
 cases h:afind l k with
 | none=>simp only [Option.getD_none,gEnc_snoc]
 | some j=>simp only [Option.getD_some,gEnc_set]
theorem gTails_aset (e:TypeId) (sz:Nat) (l:List (κ×List α)) (k:κ) (v:List α):gTails e sz (aset l k v)=match afind l k with
  | some j=>(gTails e sz l).set j ⟨e,sz,v.length,none⟩
  | none=>gTails e sz l++[⟨e,sz,v.length,none⟩]:=by
 unfold aset
 cases h:afind l k with
 | none=>simp [gTails]
 | some j=>simp [gTails,List.map_set]
theorem gTails_len (e:TypeId) (sz:Nat) (l:List (κ×List α)):(gTails e sz l).length=l.length:=by simp [gTails]
end gm
section rules
variable {P:Program} {base:Nat} {env:Env} {st:St} {d:Option Tmp} {ty:TypeId} {pos:String} {after:Array Edge} {gd:Option (Nat×Bool)} {t e key:TypeId} {x y z:Operand}
 {κ α:Type} [BEq κ] [LawfulBEq κ] {sz t0:Nat} {row:α→List D}
theorem q_lookupG (K:KeyF P key κ) {o:Nat} {l:List (κ×List α)} {k:κ} {dk:D} {inf:TypeInfo} {zv:Value} (ht:P.underlying t=some (.map key e)) (hi:P.info? e=some inf) (hz:inf.zero=some zv) (hz0:cv zv=nilD)
  (hx:evo env x=some (.mp o)) (ho:st.objs[o]?=some (.map (encE K.ke (gEnc sz row t0 l)))) (hy:evo env y=some (.d dk)) (hk:∀ lim w v,DRep lim w dk v→v=K.ke k) :
  OpQ P env st ⟨d,.lookup t x y false,ty,pos,after,gd⟩ (gev sz row t0 l k):=by
 intro g base w tmps hinv he
 obtain ⟨v,h1,h2⟩:=lookup_core (c:=false) (d:=d) (ty:=ty) (pos:=pos) (after:=after) (gd:=gd) K ht hi hz hx ho hy hk hinv he
 refine ⟨v,?_,fun w' hb=>by simpa using h2 w' hb⟩
 rw [alook_gEnc] at h1
 unfold gev
 cases h:afind l k with
 | none =>
  rw [h] at h1
  simp only at h1 ⊢
  subst h1
  exact .d _ _ (hz0▸cv_rep g.lim w v)
 | some j=>rw [h] at h1; exact h1
theorem v_appendG {l:List (κ×List α)} {k:κ} {l':List α} {T:List Tail} {inf:TypeInfo} {zv:Value} {w:EV} (ht:P.underlying t=some (.slice e)) (hi:P.info? e=some inf) (hz:inf.zero=some zv) (hsize:inf.size=sz) (hzs:zv.cells.size=sz) (hb:inf.bytes≤100000)
  (hx:evo env x=some (gev sz row t0 l k)) (hT:st.tails=T++gTails e sz l) (h0:T.length=t0) (hy:evo env y=some w) (hs:asSl w=some (sz,l'.map row)) (hn:((alook l k).getD []).length+l'.length≤1000000000) :
  OpV P base env st ⟨d,.call ⟨.builtin .append,#[x,y],#[t,t]⟩,ty,pos,after,gd⟩ (.tsl sz ((((alook l k).getD [])++l').map row) (t0+(afind l k).getD l.length)) ⟨st.objs,T++gTails e sz (aset l k (((alook l k).getD [])++l'))⟩:=by
 rw [gTails_aset]
 unfold gev at hx
 cases h:afind l k with
 | none =>
  rw [h] at hx
  have hl:alook l k=none:=by rw [alook_afind,h]; rfl
  rw [hl] at hn ⊢
  simp only [Option.getD_none,List.nil_append] at hn ⊢
  have:=v_appendNilL (base:=base) (st:=st) (d:=d) (ty:=ty) (pos:=pos) (after:=after) (gd:=gd) (row:=row) ht hi hz hsize hzs hb hx hy hs (by simpa using hn)
  have e1:st.tails.length=t0+l.length:=by rw [hT,List.length_append,gTails_len,h0]
  have e2:(st.tok ⟨e,sz,0,none⟩).setTail st.tails.length ⟨e,sz,l'.length,none⟩=⟨st.objs,T++(gTails e sz l++[⟨e,sz,l'.length,none⟩])⟩:=by
   rw [←List.append_assoc,←hT]
   simp [St.tok,St.setTail]
  rw [e2,e1] at this
  exact this
 | some j =>
  rw [h] at hx
  have hj:=afind_lt h
  have hl:alook l k=some l[j].2:=by rw [alook_afind,h]; simp [List.getElem?_eq_getElem hj]
  rw [hl] at hx hn ⊢
  simp only [Option.getD_some] at hx hn ⊢
  have:=v_appendL (base:=base) (st:=st) (d:=d) (ty:=ty) (pos:=pos) (after:=after) (gd:=gd) (row:=row) (l:=l[j].2) ht hi hz hsize hzs hb hx (by
   rw [hT,List.getElem?_append_right (by omega),h0,Nat.add_sub_cancel_left]
   simp [gTails,List.getElem?_eq_getElem hj]) hy hs hn
  have e2:st.setTail (t0+j) ⟨e,sz,(l[j].2++l').length,none⟩=⟨st.objs,T++(gTails e sz l).set j ⟨e,sz,(l[j].2++l').length,none⟩⟩:=by
   unfold St.setTail
   rw [hT,List.set_append_right _ _ (by omega),h0,Nat.add_sub_cancel_left]
  rw [e2] at this
  exact this
theorem u_mapUpdateG (K:KeyF P key κ) {o:Nat} {l:List (κ×List α)} {k:κ} {dk:D} {v:List α} (ht:P.underlying t=some (.map key e)) (hx:evo env x=some (.mp o)) (ho:st.objs[o]?=some (.map (encE K.ke (gEnc sz row t0 l))))
  (hy:evo env y=some (.d dk)) (hk:∀ lim w v,DRep lim w dk v→v=K.ke k) (hz:evo env z=some (.tsl sz (v.map row) (t0+(afind l k).getD l.length))) :
  OpU P base env st ⟨d,.mapUpdate t x y z,ty,pos,after,gd⟩ (st.set o (.map (encE K.ke (gEnc sz row t0 (aset l k v))))):=by
 have:=u_mapUpdateE (base:=base) (d:=d) (ty:=ty) (pos:=pos) (after:=after) (gd:=gd) K ht hx ho hy hk hz
 rw [aset_gEnc] at this
 exact this
theorem okG {n:Nat} {T:List Tail} {ke:κ→Value} {l:List (κ×List α)} (h0:T.length=t0):okObj n (T++gTails e sz l).length (.map (encE ke (gEnc sz row t0 l)))=true:=by
 unfold okObj encE
 rw [List.all_eq_true]
 intro p hp
 obtain ⟨q,hq,rfl⟩:=List.mem_map.1 hp
 obtain ⟨i,hi⟩:=List.mem_iff_getElem?.1 hq
 rw [gEnc_get] at hi
 cases hl:l[i]? with
 | none=>rw [hl] at hi; cases hi
 | some r =>
  rw [hl] at hi
  cases hi
  have:=(List.getElem?_eq_some_iff.1 hl).1
  simp only [okEV,Nat.blt_eq,List.length_append,gTails_len,h0]
  omega
end rules
section run
variable {P:Program} {f:Ctx} {N:Nat} {S:Start} {Q:EV→St→Prop} {todo:List Item} {env env':Env} {st st':St} {κ α:Type} [BEq κ] [LawfulBEq κ]
theorem setSame {w:World} {b:Nat} {o:Obj} (h:w.heap[b]?=some o):({ w with heap:=w.heap.setIfInBounds b o }:World)=w:=by
 have:w.heap.setIfInBounds b o=w.heap:=by
  apply Array.ext_getElem?
  intro i
  rw [Array.getElem?_setIfInBounds]
  split
  ·rename_i hbi
   subst hbi
   split
   ·exact h.symm
   ·rename_i hb; rw [Array.getElem?_eq_none (by omega)]
  ·rfl
 rw [this]
theorem Inv.mapLe {g:Ghost} {base:Nat} {w:World} {o:Nat} {es es':List (Value×EV)} (h:Inv g base w st) (ho:st.objs[o]?=some (.map es)) (hl:es.length=es'.length)
  (hle:∀ (i:Nat) p q,es[i]?=some p→es'[i]?=some q→p.1=q.1∧EVle p.2 q.2):Inv g base w (st.set o (.map es'))∧Step base g w st g w (st.set o (.map es')):=by
 obtain ⟨b1,ms,clock,b2,b3,b4,b5,b6⟩:=h.map o es ho
 have:=h.setMap (es':=es') ho (ms':=ms) (clock':=clock) (by omega) (fun i k x m hm1 hm2=>by
  have hi:i < es.length:=by rw [hl]; exact (List.getElem?_eq_some_iff.1 hm1).1
  have h1:=List.getElem?_eq_getElem hi
  obtain ⟨a1,a2⟩:=hle i _ _ h1 hm1
  obtain ⟨c1,c2⟩:=b4 i es[i].1 es[i].2 m h1 hm2
  exact ⟨c1.trans a1,a2 _ _ _ _ c2⟩) b5 b6
 rw [setSame b2] at this
 exact this
theorem ARun.gfreeze {e sz t0:Nat} {row:α→List D} (o:Nat) {T:List Tail} {l:List (κ×List α)} {ke:κ→Value} (ho:st.objs[o]?=some (.map (encE ke (gEnc sz row t0 l)))) (hT:st.tails=T++gTails e sz l) (h0:T.length=t0)
  (hE:selE env env'=some env') (hs:st'=⟨st.objs.set o (.map (mEnc ke (fun x=>slOf sz row x) l)),T⟩) (hok:(okEnv st'.objs.length st'.tails.length env' && st'.objs.all (okObj st'.objs.length st'.tails.length))=true)
  (hS1:S.st.objs.length≤st.objs.length) (hS2:S.st.tails.length≤T.length) (h:ARun P f N S Q todo env' st'):ARun P f N S Q todo env st:=by
 subst hs
 intro g w tmps hinv hh he hN
 obtain ⟨h1,h2⟩:=hinv.mapLe (es':=mEnc ke (fun x=>slOf sz row x) l) ho (by simp [encE,mEnc,gEnc_len]) (fun i p q hp hq=>by
  simp only [encE,mEnc,List.getElem?_map,gEnc_get] at hp hq
  cases hl:l[i]? with
  | none=>rw [hl] at hp; cases hp
  | some r=>rw [hl] at hp hq; cases hp; cases hq; exact ⟨rfl,.tsl _ _ _⟩)
 have hlen:(st.set o (.map (mEnc ke (fun x=>slOf sz row x) l))).objs.length=st.objs.length:=by simp [St.set]
 refine ARun.to (st:=st.set o (.map (mEnc ke (fun x=>slOf sz row x) l))) (st':=⟨st.objs.set o (.map (mEnc ke (fun x=>slOf sz row x) l)),T⟩) st.objs.length T.length (selE_sub hE) ?_ ?_ ?_ ?_ ?_ hS1 hS2 h g w tmps h1 (hh.step h2) (he.mono h2.sevo) hN
 ·show (st.objs.set o _).take st.objs.length=st.objs.set o _
  rw [List.take_of_length_le (by simp)]
 ·show st.tails.take T.length=T
  rw [hT]; simp
 ·rw [hlen]; exact Nat.ble_self_eq_true _
 ·show Nat.ble T.length st.tails.length=true
  rw [hT]; exact Nat.ble_eq_true_of_le (by simp)
 ·simpa [List.length_set] using hok
theorem ARun.tG {s0:St} (n:Nat) (h:ARun P f N S Q todo env' st') (hE:selE env env'=some env') (ho:st.objs.take n=st'.objs) (ht:st.tails=st'.tails) (hn:Nat.ble n st.objs.length=true)
  (hok:(okEnv n st'.tails.length env' && st'.objs.all (okObj n st'.tails.length))=true) (hS:S.st=s0) (hb:Nat.ble s0.objs.length n=true) (hb2:Nat.ble s0.tails.length st'.tails.length=true):ARun P f N S Q todo env st :=
 .to n st'.tails.length (selE_sub hE) ho (by rw [ht]; simp) hn (by rw [ht]; exact Nat.ble_self_eq_true _) hok (by rw [hS]; exact Nat.le_of_ble_eq_true hb) (by rw [hS]; exact Nat.le_of_ble_eq_true hb2) h
end run
def strlss (a b:List UInt8):Bool:=Op.bytesLess a b
section strings
variable {P:Program} {env:Env} {st:St} {d:Option Tmp} {ty:TypeId} {pos:String} {after:Array Edge} {gd:Option (Nat×Bool)} {t t2:TypeId} {x y:Operand} {a b:List UInt8} (hx:evo env x=some (.d (cS a))) (hy:evo env y=some (.d (cS b)))
include hx hy
theorem q_slss:OpQ P env st ⟨d,.binOp .lss t x y t2,ty,pos,after,gd⟩ (.d (cB (strlss a b))):=q_ex fun g w tmps w' he=>by
 simp [execOp,(evo_rep he hx).ex_inv,(evo_rep he hy).ex_inv,eqGuard,binOp,Op.stringOp,strlss]
end strings
def goH (P:Program) (base:Nat) (T:FT) (N n:Nat) (cf:Cf) (env:Env) (st:St) (hs:List Hint):Option Out:=forceL env fun env=>match st with
 | ⟨os,ts⟩=>forceL os fun os=>go P base T N n cf env ⟨os,ts⟩ hs []
theorem goH_eq {P:Program} {base:Nat} {T:FT} {N n:Nat} {cf:Cf} {env:Env} {st:St} {hs:List Hint}:goH P base T N n cf env st hs=go P base T N n cf env st hs []:=by
 unfold goH; simp only [forceL_eq]
theorem goH_sound {P:Program} {f:Ctx} {N:Nat} {S:Start} {Q:EV→St→Prop} {T:FT} (hT:T.Ok P) (hm:P.follows .mixedOrders=true) {n:Nat} {cf:Cf} {env:Env} {st:St} {hs:List Hint} {out:Out} (h:goH P S.base T N n cf env st hs=some out) (hp:AllP out.ps) :
  CRun P f N S Q out.cf out.env out.st→CRun P f N S Q cf env st:=(go_sound hT hm n cf env st hs [] out (goH_eq▸h) hp).2
theorem DLe.nil0 (sz:Nat):DLe (.ex (.slice none 0 0)) (.e0 sz):=fun _ _ _ h=>by cases h; exact .e0 sz none (.inl rfl)
section tok
variable {P:Program} {f:Ctx} {N:Nat} {S:Start} {Q:EV→St→Prop} {todo:List Item} {env:Env} {st:St}
theorem Inv.tokCellE {g:Ghost} {base:Nat} {w:World} {o ci:Nat} {T:TypeId} {cs:List EV} {sz:Nat} (h:Inv g base w st) (ho:st.objs[o]?=some (.row T cs)) (hc:cs[ci]?=some (.d (.e0 sz))) (e:Nat) :
  ∃ g',Inv g' base w ((st.tok ⟨e,sz,0,none⟩).set o (.row T (cs.set ci (.tsl sz [] st.tails.length))))∧Step base g w st g' w ((st.tok ⟨e,sz,0,none⟩).set o (.row T (cs.set ci (.tsl sz [] st.tails.length)))):=by
 obtain ⟨g1,h1,h2,h3⟩:=h.newTok e sz
 have ho1:(st.tok ⟨e,sz,0,none⟩).objs[o]?=some (.row T cs):=ho
 obtain ⟨b1,b2,vs,b3,b4,b5⟩:=h2.row o T cs ho1
 obtain ⟨hi,hs⟩:=h2.setBlock (o:=o) (x:=.row T (cs.set ci (.tsl sz [] st.tails.length))) (w':=w) ⟨_,ho1,by simp⟩ b2 rfl (fun _ _=>rfl) rfl rfl rfl
  (fun hsv ty' cs' hx'=>by
   cases hx'
   refine ⟨vs,b3,by simpa using b4,fun i c u hci hu=>?_⟩
   rw [List.getElem?_set] at hci
   split at hci
   ·rename_i hic
    subst hic
    split at hci
    ·cases hci
     have h0:=b5 ci _ u hc hu
     refine ⟨?_,h0.2⟩
     cases h0.1 with
     | d _ _ hd =>
      cases hd with
      | e0 _ A _=>exact .tsl sz [] _ _ e 0 (.nil sz _) (by simp [St.tok,St.set]) (Nat.le_refl _) (fun _=>.inr ⟨rfl,A,rfl⟩)
    ·cases hci
   ·have h0:=b5 i c u hci hu
    exact ⟨h0.1.mono hsv,h0.2⟩) (fun _ es hx'=>by cases hx')
 exact ⟨g1,hi,h3.trans hs⟩
theorem ARun.tokCellE {o ci:Nat} {T:TypeId} {cs:List EV} {e sz:Nat} (ho:st.objs[o]?=some (.row T cs)) (hc:cs[ci]?=some (.d (.e0 sz)))
  (h:ARun P f N S Q todo env ((st.tok ⟨e,sz,0,none⟩).set o (.row T (cs.set ci (.tsl sz [] st.tails.length))))):ARun P f N S Q todo env st:=by
 intro g w tmps hinv hh he hn
 obtain ⟨g',h1,h2⟩:=hinv.tokCellE ho hc e
 exact h g' w tmps h1 (hh.step h2) (he.mono h2.sevo) hn
end tok
section fwp
variable {P:Program} {R:Ending→World→Prop} {k:List Item} {tmps:Array Value} {w:World}
theorem FWP.beginRound {f:FuncId} {ds:List Deferred} {l:Nat} {w':World} (hr:(Instr.beginRound l).run P w=.ok () w') (h:FWP P ⟨f,ds,some l⟩ R k tmps w'):FWP P ⟨f,ds,some l⟩ R (.beginRound :: k) tmps w :=
 FWP.step (fun _=>stepR_beginRound rfl hr) h
theorem FWP.round {f:Ctx} {ops:Array Oper} {i:Nat} {rest:List Nat} {o:Oper} {l:Nat} {f':FuncId} {tm:Array Value} {assign body:Code} {w':World}
  (ho:ops[i]?=some o) (hw:Region.wanted o (yielded ops tmps)=true) (hr:(execOp (Act.eval ⟨tmps,[]⟩) o).run P w=.ok (.round l f' tm assign body) w')
  (h:FWP P ⟨f',[],some l⟩ (fun _ w2=>∃ w3,(Instr.endRound l none).run P w2=.ok (.bool true) w3∧FWP P f R (.inRegion ops rest :: k) (Act.put ⟨tmps,[]⟩ o.dst (.bool true)).tmps w3) [.code assign,.beginRound,.code body] tm w') :
  FWP P f R (.inRegion ops (i :: rest) :: k) tmps w:=by
 intro cs
 have hg:=stepGR_op (P:=P) (b:=bf f) (a:=⟨tmps,f.ds⟩) (k:=k) (cs:=cs) (w:=w) (rest:=rest) ho hw
 rw [eval_ds,semAt_of hr (by simp)] at hg
 have hfin:∀ v,((bf f).atR ⟨tmps,f.ds⟩ (.inRegion ops (i :: rest) :: k)).finish v=(bf f).atR (Act.put ⟨tmps,f.ds⟩ o.dst v) (.inRegion ops rest :: k):=by
  intro v; rw [Frame.finish_atR,ho]; rfl
 obtain ⟨e,w2,fr,⟨w3,he,hF⟩,hsteps,hfin2⟩:=h ((bf f).atR ⟨tmps,f.ds⟩ (.inRegion ops (i :: rest) :: k) :: cs)
 obtain ⟨rfl,tm2,rfl⟩:=hfin2
 have hb0:Frame.round l f' tm assign body .normal=(bf ⟨f',[],some l⟩).atR ⟨tm,[]⟩ [.code assign,.beginRound,.code body]:=by simp [Frame.round,Frame.atR,bf]
 have henter:Go.step P (lone ((bf f).atR ⟨tmps,f.ds⟩ (.inRegion ops (i :: rest) :: k)) cs w) =
   .next (lone ((bf ⟨f',[],some l⟩).atR ⟨tm,[]⟩ [.code assign,.beginRound,.code body]) ((bf f).atR ⟨tmps,f.ds⟩ (.inRegion ops (i :: rest) :: k) :: cs) w'):=by
  rw [←hb0]
  exact step_lone_go (by rw [hg]; simp [stepG.apply,hr,Frame.atR])
 obtain ⟨e,w4,fr',hR,hc,h1⟩:=hF cs
 refine ⟨e,w4,fr',hR,Comes.of_steps (.head henter (Steps.trans hsteps (.one ?_))) hc,h1⟩
 rw [←put_eq,←hfin]
 exact stepR_round_end rfl rfl he
theorem FWP.rangeFunc {f:FuncId} {g:Operand} {ps:Array Tmp} {assign body:Code} {it:FuncId} {vs:Array Value} (hg:Act.eval ⟨tmps,[]⟩ g=.func (.func it) #[] vs) (hen:Enters P it)
  (h:Calls P it (#[.func (.yield (w.heap.size+1)) #[] #[]]++vs) ((w.alloc (.deferred (some []))).alloc (.loop { state:=.ready,pending:=none,fn:=f,tmps:=tmps,params:=ps,assign,body,defers:=w.heap.size }))
   fun e w2=>(∃ v,e=.returned v)∧∃ w3,(Instr.endLoop (w.heap.size+1)).run P w2=.ok none w3∧FWP P ⟨f,[{ target:=.collected w.heap.size,args:=#[] }],none⟩ R k tmps w3) :
  FWP P (.of f) R (.code (.rangeFunc g ps assign body) :: k) tmps w:=by
 intro cs
 have he:=run_enterLoop_outer (P:=P) (w:=w) f tmps ps assign body
 generalize hW:(w.alloc (.deferred (some []))).alloc (.loop { state:=.ready,pending:=none,fn:=f,tmps:=tmps,params:=ps,assign,body,defers:=w.heap.size })=W1 at he h
 have hres:(resolve (Act.eval ⟨tmps,[]⟩) (rangeCall g (w.heap.size+1)) 0).run P W1=.ok { target:=.fn (.func it) vs,args:=#[.func (.yield (w.heap.size+1)) #[] #[]] } W1:=by
  simp only [rangeCall,resolve]
  rw [hg]
  simp [Deferred.ofValue,Act.eval]
 have hinv:(invoke (.fn (.func it) vs) #[.func (.yield (w.heap.size+1)) #[] #[]]).run P W1=.ok (.enter it (#[.func (.yield (w.heap.size+1)) #[] #[]]++vs)) W1:=by
  simp only [invoke]; exact callFunc_run hen _ _
 have henter:=stepR_rangeFunc (P:=P) (b:=bf (.of f)) (a:=⟨tmps,[]⟩) (k:=k) (cs:=cs) (w:=w) he hres hinv
 obtain ⟨e,w2,fr,⟨⟨v,rfl⟩,w3,hend,hF⟩,hsteps,_,hleave⟩:=h ((bf (.of f)).atR ⟨tmps,[{ target:=.collected w.heap.size,args:=#[] }]⟩ (.inRangeFunc (w.heap.size+1) :: k) :: cs)
 obtain ⟨e,w4,fr',hR,hc,h1⟩:=hF cs
 refine ⟨e,w4,fr',hR,Comes.of_steps (.head henter (Steps.trans hsteps (.head (step_leave_returned hleave) (.one ?_)))) hc,h1⟩
 rw [finish_atR_inRangeFunc]
 exact stepR_endRangeFunc hend
theorem FWP.retM {f:FuncId} {D:Nat} {fn:Func} {v:Value} {w':World} (hf:P.funcs[f]?=some fn) (ht:(Instr.takeDeferred D).run P w=.ok [] w') (hr:(results fn tmps).run P w'=.ok v w') (hR:R (.returned v) w') :
  FWP P ⟨f,[{ target:=.collected D,args:=#[] }],none⟩ R (.code .ret :: k) tmps w :=
 fun cs=>⟨.returned v,w',_,hR,.head (stepR_ret rfl) (.one (step_collected (by simp) rfl rfl ht)),rfl,rfl,rfl,rfl,fn,hf,hr⟩
end fwp
section inv
variable {P:Program} {base:Nat} {g:Ghost} {w:World} {st:St}
theorem Inv.setRaw (hinv:Inv g base w st) {o:Nat} {y:Obj} (ho:st.objs[o]?=some (.raw y)) (y':Obj):Inv g base (w.putObj (g.ob o) y') (st.set o (.raw y'))∧Step base g w st g (w.putObj (g.ob o) y') (st.set o (.raw y')):=by
 obtain ⟨hb,hl,hbk⟩:=hinv.raw o _ ho
 exact hinv.setBlock (o:=o) (x:=.raw y') (w':=w.putObj (g.ob o) y')
   ⟨_,ho,by simp⟩ hl (by simp [World.putObj]) (fun b hb'=>World.putObj_heap_other hb') rfl rfl rfl (fun _ ty' cs' e=>by cases e) (fun _ es e=>by cases e)
   (fun y e=>by
    cases e
    exact World.putObj_heap_same (Array.getElem?_eq_some_iff.1 hbk).1)
end inv
section run
variable {P:Program} {f:FuncId} {N:Nat} {S:Start} {Q:EV→St→Prop} {k:List Item} {env:Env} {st:St}
theorem Hist.obAt {S:Start} {g:Ghost} {w:World} {st:St} (h:Hist S g w st) {o l:Nat} (hS:S.g.ob o=l) (hlt:o < S.st.objs.length):g.ob o=l:=(h.sevo.ob o hlt).trans hS
theorem ARun.beginRound {l o:Nat} {r:Loop} (hS:S.g.ob o=l) (hlt:o < S.st.objs.length) (ho:st.objs[o]?=some (.raw (.loop r))) (hr:r.state=.ready)
  (h:ARun P ⟨f,[],some l⟩ N S Q k env (st.set o (.raw (.loop { r with state:=.busy })))):ARun P ⟨f,[],some l⟩ N S Q (.beginRound :: k) env st:=by
 intro g w tmps hinv hh he hN
 have hob:=hh.obAt hS hlt
 obtain ⟨_,_,hbk⟩:=hinv.raw o _ ho
 obtain ⟨h1,h2⟩:=hinv.setRaw ho (.loop { r with state:=.busy })
 rw [hob] at hbk h1 h2
 exact FWP.beginRound (run_beginRound hbk hr) (h g _ tmps h1 (hh.step h2) (he.mono h2.sevo) hN)
theorem ARun.roundEnd {l:Nat} (hQ:Q (.d (cB true)) st):ARun P ⟨f,[],some l⟩ N S Q [] env st :=
 fun g w tmps hinv hh he hN=>FWP.roundEnd ⟨_,_,st,g,rfl,hQ,.d _ _ (.ex _),hinv,hh⟩
theorem ARun.rangeFunc {i:Nat} {it:FuncId} {caps:List EV} {ps:Array Tmp} {assign body:Code} {st':St} (hx:lookup i env=some (.clo it caps)) (hen:Enters P it) (hlen:st'.objs.length=st.objs.length)
  (hcall:∀ (S1:Start) (tm:Array Value) (D l:Nat),S1.base=S.base→Inv S1.g S1.base S1.w S1.st→tm.size=N→EnvRep S1.g S1.w S1.st env tm→S1.g.ob (st.objs.length+1)=l →
   S1.st=⟨st.objs++[.raw (.deferred (some [])),.raw (.loop { state:=.ready,pending:=none,fn:=f,tmps:=tm,params:=ps,assign,body,defers:=D })],st.tails⟩ →
   ∀ vs,ArgsRep S1.g S1.w S1.st (.d (.ex (.func (.yield l) #[] #[])) :: caps) vs →
   Calls P it vs S1.w (RPost S1 fun _ st2=>st2=⟨st'.objs++[.raw (.deferred (some [])),.raw (.loop { state:=.ready,pending:=none,fn:=f,tmps:=tm,params:=ps,assign,body,defers:=D })],st'.tails⟩))
  (hk:∀ (S1:Start) (D:Nat) (x:Obj),S1.base=S.base→S1.g.ob st.objs.length=D→S1.st=⟨st'.objs++[.raw (.deferred (some [])),.raw x],st'.tails⟩ →
   ARun P ⟨f,[{ target:=.collected D,args:=#[] }],none⟩ N S1 Q k env ⟨st'.objs++[.raw (.deferred (some [])),.raw x],st'.tails⟩) :
  ARun P (.of f) N S Q (.code (.rangeFunc (.tmp i) ps assign body) :: k) env st:=by
 intro g w tmps hinv hh he hN
 obtain ⟨v,hv1,hv2⟩:=he i _ hx
 cases hv2 with
 | clo _ _ vs hvs hcl =>
 have hg:Act.eval ⟨tmps,[]⟩ (.tmp i)=.func (.func it) #[] vs:=by simp [Act.eval,Array.getD_eq_getD_getElem?,hv1]
 obtain ⟨g1,i1,s1,ob1⟩:=hinv.newObj (.raw (.deferred (some []))) (.deferred (some [])) (fun ty' cs' e=>by cases e) (fun es e=>by cases e) (fun y e=>by cases e; rfl)
 obtain ⟨g2,i2,s2,ob2⟩:=i1.newObj (.raw (.loop { state:=.ready,pending:=none,fn:=f,tmps:=tmps,params:=ps,assign,body,defers:=w.heap.size })) (.loop { state:=.ready,pending:=none,fn:=f,tmps:=tmps,params:=ps,assign,body,defers:=w.heap.size }) (fun ty' cs' e=>by cases e) (fun es e=>by cases e) (fun y e=>by cases e; rfl)
 have hst:(st.add (.raw (.deferred (some [])))).add (.raw (.loop { state:=.ready,pending:=none,fn:=f,tmps:=tmps,params:=ps,assign,body,defers:=w.heap.size })) =
   ⟨st.objs++[.raw (.deferred (some [])),.raw (.loop { state:=.ready,pending:=none,fn:=f,tmps:=tmps,params:=ps,assign,body,defers:=w.heap.size })],st.tails⟩:=by simp [St.add]
 rw [hst] at i2 s2
 have hl2:g2.ob (st.objs.length+1)=w.heap.size+1:=by
  have:(st.add (.raw (.deferred (some [])))).objs.length=st.objs.length+1:=by simp [St.add]
  rw [←this,ob2]; simp [World.size_alloc]
 have hs12:=s1.trans s2
 have hD2:g2.ob st.objs.length=w.heap.size:=by
  have:st.objs.length < (st.add (.raw (.deferred (some [])))).objs.length:=by simp [St.add]
  rw [s2.sevo.ob _ this,ob1]
 have he2:=he.mono hs12.sevo
 have hargs:ArgsRep g2 ((w.alloc (.deferred (some []))).alloc (.loop { state:=.ready,pending:=none,fn:=f,tmps:=tmps,params:=ps,assign,body,defers:=w.heap.size })) ⟨st.objs++[.raw (.deferred (some [])),.raw (.loop { state:=.ready,pending:=none,fn:=f,tmps:=tmps,params:=ps,assign,body,defers:=w.heap.size })],st.tails⟩ (.d (.ex (.func (.yield (w.heap.size+1)) #[] #[])) :: caps) (#[.func (.yield (w.heap.size+1)) #[] #[]]++vs):=by
  refine ⟨by simp [hvs,Nat.add_comm],fun j y u hy hu=>?_⟩
  cases j with
  | zero =>
   rw [Array.getElem?_append_left (by simp)] at hu
   simp at hy hu
   subst hy; subst hu
   exact .d _ _ (.ex _)
  | succ j =>
   simp only [List.getElem?_cons_succ] at hy
   rw [Array.getElem?_append_right (by simp)] at hu
   exact (hcl j y u hy (by simpa using hu)).mono hs12.sevo
 refine FWP.rangeFunc hg hen ?_
 refine (hcall ⟨g2,_,_,S.base⟩ tmps w.heap.size (w.heap.size+1) rfl i2 hN he2 hl2 rfl _ hargs).mono ?_
 rintro e w2 ⟨v,r,st2,g3,rfl,rfl,hr,hinv3,hh3⟩
 refine ⟨⟨v,rfl⟩,?_⟩
 have hoL:(⟨st'.objs++[.raw (.deferred (some [])),.raw (.loop { state:=.ready,pending:=none,fn:=f,tmps:=tmps,params:=ps,assign,body,defers:=w.heap.size })],st'.tails⟩:St).objs[st.objs.length+1]?=some (.raw (.loop { state:=.ready,pending:=none,fn:=f,tmps:=tmps,params:=ps,assign,body,defers:=w.heap.size })):=by
  rw [List.getElem?_append_right (by omega)]
  simp [hlen]
 have hob3:g3.ob (st.objs.length+1)=w.heap.size+1:=(hh3.sevo.ob _ (by simp)).trans hl2
 have hob3D:g3.ob st.objs.length=w.heap.size:=(hh3.sevo.ob _ (by simp)).trans hD2
 obtain ⟨_,_,hbk⟩:=hinv3.raw _ _ hoL
 rw [hob3] at hbk
 obtain ⟨q1,q2⟩:=hinv3.setRaw hoL (.loop { state:=.exhausted,pending:=none,fn:=f,tmps:=tmps,params:=ps,assign,body,defers:=w.heap.size })
 rw [hob3] at q1 q2
 refine ⟨_,run_endLoop hbk (by simp),?_⟩
 have hset:(⟨st'.objs++[.raw (.deferred (some [])),.raw (.loop { state:=.ready,pending:=none,fn:=f,tmps:=tmps,params:=ps,assign,body,defers:=w.heap.size })],st'.tails⟩:St).set (st.objs.length+1) (.raw (.loop { state:=.exhausted,pending:=none,fn:=f,tmps:=tmps,params:=ps,assign,body,defers:=w.heap.size })) =
   ⟨st'.objs++[.raw (.deferred (some [])),.raw (.loop { state:=.exhausted,pending:=none,fn:=f,tmps:=tmps,params:=ps,assign,body,defers:=w.heap.size })],st'.tails⟩:=by
  unfold St.set
  simp only
  rw [List.set_append_right _ _ (by omega),←hlen,Nat.add_sub_cancel_left]
  rfl
 rw [hset] at q1 q2
 have hstep:=(hs12.trans hh3.toStep).trans q2
 refine (hk ⟨g3,_,_,S.base⟩ w.heap.size _ rfl hob3D rfl g3 _ tmps q1 (Hist.refl ⟨g3,_,_,S.base⟩) (he.mono hstep.sevo) hN).mono ?_
 rintro e w4 ⟨v4,r4,st4,g4,e1,e2,e3,e4,e5⟩
 exact ⟨v4,r4,st4,g4,e1,e2,e3,e4,(hh.step hstep).step e5.toStep⟩
theorem ARun.retM {fn:Func} {D o:Nat} (xs:List ResultVar) (es:List EV) (hf:P.funcs[f]?=some fn) (hr:fn.results=xs.toArray) (hS:S.g.ob o=D) (hlt:o < S.st.objs.length) (ho:st.objs[o]?=some (.raw (.deferred (some []))))
  (h:ResEVs P env (st.set o (.raw (.deferred none))) xs es) (hQ:Q (retEV es) (st.set o (.raw (.deferred none)))):ARun P ⟨f,[{ target:=.collected D,args:=#[] }],none⟩ N S Q (.code .ret :: k) env st:=by
 intro g w tmps hi hh he hn
 have hob:=hh.obAt hS hlt
 obtain ⟨_,_,hbk⟩:=hi.raw o _ ho
 obtain ⟨q1,q2⟩:=hi.setRaw ho (.deferred none)
 rw [hob] at hbk q1 q2
 have he2:=he.mono q2.sevo
 obtain ⟨vs,h1,h2,h3⟩:=res_all q1 he2 h
 have hrun:(results fn tmps).run P (w.putObj D (.deferred none))=.ok (if h:vs.toArray.size=1 then vs.toArray[0] else .tuple vs.toArray) (w.putObj D (.deferred none)):=by
  have hfun:(results fn tmps)=(do let vs ←fn.results.mapM (actOf tmps); pure (if h:vs.size=1 then vs[0] else .tuple vs)):=by
   unfold results
   congr 1
  rw [hfun,hr,List.mapM_toArray]
  simp only [Sem.run_bind,Sem.run_map,h1,Result.andThen_ok,Sem.run_pure]
 refine FWP.retM hf (run_takeDeferred hbk) hrun ⟨_,retEV es,_,g,rfl,hQ,?_,q1,hh.step q2⟩
 by_cases hl:vs.toArray.size=1
 ·rw [dif_pos hl]
  match vs,es,h2,hl,h3 with
  | [v],[e],_,_,h3=>exact h3 0 e v rfl rfl
  | [],_,_,hl,_=>simp at hl
  | _ :: _ :: _,_,_,hl,_=>simp at hl
 ·rw [dif_neg hl]
  match vs,es,h2,hl,h3 with
  | [v],_,_,hl,_=>simp at hl
  | [],[],_,_,_=>exact .tup _ _ rfl (by simp)
  | a :: b :: l,a' :: b' :: l',h2,_,h3=>exact .tup _ _ (by simpa using h2) (fun i e v he hv=>h3 i e v he (by simpa using hv))
end run
theorem Calls.enterS {P:Program} {f:FuncId} {fn:Func} {c:Code} {N:Nat} {S:Start} {Q:EV→St→Prop} {args:List EV} {vs:Array Value} (hf:P.funcs[f]?=some fn) (hb:fn.body=some c) (hN:fn.ntmps=N) (hl:Nat.ble args.length N=true)
  (hi:Inv S.g S.base S.w S.st) (ha:ArgsRep S.g S.w S.st args vs) (h:ARun P (.of f) N S Q [.code c] (argEnv 0 args) S.st):Calls P f vs S.w (RPost S Q):=by
 have hl':=Nat.le_of_ble_eq_true hl
 have hsz:=ha.1
 refine FWP.calls hf hb ?_
 refine h S.g S.w _ hi (Hist.refl S) ?_ (by simp [hN]; omega)
 intro j y hy
 obtain ⟨k,rfl,hk⟩:=argEnv_lookup args 0 j y hy
 have hk':=(List.getElem?_eq_some_iff.1 hk).1
 refine ⟨vs[k]'(by omega),?_,ha.2 k y _ hk (by simp [hsz,hk'])⟩
 rw [Nat.zero_add,Array.getElem?_append_left (by omega)]
 simp [hsz,hk']
section yield
variable {P:Program} {f:Ctx} {N:Nat} {S:Start} {Q:EV→St→Prop} {k:List Item} {env:Env} {st:St} {ops rest:List Oper} {ty:TypeId} {pos:String} {after:Array Edge}
theorem AOps.yieldG {b:Bool} {d:Tmp} {j:Nat} {t x y:Tmp} {c:EV} {o l p:Nat} {r:Loop} {a:D} {ts:Array TypeId} {st':St} (hj:(ops[j]?).bind (·.dst)=some t) (hl:lookup t env=some c) (hc:gcond c true=some b) (hbt:b=true) (hd:dstOk N (some d)=true)
  (hx:lookup x env=some (.gd b (.d (.ex (.func (.yield l) #[] #[]))))) (hy:lookup y env=some (.gd b (.d a))) (ho:st.objs[o]?=some (.raw (.loop r))) (hlt:o < S.st.objs.length) (hS:S.g.ob o=l) (hp:r.params=#[p])
  (hround:∀ S2:Start,SEvo S.g S.w S.st S2.g S2.w S2.st→S2.base=S.base→S2.st=st→Inv S2.g S2.base S2.w S2.st→∀ v,DRep S2.g.lim S2.w a v →
   FWP P ⟨r.fn,[],some l⟩ (RPost S2 fun _ st2=>∃ r2,st2.objs[o]?=some (.raw (.loop r2))∧st'=st2.set o (.raw (.loop { r2 with state:=.ready,pending:=none }))) [.code r.assign,.beginRound,.code r.body] (r.tmps.setIfInBounds p v) S2.w)
  (hk:AOps P f N S Q ops rest k ((d,.gd b (.d (cB true))) :: env) st') :
  AOps P f N S Q ops (⟨some d,.call ⟨.value (.tmp x),#[.tmp y],ts⟩,ty,pos,after,some (j,true)⟩ :: rest) k env st:=by
 subst hbt
 intro i hi g w tmps hinv hh he hn
 have ho':ops.toArray[i]?=some ⟨some d,.call ⟨.value (.tmp x),#[.tmp y],ts⟩,ty,pos,after,some (j,true)⟩:=by simpa using (hi 0).symm
 obtain ⟨v,hv,hr⟩:=he t c hl
 have hw:Region.wanted ⟨some d,.call ⟨.value (.tmp x),#[.tmp y],ts⟩,ty,pos,after,some (j,true)⟩ (yielded ops.toArray tmps)=true:=by
  have hgr:=gcond_rep hc hr
  have hj':((ops.toArray)[j]?).bind (·.dst)=some t:=by simpa using hj
  simp only [Region.wanted,yielded,hj',Option.bind_some,hv]
  revert hgr
  cases v <;> exact fun h=>h
 rw [List.length_cons,range'_succ']
 have hi':∀ j:Nat,rest[j]?=ops[i+1+j]?:=fun j=>by have:=hi (j+1); simpa [Nat.add_assoc,Nat.add_comm 1 j] using this
 obtain ⟨vx,hx1,hx2⟩:=he x _ hx
 obtain ⟨vy,hy1,hy2⟩:=he y _ hy
 have hvx:vx=.func (.yield l) #[] #[]:=by
  cases hx2 with
  | gd _ _ _ _ h=>cases h rfl with | d _ _ h=>exact drep_ex h
 have hvy:DRep g.lim w a vy:=by
  cases hy2 with
  | gd _ _ _ _ h=>cases h rfl with | d _ _ h=>exact h
 subst hvx
 have hob:=hh.obAt hS hlt
 obtain ⟨_,_,hbk⟩:=hinv.raw o _ ho
 rw [hob] at hbk
 have hyl:=run_yield (P:=P) (args:=#[vy]) hbk (by rw [hp]; rfl)
 have hrun:(execOp (Act.eval ⟨tmps,[]⟩) ⟨some d,.call ⟨.value (.tmp x),#[.tmp y],ts⟩,ty,pos,after,some (j,true)⟩).run P w=.ok (.round l r.fn (r.tmps.setIfInBounds p vy) r.assign r.body) w:=by
  have e1:Act.eval ⟨tmps,[]⟩ (.tmp x)=.func (.yield l) #[] #[]:=by simp [Act.eval,Array.getD_eq_getD_getElem?,hx1]
  have e2:Act.eval ⟨tmps,[]⟩ (.tmp y)=vy:=by simp [Act.eval,Array.getD_eq_getD_getElem?,hy1]
  rw [hp] at hyl
  simp only [execOp,resolve]
  rw [e1]
  simp only [Deferred.ofValue,Sem.run_bind,Sem.run_pure,Result.andThen_ok,invoke]
  simpa [e2] using hyl
 refine FWP.round ho' hw hrun ?_
 refine (hround ⟨g,w,st,S.base⟩ hh.sevo rfl rfl hinv vy hvy).mono ?_
 rintro e w2 ⟨v2,r2,st2,g2,rfl,⟨rr,hor,hst'⟩,hrr,hinv2,hh2⟩
 obtain ⟨_,_,hbk2⟩:=hinv2.raw o _ hor
 obtain ⟨q1,q2⟩:=hinv2.setRaw hor (.loop { rr with state:=.ready,pending:=none })
 have hob2:g2.ob o=l:=(hh2.sevo.ob o (List.getElem?_eq_some_iff.1 ho).1).trans hob
 rw [hob2] at hbk2 q1 q2
 rw [←hst'] at q1 q2
 refine ⟨_,run_endRound none hbk2,?_⟩
 have hstep:=hh2.toStep.trans q2
 subst hn
 exact hk (i+1) hi' g2 _ _ q1 (hh.step hstep) (envPut (d:=some d) (he.mono hstep.sevo) hd (.gd _ _ _ (fun h=>by cases h) (fun _=>.d _ _ (.ex _)))) size_put
end yield
end Go.Abs
namespace Go.Proofs.YtnjdcednocmcnaaDoor
open Go.RowKit Go.Abs
theorem hMix:Tryd.prog.follows .mixedOrders=true:=by kernel_rfl
theorem in_3:∃ i,Tryd.prog.info? 3=some i∧i.zero=some (.int .i64 0)∧i.size=1∧i.bytes=8:=info_parts (by kernel_rfl)
theorem sz_4:(Tryd.prog.info? 4).map (·.size)=some 1:=by kernel_rfl
theorem in_4:∃ i,Tryd.prog.info? 4=some i∧i.zero=some (.bool false)∧i.size=1∧i.bytes=1:=info_parts (by kernel_rfl)
theorem in_9:∃ i,Tryd.prog.info? 9=some i∧i.zero=some (.string ⟨#[]⟩)∧i.size=1∧i.bytes=16:=info_parts (by kernel_rfl)
theorem sz_24:(Tryd.prog.info? 24).map (·.size)=some 12:=by kernel_rfl
theorem in_24:∃ i,Tryd.prog.info? 24=some i∧i.zero=some (.agg #[.int .i64 0,.int .i64 0,.int .i64 0,.string ⟨#[]⟩,.string ⟨#[]⟩,.int .i64 0,.int .i64 0,.int .i64 0,.int .i64 0,.bool false,.int .i64 0,.bool false])∧i.size=12∧i.bytes=112:=info_parts (by kernel_rfl)
theorem sz_29:(Tryd.prog.info? 29).map (·.size)=some 12:=by kernel_rfl
theorem in_29:∃ i,Tryd.prog.info? 29=some i∧i.zero=some (.agg #[.int .i64 0,.int .i64 0,.int .i64 0,.int .i64 0,.string ⟨#[]⟩,.string ⟨#[]⟩,.int .i64 0,.int .i64 0,.int .i64 0,.bool false,.int .i64 0,.int .i64 0])∧i.size=12∧i.bytes=112:=info_parts (by kernel_rfl)
theorem sz_38:(Tryd.prog.info? 38).map (·.size)=some 8:=by kernel_rfl
theorem in_38:∃ i,Tryd.prog.info? 38=some i∧i.zero=some (.agg #[.int .i64 0,.int .i64 0,.int .i64 0,.string ⟨#[]⟩,.slice none 0 0,.slice none 0 0,.bool false,.bool false])∧i.size=8∧i.bytes=96:=info_parts (by kernel_rfl)
theorem sz_43:(Tryd.prog.info? 43).map (·.size)=some 7:=by kernel_rfl
theorem in_43:∃ i,Tryd.prog.info? 43=some i∧i.zero=some (.agg #[.int .i64 0,.int .i64 0,.int .i64 0,.int .i64 0,.string ⟨#[]⟩,.string ⟨#[]⟩,.int .i64 0])∧i.size=7∧i.bytes=72:=info_parts (by kernel_rfl)
theorem in_54:∃ i,Tryd.prog.info? 54=some i∧i.zero=some (.agg #[.int .i64 0,.int .i64 0,.int .i64 0,.string ⟨#[]⟩,.string ⟨#[]⟩,.int .i64 0,.int .i64 0,.int .i64 0,.int .i64 0,.bool false,.int .i64 0,.bool false])∧i.size=12∧i.bytes=112:=info_parts (by kernel_rfl)
theorem in_56:∃ i,Tryd.prog.info? 56=some i∧i.zero=some (.agg #[.int .i64 0,.int .i64 0,.int .i64 0,.string ⟨#[]⟩,.string ⟨#[]⟩,.int .i64 0,.int .i64 0,.int .i64 0,.int .i64 0,.bool false,.int .i64 0,.bool false,.slice none 0 0])∧i.size=13∧i.bytes=136:=info_parts (by kernel_rfl)
theorem in_62:∃ i,Tryd.prog.info? 62=some i∧i.zero=some (.agg #[.slice none 0 0,.slice none 0 0])∧i.size=2∧i.bytes=48:=info_parts (by kernel_rfl)
theorem in_65:∃ i,Tryd.prog.info? 65=some i∧i.zero=some (.slice none 0 0)∧i.size=1∧i.bytes=24:=info_parts (by kernel_rfl)
theorem in_67:∃ i,Tryd.prog.info? 67=some i∧i.zero=some (.agg #[.slice none 0 0,.slice none 0 0,.slice none 0 0])∧i.size=3∧i.bytes=72:=info_parts (by kernel_rfl)
theorem sz_77:(Tryd.prog.info? 77).map (·.size)=some 6:=by kernel_rfl
theorem in_77:∃ i,Tryd.prog.info? 77=some i∧i.zero=some (.agg #[.int .i64 0,.int .i64 0,.int .i64 0,.bool false,.bool false,.slice none 0 0])∧i.size=6∧i.bytes=56:=info_parts (by kernel_rfl)
theorem in_79:∃ i,Tryd.prog.info? 79=some i∧i.zero=some (.agg #[.bool false,.bool false,.bool false,.bool false,.bool false])∧i.size=5∧i.bytes=5:=info_parts (by kernel_rfl)
theorem in_116:∃ i,Tryd.prog.info? 116=some i∧i.zero=some (.agg #[.map none,.map none,.map none,.map none,.map none,.slice none 0 0,.slice none 0 0])∧i.size=7∧i.bytes=88:=info_parts (by kernel_rfl)
theorem fo_38_1:fieldOff Tryd.prog 38 1=some 1:=by kernel_rfl
theorem fo_43_2:fieldOff Tryd.prog 43 2=some 2:=by kernel_rfl
theorem fo_43_3:fieldOff Tryd.prog 43 3=some 3:=by kernel_rfl
theorem fo_67_0:fieldOff Tryd.prog 67 0=some 0:=by kernel_rfl
theorem fo_67_1:fieldOff Tryd.prog 67 1=some 1:=by kernel_rfl
theorem fo_67_2:fieldOff Tryd.prog 67 2=some 2:=by kernel_rfl
theorem fo_116_0:fieldOff Tryd.prog 116 0=some 0:=by kernel_rfl
theorem fo_116_1:fieldOff Tryd.prog 116 1=some 1:=by kernel_rfl
theorem one_3:(Tryd.prog.underlying 3).map oneB=some true:=by kernel_rfl
theorem one_4:(Tryd.prog.underlying 4).map oneB=some true:=by kernel_rfl
theorem one_24:(Tryd.prog.underlying 24).map oneB=some false:=by kernel_rfl
theorem one_38:(Tryd.prog.underlying 38).map oneB=some false:=by kernel_rfl
theorem one_43:(Tryd.prog.underlying 43).map oneB=some false:=by kernel_rfl
theorem one_59:(Tryd.prog.underlying 59).map oneB=some true:=by kernel_rfl
theorem one_60:(Tryd.prog.underlying 60).map oneB=some true:=by kernel_rfl
theorem one_65:(Tryd.prog.underlying 65).map oneB=some true:=by kernel_rfl
theorem one_111:(Tryd.prog.underlying 111).map oneB=some true:=by kernel_rfl
theorem one_112:(Tryd.prog.underlying 112).map oneB=some true:=by kernel_rfl
theorem pl_24:placesOf Tryd.prog 24=some [(0,1),(1,1),(2,1),(3,1),(4,1),(5,1),(6,1),(7,1),(8,1),(9,1),(10,1),(11,1)]:=by kernel_rfl
theorem pl_29:placesOf Tryd.prog 29=some [(0,1),(1,1),(2,1),(3,1),(4,1),(5,1),(6,1),(7,1),(8,1),(9,1),(10,1),(11,1)]:=by kernel_rfl
theorem pl_38:placesOf Tryd.prog 38=some [(0,1),(1,1),(2,1),(3,1),(4,1),(5,1),(6,1),(7,1)]:=by kernel_rfl
theorem pl_43:placesOf Tryd.prog 43=some [(0,1),(1,1),(2,1),(3,1),(4,1),(5,1),(6,1)]:=by kernel_rfl
theorem pl_54:placesOf Tryd.prog 54=some [(0,12)]:=by kernel_rfl
theorem pl_56:placesOf Tryd.prog 56=some [(0,12),(12,1)]:=by kernel_rfl
theorem pl_62:placesOf Tryd.prog 62=some [(0,1),(1,1)]:=by kernel_rfl
theorem pl_67:placesOf Tryd.prog 67=some [(0,1),(1,1),(2,1)]:=by kernel_rfl
theorem pl_77:placesOf Tryd.prog 77=some [(0,1),(1,1),(2,1),(3,1),(4,1),(5,1)]:=by kernel_rfl
theorem pl_116:placesOf Tryd.prog 116=some [(0,1),(1,1),(2,1),(3,1),(4,1),(5,1),(6,1)]:=by kernel_rfl
theorem zr_24:(Tryd.prog.info? 24).bind (·.zero)=some (.agg #[.int .i64 0,.int .i64 0,.int .i64 0,.string ⟨#[]⟩,.string ⟨#[]⟩,.int .i64 0,.int .i64 0,.int .i64 0,.int .i64 0,.bool false,.int .i64 0,.bool false]):=by kernel_rfl
theorem zr_29:(Tryd.prog.info? 29).bind (·.zero)=some (.agg #[.int .i64 0,.int .i64 0,.int .i64 0,.int .i64 0,.string ⟨#[]⟩,.string ⟨#[]⟩,.int .i64 0,.int .i64 0,.int .i64 0,.bool false,.int .i64 0,.int .i64 0]):=by kernel_rfl
theorem zr_38:(Tryd.prog.info? 38).bind (·.zero)=some (.agg #[.int .i64 0,.int .i64 0,.int .i64 0,.string ⟨#[]⟩,.slice none 0 0,.slice none 0 0,.bool false,.bool false]):=by kernel_rfl
theorem zr_43:(Tryd.prog.info? 43).bind (·.zero)=some (.agg #[.int .i64 0,.int .i64 0,.int .i64 0,.int .i64 0,.string ⟨#[]⟩,.string ⟨#[]⟩,.int .i64 0]):=by kernel_rfl
theorem zr_56:(Tryd.prog.info? 56).bind (·.zero)=some (.agg #[.int .i64 0,.int .i64 0,.int .i64 0,.string ⟨#[]⟩,.string ⟨#[]⟩,.int .i64 0,.int .i64 0,.int .i64 0,.int .i64 0,.bool false,.int .i64 0,.bool false,.slice none 0 0]):=by kernel_rfl
theorem zr_62:(Tryd.prog.info? 62).bind (·.zero)=some (.agg #[.slice none 0 0,.slice none 0 0]):=by kernel_rfl
theorem zr_67:(Tryd.prog.info? 67).bind (·.zero)=some (.agg #[.slice none 0 0,.slice none 0 0,.slice none 0 0]):=by kernel_rfl
theorem zr_77:(Tryd.prog.info? 77).bind (·.zero)=some (.agg #[.int .i64 0,.int .i64 0,.int .i64 0,.bool false,.bool false,.slice none 0 0]):=by kernel_rfl
theorem zr_79:(Tryd.prog.info? 79).bind (·.zero)=some (.agg #[.bool false,.bool false,.bool false,.bool false,.bool false]):=by kernel_rfl
theorem zr_102:(Tryd.prog.info? 102).bind (·.zero)=some (.pointer none):=by kernel_rfl
theorem fk_24:flatKinds Tryd.prog 24=some [.i .i64,.i .i64,.i .i64,.s,.s,.i .i64,.i .i64,.i .i64,.i .i64,.b,.i .i64,.b]:=by kernel_rfl
theorem fk_29:flatKinds Tryd.prog 29=some [.i .i64,.i .i64,.i .i64,.i .i64,.s,.s,.i .i64,.i .i64,.i .i64,.b,.i .i64,.i .i64]:=by kernel_rfl
def ens:List Nat:=[38,49,50,48,51,28,36,27,52,25,53,37,39,40,54,55,41,29,30,18,66,56,57,42,43,44,31,79,80,71,72,62,63,70,64,65,46,45,32,33,34,20,21,22,19,11,17,47,35,26,24,23,13,14,9,8,10,12,16,15]
theorem en (i:Nat) {f:Nat} (h:ens[i]?=some f):Go.Abs.Enters Tryd.prog f:=Go.Abs.enters_of (by kernel_rfl) h
def FTc:FT:=⟨[3,4,9,22,36,59,60,65,85,102,111,112,113,114],[(24,12),(29,12),(38,8),(43,7),(54,12),(56,13),(62,2),(67,3),(77,6),(79,5)],[(3,1),(4,1),(9,1),(24,12),(29,12),(36,1),(38,8),(43,7),(56,13),(59,1),(60,1),(62,2),(65,1),(67,3),(77,6),(79,5),(102,1)],[(24,[(0,0),(1,1),(2,2),(3,3),(4,4),(5,5),(6,6),(7,7),(8,8),(9,9),(10,10),(11,11)]),(29,[(0,0),(1,1),(2,2),(3,3),(4,4),(5,5),(6,6),(7,7),(8,8),(9,9),(10,10),(11,11)]),(38,[(0,0),(1,1),(3,3),(4,4),(5,5),(6,6),(7,7)]),(43,[(0,0),(1,1),(2,2),(3,3),(4,4),(5,5),(6,6)]),(54,[(0,0)]),(56,[(0,0),(1,12)]),(62,[(0,0),(1,1)]),(67,[(0,0),(1,1),(2,2)]),(77,[(0,0),(3,3),(4,4),(5,5)]),(116,[(0,0),(1,1),(2,2),(3,3),(4,4),(5,5),(6,6)])],[(24,[cI 0,cI 0,cI 0,cS ([]:List UInt8),cS ([]:List UInt8),cI 0,cI 0,cI 0,cI 0,cB false,cI 0,cB false]),(29,[cI 0,cI 0,cI 0,cI 0,cS ([]:List UInt8),cS ([]:List UInt8),cI 0,cI 0,cI 0,cB false,cI 0,cI 0]),(38,[cI 0,cI 0,cI 0,cS ([]:List UInt8),nilD,nilD,cB false,cB false]),(43,[cI 0,cI 0,cI 0,cI 0,cS ([]:List UInt8),cS ([]:List UInt8),cI 0]),(56,[cI 0,cI 0,cI 0,cS ([]:List UInt8),cS ([]:List UInt8),cI 0,cI 0,cI 0,cI 0,cB false,cI 0,cB false,nilD]),(62,[nilD,nilD]),(67,[nilD,nilD,nilD]),(77,[cI 0,cI 0,cI 0,cB false,cB false,nilD]),(79,[cB false,cB false,cB false,cB false,cB false]),(102,[.ex (.pointer none)])]⟩
theorem ftok:FTc.Ok Tryd.prog:=FT.ok_of (by kernel_rfl) ⟨⟨_,zr_24,rfl⟩,⟨_,zr_29,rfl⟩,⟨_,zr_38,rfl⟩,⟨_,zr_43,rfl⟩,⟨_,zr_56,rfl⟩,⟨_,zr_62,rfl⟩,⟨_,zr_67,rfl⟩,⟨_,zr_77,rfl⟩,⟨_,zr_79,rfl⟩,⟨_,zr_102,rfl⟩,trivial⟩
theorem s22:SlT Tryd.prog 22 43 7:=.of Tryd.underlying22 in_43 rfl rfl
theorem s36:SlT Tryd.prog 36 9 1:=.of Tryd.underlying36 in_9 rfl rfl
theorem s59:SlT Tryd.prog 59 77 6:=.of Tryd.underlying59 in_77 rfl rfl
theorem s60:SlT Tryd.prog 60 38 8:=.of Tryd.underlying60 in_38 rfl rfl
theorem s65:SlT Tryd.prog 65 3 1:=.of Tryd.underlying65 in_3 rfl rfl
end Go.Proofs.YtnjdcednocmcnaaDoor
namespace Go.Abs
open Go.Proofs Go.Proofs.YtnjdcednocmcnaaDoor
section
variable {f:Ctx} {N p p':Nat} {S:Start} {Q:EV→St→Prop} {k k':List Item} {l o l' o':List Oper} {env env':Env} {st st':St} {ps:List Prop}
theorem ARun.A (n:Nat) (hs:List Hint) (h:goF Tryd.prog S.base FTc N n (.run k) env st hs=some ⟨.run k',env',st',ps⟩) (hp:AllP ps) (hk:ARun Tryd.prog f N S Q k' env' st'):ARun Tryd.prog f N S Q k env st:=goF_sound ftok hMix h hp hk
theorem ARun.AH (n:Nat) (hs:List Hint) (h:goH Tryd.prog S.base FTc N n (.run k) env st hs=some ⟨.run k',env',st',ps⟩) (hp:AllP ps) (hk:ARun Tryd.prog f N S Q k' env' st'):ARun Tryd.prog f N S Q k env st:=goH_sound ftok hMix h hp hk
theorem ARun.B (n:Nat) (hs:List Hint) (h:goF Tryd.prog S.base FTc N n (.run k) env st hs=some ⟨.ops l' o' k',env',st',ps⟩) (hp:AllP ps) (hk:AOps Tryd.prog f N S Q l' o' k' env' st'):ARun Tryd.prog f N S Q k env st:=goF_sound ftok hMix h hp hk
theorem ARun.BH (n:Nat) (hs:List Hint) (h:goH Tryd.prog S.base FTc N n (.run k) env st hs=some ⟨.ops l' o' k',env',st',ps⟩) (hp:AllP ps) (hk:AOps Tryd.prog f N S Q l' o' k' env' st'):ARun Tryd.prog f N S Q k env st:=goH_sound ftok hMix h hp hk
theorem ARun.C (n:Nat) (hs:List Hint) (h:goF Tryd.prog S.base FTc N n (.run k) env st hs=some ⟨.draw l' p' o' k',env',st',ps⟩) (hp:AllP ps) (hk:DOps Tryd.prog f N S Q l' p' o' k' env' st'):ARun Tryd.prog f N S Q k env st:=goF_sound ftok hMix h hp hk
theorem AOps.A (n:Nat) (hs:List Hint) (h:goF Tryd.prog S.base FTc N n (.ops l o k) env st hs=some ⟨.run k',env',st',ps⟩) (hp:AllP ps) (hk:ARun Tryd.prog f N S Q k' env' st'):AOps Tryd.prog f N S Q l o k env st:=goF_sound ftok hMix h hp hk
theorem AOps.AH (n:Nat) (hs:List Hint) (h:goH Tryd.prog S.base FTc N n (.ops l o k) env st hs=some ⟨.run k',env',st',ps⟩) (hp:AllP ps) (hk:ARun Tryd.prog f N S Q k' env' st'):AOps Tryd.prog f N S Q l o k env st:=goH_sound ftok hMix h hp hk
theorem AOps.B (n:Nat) (hs:List Hint) (h:goF Tryd.prog S.base FTc N n (.ops l o k) env st hs=some ⟨.ops l' o' k',env',st',ps⟩) (hp:AllP ps) (hk:AOps Tryd.prog f N S Q l' o' k' env' st'):AOps Tryd.prog f N S Q l o k env st:=goF_sound ftok hMix h hp hk
theorem AOps.C (n:Nat) (hs:List Hint) (h:goF Tryd.prog S.base FTc N n (.ops l o k) env st hs=some ⟨.draw l' p' o' k',env',st',ps⟩) (hp:AllP ps) (hk:DOps Tryd.prog f N S Q l' p' o' k' env' st'):AOps Tryd.prog f N S Q l o k env st:=goF_sound ftok hMix h hp hk
theorem DOps.C (n:Nat) (hs:List Hint) (h:goF Tryd.prog S.base FTc N n (.draw l p o k) env st hs=some ⟨.draw l' p' o' k',env',st',ps⟩) (hp:AllP ps) (hk:DOps Tryd.prog f N S Q l' p' o' k' env' st'):DOps Tryd.prog f N S Q l p o k env st:=goF_sound ftok hMix h hp hk
theorem ARun.R {f:FuncId} {fn:Func} {xs:List ResultVar} {es:List EV} (hf:Tryd.prog.funcs[f]?=some fn) (hr:fn.results=xs.toArray) (h:resV FTc env st xs=some es) (hQ:Q (retEV es) st):ARun Tryd.prog (.of f) N S Q (.code .ret :: k) env st:=.rc ftok hf hr h hQ
end
end Go.Abs
namespace Go.Proofs.YtnjdcednocmcnaaDoor
end Go.Proofs.YtnjdcednocmcnaaDoor
