/- States of several sizes: a part of a state, and a part put back. -/
import Derived.Test.YtpdanklncjopoaaD3
set_option linter.unusedSimpArgs false
set_option linter.unusedVariables false
set_option linter.unusedSectionVars false
namespace Go.Abs
open Go.RowKit

/-! ### places -/
def renF (rs : List Nat) (N i : Nat) : Nat := match rs[i]? with
  | some r => r
  | none => N + (i - rs.length)
structure Emb (rs : List Nat) (N : Nat) : Prop where
  lt : ∀ r, r ∈ rs → r < N
  inj : ∀ (i j : Nat) (r : Nat), rs[i]? = some r → rs[j]? = some r → i = j
theorem ren_lt {rs : List Nat} {N i : Nat} (h : Emb rs N) (hi : i < rs.length) : renF rs N i < N ∧ rs[i]? = some (renF rs N i) := by
  have e : rs[i]? = some rs[i] := List.getElem?_eq_getElem hi
  unfold renF
  rw [e]
  exact ⟨h.lt _ (List.getElem_mem hi), rfl⟩
theorem ren_ge {rs : List Nat} {N i : Nat} (hi : rs.length ≤ i) : renF rs N i = N + (i - rs.length) := by
  unfold renF
  rw [List.getElem?_eq_none hi]
theorem ren_inj {rs : List Nat} {N i j : Nat} (h : Emb rs N) (e : renF rs N i = renF rs N j) : i = j := by
  by_cases hi : i < rs.length <;> by_cases hj : j < rs.length
  · obtain ⟨_, h1⟩ := ren_lt h hi
    obtain ⟨_, h2⟩ := ren_lt h hj
    rw [e] at h1
    exact h.inj i j _ h1 h2
  · obtain ⟨h1, _⟩ := ren_lt h hi
    rw [ren_ge (i := j) (by omega)] at e
    omega
  · obtain ⟨h1, _⟩ := ren_lt h hj
    rw [ren_ge (i := i) (by omega)] at e
    omega
  · rw [ren_ge (i := i) (by omega), ren_ge (i := j) (by omega)] at e
    omega
open Classical in
noncomputable def invF (rs : List Nat) (N o : Nat) : Option Nat := if h : ∃ i, renF rs N i = o then some h.choose else none
theorem inv_ren {rs : List Nat} {N : Nat} (h : Emb rs N) (i : Nat) : invF rs N (renF rs N i) = some i := by
  have hex : ∃ j, renF rs N j = renF rs N i := ⟨i, rfl⟩
  unfold invF
  rw [dif_pos hex]
  congr 1
  exact ren_inj h hex.choose_spec
theorem inv_some {rs : List Nat} {N o i : Nat} (e : invF rs N o = some i) : renF rs N i = o := by
  unfold invF at e
  split at e
  · rename_i hex
    cases e
    exact hex.choose_spec
  · cases e
theorem inv_none {rs : List Nat} {N o : Nat} (e : invF rs N o = none) : o < N ∧ ∀ i, renF rs N i ≠ o := by
  unfold invF at e
  split at e
  · cases e
  · rename_i hex
    refine ⟨?_, fun i hi => hex ⟨i, hi⟩⟩
    false_or_by_contra
    rename_i hlt
    exact hex ⟨rs.length + (o - N), by rw [ren_ge (by omega)]; omega⟩
theorem inv_small {rs : List Nat} {N o i : Nat} (h : Emb rs N) (e : invF rs N o = some i) (ho : o < N) : i < rs.length := by
  have := inv_some e
  false_or_by_contra
  rw [ren_ge (by omega)] at this
  omega

def mergeL {α : Type} : List α → List Nat → List α → List α
  | l, r :: rs, x :: xs => mergeL (l.set r x) rs xs
  | l, _, xs => l ++ xs
theorem mergeL_len {α : Type} : ∀ (rs : List Nat) (l xs : List α), rs.length ≤ xs.length → (mergeL l rs xs).length = l.length + (xs.length - rs.length)
  | [], l, xs, _ => by simp [mergeL]
  | r :: rs, l, [], h => by simp at h
  | r :: rs, l, x :: xs, h => by
    simp only [mergeL]
    rw [mergeL_len rs _ xs (by simpa using h)]
    simp
theorem mergeL_other {α : Type} : ∀ (rs : List Nat) (l xs : List α) (o : Nat), o < l.length → o ∉ rs → (mergeL l rs xs)[o]? = l[o]?
  | [], l, xs, o, ho, _ => by simp [mergeL, List.getElem?_append_left ho]
  | r :: rs, l, [], o, ho, _ => by simp [mergeL]
  | r :: rs, l, x :: xs, o, ho, hn => by
    simp only [mergeL]
    simp only [List.mem_cons, not_or] at hn
    rw [mergeL_other rs _ xs o (by simpa using ho) hn.2, List.getElem?_set, if_neg (Ne.symm hn.1)]
theorem mergeL_get {α : Type} : ∀ (rs : List Nat) (l xs : List α) (N : Nat), l.length = N → Emb rs N → rs.length ≤ xs.length → ∀ i, (mergeL l rs xs)[renF rs N i]? = xs[i]?
  | [], l, xs, N, hN, _, _, i => by
    rw [ren_ge (by simp)]
    simp only [mergeL, List.length_nil, Nat.sub_zero, ← hN]
    rw [List.getElem?_append_right (by omega)]
    simp
  | r :: rs, l, [], N, hN, _, h, i => by simp at h
  | r :: rs, l, x :: xs, N, hN, he, h, i => by
    have he' : Emb rs N := ⟨fun r hr => he.lt r (by simp [hr]), fun i j r a b => by
      have := he.inj (i + 1) (j + 1) r (by simpa using a) (by simpa using b)
      omega⟩
    have hr : r < N := he.lt r (by simp)
    have hnr : r ∉ rs := fun hm => by
      obtain ⟨j, hj⟩ := List.mem_iff_getElem?.1 hm
      have := he.inj 0 (j + 1) r (by simp) (by simpa using hj)
      omega
    simp only [mergeL]
    cases i with
    | zero =>
      have : renF (r :: rs) N 0 = r := by simp [renF]
      rw [this, mergeL_other rs _ xs r (by simpa [hN] using hr) hnr]
      simp [List.getElem?_set, hN, hr]
    | succ i =>
      have : renF (r :: rs) N (i + 1) = renF rs N i := by
        unfold renF
        simp only [List.getElem?_cons_succ, List.length_cons]
        split
        · rfl
        · omega
      rw [this, mergeL_get rs _ xs N (by simpa using hN) he' (by simpa using h) i]
      simp
/-- The bounds, to be computed. -/
def embB (rs : List Nat) (N : Nat) : Bool := rs.all (fun r => Nat.blt r N) && nodupB rs
where nodupB : List Nat → Bool
  | [] => true
  | r :: rs => rs.all (fun x => !Nat.beq x r) && nodupB rs
theorem Emb.of {rs : List Nat} {N : Nat} (h : embB rs N = true) : Emb rs N := by
  simp only [embB, Bool.and_eq_true, List.all_eq_true] at h
  refine ⟨fun r hr => blt_lt (h.1 r hr), ?_⟩
  have key : ∀ (l : List Nat), embB.nodupB l = true → ∀ (i j : Nat) (r : Nat), l[i]? = some r → l[j]? = some r → i = j := by
    intro l
    induction l with
    | nil => intro _ i j r hi; simp at hi
    | cons x l ih =>
      intro hn i j r hi hj
      simp only [embB.nodupB, Bool.and_eq_true, List.all_eq_true] at hn
      cases i with
      | zero =>
        cases j with
        | zero => rfl
        | succ j =>
          simp at hi hj
          subst hi
          have := hn.1 x (List.mem_of_getElem? hj)
          simp at this
      | succ i =>
        cases j with
        | zero =>
          simp at hi hj
          subst hj
          have := hn.1 x (List.mem_of_getElem? hi)
          simp at this
        | succ j =>
          have := ih hn.2 i j r (by simpa using hi) (by simpa using hj)
          omega
  exact key rs h.2

/-! ### other names -/
section ren
def EV.ren (ρ τ : Nat → Nat) : EV → EV
  | .d x => .d x
  | .ref o off => .ref (ρ o) off
  | .osl o off n c => .osl (ρ o) off n c
  | .tsl sz rows t => .tsl sz rows (τ t)
  | .mp o => .mp (ρ o)
  | .vc t k => .vc (τ t) k
  | .vp t k i off => .vp (τ t) k i off
  | .vw t k lo n => .vw (τ t) k lo n
  | .clo f cs => .clo f (rens ρ τ cs)
  | .agg cs => .agg (rens ρ τ cs)
  | .tup cs => .tup (rens ρ τ cs)
  | .gd b x => .gd b (EV.ren ρ τ x)
where
  rens (ρ τ : Nat → Nat) : List EV → List EV
  | [] => []
  | x :: l => EV.ren ρ τ x :: rens ρ τ l
theorem rens_map (ρ τ : Nat → Nat) : ∀ l : List EV, EV.ren.rens ρ τ l = l.map (EV.ren ρ τ)
  | [] => rfl
  | x :: l => by simp [EV.ren.rens, rens_map ρ τ l]
def AObj.ren (ρ τ : Nat → Nat) : AObj → AObj
  | .row ty cs => .row ty (EV.ren.rens ρ τ cs)
  | .map es => .map (es.map fun p => (p.1, p.2.ren ρ τ))
  | .raw x => .raw x
  | .gone => .gone
theorem AObj.ren_gone {ρ τ : Nat → Nat} {x : AObj} (h : x.ren ρ τ = .gone) : x = .gone := by cases x <;> first | rfl | cases h
def Ghost.sub (g : Ghost) (ρ τ : Nat → Nat) : Ghost := ⟨g.lim, fun o => g.ob (ρ o), fun t => g.tk (τ t)⟩
variable {ρ τ : Nat → Nat} {g g' : Ghost} {w : World} {s0 st : St}
/-- From the greater state to the part. -/
theorem EVRep.down (ht : ∀ t x, s0.tails[t]? = some x → st.tails[τ t]? = some x) : ∀ {x : EV} {v : Value}, okEV s0.objs.length s0.tails.length x = true → EVRep g w st (x.ren ρ τ) v → EVRep (g.sub ρ τ) w s0 x v := by
  have hget : ∀ {t : Nat}, t < s0.tails.length → ∀ {x : Tail}, st.tails[τ t]? = some x → s0.tails[t]? = some x := fun {t} hlt {x} hx => by
    have h1 := ht t _ (List.getElem?_eq_getElem hlt)
    rw [hx] at h1
    cases h1
    exact List.getElem?_eq_getElem hlt
  have main : ∀ {y : EV} {v : Value}, EVRep g w st y v → ∀ x : EV, okEV s0.objs.length s0.tails.length x = true → y = x.ren ρ τ → EVRep (g.sub ρ τ) w s0 x v := by
    intro y v h
    induction h with
    | d a v h =>
      intro x hx e
      cases x <;> simp only [EV.ren] at e <;> cases e
      exact .d _ _ h
    | ref o off h =>
      intro x hx e
      cases x <;> simp only [EV.ren] at e <;> cases e
      exact .ref (g := g.sub ρ τ) _ _ (blt_lt hx)
    | osl o off n c h =>
      intro x hx e
      cases x <;> simp only [EV.ren] at e <;> cases e
      exact .osl (g := g.sub ρ τ) _ _ _ _ (blt_lt hx)
    | tsl sz rows t v el n hd ht' hn hv =>
      intro x hx e
      cases x <;> simp only [EV.ren] at e <;> cases e
      exact .tsl sz rows _ v el n hd (hget (blt_lt hx) ht') hn hv
    | mp o h =>
      intro x hx e
      cases x <;> simp only [EV.ren] at e <;> cases e
      exact .mp (g := g.sub ρ τ) _ (blt_lt hx)
    | clo f cs vs hs h ih =>
      intro x hx e
      cases x <;> simp only [EV.ren] at e <;> cases e
      rename_i ds
      simp only [okEV] at hx
      rw [rens_map] at hs ih
      refine .clo f _ vs (by simpa using hs) fun i c u hc hu => ih i (c.ren ρ τ) u (by rw [List.getElem?_map, hc]; rfl) hu c (okEVs_get hx i c hc) rfl
    | agg cs vs hs h1 h ih =>
      intro x hx e
      cases x <;> simp only [EV.ren] at e <;> cases e
      simp only [okEV] at hx
      rw [rens_map] at hs ih
      refine .agg _ vs (by simpa using hs) h1 fun i c u hc hu => ih i (c.ren ρ τ) u (by rw [List.getElem?_map, hc]; rfl) hu c (okEVs_get hx i c hc) rfl
    | tup cs vs hs h ih =>
      intro x hx e
      cases x <;> simp only [EV.ren] at e <;> cases e
      simp only [okEV] at hx
      rw [rens_map] at hs ih
      refine .tup _ vs (by simpa using hs) fun i c u hc hu => ih i (c.ren ρ τ) u (by rw [List.getElem?_map, hc]; rfl) hu c (okEVs_get hx i c hc) rfl
    | gd b a v h0 h ih =>
      intro x hx e
      cases x <;> simp only [EV.ren] at e <;> cases e
      simp only [okEV] at hx
      exact .gd _ _ v h0 fun hb => ih hb _ hx rfl
    | vc t k v ht' hf h =>
      intro x hx e
      cases x <;> simp only [EV.ren] at e <;> cases e
      exact .vc _ _ v (blt_lt hx) hf fun x rows hy => h x rows (ht _ _ hy)
    | vp t k i off v ht' hf h =>
      intro x hx e
      cases x <;> simp only [EV.ren] at e <;> cases e
      exact .vp _ _ _ _ v (blt_lt hx) hf fun x rows hy => h x rows (ht _ _ hy)
    | vw t k lo n v ht' hf h =>
      intro x hx e
      cases x <;> simp only [EV.ren] at e <;> cases e
      exact .vw _ _ _ _ v (blt_lt hx) hf fun x rows hy => h x rows (ht _ _ hy)
  intro x v hx h
  exact main h x hx rfl
/-- From a part to the greater state. -/
theorem EVRep.up {g1 : Ghost} {s1 : St} (hob : ∀ o, o < s1.objs.length → g'.ob (ρ o) = g1.ob o ∧ ρ o < st.objs.length) (hlim : g'.lim = g1.lim)
    (ht : ∀ t, t < s1.tails.length → st.tails[τ t]? = s1.tails[t]? ∧ g'.tk (τ t) = g1.tk t) {x : EV} {v : Value} (h : EVRep g1 w s1 x v) : EVRep g' w st (x.ren ρ τ) v := by
  have hlt : ∀ {t : Nat}, t < s1.tails.length → τ t < st.tails.length := fun {t} h => by
    have h1 := (ht t h).1
    rw [List.getElem?_eq_getElem h] at h1
    exact (List.getElem?_eq_some_iff.1 h1).1
  induction h with
  | d a v h => exact .d _ _ (by rw [hlim]; exact h)
  | ref o off h => rw [← (hob o h).1]; exact .ref _ _ (hob o h).2
  | osl o off n c h => rw [← (hob o h).1]; exact .osl _ _ _ _ (hob o h).2
  | tsl sz rows t v el n hd ht' hn hv =>
    have hl := (List.getElem?_eq_some_iff.1 ht').1
    exact .tsl sz rows _ v el n (by rw [hlim]; exact hd) (by rw [(ht t hl).1]; exact ht') hn (by rw [(ht t hl).2]; exact hv)
  | mp o h => rw [← (hob o h).1]; exact .mp _ (hob o h).2
  | clo f cs vs hs h ih =>
    simp only [EV.ren, rens_map]
    refine .clo f _ vs (by simpa using hs) fun i c u hc hu => ?_
    rw [List.getElem?_map] at hc
    obtain ⟨c', h1, rfl⟩ := Option.map_eq_some_iff.1 hc
    exact ih i c' u h1 hu
  | agg cs vs hs h1 h ih =>
    simp only [EV.ren, rens_map]
    refine .agg _ vs (by simpa using hs) h1 fun i c u hc hu => ?_
    rw [List.getElem?_map] at hc
    obtain ⟨c', h1, rfl⟩ := Option.map_eq_some_iff.1 hc
    exact ih i c' u h1 hu
  | tup cs vs hs h ih =>
    simp only [EV.ren, rens_map]
    refine .tup _ vs (by simpa using hs) fun i c u hc hu => ?_
    rw [List.getElem?_map] at hc
    obtain ⟨c', h1, rfl⟩ := Option.map_eq_some_iff.1 hc
    exact ih i c' u h1 hu
  | gd b a v h0 h ih => exact .gd _ _ v h0 ih
  | vc t k v ht' hf h => exact .vc _ _ v (hlt ht') hf fun x rows hx => by rw [(ht t ht').1] at hx; rw [(ht t ht').2]; exact h x rows hx
  | vp t k i off v ht' hf h => exact .vp _ _ _ _ v (hlt ht') hf fun x rows hx => by rw [(ht t ht').1] at hx; rw [(ht t ht').2]; exact h x rows hx
  | vw t k lo n v ht' hf h => exact .vw _ _ _ _ v (hlt ht') hf fun x rows hx => by rw [(ht t ht').1] at hx; rw [(ht t ht').2]; exact h x rows hx

/-- A part of a state. -/
structure Part (ρ τ : Nat → Nat) (s0 st : St) : Prop where
  objs : ∀ (o : Nat) (x : AObj), s0.objs[o]? = some x → st.objs[ρ o]? = some (x.ren ρ τ)
  tails : ∀ (t : Nat) (x : Tail), s0.tails[t]? = some x → st.tails[τ t]? = some x
  oinj : ∀ o o', ρ o = ρ o' → o = o'
  tinj : ∀ t t', τ t = τ t' → t = t'
  ok : ∀ (o : Nat) (x : AObj), s0.objs[o]? = some x → okObj s0.objs.length s0.tails.length x = true
theorem Part.live (h : Part ρ τ s0 st) {o : Nat} (hl : s0.live o) : st.live (ρ o) := by
  obtain ⟨x, hx, hne⟩ := hl
  exact ⟨_, h.objs o x hx, fun e => hne (AObj.ren_gone e)⟩
theorem Part.owned (h : Part ρ τ s0 st) {b : Nat} (ho : Owned (g.sub ρ τ) s0 b) : Owned g st b := by
  rcases ho with ⟨o, h1, h2⟩ | ⟨t, x, h1, h2⟩
  · exact .inl ⟨ρ o, h.live h1, h2⟩
  · exact .inr ⟨τ t, x, h.tails t x h1, h2⟩
theorem Inv.part {base : Nat} (h : Inv g base w st) (p : Part ρ τ s0 st) : Inv (g.sub ρ τ) base w s0 := by
  refine ⟨h.base, fun o ty cs hx => ?_, fun o es hx => ?_, fun o y hx => h.raw (ρ o) y (p.objs o _ hx), fun o o' hne h1 h2 => h.ne _ _ (fun e => hne (p.oinj o o' e)) (p.live h1) (p.live h2), fun t e sz n hx => h.tail (τ t) e sz n (p.tails t _ hx),
    fun t t' x x' b hne h1 h2 => h.tailNe _ _ x x' b (fun e => hne (p.tinj t t' e)) (p.tails t _ h1) (p.tails t' _ h2), fun t x o h1 h2 => h.tailObj _ x _ (p.tails t _ h1) (p.live h2), h.glob, fun t e sz n rows hx => h.own (τ t) e sz n rows (p.tails t _ hx)⟩
  · have ho := p.ok o _ hx
    simp only [okObj, List.all_eq_true] at ho
    have hx' := p.objs o _ hx
    simp only [AObj.ren, rens_map] at hx'
    obtain ⟨h1, h2, vs, h3, h4, h5⟩ := h.row (ρ o) ty _ hx'
    refine ⟨h1, h2, vs, h3, by simpa using h4, fun i c u hc hu => ?_⟩
    have := h5 i (c.ren ρ τ) u (by rw [List.getElem?_map, hc]; rfl) hu
    exact ⟨this.1.down p.tails (ho c (List.mem_of_getElem? hc)), this.2⟩
  · have ho := p.ok o _ hx
    simp only [okObj, List.all_eq_true] at ho
    have hx' := p.objs o _ hx
    simp only [AObj.ren] at hx'
    obtain ⟨h1, ms, c, h3, h4, h5, h6⟩ := h.map (ρ o) _ hx'
    refine ⟨h1, ms, c, h3, by simpa using h4, fun i k x m hm hm' => ?_, h6⟩
    have := h5 i k (x.ren ρ τ) m (by rw [List.getElem?_map, hm]; rfl) hm'
    exact ⟨this.1, this.2.down p.tails (ho (k, x) (List.mem_of_getElem? hm))⟩
end ren
end Go.Abs
