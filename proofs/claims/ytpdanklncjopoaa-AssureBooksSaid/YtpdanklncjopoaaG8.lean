/- Regions that may come in any order: operations, a new variable, and a store into it. -/
import Derived.Test.YtpdanklncjopoaaG7
set_option linter.unusedSimpArgs false
set_option linter.unusedVariables false
set_option linter.unusedSectionVars false
namespace Go.Abs
open Go.RowKit
section drawn
variable {P : Program} {f : FuncId} {N : Nat} {S : Start} {Q : EV → St → Prop} {k : List Item}
theorem drawn_mainS {l : List Oper} {p M j0 : Nat} {env : Env} {st : St} {xs : List EV} {a tv : Tmp} {T : TypeId} {ty ty2 : TypeId} {pos pos2 : String} {after after2 : Array Edge} {inf : TypeInfo} {z : Value} {ev : EV} {new : List EV} (hp : p + 2 ≤ l.length)
    (hal : l[p]? = some ⟨some a, .alloc T, ty, pos, after, none⟩) (hzi : P.info? T = some inf) (hzz : inf.zero = some z) (hzn : z.cells.size = new.length) (hsn : inf.size = new.length) (haN : a < N)
    (hsto : l[p + 1]? = some ⟨none, .store T (.tmp a) (.tmp tv), ty2, pos2, after2, none⟩) (hj0 : j0 < p) (hjd : dstAt l j0 = some tv) (hjx : xs[j0]? = some ev) (hec : cellsE ev = some new)
    (hm1 : ((masks l []).getD (p + 1) 0).testBit j0 = true) (hm2 : ((masks l []).getD (p + 1) 0).testBit p = true)
    (hA1 : ∀ j, j < p → dstAt l j ≠ some a) (hA2 : ∀ (i : Nat) o, i < p → l[i]? = some o → a ∉ slots l o) (hA3 : lookup a env = none) (hSM : S.w.heap.size ≤ M) (hBM : S.base ≤ M)
    (hC1 : ∀ i j t, i < p → j < p → i ≠ j → dstAt l i = some t → dstAt l j ≠ some t)
    (hC2 : ∀ (i : Nat) o, i < p → l[i]? = some o → ∀ t ∈ slots l o, ∀ j, j < p → j ≠ i → dstAt l j = some t → (j < i ∧ ((masks l []).getD i 0).testBit j = true) ∨ (i < j ∧ ((masks l []).getD j 0).testBit i = true))
    (hord : ∀ i, p + 2 ≤ i → i < l.length → ∀ j, j < i → ((masks l []).getD i 0).testBit j = true)
    (hacyc : ∀ (i : Nat) o, l[i]? = some o → ∀ e ∈ o.after, Region.binds .any e = true → e.on < i)
    (hch : Chain P N l st (l.take p) xs env) (hsuf : AOps P f N S Q l (l.drop (p + 2)) k ((a, .ref st.objs.length 0) :: putAll env (l.take p) xs) (st.add (.row T new))) :
    ∀ (cnt fuel t : Nat) (listed : Array Bool) (g : Ghost) (w : World) (tmps : Array Value), listed.size = l.length → Closed l listed → (∀ i, p + 2 ≤ i → i < l.length → listed.getD i true = false) →
      (((List.range (p + 2)).filter fun i => !listed.getD i true).length = cnt) → cnt + (l.length - (p + 2)) ≤ fuel → Inv g S.base w st → Hist S g w st → tmps.size = N →
      (∀ (s : Tmp), (∀ (j : Nat) x, j < p → listed.getD j false = true → dstAt l j = some s → xs[j]? = some x → ∃ v, tmps[s]? = some v ∧ EVRep g w st x v) ∧
        ((∀ j, j < p → listed.getD j false = true → dstAt l j ≠ some s) → ∀ y, lookup s env = some y → ∃ v, tmps[s]? = some v ∧ EVRep g w st y v)) →
      M ≤ w.heap.size → (∀ b, Owned g st b → b < M) →
      (listed.getD p false = true → ∃ b, M ≤ b ∧ g.lim b = 0 ∧ tmps[a]? = some (.pointer (some ⟨b, 0, none⟩)) ∧ ∃ vs, w.heap[b]? = some (.cells vs T (0, 0)) ∧ vs.size = new.length ∧ (listed.getD (p + 1) false = true → ∀ (i : Nat) c (u : Value), new[i]? = some c → vs[i]? = some u → EVRep g w st c u ∧ u.oneCell' = true)) →
      FWP P f (RPost S Q) (.inRegion l.toArray (Region.linearise.go .any l.toArray fuel t listed []) :: k) tmps w := by
  have hxl := hch.length
  have hxl' : xs.length = p := by rw [hxl]; simp; omega
  intro cnt
  induction cnt with
  | zero =>
    intro fuel t listed g w tmps hs hcl hsu hcnt hfuel hinv hh hN hJ hMw hO hX
    have hall : ∀ i, i < p + 2 → listed.getD i true = true := by
      intro i hi
      have h0 := List.eq_nil_of_length_eq_zero hcnt
      have hn : i ∉ (List.range (p + 2)).filter fun i => !listed.getD i true := by rw [h0]; simp
      rw [List.mem_filter, List.mem_range] at hn
      cases hb : listed.getD i true with
      | true => rfl
      | false => exact absurd ⟨hi, by simp [hb]⟩ hn
    have hgo := go_suffix hord hacyc fuel t (p + 2) listed (Nat.le_refl _) hp (by omega) hs (fun i hi => by
      by_cases h : i < p + 2
      · rw [hall i h]; simp [h]
      · rw [hsu i (by omega) hi]; simp [h])
    rw [hgo]
    have hdl : (l.drop (p + 2)).length = l.length - (p + 2) := by simp
    rw [← hdl]
    have hallF : ∀ i, i < p + 2 → listed.getD i false = true := fun i hi => by
      have := hall i hi
      have hlt : i < listed.size := by omega
      simpa [Array.getD_eq_getD_getElem?, hlt] using this
    obtain ⟨b, b1, b2, b3, vs, b4, k1, k2'⟩ := hX (hallF p (by omega))
    have k2 := k2' (hallF (p + 1) (by omega))
    obtain ⟨g2, q1, q2, q3, q4, q5, q6⟩ := hinv.adopt (M := M) b1 (Nat.le_trans hBM b1) b2 (fun o ho e => by have := hO b (.inl ⟨o, ho, e⟩); omega) (fun t x hx e => by have := hO b (.inr ⟨t, x, hx, e⟩); omega) b4 k1 k2
    refine hsuf (p + 2) (fun j => by rw [List.getElem?_drop]) g2 w tmps q5 (hh.stepM q6 hSM) (fun s y hy => ?_) hN
    unfold lookup at hy
    cases hba : Nat.beq s a with
    | true =>
      rw [hba] at hy
      cases hy
      have := Nat.eq_of_beq_eq_true hba
      subst this
      refine ⟨_, b3, ?_⟩
      rw [← q1]
      exact .ref _ _ (by simp [St.add])
    | false =>
      rw [hba] at hy
      suffices hs : ∃ v, tmps[s]? = some v ∧ EVRep g w st y v by
        obtain ⟨v, r1, r2⟩ := hs
        exact ⟨v, r1, r2.mono q6.sevo⟩
      rcases lookup_putAll hxl hy with ⟨j, o, h1, h2, h3⟩ | ⟨h1, h2⟩
      · have hj : j < p := by have := (List.getElem?_eq_some_iff.1 h2).1; omega
        have ho : l[j]? = some o := by rw [List.getElem?_take] at h1; rw [if_pos hj] at h1; exact h1
        exact (hJ s).1 j y hj (hallF j (by omega)) (by simp [dstAt, ho, h3]) h2
      · refine (hJ s).2 (fun j hj _ hd => ?_) y h2
        cases ho : l[j]? with
        | none => simp [dstAt, ho] at hd
        | some o => exact h1 j o (by rw [List.getElem?_take, if_pos hj]; exact ho) (by simpa [dstAt, ho] using hd)
  | succ cnt ih =>
    intro fuel t listed g w tmps hs hcl hsu hcnt hfuel hinv hh hN hJ hMw hO hX
    obtain ⟨fuel, rfl⟩ : ∃ n, fuel = n + 1 := ⟨fuel - 1, by omega⟩
    -- an operation of the prefix that has not come up
    have hex : ∃ i, i < p + 2 ∧ listed.getD i true = false := by
      have : (List.range (p + 2)).filter (fun i => !listed.getD i true) ≠ [] := fun h => by rw [h] at hcnt; simp at hcnt
      obtain ⟨i, hi⟩ := List.exists_mem_of_ne_nil _ this
      rw [List.mem_filter, List.mem_range] at hi
      exact ⟨i, hi.1, by simpa using hi.2⟩
    have hDF : ∀ i, i < l.length → listed.getD i false = listed.getD i true := fun i hi => by
      have hlt : i < listed.size := by omega
      simp [Array.getD_eq_getD_getElem?, hlt]
    have hrd : ((List.range l.toArray.size).filter fun i => !listed.getD i true && ((l.toArray[i]?).map (·.after.all fun e => !Region.binds .any e || listed.getD e.on false)).getD false) = Region.ready .any l.toArray listed := rfl
    -- the least such is ready
    have hne : Region.ready .any l.toArray listed ≠ [] := by
      have hmin : ∀ n i, i ≤ n → i < p + 2 → listed.getD i true = false → ∃ i, i < p + 2 ∧ listed.getD i true = false ∧ ∀ j, j < i → listed.getD j true = true := by
        intro n
        induction n with
        | zero => intro i hi hp' h; exact ⟨i, hp', h, fun j hj => by omega⟩
        | succ n ihn =>
          intro i hi hp' h
          by_cases hh' : ∃ j, j < i ∧ listed.getD j true = false
          · obtain ⟨j, hj, hjl⟩ := hh'
            exact ihn j (by omega) (by omega) hjl
          · refine ⟨i, hp', h, fun j hj => ?_⟩
            cases hb : listed.getD j true with
            | true => rfl
            | false => exact absurd ⟨j, hj, hb⟩ hh'
      obtain ⟨i0, h0, h1⟩ := hex
      obtain ⟨i, hip, hiu, hbel⟩ := hmin i0 i0 (Nat.le_refl _) h0 h1
      have hil : i < l.length := by omega
      have : i ∈ Region.ready .any l.toArray listed := by
        rw [mem_ready]
        refine ⟨hiu, l[i], by simp [hil], fun e he hb => ?_⟩
        have hlt := hacyc i l[i] (List.getElem?_eq_getElem hil) e he hb
        rw [hDF _ (by omega)]
        exact hbel _ hlt
      intro hnil
      rw [hnil] at this
      cases this
    simp only [Region.linearise.go, hrd]
    have hlen : 0 < (Region.ready .any l.toArray listed).length := List.length_pos_iff.2 hne
    have hmod := Nat.mod_lt t hlen
    generalize hi : (Region.ready .any l.toArray listed)[t % (Region.ready .any l.toArray listed).length] = i
    have hsome : (Region.ready .any l.toArray listed)[t % (Region.ready .any l.toArray listed).length]? = some i := by rw [List.getElem?_eq_getElem hmod, hi]
    rw [hsome]
    simp only []
    rw [linearise_go_acc]
    have him : i ∈ Region.ready .any l.toArray listed := List.mem_of_getElem? hsome
    obtain ⟨hiu, o, ho, hall⟩ := mem_ready.1 him
    have ho' : l[i]? = some o := by simpa using ho
    have hil := (List.getElem?_eq_some_iff.1 ho').1
    have hmask := ready_mask hcl ho' (fun e he hb => hall e he hb)
    have hip1 : i < p + 2 := by
      rcases Nat.lt_or_ge i (p + 2) with h | h
      · exact h
      · obtain ⟨i0, h0, h1⟩ := hex
        have := hmask i0 (hord i h hil i0 (by omega))
        rw [hDF i0 (by omega), h1] at this
        cases this
    -- what remains behind it
    have hcnt' : ((List.range (p + 2)).filter fun j => !(listed.setIfInBounds i true).getD j true).length = cnt := by
      have hset : ∀ j, (listed.setIfInBounds i true).getD j true = (listed.getD j true || decide (j = i)) := by
        intro j
        by_cases hji : j = i
        · subst hji; simp [Array.getD_eq_getD_getElem?, hs, hil]
        · rw [getD_set_ne true (Ne.symm hji)]; simp [hji]
      have hfil : ((List.range (p + 2)).filter fun j => !(listed.setIfInBounds i true).getD j true) = ((List.range (p + 2)).filter fun j => !listed.getD j true).filter fun j => !decide (j = i) := by
        rw [List.filter_filter]
        refine List.filter_congr fun j _ => ?_
        rw [hset j]
        cases listed.getD j true <;> simp
      rw [hfil]
      have hnd : ((List.range (p + 2)).filter fun j => !listed.getD j true).Nodup := List.nodup_range.filter _
      have hmem : i ∈ (List.range (p + 2)).filter fun j => !listed.getD j true := by rw [List.mem_filter, List.mem_range]; exact ⟨hip1, by simp [hiu]⟩
      have hcount : ∀ (L : List Nat), L.Nodup → i ∈ L → (L.filter fun j => !decide (j = i)).length + 1 = L.length := by
        intro L
        induction L with
        | nil => intro _ h; cases h
        | cons a L ihL =>
          intro hn hm
          rw [List.nodup_cons] at hn
          by_cases ha : a = i
          · subst ha
            have : (L.filter fun j => !decide (j = a)) = L := by
              rw [List.filter_eq_self]
              intro b hb
              have : b ≠ a := fun e => hn.1 (e ▸ hb)
              simp [this]
            rw [List.filter_cons]
            simp [this]
          · have hm' : i ∈ L := by
              rcases List.mem_cons.1 hm with h | h
              · exact absurd h.symm ha
              · exact h
            rw [List.filter_cons]
            simp only [ha, decide_false, Bool.not_false, if_true, List.length_cons]
            rw [ihL hn.2 hm']
      have := hcount _ hnd hmem
      omega
    have hcl' : Closed l (listed.setIfInBounds i true) := by
      intro j oj hoj hlj e he' hb
      by_cases hji : j = i
      · subst hji
        rw [ho'] at hoj
        cases hoj
        exact getD_set_true (hall e he' hb)
      · rw [getD_set_ne false (Ne.symm hji)] at hlj
        exact getD_set_true (hcl j oj hoj hlj e he' hb)
    have hsu' : ∀ j, p + 2 ≤ j → j < l.length → (listed.setIfInBounds i true).getD j true = false := fun j hj hjl => by rw [getD_set_ne true (by omega)]; exact hsu j hj hjl
    have hoA : l.toArray[i]? = some o := ho
    have hgm := masks_good hcl l [] (by simp) (by simp)
    have hps : p + 1 < l.length := by omega
    have hmp : (masks l [])[p + 1]? = some ((masks l []).getD (p + 1) 0) := by
      cases hm : (masks l [])[p + 1]? with
      | none => rw [List.getD_eq_getElem?_getD, hm] at hm2; simp at hm2
      | some m => rw [List.getD_eq_getElem?_getD, hm]; rfl
    have hlate : listed.getD p false = false → listed.getD (p + 1) false = false := fun h => by
      cases hb : listed.getD (p + 1) false with
      | false => rfl
      | true => rw [hgm (p + 1) _ hmp hb p hm2] at h; cases h
    by_cases hpi : i = p
    · -- the new variable
      subst hpi
      rw [hal] at ho'
      cases ho'
      let g1 : Ghost := ⟨fun b => if b = w.heap.size then 0 else g.lim b, g.ob, g.tk⟩
      have hbel : Below w.heap.size w (w.alloc (.cells z.cells T)) := (Below.refl _ w).alloc (Nat.le_refl _) _
      have hlim1 : ∀ b, b < w.heap.size → g1.lim b = g.lim b := fun b hb => by show (if _ then _ else _) = _; rw [if_neg (by omega)]
      obtain ⟨hinv1, hst1⟩ := hinv.grow (g' := g1) hbel hlim1 rfl rfl
      show FWP P f (RPost S Q) (.inRegion l.toArray (i :: _) :: k) tmps w
      refine FWP.value hoA (by simp [Region.wanted]) (v := .pointer (some ⟨w.heap.size, 0, none⟩)) (w' := w.alloc (.cells z.cells T)) (by simp [execOp, Instr.alloc, zeroValue, typeInfo, hzi, hzz, newVar, newRow]) ?_
      refine ih fuel _ _ g1 _ _ (by simpa using hs) hcl' hsu' hcnt' (by omega) hinv1 (hh.step hst1) (by rw [size_put]; exact hN) (fun s => ⟨fun j y hj hlj hdj hy => ?_, fun hno y hy => ?_⟩) (Nat.le_trans hMw hbel.size) hO (fun _ => ⟨w.heap.size, hMw, by show (if _ then _ else _) = _; rw [if_pos rfl], by simp [Act.put, hN, haN], z.cells, heap_alloc_new w _, hzn, fun h => by
        rw [getD_set_ne false (by omega), hlate (by rw [hDF i hil, hiu])] at h
        cases h⟩)
      · rw [getD_set_ne false (by omega)] at hlj
        obtain ⟨u, h1, h2⟩ := (hJ s).1 j y hj hlj hdj hy
        have : a ≠ s := fun e => hA1 j hj (by rw [hdj, e])
        exact ⟨u, by simp [Act.put, Array.getElem?_setIfInBounds, this, h1], h2.mono hst1.sevo⟩
      · have : a ≠ s := fun e => by rw [← e, hA3] at hy; cases hy
        obtain ⟨u, h1, h2⟩ := (hJ s).2 (fun j hj hlj => hno j hj (by rw [getD_set_ne false (by omega)]; exact hlj)) y hy
        exact ⟨u, by simp [Act.put, Array.getElem?_setIfInBounds, this, h1], h2.mono hst1.sevo⟩
    by_cases hpi2 : i = p + 1
    · -- the store
      subst hpi2
      rw [hsto] at ho'
      cases ho'
      have l1 : listed.getD j0 false = true := hmask j0 hm1
      have l2 : listed.getD p false = true := hmask p hm2
      obtain ⟨v, hv1, hv2⟩ := (hJ tv).1 j0 ev hj0 l1 hjd hjx
      obtain ⟨b, b1, b2, b3, vs, b4, b5, _⟩ := hX l2
      have hblt : b < w.heap.size := (Array.getElem?_eq_some_iff.1 b4).1
      obtain ⟨k1, k2⟩ := cellsE_rep hec hv2
      have hst := run_storeCells_at P b 0 T v.cells.toList 0 vs w b4 (by simp; omega) (fun u hu => by
        obtain ⟨j, hj⟩ := List.mem_iff_getElem?.1 hu
        have hj' : v.cells[j]? = some u := by simpa using hj
        have hlt' : j < new.length := by rw [← k1]; exact (Array.getElem?_eq_some_iff.1 hj').1
        exact (k2 j new[j] u (List.getElem?_eq_getElem hlt') hj').2)
      have hrow : (vs.toList.take 0 ++ v.cells.toList ++ vs.toList.drop (0 + v.cells.toList.length)).toArray = v.cells := by
        have : vs.toList.drop (0 + v.cells.toList.length) = [] := List.drop_of_length_le (by simp; omega)
        rw [this]; simp
      simp only [Nat.add_zero] at hst
      rw [hrow] at hst
      have ev1 : Act.eval ⟨tmps, []⟩ (.tmp a) = .pointer (some ⟨b, 0, none⟩) := by show tmps.getD a undef = _; rw [Array.getD_eq_getD_getElem?, b3]; rfl
      have ev2 : Act.eval ⟨tmps, []⟩ (.tmp tv) = v := by show tmps.getD tv undef = _; rw [Array.getD_eq_getD_getElem?, hv1]; rfl
      have hoth : ∀ c, c ≠ b → (w.setRow b v.cells).heap[c]? = w.heap[c]? := fun c hb' => setRow_other w _ c _ hb'
      obtain ⟨hinv1, hst1⟩ := hinv.foreign (M := M) (w' := w.setRow b v.cells) (b := b) b1 (Nat.le_trans hBM b1) b2 (fun o ho e => by have := hO b (.inl ⟨o, ho, e⟩); omega)
        (fun t x ht e => by have := hO b (.inr ⟨t, x, ht, e⟩); omega) (by simp) hoth rfl rfl rfl
      show FWP P f (RPost S Q) (.inRegion l.toArray ((p + 1) :: _) :: k) tmps w
      refine FWP.skip hoA (by simp [Region.wanted]) (w' := w.setRow b v.cells) (by simp [execOp, ev1, ev2, Instr.storeAt, Instr.sureAddr, storeVar, sizeOf, typeInfo, hzi, hsn, k1, hst]) ?_
      refine ih fuel _ _ g _ _ (by simpa using hs) hcl' hsu' hcnt' (by omega) hinv1 (hh.stepM hst1 hSM) (by rw [size_put]; exact hN) (fun s => ⟨fun j y hj hlj hdj hy => ?_, fun hno y hy => ?_⟩) (by simpa using hMw) hO (fun _ => ⟨b, b1, b2, b3, v.cells, setRow_heap w _ vs _ T (0, 0) b4, k1, fun _ i c u hc hu => ⟨(k2 i c u hc hu).1.mono hst1.sevo, (k2 i c u hc hu).2⟩⟩)
      · rw [getD_set_ne false (by omega)] at hlj
        obtain ⟨u, h1, h2⟩ := (hJ s).1 j y hj hlj hdj hy
        exact ⟨u, h1, h2.mono hst1.sevo⟩
      · obtain ⟨u, h1, h2⟩ := (hJ s).2 (fun j hj hlj => hno j hj (by rw [getD_set_ne false (by omega)]; exact hlj)) y hy
        exact ⟨u, h1, h2.mono hst1.sevo⟩
    have hip : i < p := by omega
    obtain ⟨x, hx, hd, hop⟩ := hch.get (i := i) (o := o) (by rw [List.getElem?_take, if_pos hip]; exact ho')
    -- what the operation looks at
    have he : EnvRep g w st (renv l o (putAll env ((l.take p).take i) (xs.take i))) tmps := by
      intro s y hy
      obtain ⟨hsl, hy'⟩ := renvOf_get hy
      rcases lookup_putAll (by simp [hxl]) hy' with ⟨j, o', h1, h2, h3⟩ | ⟨h1, h2⟩
      · have hji : j < i := by have := (List.getElem?_eq_some_iff.1 h2).1; simp at this; omega
        have hoj : l[j]? = some o' := by
          rw [List.getElem?_take, if_pos hji, List.getElem?_take, if_pos (by omega)] at h1; exact h1
        have hdj : dstAt l j = some s := by simp [dstAt, hoj, h3]
        rcases hC2 i o hip ho' s hsl j (by omega) (by omega) hdj with ⟨_, hb⟩ | ⟨hlt, _⟩
        · exact (hJ s).1 j y (by omega) (hmask j hb) hdj (by rw [List.getElem?_take, if_pos hji] at h2; exact h2)
        · omega
      · refine (hJ s).2 (fun j hj hlj hdj => ?_) y h2
        by_cases hji : j = i
        · subst hji
          rw [hDF j hil, hiu] at hlj
          cases hlj
        · rcases hC2 i o hip ho' s hsl j hj hji hdj with ⟨hlt, _⟩ | ⟨hlt, hb⟩
          · cases hoj : l[j]? with
            | none => simp [dstAt, hoj] at hdj
            | some o' => exact h1 j o' (by rw [List.getElem?_take, if_pos hlt, List.getElem?_take, if_pos hj]; exact hoj) (by simpa [dstAt, hoj] using hdj)
          · have hjl : j < l.length := by omega
            have hmj : (masks l [])[j]? = some ((masks l []).getD j 0) := by
              cases hm : (masks l [])[j]? with
              | none => rw [List.getD_eq_getElem?_getD, hm] at hb; simp at hb
              | some m => rw [List.getD_eq_getElem?_getD, hm]; rfl
            have := hgm j _ hmj hlj i hb
            rw [hDF i hil, hiu] at this
            cases this
    -- the step
    have next : ∀ (lim' : Nat → Nat) (w' : World) (v : Value), Good g w st x lim' w' v →
        FWP P f (RPost S Q) (.inRegion l.toArray (Region.linearise.go .any l.toArray fuel (t / (Region.ready .any l.toArray listed).length) (listed.setIfInBounds i true) []) :: k) (Act.put ⟨tmps, []⟩ o.dst v).tmps w' := by
      rintro lim' w' v ⟨hxr, hb, hl⟩
      obtain ⟨hinv', hst⟩ := hinv.grow (g' := { g with lim := lim' }) hb hl rfl rfl
      refine ih fuel _ _ _ w' _ (by simpa using hs) hcl' hsu' hcnt' (by omega) hinv' (hh.step hst) (by rw [size_put]; exact hN) (fun s => ⟨fun j y hj hlj hdj hy => ?_, fun hno y hy => ?_⟩) (Nat.le_trans hMw hb.size) hO (fun hlp => by
        rw [getD_set_ne false (by omega)] at hlp
        obtain ⟨b, c1, c2, c3, vs, c4, c5, c6⟩ := hX hlp
        have hblt : b < w.heap.size := (Array.getElem?_eq_some_iff.1 c4).1
        refine ⟨b, c1, (hl b hblt).trans c2, ?_, vs, (hb.block b hblt).trans c4, c5, fun h i c u h1 h2 => by
          rw [getD_set_ne false (by omega)] at h
          exact ⟨(c6 h i c u h1 h2).1.mono hst.sevo, (c6 h i c u h1 h2).2⟩⟩
        cases hod : o.dst with
        | none => exact c3
        | some d =>
          have : d ≠ a := fun e => hA1 i hip (by simp [dstAt, ho', hod, e])
          simp [Act.put, Array.getElem?_setIfInBounds, this, c3])
      · by_cases hji : j = i
        · subst hji
          have hods : o.dst = some s := by simpa [dstAt, ho'] using hdj
          rw [hx] at hy
          cases hy
          rw [hods]
          have hsz : s < tmps.size := by
            rw [hods] at hd
            have hd' : s + 1 ≤ N := Nat.le_of_ble_eq_true hd
            rw [hN]
            exact hd'
          exact ⟨v, by simp [Act.put, hsz], hxr⟩
        · rw [getD_set_ne false (Ne.symm hji)] at hlj
          obtain ⟨u, h1, h2⟩ := (hJ s).1 j y hj hlj hdj hy
          have hne' : o.dst ≠ some s := fun e => hC1 j i s hj hip hji hdj (by simp [dstAt, ho', e])
          refine ⟨u, ?_, h2.mono hst.sevo⟩
          cases hod : o.dst with
          | none => exact h1
          | some d =>
            have : d ≠ s := fun e => hne' (by rw [hod, e])
            simp [Act.put, Array.getElem?_setIfInBounds, this, h1]
      · have hne' : o.dst ≠ some s := fun e => hno i hip (by simp [Array.getD_eq_getD_getElem?, hs, hil]) (by simp [dstAt, ho', e])
        obtain ⟨u, h1, h2⟩ := (hJ s).2 (fun j hj hlj => hno j hj (by
          by_cases hji : j = i
          · subst hji; simp [Array.getD_eq_getD_getElem?, hs, hil]
          · rw [getD_set_ne false (Ne.symm hji)]; exact hlj)) y hy
        refine ⟨u, ?_, h2.mono hst.sevo⟩
        cases hod : o.dst with
        | none => exact h1
        | some d =>
          have : d ≠ s := fun e => hne' (by rw [hod, e])
          simp [Act.put, Array.getElem?_setIfInBounds, this, h1]
    show FWP P f (RPost S Q) (.inRegion l.toArray (i :: _) :: k) tmps w
    rcases hop with ⟨hg, hop⟩ | ⟨j, want, tt, c, b, y, env', hg, hj, hlk, hgc, rfl, hE, hop⟩
    · have hw : Region.wanted o (yielded l.toArray tmps) = true := by simp [Region.wanted, hg]
      rcases hop g S.base w tmps hinv he with ⟨v, lim', w', hr, hgood⟩ | ⟨f', args, hr, hc⟩
      · exact FWP.value hoA hw hr (next lim' w' v hgood)
      · exact FWP.call hoA hw hr (hc.mono fun e w' ⟨v, lim', h1, h2⟩ => ⟨v, h1, next lim' w' v h2⟩)
    · obtain ⟨u, hu, hur⟩ := he tt c hlk
      have hw : Region.wanted o (yielded l.toArray tmps) = b := by
        rw [← gcond_rep hgc hur]
        have hj' : ((l.toArray)[j]?).bind (·.dst) = some tt := by simpa using hj
        simp only [Region.wanted, hg, yielded, hj', Option.bind_some, hu]
        cases u <;> rfl
      cases b with
      | false => exact FWP.unwanted hoA hw (next g.lim w undef ⟨.gd _ _ _ (fun _ => rfl) (fun h => by cases h), .refl _ _, fun _ _ => rfl⟩)
      | true =>
        have wrap : ∀ lim' w' v, Good g w st y lim' w' v → Good g w st (.gd true y) lim' w' v := fun lim' w' v ⟨a, b, c⟩ => ⟨.gd _ _ _ (fun h => by cases h) (fun _ => a), b, c⟩
        rcases hop rfl g S.base w tmps hinv (he.gd hE rfl) with ⟨v, lim', w', hr, hgood⟩ | ⟨f', args, hr, hc⟩
        · exact FWP.value hoA hw hr (next lim' w' v (wrap _ _ _ hgood))
        · exact FWP.call hoA hw hr (hc.mono fun e w' ⟨v, lim', h1, h2⟩ => ⟨v, h1, next lim' w' v (wrap _ _ _ h2)⟩)



variable {l : List Oper} {p : Nat} {xs : List EV} {env : Env} {st : St}
def drawS (l : List Oper) (p : Nat) (a tv : Tmp) (j0 : Nat) : Bool :=
  let ms := masks l []
  allBelow p (fun i => match l[i]? with
    | some o => (slots l o).all fun t => !Nat.beq t a && allBelow p fun j => i == j || dstAt l j != some t || (decide (j < i) && (ms.getD i 0).testBit j) || (decide (i < j) && (ms.getD j 0).testBit i)
    | none => true) &&
  allBelow p (fun i => dstAt l i != some a && allBelow p fun j => i == j || (dstAt l i).isNone || dstAt l i != dstAt l j) &&
  allBelow l.length (fun i => decide (i < p + 2) || allBelow i fun j => (ms.getD i 0).testBit j) &&
  allBelow l.length (fun i => match l[i]? with
    | some o => o.after.toList.all fun e => !Region.binds .any e || decide (e.on < i)
    | none => true) &&
  (decide (j0 < p) && dstAt l j0 == some tv && (ms.getD (p + 1) 0).testBit j0 && (ms.getD (p + 1) 0).testBit p) &&
  decide (p + 2 ≤ l.length)
theorem ARun.drawnS {id : Nat} (p : Nat) (a tv : Tmp) (j0 : Nat) {T ty ty2 : TypeId} {pos pos2 : String} {after after2 : Array Edge} {ev : EV} {new : List EV} (hm : P.follows .mixedOrders = true) (hB : drawS l p a tv j0 = true)
    (hal : l[p]? = some ⟨some a, .alloc T, ty, pos, after, none⟩) (hsto : l[p + 1]? = some ⟨none, .store T (.tmp a) (.tmp tv), ty2, pos2, after2, none⟩) (hjx : xs[j0]? = some ev) (hec : cellsE ev = some new)
    (hz : (P.info? T).bind (fun i => i.zero.map fun z => (z.cells.size, i.size)) = some (new.length, new.length)) (haN : Nat.blt a N = true) (hA3 : lookup a env = none)
    (hch : Chain P N l st (l.take p) xs env) (hsuf : AOps P f N S Q l (l.drop (p + 2)) k ((a, .ref st.objs.length 0) :: putAll env (l.take p) xs) (st.add (.row T new))) : ARun P f N S Q (.code (.region id l.toArray true) :: k) env st := by
  simp only [drawS, Bool.and_eq_true] at hB
  obtain ⟨⟨⟨⟨⟨hB1, hB2⟩, hB3⟩, hB4⟩, ⟨⟨hB6, hB7⟩, hB8⟩, hB9⟩, hB5⟩ := hB
  have hp : p + 2 ≤ l.length := by simpa using hB5
  obtain ⟨inf, z, hinf, hz', hzn, hsn⟩ : ∃ inf z, P.info? T = some inf ∧ inf.zero = some z ∧ z.cells.size = new.length ∧ inf.size = new.length := by
    cases hh : P.info? T with
    | none => rw [hh] at hz; cases hz
    | some inf =>
      rw [hh] at hz
      simp only [Option.bind_some] at hz
      cases hq : inf.zero with
      | none => rw [hq] at hz; cases hz
      | some z =>
        rw [hq] at hz
        simp only [Option.map_some, Option.some.injEq, Prod.mk.injEq] at hz
        exact ⟨inf, z, rfl, hq, hz.1, hz.2⟩
  intro g w tmps hinv hh he hn
  refine FWP.regionDraw fun t => ?_
  have hsch : Region.schedule (P.follows .mixedOrders) l.toArray t = Region.linearise .any l.toArray t := by simp [Region.schedule, hm]
  rw [hsch]
  have hb : Below w.heap.size w { w with drawn := w.drawn + 1 } := (Below.refl _ w).drew
  obtain ⟨hinv', hst⟩ := hinv.grow (g' := g) hb (fun _ _ => rfl) rfl rfl
  unfold Region.linearise
  have hslot : ∀ (i : Nat) o, i < p → l[i]? = some o → ∀ t ∈ slots l o, t ≠ a ∧ ∀ j, j < p → j ≠ i → dstAt l j = some t → (j < i ∧ ((masks l []).getD i 0).testBit j = true) ∨ (i < j ∧ ((masks l []).getD j 0).testBit i = true) := by
    intro i o hi ho t ht
    have h1 := allBelow_get hB1 hi
    rw [ho] at h1
    simp only [List.all_eq_true, Bool.and_eq_true] at h1
    refine ⟨fun e => by have := (h1 t ht).1; rw [e] at this; simp at this, fun j hj hji hdj => ?_⟩
    have h2 := allBelow_get (h1 t ht).2 hj
    simp only [hdj, bne_self_eq_false, Bool.or_false, Bool.or_eq_true, Bool.and_eq_true, decide_eq_true_eq, beq_iff_eq] at h2
    rcases h2 with (h2 | h2) | h2
    · exact absurd h2.symm hji
    · exact .inl h2
    · exact .inr h2
  refine drawn_mainS (p := p) (M := w.heap.size) (xs := xs) hp hal hinf hz' hzn hsn (blt_lt haN) hsto (by simpa using hB6) (by simpa using hB7) hjx hec hB8 hB9 ?_ (fun i o hi ho ht => (hslot i o hi ho a ht).1 rfl) hA3 hh.sevo.evo.size hinv.base ?_ (fun i o hi ho t ht => (hslot i o hi ho t ht).2) ?_ ?_ hch hsuf (p + 2) _ t _ g _ tmps (by simp) ?_ ?_ ?_ ?_ hinv' (hh.step hst) hn (fun s => ⟨fun j x hj hlj => ?_, fun _ y hy => ?_⟩) (Nat.le_refl _) (fun b hb => (hinv.owned_lt hb).2) (fun hlp => ?_)
  · intro j hj
    have := allBelow_get hB2 hj
    simp only [Bool.and_eq_true] at this
    simpa using this.1
  · intro i j t hi hj hij hdi hdj
    have h1 := allBelow_get hB2 hi
    simp only [Bool.and_eq_true] at h1
    have := allBelow_get h1.2 hj
    simp [hij, hdi, hdj] at this
  · intro i hi hil j hj
    have h1 := allBelow_get hB3 hil
    simp only [Bool.or_eq_true, decide_eq_true_eq] at h1
    rcases h1 with h1 | h1
    · omega
    · exact allBelow_get h1 hj
  · intro i o ho e he' hb'
    have hil := (List.getElem?_eq_some_iff.1 ho).1
    have h1 := allBelow_get hB4 hil
    rw [ho] at h1
    simp only [List.all_eq_true] at h1
    have := h1 e (by simpa using he')
    simpa [hb'] using this
  · intro i o ho hli
    simp [Array.getD_eq_getD_getElem?, Array.getElem?_replicate] at hli
    split at hli <;> simp_all
  · intro i hi hil
    simp [Array.getD_eq_getD_getElem?, Array.getElem?_replicate, hil]
  · have : ((List.range (p + 2)).filter fun i => !(Array.replicate l.toArray.size false).getD i true) = List.range (p + 2) := by
      rw [List.filter_eq_self]
      intro i hi
      have hi' := List.mem_range.1 hi
      have : i < l.length := by omega
      simp [Array.getD_eq_getD_getElem?, Array.getElem?_replicate, this]
    rw [this]; simp
  · simp; omega
  · simp [Array.getD_eq_getD_getElem?, Array.getElem?_replicate] at hlj
    split at hlj <;> simp_all
  · exact (he.mono hst.sevo) s y hy
  · simp [Array.getD_eq_getD_getElem?, Array.getElem?_replicate] at hlp
    split at hlp <;> simp_all
end drawn
end Go.Abs
