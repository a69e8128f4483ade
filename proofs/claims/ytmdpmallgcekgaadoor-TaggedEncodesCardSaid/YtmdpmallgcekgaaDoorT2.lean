import Derived.Test.YtmdpmallgcekgaaDoorT1
set_option linter.unusedSimpArgs false
set_option linter.unusedVariables false
namespace Go.Proofs.YtmdpmallgcekgaaDoor
open Go.RowKit Go.Abs
/-! elements: bytes of elements, elements of bytes -/
def bldF : Int → List UInt8 → List Element → List UInt8 × Int
  | _, out, [] => (out, 0)
  | last, out, x :: r => if x.tag < 1 ∨ x.tag > 255 then ([], 6) else if x.tag ≤ last then ([], 9) else if x.value.length > 255 then ([], 5)
    else bldF x.tag (out ++ [UInt8.ofInt x.tag, UInt8.ofInt (x.value.length : Int)] ++ x.value) r
theorem put_ok {tag : Int} {v out : List UInt8} (h : out.length + v.length ≤ 900000000) : g_tagged_put_v1 tag v out = some (out ++ [UInt8.ofInt tag, UInt8.ofInt (v.length : Int)] ++ v) := by
  unfold g_tagged_put_v1
  rw [ck_pos (by simp; omega), ck_pos (by simp; omega)]
theorem p_Build (l : List Element) (hl : l.length ≤ 100000) : f_tagged_Build l = some (bldF 0 [] l) := by
  unfold f_tagged_Build
  have := loop_spec (step := fun st => f_tagged_Build_l1 l st.1 st.2.1 st.2.2) (fun st : List UInt8 × Int × Int => some (bldF st.2.1 st.1 (l.drop st.2.2.toNat)))
    (fun st => 0 ≤ st.2.2 ∧ st.2.2 ≤ (l.length : Int) ∧ (st.1.length : Int) ≤ 257 * st.2.2) (fun st => ((l.length : Int) - st.2.2).toNat) (fun st hI => by
      obtain ⟨out, last, i⟩ := st
      obtain ⟨i0, i1, i2⟩ := hI
      simp only at i0 i1 i2 ⊢
      unfold f_tagged_Build_l1
      by_cases hi : i < (l.length : Int)
      · rw [if_pos (by simpa using hi), ck_pos (by omega), drop_nth (show i.toNat < l.length by omega), bldF]
        generalize nth l i.toNat = x
        by_cases h1 : x.tag < 1 ∨ x.tag > 255
        · rw [if_pos (by simpa using h1), if_pos h1]; exact .inl ⟨_, rfl, rfl⟩
        · rw [if_neg (by simpa using h1), if_neg h1]
          by_cases h2 : x.tag ≤ last
          · rw [if_pos (by simpa using h2), if_pos h2]; exact .inl ⟨_, rfl, rfl⟩
          · rw [if_neg (by simpa using h2), if_neg h2]
            by_cases h3 : x.value.length > 255
            · rw [if_pos (by simp; omega), if_pos h3]; exact .inl ⟨_, rfl, rfl⟩
            · rw [if_neg (by simp; omega), if_neg h3, put_ok (by omega), Option.bind_some, ck_pos (by omega)]
              refine .inr ⟨_, rfl, ⟨by simp only; omega, by simp only; omega, by simp; omega⟩, by simp only; omega, ?_⟩
              simp only
              rw [show (i + 1).toNat = i.toNat + 1 by omega]
      · rw [if_neg (by simpa using hi)]
        refine .inl ⟨_, rfl, ?_⟩
        rw [List.drop_of_length_le (by omega), bldF]) (s := ([], 0, 0)) ⟨by simp, by simp, by simp⟩ (by simp only; omega)
  rw [this]
  simp
theorem p_rBuild (l : List Element) (hl : l.length ≤ 100000) : f_billingref10_Build l = some (bldF 0 [] l) := by
  unfold f_billingref10_Build
  have := loop_spec (step := fun st => f_billingref10_Build_l1 l st.1 st.2.1 st.2.2) (fun st : List UInt8 × Int × Int => some (bldF st.2.1 st.1 (l.drop st.2.2.toNat)))
    (fun st => 0 ≤ st.2.2 ∧ st.2.2 ≤ (l.length : Int) ∧ (st.1.length : Int) ≤ 257 * st.2.2) (fun st => ((l.length : Int) - st.2.2).toNat) (fun st hI => by
      obtain ⟨out, last, i⟩ := st
      obtain ⟨i0, i1, i2⟩ := hI
      simp only at i0 i1 i2 ⊢
      unfold f_billingref10_Build_l1
      by_cases hi : i < (l.length : Int)
      · rw [if_pos (by simpa using hi), ck_pos (by omega), drop_nth (show i.toNat < l.length by omega), bldF]
        generalize nth l i.toNat = x
        by_cases h1 : x.tag < 1 ∨ x.tag > 255
        · rw [if_pos (by simpa using h1), if_pos h1]; exact .inl ⟨_, rfl, rfl⟩
        · rw [if_neg (by simpa using h1), if_neg h1]
          by_cases h2 : x.tag ≤ last
          · rw [if_pos (by simpa using h2), if_pos h2]; exact .inl ⟨_, rfl, rfl⟩
          · rw [if_neg (by simpa using h2), if_neg h2]
            by_cases h3 : x.value.length > 255
            · rw [if_pos (by simp; omega), if_pos h3]; exact .inl ⟨_, rfl, rfl⟩
            · rw [if_neg (by simp; omega), if_neg h3, ck_pos (by simp; omega), ck_pos (by simp; omega), ck_pos (by omega)]
              refine .inr ⟨_, rfl, ⟨by simp only; omega, by simp only; omega, by simp; omega⟩, by simp only; omega, ?_⟩
              simp only
              rw [show (i + 1).toNat = i.toNat + 1 by omega]
      · rw [if_neg (by simpa using hi)]
        refine .inl ⟨_, rfl, ?_⟩
        rw [List.drop_of_length_le (by omega), bldF]) (s := ([], 0, 0)) ⟨by simp, by simp, by simp⟩ (by simp only; omega)
  rw [this]
  simp
def elmF (last : Int) (out : List Element) (b : List UInt8) : List Element × Int :=
  if b.length = 0 then (out, 0) else if (nth b 0).toNat = 0 then ([], 6) else if ((nth b 0).toNat : Int) ≤ last then ([], 9)
  else if b.length < 2 ∨ b.length - 2 < (nth b 1).toNat then ([], 2)
  else elmF (nth b 0).toNat (out ++ [⟨((nth b 0).toNat : Int), (b.drop 2).take (nth b 1).toNat⟩]) (b.drop (2 + (nth b 1).toNat))
termination_by b.length
decreasing_by simp; omega
theorem slice_dt (b : List UInt8) (i j : Nat) : (b.take j).drop i = (b.drop i).take (j - i) := List.drop_take
theorem p_Elements (b : List UInt8) (hb : b.length ≤ 1000000) : f_tagged_Elements b = some (elmF 0 [] b) := by
  unfold f_tagged_Elements
  have := loop_spec (step := fun st => f_tagged_Elements_l1 st.1 st.2.1 st.2.2) (fun st : List UInt8 × List Element × Int => some (elmF st.2.2 st.2.1 st.1))
    (fun st => st.1.length + st.2.1.length ≤ 1000000) (fun st => st.1.length) (fun st hI => by
      obtain ⟨b, out, last⟩ := st
      simp only at hI ⊢
      unfold f_tagged_Elements_l1
      rw [elmF]
      by_cases h0 : b.length = 0
      · rw [if_neg (by simp; simpa using h0), if_pos h0]; exact .inl ⟨_, rfl, rfl⟩
      · rw [if_pos (by simp; omega), if_neg h0, ck_pos (by omega)]
        simp only [show Int.toNat 0 = 0 from rfl, show Int.toNat 1 = 1 from rfl]
        by_cases h1 : (nth b 0).toNat = 0
        · rw [if_pos (by simp [h1]), if_pos h1]; exact .inl ⟨_, rfl, rfl⟩
        · rw [if_neg (by simp; omega), if_neg h1]
          by_cases h2 : ((nth b 0).toNat : Int) ≤ last
          · rw [if_pos (by simpa using h2), if_pos h2]; exact .inl ⟨_, rfl, rfl⟩
          · rw [if_neg (by simpa using h2), if_neg h2, ck_pos (by intro _; omega), ck_pos (by intro h; simp at h; omega)]
            by_cases h3 : b.length < 2 ∨ b.length - 2 < (nth b 1).toNat
            · rw [if_pos (by simp; omega), if_pos h3]; exact .inl ⟨_, rfl, rfl⟩
            · have ht : (Int.toNat (2 + ((nth b 1).toNat : Int))) = 2 + (nth b 1).toNat := by omega
              rw [if_neg (by simp; omega), if_neg h3, ck_pos (by omega), ck_pos (by omega), ck_pos (by omega), ht, ck_pos (by simp; omega), ck_pos (by simp; omega), ck_pos (by omega)]
              refine .inr ⟨_, rfl, by simp; omega, by simp; omega, ?_⟩
              simp only
              rw [show Int.toNat 2 = 2 from rfl, slice_dt, show 2 + (nth b 1).toNat - 2 = (nth b 1).toNat by omega]) (s := (b, [], 0)) (by simp; omega) (by simp only; omega)
  rw [this]
theorem nth_drop (b : List UInt8) (i j : Nat) (h : i + j < b.length) : nth (b.drop i) j = nth b (i + j) := by
  rw [nth_eq (by simp; omega), nth_eq h, List.getElem_drop]
theorem p_rElements (b : List UInt8) (hb : b.length ≤ 1000000) : f_billingref10_Elements b = some (elmF 0 [] b) := by
  unfold f_billingref10_Elements
  have := loop_spec (step := fun st => f_billingref10_Elements_l1 b st.1 st.2.1 st.2.2) (fun st : List Element × Int × Int => some (elmF st.2.1 st.1 (b.drop st.2.2.toNat)))
    (fun st => 0 ≤ st.2.2 ∧ st.2.2 ≤ (b.length : Int) ∧ (st.1.length : Int) ≤ st.2.2) (fun st => ((b.length : Int) - st.2.2).toNat) (fun st hI => by
      obtain ⟨out, last, i⟩ := st
      obtain ⟨i0, i1, i2⟩ := hI
      simp only at i0 i1 i2 ⊢
      unfold f_billingref10_Elements_l1
      rw [elmF]
      by_cases h0 : i < (b.length : Int)
      · have n0 : nth (b.drop i.toNat) 0 = nth b i.toNat := by rw [nth_drop _ _ _ (by omega)]; rfl
        have e0 : ¬ (b.drop i.toNat).length = 0 := by simp; omega
        rw [if_pos (by simpa using h0), if_neg e0, ck_pos (by omega), n0]
        by_cases h1 : (nth b i.toNat).toNat = 0
        · rw [if_pos (by simp [h1]), if_pos h1]; exact .inl ⟨_, rfl, rfl⟩
        · rw [if_neg (by simp; omega), if_neg h1]
          by_cases h2 : ((nth b i.toNat).toNat : Int) ≤ last
          · rw [if_pos (by simpa using h2), if_pos h2]; exact .inl ⟨_, rfl, rfl⟩
          · rw [if_neg (by simpa using h2), if_neg h2]
            have t1 : Int.toNat (i + 1) = i.toNat + 1 := by omega
            have t2 : Int.toNat (i + 2) = i.toNat + 2 := by omega
            rw [t1, t2]
            have hn := (nth b (i.toNat + 1)).toNat_lt
            rw [ck_pos (by omega), ck_pos (by intro _; omega), ck_pos (by intro _; omega), ck_pos (by intro h; simp at h; omega), ck_pos (by intro _; omega)]
            by_cases h3 : i + 1 = (b.length : Int) ∨ (b.length : Int) < i + 2 + ((nth b (i.toNat + 1)).toNat : Int)
            · have h3' : (b.drop i.toNat).length < 2 ∨ (b.drop i.toNat).length - 2 < (nth (b.drop i.toNat) 1).toNat := by
                by_cases h4 : i + 1 = (b.length : Int)
                · left; simp; omega
                · right
                  rw [nth_drop _ _ _ (by omega), List.length_drop]
                  omega
              rw [if_pos (by simpa using h3), if_pos h3']; exact .inl ⟨_, rfl, rfl⟩
            · have n1 : nth (b.drop i.toNat) 1 = nth b (i.toNat + 1) := by rw [nth_drop _ _ _ (by omega)]
              have h3' : ¬((b.drop i.toNat).length < 2 ∨ (b.drop i.toNat).length - 2 < (nth (b.drop i.toNat) 1).toNat) := by
                rw [n1, List.length_drop]; omega
              have t3 : Int.toNat (i + 2 + ((nth b (i.toNat + 1)).toNat : Int)) = i.toNat + 2 + (nth b (i.toNat + 1)).toNat := by omega
              rw [if_neg (by simpa using h3), if_neg h3', n1, t3, ck_pos (by omega), ck_pos (by omega), ck_pos (by omega), ck_pos (by omega), ck_pos (by omega), ck_pos (by omega), ck_pos (by simp; omega), ck_pos (by simp; omega), ck_pos (by omega), ck_pos (by omega)]
              refine .inr ⟨_, rfl, ⟨by simp only; omega, by simp only; omega, by simp; omega⟩, by simp only; omega, ?_⟩
              simp only
              rw [t3, slice_dt, show i.toNat + 2 + (nth b (i.toNat + 1)).toNat - (i.toNat + 2) = (nth b (i.toNat + 1)).toNat by omega, List.drop_drop, List.drop_drop, Nat.add_assoc i.toNat 2]
      · rw [if_neg (by simpa using h0), if_pos (by simp; omega)]; exact .inl ⟨_, rfl, rfl⟩) (s := ([], 0, 0)) ⟨by simp, by simp, by simp⟩ (by simp only; omega)
  rw [this]
  simp
/-! there and back -/
def okL : Int → List Element → Prop
  | _, [] => True
  | last, x :: r => 1 ≤ x.tag ∧ x.tag ≤ 255 ∧ last < x.tag ∧ x.value.length ≤ 255 ∧ okL x.tag r
def encL : List Element → List UInt8
  | [] => []
  | x :: r => [UInt8.ofInt x.tag, UInt8.ofInt (x.value.length : Int)] ++ x.value ++ encL r
theorem bld_of_ok : ∀ (l : List Element) (last : Int) (out : List UInt8), okL last l → bldF last out l = (out ++ encL l, 0)
  | [], last, out, _ => by simp [bldF, encL]
  | x :: r, last, out, h => by
    obtain ⟨h1, h2, h3, h4, h5⟩ := h
    rw [bldF, if_neg (by omega), if_neg (by omega), if_neg (by omega), bld_of_ok r _ _ h5, encL]
    simp
theorem ok_of_bld : ∀ (l : List Element) (last : Int) (out : List UInt8), (bldF last out l).2 = 0 → okL last l
  | [], last, out, _ => trivial
  | x :: r, last, out, h => by
    rw [bldF] at h
    split at h; · cases h
    split at h; · cases h
    split at h; · cases h
    exact ⟨by omega, by omega, by omega, by omega, ok_of_bld r _ _ h⟩
theorem byte_back {n : Int} (h : 0 ≤ n ∧ n ≤ 255) : ((UInt8.ofInt n).toNat : Int) = n := by
  have key : ∀ x : Fin 256, ((UInt8.ofInt (x.val : Int)).toNat : Int) = (x.val : Int) := by decide +kernel
  have := key ⟨n.toNat, by omega⟩
  simp only [Int.toNat_of_nonneg h.1] at this
  exact this
theorem elm_enc : ∀ (l : List Element) (last : Int) (out : List Element), okL last l → elmF last out (encL l) = (out ++ l, 0)
  | [], last, out, _ => by rw [elmF]; simp [encL]
  | x :: r, last, out, h => by
    obtain ⟨h1, h2, h3, h4, h5⟩ := h
    have e1 := byte_back (n := x.tag) (by omega)
    have e2 := byte_back (n := (x.value.length : Int)) (by omega)
    have n0 : nth (encL (x :: r)) 0 = UInt8.ofInt x.tag := rfl
    have n1 : nth (encL (x :: r)) 1 = UInt8.ofInt (x.value.length : Int) := rfl
    have hl : (encL (x :: r)).length = 2 + x.value.length + (encL r).length := by simp [encL]; omega
    rw [elmF, n0, n1, e1, show (UInt8.ofInt (x.value.length : Int)).toNat = x.value.length by omega, if_neg (by omega), if_neg (by omega), if_neg (by omega), if_neg (by omega)]
    have d1 : ((encL (x :: r)).drop 2).take x.value.length = x.value := by simp [encL]
    have d2 : (encL (x :: r)).drop (2 + x.value.length) = encL r := by
      rw [← List.drop_drop]; simp [encL]
    rw [d1, d2, elm_enc r _ _ h5]
    simp
theorem byte_fwd (x : UInt8) : UInt8.ofInt (x.toNat : Int) = x := by
  apply UInt8.toNat_inj.1
  have := byte_back (n := (x.toNat : Int)) (by have := x.toNat_lt; omega)
  omega
theorem elm_back : ∀ (n : Nat) (b : List UInt8) (last : Int) (out : List Element), b.length ≤ n → 0 ≤ last → (elmF last out b).2 = 0 → ∃ l, (elmF last out b).1 = out ++ l ∧ okL last l ∧ encL l = b
  | n, b, last, out, hn, hl, h => by
    rw [elmF] at h ⊢
    by_cases h0 : b.length = 0
    · rw [if_pos h0]
      exact ⟨[], by simp, trivial, by rw [List.length_eq_zero_iff] at h0; rw [h0]; rfl⟩
    · rw [if_neg h0] at h ⊢
      split at h; · cases h
      rename_i h1
      rw [if_neg h1]
      split at h; · cases h
      rename_i h2
      rw [if_neg h2]
      split at h; · cases h
      rename_i h3
      rw [if_neg h3]
      obtain ⟨n, rfl⟩ : ∃ m, n = m + 1 := ⟨n - 1, by omega⟩
      obtain ⟨l, e1, e2, e3⟩ := elm_back n _ _ _ (by rw [List.length_drop]; omega) (by omega) h
      have hb0 := (nth b 0).toNat_lt
      have hb1 := (nth b 1).toNat_lt
      have htl : ((b.drop 2).take (nth b 1).toNat).length = (nth b 1).toNat := by simp; omega
      refine ⟨⟨((nth b 0).toNat : Int), (b.drop 2).take (nth b 1).toNat⟩ :: l, by rw [e1]; simp, ⟨by simp only; omega, by simp only; omega, by simp only; omega, by simp only; omega, e2⟩, ?_⟩
      rw [encL, e3]
      simp only [htl, byte_fwd]
      have : b = [nth b 0, nth b 1] ++ ((b.drop 2).take (nth b 1).toNat ++ (b.drop 2).drop (nth b 1).toNat) := by
        rw [List.take_append_drop, nth_eq (show 0 < b.length by omega), nth_eq (show 1 < b.length by omega)]
        match b, h3 with
        | x :: y :: r, _ => rfl
        | [x], h3 => simp at h3
        | [], h3 => simp at h3
      conv => rhs; rw [this]
      rw [List.drop_drop, List.append_assoc]
theorem p_Same10 (l : List Element) (hl : l.length ≤ 1000000) : f_billingref10_Same l l = some true := by
  unfold f_billingref10_Same
  rw [if_neg (by simp), loop_all l (fun _ => true) true true (by omega) (fun i h0 h1 => ?_) (fun i hi => ?_)]
  · simp
  · unfold f_billingref10_Same_l1
    rw [if_pos (by simpa using h1), ck_pos (by omega), ck_pos (by omega), ck_pos (by intro _; omega), ck_pos (by intro _; omega), if_neg (by simp), ck_pos (by omega)]
    rfl
  · unfold f_billingref10_Same_l1
    rw [if_neg (by simp; omega)]
theorem awake_true : f_billinglaw10_awake = some true := by kernel_rfl
theorem elm_len {b : List UInt8} (h : b.length ≤ 3000) : (elmF 0 [] b).1.length ≤ 3000 := by
  have key : ∀ (n : Nat) (b : List UInt8) (last : Int) (out : List Element), b.length ≤ n → (elmF last out b).1.length ≤ out.length + b.length := by
    intro n
    induction n with
    | zero => intro b last out hn; rw [elmF, if_pos (by omega)]; simp
    | succ n ih =>
      intro b last out hn
      rw [elmF]
      split
      · simp
      · split
        · simp
        · split
          · simp
          · split
            · simp
            · have := ih (b.drop (2 + (nth b 1).toNat)) (nth b 0).toNat (out ++ [⟨((nth b 0).toNat : Int), (b.drop 2).take (nth b 1).toNat⟩]) (by rw [List.length_drop]; omega)
              simp at this ⊢
              omega
  have := key _ b 0 [] (Nat.le_refl _)
  simp at this
  omega
theorem elements_true (b : List UInt8) : f_billinglaw10_TaggedElements b = some true := by
  unfold f_billinglaw10_TaggedElements
  rw [awake_true]
  by_cases h : (b.length : Int) > 3000
  · rw [if_pos (by simpa using h)]; rfl
  · rw [if_neg (by simpa using h), p_Elements b (by omega), p_rElements b (by omega)]
    simp only [Option.bind_some]
    have hl := elm_len (b := b) (by omega)
    rw [p_Same10 _ (by omega)]
    simp only [Option.bind_some]
    rw [if_neg (by simp)]
    by_cases he : (elmF 0 [] b).2 = 0
    · rw [if_neg (by simpa using he)]
      obtain ⟨l, e1, e2, e3⟩ := elm_back _ b 0 [] (Nat.le_refl _) (by omega) he
      rw [List.nil_append] at e1
      rw [p_Build _ (by omega), e1, bld_of_ok l 0 [] e2, e3]
      simp [gcall_mk]
    · rw [if_pos (by simpa using he)]
theorem p_light (l : List Element) (hl : l.length < 9223372036854775808) : ∃ r, f_billinglaw10_light l = some r ∧ (r = true → l.length ≤ 300) := by
  unfold f_billinglaw10_light
  refine loop_post (fun r => r = true → l.length ≤ 300) (fun st : Int × Int => 0 ≤ st.2 ∧ st.2 ≤ 301 ∧ st.2 ≤ (l.length : Int)) (fun st => (301 - st.2).toNat) (fun st hI => ?_) ⟨by simp, by simp, by simp⟩ (by simp)
  obtain ⟨n, i⟩ := st
  obtain ⟨i0, i1, i2⟩ := hI
  simp only at i0 i1 i2 ⊢
  unfold f_billinglaw10_light_l1
  by_cases hc : (((decide (i < (l.length : Int))) && (decide (i ≤ 300))) && (decide (n ≤ 3000))) = true
  · have hc' := hc
    simp only [Bool.and_eq_true, decide_eq_true_eq] at hc'
    rw [if_pos hc, ck_pos (by omega), i64w (n := i + 1) (by omega) (by omega)]
    exact .inr ⟨_, rfl, ⟨by simp only; omega, by simp only; omega, by simp only; omega⟩, by simp only; omega⟩
  · rw [if_neg hc]
    refine .inl ⟨_, rfl, fun h => ?_⟩
    simp only [Bool.and_eq_true, decide_eq_true_eq] at h
    omega
theorem builds_true (l : List Element) (hl : l.length < 9223372036854775808) : f_billinglaw10_TaggedBuilds l = some true := by
  unfold f_billinglaw10_TaggedBuilds
  obtain ⟨r, e, hr⟩ := p_light l hl
  rw [e, awake_true]
  simp only [Option.bind_some]
  cases r with
  | false => simp
  | true =>
    have hn := hr rfl
    rw [if_neg (by simp), p_Build l (by omega), p_rBuild l (by omega)]
    simp only [Option.bind_some]
    rw [if_neg (by simp)]
    by_cases he : (bldF 0 [] l).2 = 0
    · rw [if_neg (by simpa using he)]
      have ho := ok_of_bld l 0 [] he
      have hb : ∀ (l : List Element) (last : Int), okL last l → (encL l).length ≤ 257 * l.length := by
        intro l
        induction l with
        | nil => intro last _; simp [encL]
        | cons x r ih =>
          intro last h
          obtain ⟨_, _, _, h4, h5⟩ := h
          have := ih _ h5
          simp [encL]
          omega
      have := hb l 0 ho
      rw [bld_of_ok l 0 [] ho]
      simp only [List.nil_append]
      rw [p_Elements _ (by omega), elm_enc l 0 [] ho]
      simp only [Option.bind_some, List.nil_append, beq_self_eq_true]
      rw [p_Same10 l (by omega)]
      simp [gcall_mk]
    · rw [if_pos (by simpa using he)]
end Go.Proofs.YtmdpmallgcekgaaDoor
