/- Our own texts T2 T3 T4 T5 T6 T7 T8 T9 TA TB TC TD TE C1 C2 C3 of this seat in one. -/
import Derived.Test.YtmdpmallgcekgaaDoorZ4
import Derived.Deep.Slices
import Derived.ChangeArms
import Derived.ProofKit
import Derived.Below
import Derived.ChangeSame
set_option linter.unusedSimpArgs false
set_option linter.unusedVariables false
namespace Go.Proofs.YtmdpmallgcekgaaDoor
open Go.RowKit Go.Abs
/-! elements: bytes of elements, elements of bytes -/
def bldF : Int → List UInt8 → List Element → List UInt8 × Int
  | _, out, [] => (out, 0)
  | last, out, x :: r => if x.tag < 1 ∨ x.tag > 255 then ([], 6) else if x.tag ≤ last then ([], 9) else if x.value.length > 255 then ([], 5)
    else bldF x.tag (out ++ [UInt8.ofInt x.tag, UInt8.ofInt (x.value.length : Int)] ++ x.value) r
theorem put_ok {tag : Int} {v out : List UInt8} (h : out.length + v.length ≤ 900000000) : g_tagged_put_v1 tag v out = some (out ++ [UInt8.ofInt tag, UInt8.ofInt (v.length : Int)] ++ v) := by
  unfold g_tagged_put_v1
  rw [ck_pos (by simp; omega), ck_pos (by simp; omega)]
theorem p_Build (l : List Element) (hl : l.length ≤ 100000) : f_tagged_Build l = some (bldF 0 [] l) := by
  unfold f_tagged_Build
  have := loop_spec (step := fun st => f_tagged_Build_l1 l st.1 st.2.1 st.2.2) (fun st : List UInt8 × Int × Int => some (bldF st.2.1 st.1 (l.drop st.2.2.toNat)))
    (fun st => 0 ≤ st.2.2 ∧ st.2.2 ≤ (l.length : Int) ∧ (st.1.length : Int) ≤ 257 * st.2.2) (fun st => ((l.length : Int) - st.2.2).toNat) (fun st hI => by
      obtain ⟨out, last, i⟩ := st
      obtain ⟨i0, i1, i2⟩ := hI
      simp only at i0 i1 i2 ⊢
      unfold f_tagged_Build_l1
      by_cases hi : i < (l.length : Int)
      · rw [if_pos (by simpa using hi), ck_pos (by omega), drop_nth (show i.toNat < l.length by omega), bldF]
        generalize nth l i.toNat = x
        by_cases h1 : x.tag < 1 ∨ x.tag > 255
        · rw [if_pos (by simpa using h1), if_pos h1]; exact .inl ⟨_, rfl, rfl⟩
        · rw [if_neg (by simpa using h1), if_neg h1]
          by_cases h2 : x.tag ≤ last
          · rw [if_pos (by simpa using h2), if_pos h2]; exact .inl ⟨_, rfl, rfl⟩
          · rw [if_neg (by simpa using h2), if_neg h2]
            by_cases h3 : x.value.length > 255
            · rw [if_pos (by simp; omega), if_pos h3]; exact .inl ⟨_, rfl, rfl⟩
            · rw [if_neg (by simp; omega), if_neg h3, put_ok (by omega), Option.bind_some, ck_pos (by omega)]
              refine .inr ⟨_, rfl, ⟨by simp only; omega, by simp only; omega, by simp; omega⟩, by simp only; omega, ?_⟩
              simp only
              rw [show (i + 1).toNat = i.toNat + 1 by omega]
      · rw [if_neg (by simpa using hi)]
        refine .inl ⟨_, rfl, ?_⟩
        rw [List.drop_of_length_le (by omega), bldF]) (s := ([], 0, 0)) ⟨by simp, by simp, by simp⟩ (by simp only; omega)
  rw [this]
  simp
theorem p_rBuild (l : List Element) (hl : l.length ≤ 100000) : f_billingref10_Build l = some (bldF 0 [] l) := by
  unfold f_billingref10_Build
  have := loop_spec (step := fun st => f_billingref10_Build_l1 l st.1 st.2.1 st.2.2) (fun st : List UInt8 × Int × Int => some (bldF st.2.1 st.1 (l.drop st.2.2.toNat)))
    (fun st => 0 ≤ st.2.2 ∧ st.2.2 ≤ (l.length : Int) ∧ (st.1.length : Int) ≤ 257 * st.2.2) (fun st => ((l.length : Int) - st.2.2).toNat) (fun st hI => by
      obtain ⟨out, last, i⟩ := st
      obtain ⟨i0, i1, i2⟩ := hI
      simp only at i0 i1 i2 ⊢
      unfold f_billingref10_Build_l1
      by_cases hi : i < (l.length : Int)
      · rw [if_pos (by simpa using hi), ck_pos (by omega), drop_nth (show i.toNat < l.length by omega), bldF]
        generalize nth l i.toNat = x
        by_cases h1 : x.tag < 1 ∨ x.tag > 255
        · rw [if_pos (by simpa using h1), if_pos h1]; exact .inl ⟨_, rfl, rfl⟩
        · rw [if_neg (by simpa using h1), if_neg h1]
          by_cases h2 : x.tag ≤ last
          · rw [if_pos (by simpa using h2), if_pos h2]; exact .inl ⟨_, rfl, rfl⟩
          · rw [if_neg (by simpa using h2), if_neg h2]
            by_cases h3 : x.value.length > 255
            · rw [if_pos (by simp; omega), if_pos h3]; exact .inl ⟨_, rfl, rfl⟩
            · rw [if_neg (by simp; omega), if_neg h3, ck_pos (by simp; omega), ck_pos (by simp; omega), ck_pos (by omega)]
              refine .inr ⟨_, rfl, ⟨by simp only; omega, by simp only; omega, by simp; omega⟩, by simp only; omega, ?_⟩
              simp only
              rw [show (i + 1).toNat = i.toNat + 1 by omega]
      · rw [if_neg (by simpa using hi)]
        refine .inl ⟨_, rfl, ?_⟩
        rw [List.drop_of_length_le (by omega), bldF]) (s := ([], 0, 0)) ⟨by simp, by simp, by simp⟩ (by simp only; omega)
  rw [this]
  simp
def elmF (last : Int) (out : List Element) (b : List UInt8) : List Element × Int :=
  if b.length = 0 then (out, 0) else if (nth b 0).toNat = 0 then ([], 6) else if ((nth b 0).toNat : Int) ≤ last then ([], 9)
  else if b.length < 2 ∨ b.length - 2 < (nth b 1).toNat then ([], 2)
  else elmF (nth b 0).toNat (out ++ [⟨((nth b 0).toNat : Int), (b.drop 2).take (nth b 1).toNat⟩]) (b.drop (2 + (nth b 1).toNat))
termination_by b.length
decreasing_by simp; omega
theorem slice_dt (b : List UInt8) (i j : Nat) : (b.take j).drop i = (b.drop i).take (j - i) := List.drop_take
theorem p_Elements (b : List UInt8) (hb : b.length ≤ 1000000) : f_tagged_Elements b = some (elmF 0 [] b) := by
  unfold f_tagged_Elements
  have := loop_spec (step := fun st => f_tagged_Elements_l1 st.1 st.2.1 st.2.2) (fun st : List UInt8 × List Element × Int => some (elmF st.2.2 st.2.1 st.1))
    (fun st => st.1.length + st.2.1.length ≤ 1000000) (fun st => st.1.length) (fun st hI => by
      obtain ⟨b, out, last⟩ := st
      simp only at hI ⊢
      unfold f_tagged_Elements_l1
      rw [elmF]
      by_cases h0 : b.length = 0
      · rw [if_neg (by simp; simpa using h0), if_pos h0]; exact .inl ⟨_, rfl, rfl⟩
      · rw [if_pos (by simp; omega), if_neg h0, ck_pos (by omega)]
        simp only [show Int.toNat 0 = 0 from rfl, show Int.toNat 1 = 1 from rfl]
        by_cases h1 : (nth b 0).toNat = 0
        · rw [if_pos (by simp [h1]), if_pos h1]; exact .inl ⟨_, rfl, rfl⟩
        · rw [if_neg (by simp; omega), if_neg h1]
          by_cases h2 : ((nth b 0).toNat : Int) ≤ last
          · rw [if_pos (by simpa using h2), if_pos h2]; exact .inl ⟨_, rfl, rfl⟩
          · rw [if_neg (by simpa using h2), if_neg h2, ck_pos (by intro _; omega), ck_pos (by intro h; simp at h; omega)]
            by_cases h3 : b.length < 2 ∨ b.length - 2 < (nth b 1).toNat
            · rw [if_pos (by simp; omega), if_pos h3]; exact .inl ⟨_, rfl, rfl⟩
            · have ht : (Int.toNat (2 + ((nth b 1).toNat : Int))) = 2 + (nth b 1).toNat := by omega
              rw [if_neg (by simp; omega), if_neg h3, ck_pos (by omega), ck_pos (by omega), ck_pos (by omega), ht, ck_pos (by simp; omega), ck_pos (by simp; omega), ck_pos (by omega)]
              refine .inr ⟨_, rfl, by simp; omega, by simp; omega, ?_⟩
              simp only
              rw [show Int.toNat 2 = 2 from rfl, slice_dt, show 2 + (nth b 1).toNat - 2 = (nth b 1).toNat by omega]) (s := (b, [], 0)) (by simp; omega) (by simp only; omega)
  rw [this]
theorem nth_drop (b : List UInt8) (i j : Nat) (h : i + j < b.length) : nth (b.drop i) j = nth b (i + j) := by
  rw [nth_eq (by simp; omega), nth_eq h, List.getElem_drop]
theorem p_rElements (b : List UInt8) (hb : b.length ≤ 1000000) : f_billingref10_Elements b = some (elmF 0 [] b) := by
  unfold f_billingref10_Elements
  have := loop_spec (step := fun st => f_billingref10_Elements_l1 b st.1 st.2.1 st.2.2) (fun st : List Element × Int × Int => some (elmF st.2.1 st.1 (b.drop st.2.2.toNat)))
    (fun st => 0 ≤ st.2.2 ∧ st.2.2 ≤ (b.length : Int) ∧ (st.1.length : Int) ≤ st.2.2) (fun st => ((b.length : Int) - st.2.2).toNat) (fun st hI => by
      obtain ⟨out, last, i⟩ := st
      obtain ⟨i0, i1, i2⟩ := hI
      simp only at i0 i1 i2 ⊢
      unfold f_billingref10_Elements_l1
      rw [elmF]
      by_cases h0 : i < (b.length : Int)
      · have n0 : nth (b.drop i.toNat) 0 = nth b i.toNat := by rw [nth_drop _ _ _ (by omega)]; rfl
        have e0 : ¬ (b.drop i.toNat).length = 0 := by simp; omega
        rw [if_pos (by simpa using h0), if_neg e0, ck_pos (by omega), n0]
        by_cases h1 : (nth b i.toNat).toNat = 0
        · rw [if_pos (by simp [h1]), if_pos h1]; exact .inl ⟨_, rfl, rfl⟩
        · rw [if_neg (by simp; omega), if_neg h1]
          by_cases h2 : ((nth b i.toNat).toNat : Int) ≤ last
          · rw [if_pos (by simpa using h2), if_pos h2]; exact .inl ⟨_, rfl, rfl⟩
          · rw [if_neg (by simpa using h2), if_neg h2]
            have t1 : Int.toNat (i + 1) = i.toNat + 1 := by omega
            have t2 : Int.toNat (i + 2) = i.toNat + 2 := by omega
            rw [t1, t2]
            have hn := (nth b (i.toNat + 1)).toNat_lt
            rw [ck_pos (by omega), ck_pos (by intro _; omega), ck_pos (by intro _; omega), ck_pos (by intro h; simp at h; omega), ck_pos (by intro _; omega)]
            by_cases h3 : i + 1 = (b.length : Int) ∨ (b.length : Int) < i + 2 + ((nth b (i.toNat + 1)).toNat : Int)
            · have h3' : (b.drop i.toNat).length < 2 ∨ (b.drop i.toNat).length - 2 < (nth (b.drop i.toNat) 1).toNat := by
                by_cases h4 : i + 1 = (b.length : Int)
                · left; simp; omega
                · right
                  rw [nth_drop _ _ _ (by omega), List.length_drop]
                  omega
              rw [if_pos (by simpa using h3), if_pos h3']; exact .inl ⟨_, rfl, rfl⟩
            · have n1 : nth (b.drop i.toNat) 1 = nth b (i.toNat + 1) := by rw [nth_drop _ _ _ (by omega)]
              have h3' : ¬((b.drop i.toNat).length < 2 ∨ (b.drop i.toNat).length - 2 < (nth (b.drop i.toNat) 1).toNat) := by
                rw [n1, List.length_drop]; omega
              have t3 : Int.toNat (i + 2 + ((nth b (i.toNat + 1)).toNat : Int)) = i.toNat + 2 + (nth b (i.toNat + 1)).toNat := by omega
              rw [if_neg (by simpa using h3), if_neg h3', n1, t3, ck_pos (by omega), ck_pos (by omega), ck_pos (by omega), ck_pos (by omega), ck_pos (by omega), ck_pos (by omega), ck_pos (by simp; omega), ck_pos (by simp; omega), ck_pos (by omega), ck_pos (by omega)]
              refine .inr ⟨_, rfl, ⟨by simp only; omega, by simp only; omega, by simp; omega⟩, by simp only; omega, ?_⟩
              simp only
              rw [t3, slice_dt, show i.toNat + 2 + (nth b (i.toNat + 1)).toNat - (i.toNat + 2) = (nth b (i.toNat + 1)).toNat by omega, List.drop_drop, List.drop_drop, Nat.add_assoc i.toNat 2]
      · rw [if_neg (by simpa using h0), if_pos (by simp; omega)]; exact .inl ⟨_, rfl, rfl⟩) (s := ([], 0, 0)) ⟨by simp, by simp, by simp⟩ (by simp only; omega)
  rw [this]
  simp
/-! there and back -/
def okL : Int → List Element → Prop
  | _, [] => True
  | last, x :: r => 1 ≤ x.tag ∧ x.tag ≤ 255 ∧ last < x.tag ∧ x.value.length ≤ 255 ∧ okL x.tag r
def encL : List Element → List UInt8
  | [] => []
  | x :: r => [UInt8.ofInt x.tag, UInt8.ofInt (x.value.length : Int)] ++ x.value ++ encL r
theorem bld_of_ok : ∀ (l : List Element) (last : Int) (out : List UInt8), okL last l → bldF last out l = (out ++ encL l, 0)
  | [], last, out, _ => by simp [bldF, encL]
  | x :: r, last, out, h => by
    obtain ⟨h1, h2, h3, h4, h5⟩ := h
    rw [bldF, if_neg (by omega), if_neg (by omega), if_neg (by omega), bld_of_ok r _ _ h5, encL]
    simp
theorem ok_of_bld : ∀ (l : List Element) (last : Int) (out : List UInt8), (bldF last out l).2 = 0 → okL last l
  | [], last, out, _ => trivial
  | x :: r, last, out, h => by
    rw [bldF] at h
    split at h; · cases h
    split at h; · cases h
    split at h; · cases h
    exact ⟨by omega, by omega, by omega, by omega, ok_of_bld r _ _ h⟩
theorem byte_back {n : Int} (h : 0 ≤ n ∧ n ≤ 255) : ((UInt8.ofInt n).toNat : Int) = n := by
  have key : ∀ x : Fin 256, ((UInt8.ofInt (x.val : Int)).toNat : Int) = (x.val : Int) := by decide +kernel
  have := key ⟨n.toNat, by omega⟩
  simp only [Int.toNat_of_nonneg h.1] at this
  exact this
theorem elm_enc : ∀ (l : List Element) (last : Int) (out : List Element), okL last l → elmF last out (encL l) = (out ++ l, 0)
  | [], last, out, _ => by rw [elmF]; simp [encL]
  | x :: r, last, out, h => by
    obtain ⟨h1, h2, h3, h4, h5⟩ := h
    have e1 := byte_back (n := x.tag) (by omega)
    have e2 := byte_back (n := (x.value.length : Int)) (by omega)
    have n0 : nth (encL (x :: r)) 0 = UInt8.ofInt x.tag := rfl
    have n1 : nth (encL (x :: r)) 1 = UInt8.ofInt (x.value.length : Int) := rfl
    have hl : (encL (x :: r)).length = 2 + x.value.length + (encL r).length := by simp [encL]; omega
    rw [elmF, n0, n1, e1, show (UInt8.ofInt (x.value.length : Int)).toNat = x.value.length by omega, if_neg (by omega), if_neg (by omega), if_neg (by omega), if_neg (by omega)]
    have d1 : ((encL (x :: r)).drop 2).take x.value.length = x.value := by simp [encL]
    have d2 : (encL (x :: r)).drop (2 + x.value.length) = encL r := by
      rw [← List.drop_drop]; simp [encL]
    rw [d1, d2, elm_enc r _ _ h5]
    simp
theorem byte_fwd (x : UInt8) : UInt8.ofInt (x.toNat : Int) = x := by
  apply UInt8.toNat_inj.1
  have := byte_back (n := (x.toNat : Int)) (by have := x.toNat_lt; omega)
  omega
theorem elm_back : ∀ (n : Nat) (b : List UInt8) (last : Int) (out : List Element), b.length ≤ n → 0 ≤ last → (elmF last out b).2 = 0 → ∃ l, (elmF last out b).1 = out ++ l ∧ okL last l ∧ encL l = b
  | n, b, last, out, hn, hl, h => by
    rw [elmF] at h ⊢
    by_cases h0 : b.length = 0
    · rw [if_pos h0]
      exact ⟨[], by simp, trivial, by rw [List.length_eq_zero_iff] at h0; rw [h0]; rfl⟩
    · rw [if_neg h0] at h ⊢
      split at h; · cases h
      rename_i h1
      rw [if_neg h1]
      split at h; · cases h
      rename_i h2
      rw [if_neg h2]
      split at h; · cases h
      rename_i h3
      rw [if_neg h3]
      obtain ⟨n, rfl⟩ : ∃ m, n = m + 1 := ⟨n - 1, by omega⟩
      obtain ⟨l, e1, e2, e3⟩ := elm_back n _ _ _ (by rw [List.length_drop]; omega) (by omega) h
      have hb0 := (nth b 0).toNat_lt
      have hb1 := (nth b 1).toNat_lt
      have htl : ((b.drop 2).take (nth b 1).toNat).length = (nth b 1).toNat := by simp; omega
      refine ⟨⟨((nth b 0).toNat : Int), (b.drop 2).take (nth b 1).toNat⟩ :: l, by rw [e1]; simp, ⟨by simp only; omega, by simp only; omega, by simp only; omega, by simp only; omega, e2⟩, ?_⟩
      rw [encL, e3]
      simp only [htl, byte_fwd]
      have : b = [nth b 0, nth b 1] ++ ((b.drop 2).take (nth b 1).toNat ++ (b.drop 2).drop (nth b 1).toNat) := by
        rw [List.take_append_drop, nth_eq (show 0 < b.length by omega), nth_eq (show 1 < b.length by omega)]
        match b, h3 with
        | x :: y :: r, _ => rfl
        | [x], h3 => simp at h3
        | [], h3 => simp at h3
      conv => rhs; rw [this]
      rw [List.drop_drop, List.append_assoc]
theorem p_Same10 (l : List Element) (hl : l.length ≤ 1000000) : f_billingref10_Same l l = some true := by
  unfold f_billingref10_Same
  rw [if_neg (by simp), loop_all l (fun _ => true) true true (by omega) (fun i h0 h1 => ?_) (fun i hi => ?_)]
  · simp
  · unfold f_billingref10_Same_l1
    rw [if_pos (by simpa using h1), ck_pos (by omega), ck_pos (by omega), ck_pos (by intro _; omega), ck_pos (by intro _; omega), if_neg (by simp), ck_pos (by omega)]
    rfl
  · unfold f_billingref10_Same_l1
    rw [if_neg (by simp; omega)]
theorem awake_true : f_billinglaw10_awake = some true := by kernel_rfl
theorem elm_len {b : List UInt8} (h : b.length ≤ 3000) : (elmF 0 [] b).1.length ≤ 3000 := by
  have key : ∀ (n : Nat) (b : List UInt8) (last : Int) (out : List Element), b.length ≤ n → (elmF last out b).1.length ≤ out.length + b.length := by
    intro n
    induction n with
    | zero => intro b last out hn; rw [elmF, if_pos (by omega)]; simp
    | succ n ih =>
      intro b last out hn
      rw [elmF]
      split
      · simp
      · split
        · simp
        · split
          · simp
          · split
            · simp
            · have := ih (b.drop (2 + (nth b 1).toNat)) (nth b 0).toNat (out ++ [⟨((nth b 0).toNat : Int), (b.drop 2).take (nth b 1).toNat⟩]) (by rw [List.length_drop]; omega)
              simp at this ⊢
              omega
  have := key _ b 0 [] (Nat.le_refl _)
  simp at this
  omega
theorem elements_true (b : List UInt8) : f_billinglaw10_TaggedElements b = some true := by
  unfold f_billinglaw10_TaggedElements
  rw [awake_true]
  by_cases h : (b.length : Int) > 3000
  · rw [if_pos (by simpa using h)]; rfl
  · rw [if_neg (by simpa using h), p_Elements b (by omega), p_rElements b (by omega)]
    simp only [Option.bind_some]
    have hl := elm_len (b := b) (by omega)
    rw [p_Same10 _ (by omega)]
    simp only [Option.bind_some]
    rw [if_neg (by simp)]
    by_cases he : (elmF 0 [] b).2 = 0
    · rw [if_neg (by simpa using he)]
      obtain ⟨l, e1, e2, e3⟩ := elm_back _ b 0 [] (Nat.le_refl _) (by omega) he
      rw [List.nil_append] at e1
      rw [p_Build _ (by omega), e1, bld_of_ok l 0 [] e2, e3]
      simp [gcall_mk]
    · rw [if_pos (by simpa using he)]
theorem p_light (l : List Element) (hl : l.length < 9223372036854775808) : ∃ r, f_billinglaw10_light l = some r ∧ (r = true → l.length ≤ 300) := by
  unfold f_billinglaw10_light
  refine loop_post (fun r => r = true → l.length ≤ 300) (fun st : Int × Int => 0 ≤ st.2 ∧ st.2 ≤ 301 ∧ st.2 ≤ (l.length : Int)) (fun st => (301 - st.2).toNat) (fun st hI => ?_) ⟨by simp, by simp, by simp⟩ (by simp)
  obtain ⟨n, i⟩ := st
  obtain ⟨i0, i1, i2⟩ := hI
  simp only at i0 i1 i2 ⊢
  unfold f_billinglaw10_light_l1
  by_cases hc : (((decide (i < (l.length : Int))) && (decide (i ≤ 300))) && (decide (n ≤ 3000))) = true
  · have hc' := hc
    simp only [Bool.and_eq_true, decide_eq_true_eq] at hc'
    rw [if_pos hc, ck_pos (by omega), i64w (n := i + 1) (by omega) (by omega)]
    exact .inr ⟨_, rfl, ⟨by simp only; omega, by simp only; omega, by simp only; omega⟩, by simp only; omega⟩
  · rw [if_neg hc]
    refine .inl ⟨_, rfl, fun h => ?_⟩
    simp only [Bool.and_eq_true, decide_eq_true_eq] at h
    omega
theorem builds_true (l : List Element) (hl : l.length < 9223372036854775808) : f_billinglaw10_TaggedBuilds l = some true := by
  unfold f_billinglaw10_TaggedBuilds
  obtain ⟨r, e, hr⟩ := p_light l hl
  rw [e, awake_true]
  simp only [Option.bind_some]
  cases r with
  | false => simp
  | true =>
    have hn := hr rfl
    rw [if_neg (by simp), p_Build l (by omega), p_rBuild l (by omega)]
    simp only [Option.bind_some]
    rw [if_neg (by simp)]
    by_cases he : (bldF 0 [] l).2 = 0
    · rw [if_neg (by simpa using he)]
      have ho := ok_of_bld l 0 [] he
      have hb : ∀ (l : List Element) (last : Int), okL last l → (encL l).length ≤ 257 * l.length := by
        intro l
        induction l with
        | nil => intro last _; simp [encL]
        | cons x r ih =>
          intro last h
          obtain ⟨_, _, _, h4, h5⟩ := h
          have := ih _ h5
          simp [encL]
          omega
      have := hb l 0 ho
      rw [bld_of_ok l 0 [] ho]
      simp only [List.nil_append]
      rw [p_Elements _ (by omega), elm_enc l 0 [] ho]
      simp only [Option.bind_some, List.nil_append, beq_self_eq_true]
      rw [p_Same10 l (by omega)]
      simp [gcall_mk]
    · rw [if_pos (by simpa using he)]
end Go.Proofs.YtmdpmallgcekgaaDoor

set_option linter.unusedSimpArgs false
set_option linter.unusedVariables false
namespace Go.Proofs.YtmdpmallgcekgaaDoor
open Go.RowKit Go.Abs
/-! the bytes of records -/
def byG (n : Int) (out : List UInt8) : List UInt8 := if n > 0 then byG (n / 256) (UInt8.ofInt n :: out) else out
termination_by n.toNat
decreasing_by omega
def byF (n : Int) : List UInt8 := byG n []
theorem pow256 (k : Nat) : (256 : Int) ^ (k + 1) = 256 ^ k * 256 := Int.pow_succ _ _
theorem byG_len : ∀ (k : Nat) (n : Int) (out : List UInt8), n < 256 ^ k → (byG n out).length ≤ out.length + k
  | k, n, out, h => by
    rw [byG]
    split
    · match k, h with
      | 0, h => simp at h; omega
      | k + 1, h =>
        have := byG_len k (n / 256) (UInt8.ofInt n :: out) (by rw [pow256] at h; exact Int.ediv_lt_of_lt_mul (by omega) h)
        simp at this ⊢; omega
    · omega
theorem byF_len {n : Int} (h : n ≤ 9223372036854775807) : (byF n).length ≤ 8 := by
  have := byG_len 8 n [] (by rw [show (256 : Int) ^ 8 = 18446744073709551616 from by decide]; omega)
  simpa [byF] using this
theorem ofInt_mod {n : Int} (h : 0 ≤ n) : UInt8.ofInt (n % 256) = UInt8.ofInt n := by
  apply UInt8.toNat_inj.1
  simp [UInt8.ofInt]
theorem p_bytes (n : Int) (h : n ≤ 9223372036854775807) : f_tagged_bytes n = some (byF n) := by
  unfold f_tagged_bytes byF
  exact loop_spec (step := fun st => f_tagged_bytes_l1 st.1 st.2) (fun st : Int × List UInt8 => some (byG st.1 st.2)) (fun st => ∃ k, st.2.length + k ≤ 8 ∧ st.1 < 256 ^ k) (fun st => st.1.toNat) (fun st hI => by
    obtain ⟨n, out⟩ := st
    obtain ⟨k, i0, i1⟩ := hI
    simp only at i0 i1 ⊢
    unfold f_tagged_bytes_l1
    rw [byG]
    by_cases hn : n > 0
    · rw [if_pos (by simpa using hn), if_pos hn, ck_pos (by simp; omega), ck_pos (by decide), show (2 : Int) ^ Int.toNat 8 = 256 from rfl]
      match k, i1 with
      | 0, i1 => simp at i1; omega
      | k + 1, i1 => exact .inr ⟨_, rfl, ⟨k, by simp; omega, by rw [pow256] at i1; exact Int.ediv_lt_of_lt_mul (by omega) i1⟩, by simp only; omega, rfl⟩
    · rw [if_neg (by simpa using hn), if_neg hn]
      exact .inl ⟨_, rfl, rfl⟩) ⟨8, by simp, by simp only; rw [show (256 : Int) ^ 8 = 18446744073709551616 from by decide]; omega⟩ (by simp only; omega)
theorem p_shortest (n : Int) (h : n ≤ 9223372036854775807) : f_billingref10_shortest n = some (byF n) := by
  unfold f_billingref10_shortest byF
  exact loop_spec (step := fun st => f_billingref10_shortest_l1 st.1 st.2) (fun st : Int × List UInt8 => some (byG st.1 st.2)) (fun st => st.1 ≤ 9223372036854775807 ∧ ∃ k, st.2.length + k ≤ 8 ∧ st.1 < 256 ^ k) (fun st => st.1.toNat) (fun st hI => by
    obtain ⟨n, out⟩ := st
    obtain ⟨i2, k, i0, i1⟩ := hI
    simp only at i0 i1 i2 ⊢
    unfold f_billingref10_shortest_l1
    rw [byG]
    by_cases hn : n > 0
    · have ht : Int.tdiv n 256 = n / 256 := Int.tdiv_eq_ediv_of_nonneg (by omega)
      have hm : Int.tmod n 256 = n % 256 := Int.tmod_eq_emod_of_nonneg (by omega)
      rw [if_pos (by simpa using hn), if_pos hn, ht, hm, ofInt_mod (by omega), ck_pos (by decide), ck_pos (by simp; omega), ck_pos (by omega)]
      match k, i1 with
      | 0, i1 => simp at i1; omega
      | k + 1, i1 => exact .inr ⟨_, rfl, ⟨by simp only; omega, k, by simp; omega, by rw [pow256] at i1; exact Int.ediv_lt_of_lt_mul (by omega) i1⟩, by simp only; omega, rfl⟩
    · rw [if_neg (by simpa using hn), if_neg hn]
      exact .inl ⟨_, rfl, rfl⟩) ⟨h, 8, by simp, by simp only; rw [show (256 : Int) ^ 8 = 18446744073709551616 from by decide]; omega⟩ (by simp only; omega)
theorem pack_post (s : List UInt8) (hs : s.length < 1000000000) : ∃ r, f_digits_Pack s = some r ∧ r.1.length ≤ 8 ∧ (validB s = false → r.1 = []) := by
  unfold f_digits_Pack
  rw [p_Valid s hs, Option.bind_some]
  cases hv : validB s with
  | false => exact ⟨_, by rw [if_pos (by rfl)], by simp, fun _ => rfl⟩
  | true =>
    have hl := validB_len hv
    rw [if_neg (by simp)]
    have := loop_post (step := fun st => f_digits_Pack_l1 s st.1 st.2) (fun r : List UInt8 × Int => r.1.length ≤ 8) (fun st : List UInt8 × Int => 0 ≤ st.2 ∧ (2 * st.1.length : Int) = st.2 ∧ st.2 ≤ (s.length : Int) + 1) (fun st => ((s.length : Int) - st.2).toNat) (fun st hI => by
      obtain ⟨b, i⟩ := st
      obtain ⟨i0, i1, i2⟩ := hI
      simp only at i0 i1 i2 ⊢
      unfold f_digits_Pack_l1
      by_cases hi : i < (s.length : Int)
      · rw [if_pos (by simpa using hi), ck_pos (by omega)]
        by_cases hj : i + 1 < (s.length : Int)
        · rw [if_pos (by simpa using hj), ck_pos (by omega), ck_pos (by omega)]
          unfold f_digits_Pack_j1
          rw [ck_pos (by omega), ck_pos (by decide), ck_pos (by simp; omega), ck_pos (by omega)]
          exact .inr ⟨_, rfl, ⟨by simp only; omega, by simp; omega, by simp only; omega⟩, by simp only; omega⟩
        · rw [if_neg (by simpa using hj)]
          unfold f_digits_Pack_j1
          rw [ck_pos (by omega), ck_pos (by decide), ck_pos (by simp; omega), ck_pos (by omega)]
          exact .inr ⟨_, rfl, ⟨by simp only; omega, by simp; omega, by simp only; omega⟩, by simp only; omega⟩
      · rw [if_neg (by simpa using hi)]
        refine .inl ⟨_, rfl, ?_⟩
        simp only
        omega) (s := ([], 0)) ⟨by simp, by simp, by simp; omega⟩ (by simp only; omega)
    obtain ⟨r, h1, h2⟩ := this
    exact ⟨r, h1, h2, fun h => by cases h⟩
theorem pack_same (s : List UInt8) (hs : s.length < 1000000000) : f_billingref02_Pack s = f_digits_Pack s := by
  unfold f_billingref02_Pack f_digits_Pack
  rw [p_Valid s hs, p_rValid s hs]
  rfl
def pkF (s : List UInt8) : List UInt8 := ((f_digits_Pack s).getD ([], 0)).1
theorem p_Pack (s : List UInt8) (hs : s.length < 1000000000) : ∃ e, f_digits_Pack s = some (pkF s, e) := by
  obtain ⟨r, h, _⟩ := pack_post s hs
  exact ⟨r.2, by unfold pkF; rw [h]; rfl⟩
theorem pkF_len (s : List UInt8) (hs : s.length < 1000000000) : (pkF s).length ≤ 8 := by
  obtain ⟨r, h, h1, _⟩ := pack_post s hs
  unfold pkF; rw [h]; exact h1
theorem pkF_nil : pkF [] = [] := by
  obtain ⟨r, h, _, h2⟩ := pack_post [] (by simp)
  unfold pkF; rw [h]; exact h2 rfl
def one (tag : Int) (v : List UInt8) : List Element := if v.length = 0 then [] else [⟨tag, v⟩]
theorem encL_app : ∀ x y : List Element, encL (x ++ y) = encL x ++ encL y
  | [], y => rfl
  | a :: x, y => by rw [List.cons_append, encL, encL, encL_app x y]; simp only [List.append_assoc]
theorem one_len (tag : Int) (v : List UInt8) (h : v.length ≤ 8) : (encL (one tag v)).length ≤ 10 := by
  unfold one; split
  · simp [encL]
  · simp [encL]; omega
theorem p_add (tag : Int) (v out : List UInt8) (h : out.length + v.length ≤ 900000000) : g_tagged_Encode_1 tag v out = some (out ++ encL (one tag v)) := by
  unfold g_tagged_Encode_1 one
  by_cases hv : v.length = 0
  · rw [if_neg (by simp; exact List.length_eq_zero_iff.1 hv), if_pos hv]; simp [encL]
  · rw [if_pos (by simp; omega), if_neg hv]
    unfold g_tagged_put_v2
    rw [ck_pos (by simp; omega), ck_pos (by simp; omega)]
    simp [encL]
def flI (r : Record) : Int := (if r.last = true then 1 else 0) + (if r.inbound = true then 2 else 0)
def valsF (r : Record) : List (List UInt8) := [[], byF r.kind, byF r.source, byF r.serial, pkF r.a, pkF r.b, byF r.start, byF r.units, byF r.call, byF r.part, byF r.trunk, byF (flI r)]
def elsF (r : Record) : List Element := one 1 (byF r.kind) ++ one 2 (byF r.source) ++ one 3 (byF r.serial) ++ one 4 (pkF r.a) ++ one 5 (pkF r.b) ++ one 6 (byF r.start) ++ one 7 (byF r.units) ++ one 8 (byF r.call) ++ one 9 (byF r.part) ++ one 10 (byF r.trunk) ++ one 11 (byF (flI r))
def bytesT (r : Record) : List UInt8 := [UInt8.ofInt (((encL (elsF r)).length : Int) / 256), UInt8.ofInt ((encL (elsF r)).length : Int)] ++ encL (elsF r)
theorem p_flag (b : Bool) (n : Int) : f_tagged_flag b n = some (if b = true then n else 0) := by unfold f_tagged_flag; cases b <;> rfl
theorem p_flags (r : Record) : f_billingref10_flags r = some (flI r) := by
  unfold f_billingref10_flags flI f_billingref10_flags_j1
  cases r.last <;> cases r.inbound <;> rfl
theorem flI_le (r : Record) : 0 ≤ flI r ∧ flI r ≤ 3 := by unfold flI; cases r.last <;> cases r.inbound <;> decide
theorem p_Encode10 (r : Record) (ha : r.a.length < 1000000000) (hb : r.b.length < 1000000000) : f_tagged_Encode r = some (if errF r = 0 then bytesT r else [], errF r) := by
  unfold f_tagged_Encode
  rw [p_Encode r ha hb, Option.bind_some]
  by_cases he : errF r = 0
  · have g := errF_good he
    have gs := g.source; have gr := g.serial; have gk := g.kind; have gt := g.start; have gu := g.units; have gc := g.call; have gp := g.part; have gkk := g.trunk
    obtain ⟨e1, h1⟩ := p_Pack r.a ha
    obtain ⟨e2, h2⟩ := p_Pack r.b hb
    have k1 := pkF_len r.a ha
    have k2 := pkF_len r.b hb
    have hf := flI_le r
    have b1 := byF_len (n := r.kind) (by omega); have b2 := byF_len (n := r.source) (by omega); have b3 := byF_len (n := r.serial) (by omega); have b4 := byF_len (n := r.start) (by omega)
    have b5 := byF_len (n := r.units) (by omega); have b6 := byF_len (n := r.call) (by omega); have b7 := byF_len (n := r.part) (by omega); have b8 := byF_len (n := r.trunk) (by omega); have b9 := byF_len (n := flI r) (by omega)
    have o1 := one_len 1 _ b1; have o2 := one_len 2 _ b2; have o3 := one_len 3 _ b3; have o4 := one_len 4 _ k1; have o5 := one_len 5 _ k2; have o6 := one_len 6 _ b4
    have o7 := one_len 7 _ b5; have o8 := one_len 8 _ b6; have o9 := one_len 9 _ b7; have o10 := one_len 10 _ b8; have o11 := one_len 11 _ b9
    rw [if_neg (by simp [he]), h1, h2, if_pos he, he]
    simp only [Option.bind_some, p_flag]
    rw [ck_pos (by decide), show (List.replicate (Int.toNat 2) 0 : List UInt8) = [0, 0] from rfl]
    rw [p_bytes _ (by omega), Option.bind_some, p_add _ _ _ (by simp; omega), Option.bind_some, p_bytes _ (by omega), Option.bind_some, p_add _ _ _ (by simp; omega), Option.bind_some]
    rw [p_bytes _ (by omega), Option.bind_some, p_add _ _ _ (by simp; omega), Option.bind_some, p_add _ _ _ (by simp; omega), Option.bind_some, p_add _ _ _ (by simp; omega), Option.bind_some]
    rw [p_bytes _ (by omega), Option.bind_some, p_add _ _ _ (by simp; omega), Option.bind_some, p_bytes _ (by omega), Option.bind_some, p_add _ _ _ (by simp; omega), Option.bind_some]
    rw [p_bytes _ (by omega), Option.bind_some, p_add _ _ _ (by simp; omega), Option.bind_some, p_bytes _ (by omega), Option.bind_some, p_add _ _ _ (by simp; omega), Option.bind_some]
    rw [p_bytes _ (by omega), Option.bind_some, p_add _ _ _ (by simp; omega), Option.bind_some]
    rw [show ((if r.last = true then 1 else 0) + (if r.inbound = true then 2 else 0) : Int) = flI r from rfl]
    rw [ck_pos (by omega), p_bytes _ (by omega), Option.bind_some, p_add _ _ _ (by simp; omega), Option.bind_some]
    have e : ([0, 0] ++ encL (one 1 (byF r.kind)) ++ encL (one 2 (byF r.source)) ++ encL (one 3 (byF r.serial)) ++ encL (one 4 (pkF r.a)) ++ encL (one 5 (pkF r.b)) ++ encL (one 6 (byF r.start)) ++ encL (one 7 (byF r.units)) ++ encL (one 8 (byF r.call)) ++ encL (one 9 (byF r.part)) ++ encL (one 10 (byF r.trunk)) ++ encL (one 11 (byF (flI r))) : List UInt8) = 0 :: 0 :: encL (elsF r) := by
      unfold elsF
      simp only [encL_app, List.append_assoc, List.cons_append, List.nil_append]
    have hl : (encL (elsF r)).length ≤ 110 := by
      unfold elsF
      simp only [encL_app, List.length_append]
      omega
    rw [e]
    rw [ck_pos (by simp; omega), ck_pos (by decide), ck_pos (by simp; omega), ck_pos (by simp), ck_pos (by simp; omega), ck_pos (by simp)]
    have e3 : (((0 :: 0 :: encL (elsF r) : List UInt8).length : Int) - 2) = ((encL (elsF r)).length : Int) := by simp; omega
    rw [e3, show (2 : Int) ^ Int.toNat 8 = 256 from rfl]
    rfl
  · rw [if_pos (by simpa using he)]; simp [he]
theorem okL_app : ∀ (x y : List Element) (last m : Int), okL last x → (∀ e, e ∈ x → e.tag ≤ m) → last ≤ m → okL m y → okL last (x ++ y)
  | [], y, last, m, _, _, hm, hy => by
    cases y with
    | nil => trivial
    | cons a y => exact ⟨hy.1, hy.2.1, by have := hy.2.2.1; omega, hy.2.2.2⟩
  | a :: x, y, last, m, hx, hm, hl, hy => ⟨hx.1, hx.2.1, hx.2.2.1, hx.2.2.2.1, okL_app x y a.tag m hx.2.2.2.2 (fun e he => hm e (List.mem_cons_of_mem _ he)) (hm a List.mem_cons_self) hy⟩
theorem okL_one {tag last : Int} {v : List UInt8} (h : 1 ≤ tag ∧ tag ≤ 255 ∧ last < tag) (hv : v.length ≤ 8) : okL last (one tag v) := by
  unfold one; split
  · trivial
  · exact ⟨h.1, h.2.1, h.2.2, by simp only; omega, trivial⟩
theorem one_tag {tag m : Int} {v : List UInt8} (h : tag ≤ m) : ∀ e, e ∈ one tag v → e.tag ≤ m := by
  intro e he
  unfold one at he
  split at he
  · cases he
  · rw [List.mem_singleton] at he; subst he; exact h
theorem els_ok {r : Record} (g : Good r) (ha : r.a.length < 1000000000) (hb : r.b.length < 1000000000) : okL 0 (elsF r) := by
  have gs := g.source; have gr := g.serial; have gk := g.kind; have gt := g.start; have gu := g.units; have gc := g.call; have gp := g.part; have gkk := g.trunk
  have k1 := pkF_len r.a ha
  have k2 := pkF_len r.b hb
  have hf := flI_le r
  have b1 := byF_len (n := r.kind) (by omega); have b2 := byF_len (n := r.source) (by omega); have b3 := byF_len (n := r.serial) (by omega); have b4 := byF_len (n := r.start) (by omega)
  have b5 := byF_len (n := r.units) (by omega); have b6 := byF_len (n := r.call) (by omega); have b7 := byF_len (n := r.part) (by omega); have b8 := byF_len (n := r.trunk) (by omega); have b9 := byF_len (n := flI r) (by omega)
  unfold elsF
  simp only [List.append_assoc]
  refine okL_app _ _ 0 1 (okL_one (by omega) b1) (one_tag (by omega)) (by omega) ?_
  refine okL_app _ _ 1 2 (okL_one (by omega) b2) (one_tag (by omega)) (by omega) ?_
  refine okL_app _ _ 2 3 (okL_one (by omega) b3) (one_tag (by omega)) (by omega) ?_
  refine okL_app _ _ 3 4 (okL_one (by omega) k1) (one_tag (by omega)) (by omega) ?_
  refine okL_app _ _ 4 5 (okL_one (by omega) k2) (one_tag (by omega)) (by omega) ?_
  refine okL_app _ _ 5 6 (okL_one (by omega) b4) (one_tag (by omega)) (by omega) ?_
  refine okL_app _ _ 6 7 (okL_one (by omega) b5) (one_tag (by omega)) (by omega) ?_
  refine okL_app _ _ 7 8 (okL_one (by omega) b6) (one_tag (by omega)) (by omega) ?_
  refine okL_app _ _ 8 9 (okL_one (by omega) b7) (one_tag (by omega)) (by omega) ?_
  refine okL_app _ _ 9 10 (okL_one (by omega) b8) (one_tag (by omega)) (by omega) ?_
  exact okL_one (by omega) b9
theorem els_count (r : Record) : (elsF r).length ≤ 11 := by
  have : ∀ t v, (one t v).length ≤ 1 := fun t v => by unfold one; split <;> simp
  unfold elsF
  simp only [List.length_append]
  have h1 := this 1 (byF r.kind); have h2 := this 2 (byF r.source); have h3 := this 3 (byF r.serial); have h4 := this 4 (pkF r.a); have h5 := this 5 (pkF r.b); have h6 := this 6 (byF r.start)
  have h7 := this 7 (byF r.units); have h8 := this 8 (byF r.call); have h9 := this 9 (byF r.part); have h10 := this 10 (byF r.trunk); have h11 := this 11 (byF (flI r))
  omega
theorem enc_len {r : Record} (g : Good r) (ha : r.a.length < 1000000000) (hb : r.b.length < 1000000000) : (encL (elsF r)).length ≤ 110 := by
  have gs := g.source; have gr := g.serial; have gk := g.kind; have gt := g.start; have gu := g.units; have gc := g.call; have gp := g.part; have gkk := g.trunk
  have hf := flI_le r
  have o1 := one_len 1 _ (byF_len (n := r.kind) (by omega)); have o2 := one_len 2 _ (byF_len (n := r.source) (by omega)); have o3 := one_len 3 _ (byF_len (n := r.serial) (by omega)); have o4 := one_len 4 _ (pkF_len r.a ha); have o5 := one_len 5 _ (pkF_len r.b hb); have o6 := one_len 6 _ (byF_len (n := r.start) (by omega))
  have o7 := one_len 7 _ (byF_len (n := r.units) (by omega)); have o8 := one_len 8 _ (byF_len (n := r.call) (by omega)); have o9 := one_len 9 _ (byF_len (n := r.part) (by omega)); have o10 := one_len 10 _ (byF_len (n := r.trunk) (by omega)); have o11 := one_len 11 _ (byF_len (n := flI r) (by omega))
  unfold elsF
  simp only [encL_app, List.length_append]
  omega
theorem p_j2 {r : Record} (g : Good r) (ha : r.a.length < 1000000000) (hb : r.b.length < 1000000000) : f_billingref10_Encode_j2 (elsF r) = some (bytesT r, 0) := by
  have hl := enc_len g ha hb
  unfold f_billingref10_Encode_j2
  rw [p_rBuild _ (by have := els_count r; omega), bld_of_ok _ 0 [] (els_ok g ha hb), Option.bind_some, List.nil_append]
  have ht : Int.tdiv ((encL (elsF r)).length : Int) 256 = ((encL (elsF r)).length : Int) / 256 := Int.tdiv_eq_ediv_of_nonneg (by omega)
  have hm : Int.tmod ((encL (elsF r)).length : Int) 256 = ((encL (elsF r)).length : Int) % 256 := Int.tmod_eq_emod_of_nonneg (by omega)
  rw [ht, hm, ofInt_mod (by omega), ck_pos (by omega), ck_pos (by decide), ck_pos (by simp; omega)]
  rfl
theorem p_rEncode10 (r : Record) (ha : r.a.length < 1000000000) (hb : r.b.length < 1000000000) : f_billingref10_Encode r = some (if errF r = 0 then bytesT r else [], errF r) := by
  unfold f_billingref10_Encode
  rw [p_rError r ha hb, Option.bind_some]
  by_cases he : errF r = 0
  · have g := errF_good he
    have gs := g.source; have gr := g.serial; have gk := g.kind; have gt := g.start; have gu := g.units; have gc := g.call; have gp := g.part; have gkk := g.trunk
    have hf := flI_le r
    rw [if_neg (by simp [he]), if_pos he, he, pack_same _ ha, pack_same _ hb]
    obtain ⟨e1, h1⟩ := p_Pack r.a ha
    obtain ⟨e2, h2⟩ := p_Pack r.b hb
    rw [h1, Option.bind_some]
    have hj : f_billingref10_Encode_j1 r (pkF r.a, e1) (pkF r.b) = some (bytesT r, 0) := by
      unfold f_billingref10_Encode_j1
      rw [p_shortest _ (by omega), Option.bind_some, p_shortest _ (by omega), Option.bind_some, p_shortest _ (by omega), Option.bind_some, p_shortest _ (by omega), Option.bind_some, p_shortest _ (by omega), Option.bind_some, p_shortest _ (by omega), Option.bind_some, p_shortest _ (by omega), Option.bind_some, p_shortest _ (by omega), Option.bind_some, p_flags, Option.bind_some, p_shortest _ (by omega), Option.bind_some]
      have step : ∀ (acc : List Element) (k : Nat), acc.length ≤ 12 → 1 ≤ k → k < 12 → f_billingref10_Encode_l1 (pkF r.a, e1) (pkF r.b) (byF r.kind) (byF r.source) (byF r.serial) (byF r.start) (byF r.units) (byF r.call) (byF r.part) (byF r.trunk) (byF (flI r)) acc (k : Int) = some (.inl (acc ++ one (k : Int) (nth (valsF r) k), (k : Int) + 1)) := by
        intro acc k ha h1 h2
        unfold f_billingref10_Encode_l1
        rw [if_pos (by simp; omega), ck_pos (by simp; omega), Int.toNat_natCast]
        show (if (decide (((nth (valsF r) k).length : Int) > 0)) = true then _ else _) = _
        unfold one
        by_cases hv : (nth (valsF r) k).length = 0
        · rw [if_neg (by simp; exact List.length_eq_zero_iff.1 hv), if_pos hv, ck_pos (by omega), List.append_nil]
        · rw [if_pos (by simp; omega), if_neg hv, ck_pos (by simp; omega), ck_pos (by simp; omega), ck_pos (by omega)]
          rfl
      have oneS : ∀ (n : Nat) (acc : List Element) (k : Nat), acc.length ≤ 12 → 1 ≤ k → k < 12 →
          iter (fun s => f_billingref10_Encode_l1 (pkF r.a, e1) (pkF r.b) (byF r.kind) (byF r.source) (byF r.serial) (byF r.start) (byF r.units) (byF r.call) (byF r.part) (byF r.trunk) (byF (flI r)) s.1 s.2) (n + 1) (acc, (k : Int)) =
          iter (fun s => f_billingref10_Encode_l1 (pkF r.a, e1) (pkF r.b) (byF r.kind) (byF r.source) (byF r.serial) (byF r.start) (byF r.units) (byF r.call) (byF r.part) (byF r.trunk) (byF (flI r)) s.1 s.2) n (acc ++ one (k : Int) (nth (valsF r) k), ((k + 1 : Nat) : Int)) := by
        intro n acc k ha h1 h2
        conv => lhs; unfold iter
        rw [step acc k ha h1 h2]
        rfl
      have stop : ∀ (n : Nat) (acc : List Element) (q : List UInt8 × Int), f_billingref10_Encode_l1 (pkF r.a, e1) (pkF r.b) (byF r.kind) (byF r.source) (byF r.serial) (byF r.start) (byF r.units) (byF r.call) (byF r.part) (byF r.trunk) (byF (flI r)) acc 12 = some (.inr q) → iter (fun s => f_billingref10_Encode_l1 (pkF r.a, e1) (pkF r.b) (byF r.kind) (byF r.source) (byF r.serial) (byF r.start) (byF r.units) (byF r.call) (byF r.part) (byF r.trunk) (byF (flI r)) s.1 s.2) (n + 1) (acc, ((11 + 1 : Nat) : Int)) = some q := by
        intro n acc q h
        unfold iter
        simp only [show ((11 + 1 : Nat) : Int) = 12 from rfl, h]
      have len1 : ∀ t v, (one t v).length ≤ 1 := fun t v => by unfold one; split <;> simp
      have l1 := len1 1 (byF r.kind); have l2 := len1 2 (byF r.source); have l3 := len1 3 (byF r.serial); have l4 := len1 4 (pkF r.a); have l5 := len1 5 (pkF r.b); have l6 := len1 6 (byF r.start)
      have l7 := len1 7 (byF r.units); have l8 := len1 8 (byF r.call); have l9 := len1 9 (byF r.part); have l10 := len1 10 (byF r.trunk); have l11 := len1 11 (byF (flI r))
      unfold loop
      rw [show (18446744073709551616 : Nat) = 18446744073709551604 + 12 from rfl]
      rw [show (([] : List Element), (1 : Int)) = (([] : List Element), ((1 : Nat) : Int)) from rfl]
      rw [oneS _ _ 1 (by simp) (by omega) (by omega), show nth (valsF r) 1 = byF r.kind from rfl, oneS _ _ 2 (by simp; omega) (by omega) (by omega), show nth (valsF r) (1 + 1) = byF r.source from rfl]
      rw [oneS _ _ 3 (by simp; omega) (by omega) (by omega), show nth (valsF r) (2 + 1) = byF r.serial from rfl, oneS _ _ 4 (by simp; omega) (by omega) (by omega), show nth (valsF r) (3 + 1) = pkF r.a from rfl]
      rw [oneS _ _ 5 (by simp; omega) (by omega) (by omega), show nth (valsF r) (4 + 1) = pkF r.b from rfl, oneS _ _ 6 (by simp; omega) (by omega) (by omega), show nth (valsF r) (5 + 1) = byF r.start from rfl]
      rw [oneS _ _ 7 (by simp; omega) (by omega) (by omega), show nth (valsF r) (6 + 1) = byF r.units from rfl, oneS _ _ 8 (by simp; omega) (by omega) (by omega), show nth (valsF r) (7 + 1) = byF r.call from rfl]
      rw [oneS _ _ 9 (by simp; omega) (by omega) (by omega), show nth (valsF r) (8 + 1) = byF r.part from rfl, oneS _ _ 10 (by simp; omega) (by omega) (by omega), show nth (valsF r) (9 + 1) = byF r.trunk from rfl]
      rw [oneS _ _ 11 (by simp; omega) (by omega) (by omega), show nth (valsF r) (10 + 1) = byF (flI r) from rfl]
      refine stop _ _ _ ?_
      unfold f_billingref10_Encode_l1
      rw [if_neg (by simp)]
      exact (congrArg (Option.map fun z => Sum.inr z) (p_j2 g ha hb)).trans rfl
    by_cases hbn : r.b = []
    · rw [if_neg (by simp [hbn])]
      rw [hbn, pkF_nil] at hj
      exact hj
    · rw [if_pos (by simpa using hbn), h2, Option.bind_some]
      exact hj
  · rw [if_pos (by simpa using he), if_neg he]
def Short (r : Record) : Prop := (r.a.length : Int) ≤ 200 ∧ (r.b.length : Int) ≤ 200
instance (r : Record) : Decidable (Short r) := inferInstanceAs (Decidable (_ ∧ _))
theorem p_short (r : Record) : f_billinglaw10_short r = some (decide (Short r)) := by
  unfold f_billinglaw10_short
  congr 1
  rw [Bool.eq_iff_iff, decide_eq_true_iff]
  simp [Short]
theorem encodes_true (r : Record) : f_billinglaw10_TaggedEncodes r = some true := by
  unfold f_billinglaw10_TaggedEncodes
  rw [p_short, awake_true]
  simp only [Option.bind_some]
  by_cases h : Short r
  · rw [if_neg (by simp [h]), p_Encode10 r (by have := h.1; omega) (by have := h.2; omega), p_rEncode10 r (by have := h.1; omega) (by have := h.2; omega)]
    simp [gcall_mk]
  · rw [if_pos (by simp [h])]
end Go.Proofs.YtmdpmallgcekgaaDoor

set_option linter.unusedSimpArgs false
set_option linter.unusedVariables false
namespace Go.Proofs.YtmdpmallgcekgaaDoor
open Go.RowKit Go.Abs
/-! values are read -/
theorem u8_all {p : UInt8 → Prop} (h : ∀ n : Fin 256, p (UInt8.ofNat n.val)) (x : UInt8) : p x := by
  have := h ⟨x.toNat, x.toNat_lt⟩
  simpa using this
theorem u8_hi (x : UInt8) : u8shr x 4 = x / 16 := u8_all (p := fun x => u8shr x 4 = x / 16) (by decide +kernel) x
theorem u8_lo (x : UInt8) : x &&& 15 = x % 16 := u8_all (p := fun x => x &&& 15 = x % 16) (by decide +kernel) x
def upkG : List UInt8 → List UInt8
  | [] => []
  | x :: r => if x % 16 ≠ 15 ∨ r ≠ [] then [48 + x / 16] ++ [48 + x % 16] ++ upkG r else [48 + x / 16]
def finU (s : List UInt8) : List UInt8 × Int := if validB s = true then (s, 0) else ([], 12)
def unpF (b : List UInt8) : List UInt8 × Int := finU (upkG b)
theorem upk_len : ∀ b : List UInt8, 2 * b.length ≤ (upkG b).length + 1 ∧ (upkG b).length ≤ 2 * b.length
  | [] => by simp [upkG]
  | x :: r => by
    have := upk_len r
    unfold upkG
    split
    · simp; omega
    · rename_i h
      have hr : r = [] := Decidable.byContradiction fun h' => h (.inr h')
      subst hr; simp
theorem drop_ne {b : List UInt8} {i : Int} (h0 : 0 ≤ i) (hi : i < (b.length : Int)) : (b.drop (i.toNat + 1) ≠ []) ↔ i < (b.length : Int) - 1 := by
  rw [ne_eq, List.drop_eq_nil_iff]; omega
theorem p_Unpack (b : List UInt8) (hb : b.length ≤ 100000) : f_digits_Unpack b = some (unpF b) := by
  unfold f_digits_Unpack
  have := loop_spec (step := fun st => f_digits_Unpack_l1 b st.1 st.2) (fun st : List UInt8 × Int => some (finU (st.1 ++ upkG (b.drop st.2.toNat)))) (fun st => 0 ≤ st.2 ∧ st.2 ≤ (b.length : Int) ∧ (st.1.length : Int) ≤ 2 * st.2) (fun st => ((b.length : Int) - st.2).toNat) (fun st hI => by
    obtain ⟨s, i⟩ := st
    obtain ⟨i0, i1, i2⟩ := hI
    simp only at i0 i1 i2 ⊢
    unfold f_digits_Unpack_l1
    by_cases hi : i < (b.length : Int)
    · rw [if_pos (by simpa using hi), ck_pos (by omega), ck_pos (by decide), ck_pos (by simp; omega), ck_pos (by intro _; omega), drop_nth (show i.toNat < b.length by omega), upkG, u8_hi, u8_lo]
      by_cases hc : nth b i.toNat % 16 ≠ 15 ∨ b.drop (i.toNat + 1) ≠ []
      · have hc' : ((nth b i.toNat % 16 != 15) || decide (i < (b.length : Int) - 1)) = true := by
          rw [drop_ne i0 hi] at hc; simpa using hc
        rw [if_pos hc', if_pos hc, ck_pos (by simp; omega), ck_pos (by omega)]
        refine .inr ⟨_, rfl, ⟨by simp only; omega, by simp only; omega, by simp; omega⟩, by simp only; omega, ?_⟩
        simp only
        rw [show (i + 1).toNat = i.toNat + 1 by omega]
        simp
      · have hc' : ¬ ((nth b i.toNat % 16 != 15) || decide (i < (b.length : Int) - 1)) = true := by
          rw [drop_ne i0 hi] at hc; simpa using hc
        rw [if_neg hc', if_neg hc, ck_pos (by omega)]
        refine .inr ⟨_, rfl, ⟨by simp only; omega, by simp only; omega, by simp; omega⟩, by simp only; omega, ?_⟩
        simp only
        have hd : b.drop (i.toNat + 1) = [] := Decidable.byContradiction fun h => hc (.inr h)
        rw [show (i + 1).toNat = i.toNat + 1 by omega, hd]
        simp [upkG]
    · rw [if_neg (by simpa using hi)]
      have hj : f_digits_Unpack_j1 s = some (finU s) := by
        unfold f_digits_Unpack_j1 finU
        rw [p_Valid s (by omega), Option.bind_some]
        cases validB s <;> rfl
      rw [hj]
      refine .inl ⟨_, rfl, ?_⟩
      rw [List.drop_of_length_le (by omega)]
      simp [upkG]) (s := ([], 0)) ⟨by simp, by simp, by simp⟩ (by simp only; omega)
  rw [this]
  simp [unpF]
theorem finU_long {s : List UInt8} (h : 15 < s.length) : finU s = ([], 12) := by
  unfold finU
  rw [if_neg]
  intro hv
  have := validB_len hv
  omega
theorem p_rUnpack (b : List UInt8) (hb : b.length ≤ 100000) : f_billingref02_Unpack b = some (unpF b) := by
  have hj : ∀ s : List UInt8, s.length ≤ 1000000 → (finU s = ([], 12) ∨ (2 * b.length ≤ s.length + 1)) → f_billingref02_Unpack_j1 b s = some (finU s) := by
    intro s hs h
    unfold f_billingref02_Unpack_j1
    rw [p_rValid s (by omega), Option.bind_some, ck_pos (by intro _; omega), ck_pos (by intro _; omega)]
    unfold finU at h ⊢
    cases hv : validB s with
    | false => rfl
    | true =>
      rw [hv] at h
      rcases h with h | h
      · simp at h
      · rw [if_neg (by simp; omega)]; rfl
  unfold f_billingref02_Unpack
  by_cases hl : b.length ≤ 16
  · have := loop_spec (step := fun st => f_billingref02_Unpack_l1 b st.1 st.2) (fun st : List UInt8 × Int => some (finU (st.1 ++ upkG (b.drop st.2.toNat)))) (fun st => 0 ≤ st.2 ∧ st.2 ≤ (b.length : Int) ∧ (st.1.length : Int) ≤ 2 * st.2 ∧ (2 * b.length ≤ st.1.length + (upkG (b.drop st.2.toNat)).length + 1)) (fun st => ((b.length : Int) - st.2).toNat) (fun st hI => by
      obtain ⟨s, i⟩ := st
      obtain ⟨i0, i1, i2, i3⟩ := hI
      simp only at i0 i1 i2 i3 ⊢
      unfold f_billingref02_Unpack_l1
      by_cases hi : i < (b.length : Int)
      · rw [if_pos (by simp; omega), ck_pos (by omega), ck_pos (by decide), ck_pos (by omega), ck_pos (by simp; omega), ck_pos (by intro _; omega), drop_nth (show i.toNat < b.length by omega), upkG, u8_hi, u8_lo]
        rw [drop_nth (show i.toNat < b.length by omega), upkG] at i3
        by_cases hc : nth b i.toNat % 16 ≠ 15 ∨ b.drop (i.toNat + 1) ≠ []
        · have hc' : ((nth b i.toNat % 16 != 15) || decide (i < (b.length : Int) - 1)) = true := by
            rw [drop_ne i0 hi] at hc; simpa using hc
          rw [if_pos hc', if_pos hc, ck_pos (by simp; omega), ck_pos (by omega)]
          rw [if_pos hc] at i3
          refine .inr ⟨_, rfl, ⟨by simp only; omega, by simp only; omega, by simp; omega, ?_⟩, by simp only; omega, ?_⟩
          · simp only
            rw [show (i + 1).toNat = i.toNat + 1 by omega]
            simp at i3 ⊢; omega
          · simp only
            rw [show (i + 1).toNat = i.toNat + 1 by omega]
            simp
        · have hc' : ¬ ((nth b i.toNat % 16 != 15) || decide (i < (b.length : Int) - 1)) = true := by
            rw [drop_ne i0 hi] at hc; simpa using hc
          rw [if_neg hc', if_neg hc, ck_pos (by omega)]
          rw [if_neg hc] at i3
          have hd : b.drop (i.toNat + 1) = [] := Decidable.byContradiction fun h => hc (.inr h)
          refine .inr ⟨_, rfl, ⟨by simp only; omega, by simp only; omega, by simp; omega, ?_⟩, by simp only; omega, ?_⟩
          · simp only
            rw [show (i + 1).toNat = i.toNat + 1 by omega, hd]
            simp [upkG] at i3 ⊢; omega
          · simp only
            rw [show (i + 1).toNat = i.toNat + 1 by omega, hd]
            simp [upkG]
      · rw [if_neg (by simp; omega)]
        rw [List.drop_of_length_le (by omega)] at i3 ⊢
        rw [hj s (by omega) (.inr (by simp [upkG] at i3; omega))]
        exact .inl ⟨_, rfl, by simp [upkG]⟩) (s := ([], 0)) ⟨by simp, by simp, by simp, by have := upk_len b; simp; omega⟩ (by simp only; omega)
    rw [this]
    simp [unpF]
  · have hF : unpF b = ([], 12) := finU_long (by have := upk_len b; omega)
    obtain ⟨r, h1, h2⟩ := loop_post (step := fun st => f_billingref02_Unpack_l1 b st.1 st.2) (fun r => r = (([] : List UInt8), (12 : Int))) (fun st : List UInt8 × Int => 0 ≤ st.2 ∧ st.2 ≤ 16 ∧ (st.1.length : Int) = 2 * st.2) (fun st => (16 - st.2).toNat) (fun st hI => by
      obtain ⟨s, i⟩ := st
      obtain ⟨i0, i1, i2⟩ := hI
      simp only at i0 i1 i2 ⊢
      unfold f_billingref02_Unpack_l1
      by_cases hi : i ≤ 15
      · rw [if_pos (by simp; omega), ck_pos (by omega), ck_pos (by decide), ck_pos (by omega), ck_pos (by simp; omega), ck_pos (by intro _; omega), if_pos (by simp; omega), ck_pos (by simp; omega), ck_pos (by omega)]
        exact .inr ⟨_, rfl, ⟨by simp only; omega, by simp only; omega, by simp; omega⟩, by simp only; omega⟩
      · rw [if_neg (by simp; omega), hj s (by omega) (.inl (finU_long (by omega))), finU_long (by omega)]
        exact .inl ⟨_, rfl, rfl⟩) (s := ([], 0)) ⟨by simp, by simp, by simp⟩ (by simp)
    rw [h1, h2, hF]
/-! numbers -/
def numS : Int → List UInt8 → Int
  | n, [] => n
  | n, x :: r => numS (n * 256 + (x.toNat : Int)) r
def badN (v : List UInt8) : Bool := ((decide ((v.length : Int) < 1)) || (decide ((v.length : Int) > 6))) || (nth v 0 == 0)
def numF (v : List UInt8) : Int := if badN v = true then -1 else numS 0 v
theorem pow_le6 {k : Nat} (h : k ≤ 6) : (256 : Int) ^ k ≤ 281474976710656 := by
  have : ∀ j : Fin 7, (256 : Int) ^ j.val ≤ 281474976710656 := by decide +kernel
  exact this ⟨k, by omega⟩
theorem p_rnumber (v : List UInt8) (hv : v.length ≤ 100000) : f_billingref10_number v = some (numF v) := by
  unfold f_billingref10_number numF badN
  rw [show Int.toNat 0 = 0 from rfl, ck_pos (by intro h; simp at h; omega)]
  by_cases hb : (((decide ((v.length : Int) < 1)) || (decide ((v.length : Int) > 6))) || (nth v 0 == 0)) = true
  · rw [if_pos hb, if_pos hb]
  · rw [if_neg hb, if_neg hb]
    simp at hb
    have := loop_spec (step := fun st => f_billingref10_number_l1 v st.1 st.2) (fun st : Int × Int => some (numS st.1 (v.drop st.2.toNat))) (fun st => 0 ≤ st.2 ∧ st.2 ≤ (v.length : Int) ∧ 0 ≤ st.1 ∧ st.1 < 256 ^ st.2.toNat) (fun st => ((v.length : Int) - st.2).toNat) (fun st hI => by
      obtain ⟨n, i⟩ := st
      obtain ⟨i0, i1, i2, i3⟩ := hI
      simp only at i0 i1 i2 i3 ⊢
      unfold f_billingref10_number_l1
      have hp := pow_le6 (k := i.toNat) (by omega)
      by_cases hi : i < (v.length : Int)
      · have hx := (nth v i.toNat).toNat_lt
        rw [if_pos (by simpa using hi), ck_pos (by omega), ck_pos (by omega), ck_pos (by omega), ck_pos (by omega), drop_nth (show i.toNat < v.length by omega), numS]
        refine .inr ⟨_, rfl, ⟨by simp only; omega, by simp only; omega, by simp only; omega, ?_⟩, by simp only; omega, ?_⟩
        · simp only
          rw [show (i + 1).toNat = i.toNat + 1 by omega, pow256]
          omega
        · simp only
          rw [show (i + 1).toNat = i.toNat + 1 by omega]
      · rw [if_neg (by simpa using hi), List.drop_of_length_le (by omega)]
        exact .inl ⟨_, rfl, rfl⟩) (s := (0, 0)) ⟨by simp, by simp, by simp, by simp⟩ (by simp only; omega)
    rw [this]; rfl
theorem p_number (v : List UInt8) (hv : v.length ≤ 100000) : f_tagged_number v = some (if badN v = true then (0, false) else (numS 0 v, true)) := by
  unfold f_tagged_number badN
  rw [show Int.toNat 0 = 0 from rfl, ck_pos (by intro h; simp at h; omega)]
  by_cases hb : (((decide ((v.length : Int) < 1)) || (decide ((v.length : Int) > 6))) || (nth v 0 == 0)) = true
  · rw [if_pos hb, if_pos hb]
  · rw [if_neg hb, if_neg hb]
    simp at hb
    have := loop_spec (step := fun st => f_tagged_number_l1 v st.1 st.2) (fun st : Int × Int => some (numS st.1 (v.drop st.2.toNat), true)) (fun st => 0 ≤ st.2 ∧ st.2 ≤ (v.length : Int) ∧ 0 ≤ st.1 ∧ st.1 < 256 ^ st.2.toNat) (fun st => ((v.length : Int) - st.2).toNat) (fun st hI => by
      obtain ⟨n, i⟩ := st
      obtain ⟨i0, i1, i2, i3⟩ := hI
      simp only at i0 i1 i2 i3 ⊢
      unfold f_tagged_number_l1
      have hp := pow_le6 (k := i.toNat) (by omega)
      rw [show (2 : Int) ^ Int.toNat 8 = 256 from rfl]
      by_cases hi : i < (v.length : Int)
      · have hx := (nth v i.toNat).toNat_lt
        rw [if_pos (by simpa using hi), ck_pos (by omega), ck_pos (by refine ⟨by omega, by omega, ?_, ?_⟩ <;> omega), ck_pos (by omega), ck_pos (by omega), drop_nth (show i.toNat < v.length by omega), numS]
        refine .inr ⟨_, rfl, ⟨by simp only; omega, by simp only; omega, by simp only; omega, ?_⟩, by simp only; omega, ?_⟩
        · simp only
          rw [show (i + 1).toNat = i.toNat + 1 by omega, pow256]
          omega
        · simp only
          rw [show (i + 1).toNat = i.toNat + 1 by omega]
      · rw [if_neg (by simpa using hi), List.drop_of_length_le (by omega)]
        exact .inl ⟨_, rfl, rfl⟩) (s := (0, 0)) ⟨by simp, by simp, by simp, by simp⟩ (by simp only; omega)
    rw [this]; rfl
end Go.Proofs.YtmdpmallgcekgaaDoor

set_option linter.unusedSimpArgs false
set_option linter.unusedVariables false
namespace Go.Proofs.YtmdpmallgcekgaaDoor
open Go.RowKit Go.Abs
/-! records are read -/
def Z : Record := ⟨0, 0, 0, [], [], 0, 0, 0, 0, false, 0, false⟩
def flagV (v : List UInt8) : Bool := decide (v.length = 1) && decide (1 ≤ (nth v 0).toNat) && decide ((nth v 0).toNat ≤ 3)
def fldF (r : Record) (x : Element) : Option Record :=
  if x.tag = 4 then (if (unpF x.value).2 = 0 then some { r with a := (unpF x.value).1 } else none)
  else if x.tag = 5 then (if (unpF x.value).2 = 0 then some { r with b := (unpF x.value).1 } else none)
  else if x.tag = 11 then (if flagV x.value = true then some { r with last := (nth x.value 0 % 2 == 1), inbound := decide (nth x.value 0 ≥ 2) } else none)
  else if badN x.value = true then none
  else if x.tag = 1 then some { r with kind := numS 0 x.value }
  else if x.tag = 2 then some { r with source := numS 0 x.value }
  else if x.tag = 3 then some { r with serial := numS 0 x.value }
  else if x.tag = 6 then some { r with start := numS 0 x.value }
  else if x.tag = 7 then some { r with units := numS 0 x.value }
  else if x.tag = 8 then some { r with call := numS 0 x.value }
  else if x.tag = 9 then some { r with part := numS 0 x.value }
  else if x.tag = 10 then some { r with trunk := numS 0 x.value }
  else none
theorem numS_pos : ∀ (v : List UInt8) (n : Int), 0 < n → 0 < numS n v
  | [], n, h => h
  | x :: r, n, h => by rw [numS]; exact numS_pos r _ (by omega)
theorem num_pos {v : List UInt8} (h : badN v = false) : 0 < numS 0 v := by
  unfold badN at h
  match v, h with
  | [], h => simp at h
  | x :: r, h =>
    have hx : nth (x :: r) 0 = x := rfl
    rw [hx] at h
    have : x ≠ 0 := by rintro rfl; simp at h
    have h0 : 0 < x.toNat := Nat.pos_of_ne_zero fun e => this (UInt8.toNat_inj.1 (by rw [e]; rfl))
    rw [numS]
    exact numS_pos r _ (by omega)
theorem flag_num (v : List UInt8) : ((((v.length : Int) == 1) && decide (numF v ≥ 1)) && decide (numF v ≤ 3)) = flagV v := by
  unfold flagV
  by_cases hl : v.length = 1
  · match v, hl with
    | [x], _ =>
      have hx : nth [x] 0 = x := rfl
      unfold numF badN
      rw [hx]
      by_cases h0 : x = 0
      · subst h0; rfl
      · have h1 : ¬(((decide ((([x] : List UInt8).length : Int) < 1)) || (decide ((([x] : List UInt8).length : Int) > 6))) || (x == 0)) = true := by simp [h0]
        rw [if_neg h1]
        simp only [numS]
        rw [Bool.eq_iff_iff]
        simp only [Bool.and_eq_true, decide_eq_true_eq, beq_iff_eq, List.length_cons, List.length_nil, Int.zero_mul, Int.zero_add]
        exact ⟨fun h => ⟨⟨trivial, by omega⟩, by omega⟩, fun h => ⟨⟨rfl, by omega⟩, by omega⟩⟩
  · have : ((v.length : Int) == 1) = false := by simp; omega
    rw [this]; simp [hl]
theorem flag_val {v : List UInt8} (h : flagV v = true) : (Int.tmod (numF v) 2 == 1) = (nth v 0 % 2 == 1) ∧ decide (numF v ≥ 2) = decide (nth v 0 ≥ 2) := by
  unfold flagV at h
  simp only [Bool.and_eq_true, decide_eq_true_eq] at h
  obtain ⟨⟨h1, h2⟩, h3⟩ := h
  match v, h1 with
  | [x], _ =>
    have hx : nth [x] 0 = x := rfl
    rw [hx] at h2 h3 ⊢
    have h0 : x ≠ 0 := by rintro rfl; simp at h2
    have hn : numF [x] = (x.toNat : Int) := by
      unfold numF badN
      rw [if_neg (by simp [hx, h0])]
      simp [numS]
    rw [hn]
    have key : ∀ x : UInt8, x.toNat ≤ 3 → (Int.tmod (x.toNat : Int) 2 == 1) = (x % 2 == 1) ∧ decide ((x.toNat : Int) ≥ 2) = decide (x ≥ 2) := u8_all (by decide +kernel)
    exact key x h3
theorem unp_len (b : List UInt8) : (unpF b).1.length ≤ 15 := by
  unfold unpF finU
  split
  · rename_i h; exact validB_len h
  · simp
def SmallAB (r : Record) : Prop := r.a.length ≤ 15 ∧ r.b.length ≤ 15
theorem p_rfield (r : Record) (x : Element) (hx : x.value.length ≤ 100000) (ht : 1 ≤ x.tag) (hs : SmallAB r) : ∃ r' ok, f_billingref10_field r x = some (r', ok) ∧ SmallAB r' ∧ ((ok = true ∧ fldF r x = some r') ∨ (ok = false ∧ fldF r x = none)) := by
  unfold f_billingref10_field
  have hu := unp_len x.value
  by_cases h45 : x.tag = 4 ∨ x.tag = 5
  · rw [if_pos (by simpa using h45), p_rUnpack _ hx, Option.bind_some]
    unfold f_billingref10_field_j1 fldF
    by_cases h4 : x.tag = 4
    · rw [if_pos (by simpa using h4), if_pos h4]
      refine ⟨_, _, rfl, ⟨hu, hs.2⟩, ?_⟩
      by_cases he : (unpF x.value).2 = 0
      · rw [if_pos he]; exact .inl ⟨by simpa using he, rfl⟩
      · rw [if_neg he]; exact .inr ⟨by simpa using he, rfl⟩
    · have h5 : x.tag = 5 := by omega
      rw [if_neg (by simpa using h4), if_neg h4, if_pos h5]
      refine ⟨_, _, rfl, ⟨hs.1, hu⟩, ?_⟩
      by_cases he : (unpF x.value).2 = 0
      · rw [if_pos he]; exact .inl ⟨by simpa using he, rfl⟩
      · rw [if_neg he]; exact .inr ⟨by simpa using he, rfl⟩
  · rw [if_neg (by simpa using h45), p_rnumber _ hx, Option.bind_some]
    unfold fldF
    rw [if_neg (fun h => h45 (.inl h)), if_neg (fun h => h45 (.inr h))]
    by_cases h11 : x.tag = 11
    · rw [if_pos h11, h11]
      rw [if_neg (by decide), if_neg (by decide), if_neg (by decide), if_neg (by decide), if_neg (by decide), if_neg (by decide), if_neg (by decide), if_neg (by decide), if_pos (by decide), ck_pos (by decide), flag_num]
      refine ⟨_, _, rfl, hs, ?_⟩
      by_cases hf : flagV x.value = true
      · rw [if_pos hf, (flag_val hf).1, (flag_val hf).2]; exact .inl ⟨hf, rfl⟩
      · rw [if_neg hf]; exact .inr ⟨by simpa using hf, rfl⟩
    · rw [if_neg h11]
      unfold f_billingref10_field_j2
      cases hb : badN x.value with
      | true =>
        rw [if_pos rfl]
        have hn : numF x.value = -1 := by unfold numF; rw [if_pos hb]
        rw [hn]
        by_cases h1 : x.tag = 1
        · rw [if_pos (show (x.tag == 1) = true by simpa using h1)]; exact ⟨_, _, rfl, hs, .inr ⟨rfl, rfl⟩⟩
        rw [if_neg (show ¬ (x.tag == 1) = true by simpa using h1)]
        by_cases h2 : x.tag = 2
        · rw [if_pos (show (x.tag == 2) = true by simpa using h2)]; exact ⟨_, _, rfl, hs, .inr ⟨rfl, rfl⟩⟩
        rw [if_neg (show ¬ (x.tag == 2) = true by simpa using h2)]
        by_cases h3 : x.tag = 3
        · rw [if_pos (show (x.tag == 3) = true by simpa using h3)]; exact ⟨_, _, rfl, hs, .inr ⟨rfl, rfl⟩⟩
        rw [if_neg (show ¬ (x.tag == 3) = true by simpa using h3)]
        by_cases h6 : x.tag = 6
        · rw [if_pos (show (x.tag == 6) = true by simpa using h6)]; exact ⟨_, _, rfl, hs, .inr ⟨rfl, rfl⟩⟩
        rw [if_neg (show ¬ (x.tag == 6) = true by simpa using h6)]
        by_cases h7 : x.tag = 7
        · rw [if_pos (show (x.tag == 7) = true by simpa using h7)]; exact ⟨_, _, rfl, hs, .inr ⟨rfl, rfl⟩⟩
        rw [if_neg (show ¬ (x.tag == 7) = true by simpa using h7)]
        by_cases h8 : x.tag = 8
        · rw [if_pos (show (x.tag == 8) = true by simpa using h8)]; exact ⟨_, _, rfl, hs, .inr ⟨rfl, rfl⟩⟩
        rw [if_neg (show ¬ (x.tag == 8) = true by simpa using h8)]
        by_cases h9 : x.tag = 9
        · rw [if_pos (show (x.tag == 9) = true by simpa using h9)]; exact ⟨_, _, rfl, hs, .inr ⟨rfl, rfl⟩⟩
        rw [if_neg (show ¬ (x.tag == 9) = true by simpa using h9)]
        by_cases h10 : x.tag = 10
        · rw [if_pos (show (x.tag == 10) = true by simpa using h10)]; exact ⟨_, _, rfl, hs, .inr ⟨rfl, rfl⟩⟩
        rw [if_neg (show ¬ (x.tag == 10) = true by simpa using h10)]
        rw [if_neg (by simpa using h11)]
        exact ⟨_, _, rfl, hs, .inr ⟨rfl, rfl⟩⟩
      | false =>
        have hn : numF x.value = numS 0 x.value := by unfold numF; rw [if_neg (by simp [hb])]
        have hp := num_pos hb
        rw [hn]
        have hd : decide (numS 0 x.value > 0) = true := by simpa using hp
        rw [if_neg (show ¬ false = true by simp)]
        by_cases h1 : x.tag = 1
        · rw [if_pos (show (x.tag == 1) = true by simpa using h1), if_pos h1]; exact ⟨_, _, rfl, hs, .inl ⟨by rw [hd, h1]; rfl, rfl⟩⟩
        rw [if_neg (show ¬ (x.tag == 1) = true by simpa using h1), if_neg h1]
        by_cases h2 : x.tag = 2
        · rw [if_pos (show (x.tag == 2) = true by simpa using h2), if_pos h2]; exact ⟨_, _, rfl, hs, .inl ⟨by rw [hd, h2]; rfl, rfl⟩⟩
        rw [if_neg (show ¬ (x.tag == 2) = true by simpa using h2), if_neg h2]
        by_cases h3 : x.tag = 3
        · rw [if_pos (show (x.tag == 3) = true by simpa using h3), if_pos h3]; exact ⟨_, _, rfl, hs, .inl ⟨by rw [hd, h3]; rfl, rfl⟩⟩
        rw [if_neg (show ¬ (x.tag == 3) = true by simpa using h3), if_neg h3]
        by_cases h6 : x.tag = 6
        · rw [if_pos (show (x.tag == 6) = true by simpa using h6), if_pos h6]; exact ⟨_, _, rfl, hs, .inl ⟨by rw [hd, h6]; rfl, rfl⟩⟩
        rw [if_neg (show ¬ (x.tag == 6) = true by simpa using h6), if_neg h6]
        by_cases h7 : x.tag = 7
        · rw [if_pos (show (x.tag == 7) = true by simpa using h7), if_pos h7]; exact ⟨_, _, rfl, hs, .inl ⟨by rw [hd, h7]; rfl, rfl⟩⟩
        rw [if_neg (show ¬ (x.tag == 7) = true by simpa using h7), if_neg h7]
        by_cases h8 : x.tag = 8
        · rw [if_pos (show (x.tag == 8) = true by simpa using h8), if_pos h8]; exact ⟨_, _, rfl, hs, .inl ⟨by rw [hd, h8]; rfl, rfl⟩⟩
        rw [if_neg (show ¬ (x.tag == 8) = true by simpa using h8), if_neg h8]
        by_cases h9 : x.tag = 9
        · rw [if_pos (show (x.tag == 9) = true by simpa using h9), if_pos h9]; exact ⟨_, _, rfl, hs, .inl ⟨by rw [hd, h9]; rfl, rfl⟩⟩
        rw [if_neg (show ¬ (x.tag == 9) = true by simpa using h9), if_neg h9]
        by_cases h10 : x.tag = 10
        · rw [if_pos (show (x.tag == 10) = true by simpa using h10), if_pos h10]; exact ⟨_, _, rfl, hs, .inl ⟨by rw [hd, h10]; rfl, rfl⟩⟩
        rw [if_neg (show ¬ (x.tag == 10) = true by simpa using h10), if_neg h10]
        rw [if_neg (show ¬ (x.tag == 11) = true by simpa using h11)]
        by_cases hg : x.tag ≤ 11
        · omega
        · exact ⟨_, _, rfl, hs, .inr ⟨by simp [hg], rfl⟩⟩
end Go.Proofs.YtmdpmallgcekgaaDoor

set_option linter.unusedSimpArgs false
set_option linter.unusedVariables false
namespace Go.Proofs.YtmdpmallgcekgaaDoor
open Go.RowKit Go.Abs
def foldF : Record → List Element → Option Record
  | r, [] => some r
  | r, x :: l => match fldF r x with
    | some r' => foldF r' l
    | none => none
def endF (r : Record) : Record × Int := if errF r ≠ 0 then (Z, errF r) else (r, 0)
def finD (ok : Bool) (r : Record) (l : List Element) : Record × Int := if ok = true then (match foldF r l with
  | some r' => endF r'
  | none => (Z, 1)) else (Z, 1)
theorem finD_false (r : Record) (l : List Element) : finD false r l = (Z, 1) := rfl
theorem finD_nil (r : Record) : finD true r [] = endF r := rfl
theorem finD_some {r r' : Record} {x : Element} {l : List Element} (h : fldF r x = some r') : finD true r (x :: l) = finD true r' l := by
  unfold finD; rw [foldF, h]
theorem finD_none {r : Record} {x : Element} {l : List Element} (h : fldF r x = none) : finD true r (x :: l) = (Z, 1) := by
  unfold finD; rw [foldF, h]; rfl
def headN (b : List UInt8) : Nat := (nth b 0).toNat * 256 + (nth b 1).toNat
def decT (b : List UInt8) : Record × Int :=
  if b.length < 2 ∨ b.length - 2 < headN b then (Z, 2) else if b.length - 2 > headN b then (Z, 3)
  else if (elmF 0 [] (b.drop 2)).2 ≠ 0 then (Z, (elmF 0 [] (b.drop 2)).2) else finD true Z (elmF 0 [] (b.drop 2)).1
theorem okL_mem : ∀ (l : List Element) (last : Int), okL last l → 0 ≤ last → ∀ x, x ∈ l → 1 ≤ x.tag ∧ x.value.length ≤ 255
  | [], _, _, _, x, hx => by cases hx
  | a :: l, last, h, h0, x, hx => by
    rcases List.mem_cons.1 hx with e | e
    · subst e; exact ⟨h.1, h.2.2.2.1⟩
    · exact okL_mem l a.tag h.2.2.2.2 (by have := h.1; omega) x e
def mkR (t : Int × Int × Int × List UInt8 × List UInt8 × Int × Int × Int × Int × Bool × Int × Bool) : Record :=
  ⟨t.1, t.2.1, t.2.2.1, t.2.2.2.1, t.2.2.2.2.1, t.2.2.2.2.2.1, t.2.2.2.2.2.2.1, t.2.2.2.2.2.2.2.1, t.2.2.2.2.2.2.2.2.1, t.2.2.2.2.2.2.2.2.2.1, t.2.2.2.2.2.2.2.2.2.2.1, t.2.2.2.2.2.2.2.2.2.2.2⟩
theorem p_rDloop (y : List Element × Int) (hl : y.1.length ≤ 1000000) (hm : ∀ x, x ∈ y.1 → 1 ≤ x.tag ∧ x.value.length ≤ 255) :
    loop (fun s => f_billingref10_Decode_l1 y s.1 s.2.1 s.2.2.1 s.2.2.2.1 s.2.2.2.2.1 s.2.2.2.2.2.1 s.2.2.2.2.2.2.1 s.2.2.2.2.2.2.2.1 s.2.2.2.2.2.2.2.2.1 s.2.2.2.2.2.2.2.2.2.1 s.2.2.2.2.2.2.2.2.2.2.1 s.2.2.2.2.2.2.2.2.2.2.2.1 s.2.2.2.2.2.2.2.2.2.2.2.2.1 s.2.2.2.2.2.2.2.2.2.2.2.2.2) (true, 0, 0, 0, 0, ([] : List UInt8), ([] : List UInt8), 0, 0, 0, 0, false, 0, false) = some (finD true Z y.1) := by
  have := loop_spec (step := fun s : Bool × Int × Int × Int × Int × List UInt8 × List UInt8 × Int × Int × Int × Int × Bool × Int × Bool => f_billingref10_Decode_l1 y s.1 s.2.1 s.2.2.1 s.2.2.2.1 s.2.2.2.2.1 s.2.2.2.2.2.1 s.2.2.2.2.2.2.1 s.2.2.2.2.2.2.2.1 s.2.2.2.2.2.2.2.2.1 s.2.2.2.2.2.2.2.2.2.1 s.2.2.2.2.2.2.2.2.2.2.1 s.2.2.2.2.2.2.2.2.2.2.2.1 s.2.2.2.2.2.2.2.2.2.2.2.2.1 s.2.2.2.2.2.2.2.2.2.2.2.2.2)
    (fun s => some (finD s.1 (mkR s.2.2) (y.1.drop s.2.1.toNat))) (fun s => 0 ≤ s.2.1 ∧ s.2.1 ≤ (y.1.length : Int) ∧ SmallAB (mkR s.2.2)) (fun s => ((y.1.length : Int) - s.2.1).toNat) (fun s hI => by
      obtain ⟨ok, i, s⟩ := s
      obtain ⟨i0, i1, i2⟩ := hI
      simp only at i0 i1 i2 ⊢
      unfold f_billingref10_Decode_l1
      have hr : (⟨s.1, s.2.1, s.2.2.1, s.2.2.2.1, s.2.2.2.2.1, s.2.2.2.2.2.1, s.2.2.2.2.2.2.1, s.2.2.2.2.2.2.2.1, s.2.2.2.2.2.2.2.2.1, s.2.2.2.2.2.2.2.2.2.1, s.2.2.2.2.2.2.2.2.2.2.1, s.2.2.2.2.2.2.2.2.2.2.2⟩ : Record) = mkR s := rfl
      rw [hr]
      by_cases hi : i < (y.1.length : Int)
      · have hx := hm (nth y.1 i.toNat) (by rw [nth_eq (show i.toNat < y.1.length by omega)]; exact List.getElem_mem _)
        obtain ⟨r', okx, e1, e2, e3⟩ := p_rfield (mkR s) (nth y.1 i.toNat) (by omega) hx.1 i2
        rw [if_pos (by simpa using hi), ck_pos (by omega), e1, Option.bind_some, ck_pos (by omega), drop_nth (show i.toNat < y.1.length by omega)]
        refine .inr ⟨_, rfl, ⟨by simp only; omega, by simp only; omega, e2⟩, by simp only; omega, ?_⟩
        simp only
        rw [show (i + 1).toNat = i.toNat + 1 by omega]
        have hm' : mkR (r'.source, r'.serial, r'.kind, r'.a, r'.b, r'.start, r'.units, r'.call, r'.part, r'.last, r'.trunk, r'.inbound) = r' := rfl
        rw [hm']
        cases ok with
        | false => rfl
        | true =>
          rcases e3 with ⟨o1, o2⟩ | ⟨o1, o2⟩
          · rw [o1, finD_some o2]; rfl
          · rw [o1, finD_none o2]; rfl
      · rw [if_neg (by simpa using hi), List.drop_of_length_le (by omega)]
        unfold f_billingref10_Decode_j1
        rw [hr]
        cases ok with
        | false => exact .inl ⟨_, rfl, rfl⟩
        | true =>
          rw [if_neg (by simp), p_rError (mkR s) (by have := i2.1; omega) (by have := i2.2; omega), Option.bind_some, finD_nil]
          unfold endF
          by_cases he : errF (mkR s) ≠ 0
          · rw [if_pos (by simpa using he), if_pos he]; exact .inl ⟨_, rfl, rfl⟩
          · rw [if_neg (by simpa using he), if_neg he]; exact .inl ⟨_, rfl, rfl⟩) (s := (true, 0, 0, 0, 0, [], [], 0, 0, 0, 0, false, 0, false)) ⟨by simp, by simp, by simp [SmallAB, mkR]⟩ (by simp only; omega)
  exact this
theorem elm_len' (b : List UInt8) : (elmF 0 [] b).1.length ≤ b.length := by
  have key : ∀ (n : Nat) (b : List UInt8) (last : Int) (out : List Element), b.length ≤ n → (elmF last out b).1.length ≤ out.length + b.length := by
    intro n
    induction n with
    | zero => intro b last out hn; rw [elmF, if_pos (by omega)]; simp
    | succ n ih =>
      intro b last out hn
      rw [elmF]
      split
      · simp
      · split
        · simp
        · split
          · simp
          · split
            · simp
            · have := ih (b.drop (2 + (nth b 1).toNat)) (nth b 0).toNat (out ++ [⟨((nth b 0).toNat : Int), (b.drop 2).take (nth b 1).toNat⟩]) (by rw [List.length_drop]; omega)
              simp at this ⊢
              omega
  have := key _ b 0 [] (Nat.le_refl _)
  simpa using this
theorem elm_mem {b : List UInt8} (h : (elmF 0 [] b).2 = 0) : ∀ x, x ∈ (elmF 0 [] b).1 → 1 ≤ x.tag ∧ x.value.length ≤ 255 := by
  obtain ⟨l, e1, e2, _⟩ := elm_back _ b 0 [] (Nat.le_refl _) (by omega) h
  rw [List.nil_append] at e1
  rw [e1]
  exact okL_mem l 0 e2 (by omega)
theorem p_rDecode10 (b : List UInt8) (hb : b.length ≤ 100000) : f_billingref10_Decode b = some (decT b) := by
  have hx := (nth b 0).toNat_lt
  have hy := (nth b 1).toNat_lt
  unfold f_billingref10_Decode decT headN
  simp only [show Int.toNat 0 = 0 from rfl, show Int.toNat 1 = 1 from rfl, show Int.toNat 2 = 2 from rfl]
  rw [ck_pos (by intro _; omega), ck_pos (by intro h; simp at h; omega), ck_pos (by intro _; omega), ck_pos (by intro h; simp at h; omega), ck_pos (by intro _; omega)]
  by_cases h1 : b.length < 2 ∨ b.length - 2 < (nth b 0).toNat * 256 + (nth b 1).toNat
  · rw [if_pos (by simp; omega), if_pos h1]; rfl
  · rw [if_neg (by simp; omega), if_neg h1, ck_pos (by omega), ck_pos (by omega), ck_pos (by omega), ck_pos (by omega), ck_pos (by omega)]
    by_cases h2 : b.length - 2 > (nth b 0).toNat * 256 + (nth b 1).toNat
    · rw [if_pos (by simp; omega), if_pos h2]; rfl
    · rw [if_neg (by simp; omega), if_neg h2, ck_pos (by omega), p_rElements _ (by simp; omega), Option.bind_some]
      by_cases h3 : (elmF 0 [] (b.drop 2)).2 ≠ 0
      · rw [if_pos (by simpa using h3), if_pos h3]; rfl
      · rw [if_neg (by simpa using h3), if_neg h3]
        exact p_rDloop _ (by have := elm_len' (b.drop 2); rw [List.length_drop] at this; omega) (elm_mem (by simpa using h3))
end Go.Proofs.YtmdpmallgcekgaaDoor

set_option linter.unusedSimpArgs false
set_option linter.unusedVariables false
namespace Go.Proofs.YtmdpmallgcekgaaDoor
open Go.RowKit Go.Abs
/-! numbers are recovered -/
theorem byG_app : ∀ (k : Nat) (n : Int) (out : List UInt8), n.toNat ≤ k → byG n out = byF n ++ out
  | k, n, out, h => by
    unfold byF
    rw [byG]
    conv => rhs; rw [byG]
    by_cases hn : n > 0
    · rw [if_pos hn, if_pos hn]
      match k, h with
      | 0, h => omega
      | k + 1, h =>
        rw [byG_app k (n / 256) _ (by omega), byG_app k (n / 256) [UInt8.ofInt n] (by omega)]
        simp
    · rw [if_neg hn, if_neg hn]; rfl
theorem byF_pos {n : Int} (h : n > 0) : byF n = byF (n / 256) ++ [UInt8.ofInt n] := by
  conv => lhs; unfold byF; rw [byG, if_pos h]
  exact byG_app _ _ _ (Nat.le_refl _)
theorem byF_zero {n : Int} (h : n ≤ 0) : byF n = [] := by unfold byF; rw [byG, if_neg (by omega)]
theorem ofInt_nat (n : Int) (h : 0 ≤ n) : ((UInt8.ofInt n).toNat : Int) = n % 256 := by
  rw [← ofInt_mod h]; exact byte_back (by omega)
theorem numS_app : ∀ (x y : List UInt8) (m : Int), numS m (x ++ y) = numS (numS m x) y
  | [], y, m => rfl
  | a :: x, y, m => by rw [List.cons_append, numS, numS, numS_app x y]
theorem numS_byF : ∀ (k : Nat) (n : Int), 0 ≤ n → n.toNat ≤ k → numS 0 (byF n) = n
  | k, n, h0, h => by
    by_cases hn : n > 0
    · match k, h with
      | 0, h => omega
      | k + 1, h =>
        rw [byF_pos hn, numS_app, numS_byF k (n / 256) (by omega) (by omega), numS, numS, ofInt_nat n h0]
        omega
    · rw [byF_zero (by omega), numS]; omega
theorem byF_first : ∀ (k : Nat) (n : Int), 0 < n → n.toNat ≤ k → byF n ≠ [] ∧ nth (byF n) 0 ≠ 0
  | k, n, h0, h => by
    rw [byF_pos h0]
    by_cases hq : n / 256 > 0
    · match k, h with
      | 0, h => omega
      | k + 1, h =>
        obtain ⟨h1, h2⟩ := byF_first k (n / 256) hq (by omega)
        refine ⟨by simp, ?_⟩
        match hb : byF (n / 256), h1, h2 with
        | x :: r, _, h2 => exact h2
    · rw [byF_zero (by omega)]
      refine ⟨by simp, fun e => ?_⟩
      have e' : UInt8.ofInt n = 0 := e
      have := ofInt_nat n (by omega)
      rw [e'] at this
      simp at this
      omega
theorem byF_good {n : Int} (h0 : 0 < n) (h1 : n < 281474976710656) : badN (byF n) = false := by
  obtain ⟨a1, a2⟩ := byF_first n.toNat n h0 (Nat.le_refl _)
  have hl := byG_len 6 n [] (by rw [show (256 : Int) ^ 6 = 281474976710656 from by decide]; omega)
  have hl' : (byF n).length ≤ 6 := by simpa [byF] using hl
  have hp : 0 < (byF n).length := List.length_pos_iff.2 a1
  unfold badN
  simp [a2]
  omega
theorem num_back {n : Int} (h0 : 0 < n) : numS 0 (byF n) = n := numS_byF n.toNat n (by omega) (Nat.le_refl _)
end Go.Proofs.YtmdpmallgcekgaaDoor

set_option linter.unusedSimpArgs false
set_option linter.unusedVariables false
namespace Go.Proofs.YtmdpmallgcekgaaDoor
open Go.RowKit Go.Abs
/-! numbers of telephones are recovered -/
def pkG : List UInt8 → List UInt8
  | [] => []
  | [c] => [(u8shl (c - 48) 4) ||| 15]
  | c :: d :: r => ((u8shl (c - 48) 4) ||| (d - 48)) :: pkG r
theorem pkG_one {l : List UInt8} (h : l.length = 1) : pkG l = [(u8shl (nth l 0 - 48) 4) ||| 15] := by
  match l, h with
  | [c], _ => rfl
theorem pkG_two {l : List UInt8} (h : 2 ≤ l.length) : pkG l = ((u8shl (nth l 0 - 48) 4) ||| (nth l 1 - 48)) :: pkG (l.drop 2) := by
  match l, h with
  | c :: d :: r, _ => rfl
theorem p_PackG (s : List UInt8) (hv : validB s = true) : f_digits_Pack s = some (pkG s, 0) := by
  have hl := validB_len hv
  unfold f_digits_Pack
  rw [p_Valid s (by omega), Option.bind_some, hv, if_neg (by simp)]
  have := loop_spec (step := fun st => f_digits_Pack_l1 s st.1 st.2) (fun st : List UInt8 × Int => some (st.1 ++ pkG (s.drop st.2.toNat), (0 : Int))) (fun st : List UInt8 × Int => 0 ≤ st.2 ∧ (2 * st.1.length : Int) = st.2 ∧ st.2 ≤ (s.length : Int) + 1) (fun st => ((s.length : Int) - st.2).toNat) (fun st hI => by
    obtain ⟨b, i⟩ := st
    obtain ⟨i0, i1, i2⟩ := hI
    simp only at i0 i1 i2 ⊢
    unfold f_digits_Pack_l1
    by_cases hi : i < (s.length : Int)
    · have n0 : nth (s.drop i.toNat) 0 = nth s i.toNat := by rw [nth_drop _ _ _ (by omega)]; rfl
      rw [if_pos (by simpa using hi), ck_pos (by omega)]
      by_cases hj : i + 1 < (s.length : Int)
      · have n1 : nth (s.drop i.toNat) 1 = nth s (i.toNat + 1) := by rw [nth_drop _ _ _ (by omega)]
        rw [if_pos (by simpa using hj), ck_pos (by omega), ck_pos (by omega)]
        unfold f_digits_Pack_j1
        rw [ck_pos (by omega), ck_pos (by decide), ck_pos (by simp; omega), ck_pos (by omega), pkG_two (by rw [List.length_drop]; omega), n0, n1, show Int.toNat (i + 1) = i.toNat + 1 by omega]
        refine .inr ⟨_, rfl, ⟨by simp only; omega, by simp; omega, by simp only; omega⟩, by simp only; omega, ?_⟩
        simp only
        rw [List.drop_drop, show (i + 2).toNat = i.toNat + 2 by omega]
        simp
      · rw [if_neg (by simpa using hj)]
        unfold f_digits_Pack_j1
        rw [ck_pos (by omega), ck_pos (by decide), ck_pos (by simp; omega), ck_pos (by omega), pkG_one (by rw [List.length_drop]; omega), n0]
        refine .inr ⟨_, rfl, ⟨by simp only; omega, by simp; omega, by simp only; omega⟩, by simp only; omega, ?_⟩
        simp only
        rw [List.drop_of_length_le (show s.length ≤ (i + 2).toNat by omega)]
        simp [pkG]
    · rw [if_neg (by simpa using hi), List.drop_of_length_le (by omega)]
      exact .inl ⟨_, rfl, by simp [pkG]⟩) (s := ([], 0)) ⟨by simp, by simp, by simp; omega⟩ (by simp only; omega)
  rw [this]; simp
theorem pkF_valid {s : List UInt8} (hv : validB s = true) : pkF s = pkG s := by
  unfold pkF; rw [p_PackG s hv]; rfl
theorem two_tab : ∀ x y : Fin 10, let c := UInt8.ofNat (48 + x.val); let d := UInt8.ofNat (48 + y.val); let b := (u8shl (c - 48) 4) ||| (d - 48); (b % 16 ≠ 15) ∧ 48 + b / 16 = c ∧ 48 + b % 16 = d := by decide +kernel
theorem one_tab : ∀ x : Fin 10, let c := UInt8.ofNat (48 + x.val); let b := (u8shl (c - 48) 4) ||| 15; (b % 16 = 15) ∧ 48 + b / 16 = c := by decide +kernel
theorem dig_fin {c : UInt8} (h : isDig c = true) : ∃ x : Fin 10, c = UInt8.ofNat (48 + x.val) := by
  unfold isDig at h
  simp only [Bool.and_eq_true, decide_eq_true_eq, UInt8.le_iff_toNat_le] at h
  have h1 : (48 : UInt8).toNat = 48 := rfl
  have h2 : (57 : UInt8).toNat = 57 := rfl
  refine ⟨⟨c.toNat - 48, by omega⟩, ?_⟩
  apply UInt8.toNat_inj.1
  rw [UInt8.toNat_ofNat']
  have := c.toNat_lt
  show c.toNat = (48 + (c.toNat - 48)) % 2 ^ 8
  omega
theorem upk_pk : ∀ s : List UInt8, s.all isDig = true → upkG (pkG s) = s
  | [], _ => rfl
  | [c], h => by
    simp at h
    obtain ⟨x, rfl⟩ := dig_fin h
    have := one_tab x
    simp only at this
    rw [pkG, upkG, if_neg (fun h => h.elim (fun h => h this.1) (fun h => h rfl)), this.2]
  | c :: d :: r, h => by
    simp at h
    obtain ⟨x, rfl⟩ := dig_fin h.1
    obtain ⟨y, rfl⟩ := dig_fin h.2.1
    have := two_tab x y
    simp only at this
    rw [pkG, upkG, if_pos (.inl this.1), this.2.1, this.2.2, upk_pk r (by simpa using h.2.2)]
    rfl
theorem tel_back {s : List UInt8} (hv : validB s = true) : unpF (pkF s) = (s, 0) := by
  have hd : s.all isDig = true := by
    unfold validB at hv
    simp only [Bool.and_eq_true] at hv
    exact hv.1.1
  rw [pkF_valid hv]
  unfold unpF finU
  rw [upk_pk s hd, if_pos hv]
end Go.Proofs.YtmdpmallgcekgaaDoor

set_option linter.unusedSimpArgs false
set_option linter.unusedVariables false
namespace Go.Proofs.YtmdpmallgcekgaaDoor
open Go.RowKit Go.Abs
/-! a record is recovered -/
theorem num_step {r0 : Record} {rest : List Element} {t n : Int} (set : Int → Record) (h0 : 0 ≤ n) (h1 : n < 281474976710656) (hz : set 0 = r0) (hf : ∀ v, badN v = false → fldF r0 ⟨t, v⟩ = some (set (numS 0 v))) :
    foldF r0 (one t (byF n) ++ rest) = foldF (set n) rest := by
  unfold one
  by_cases hn : n > 0
  · obtain ⟨a1, _⟩ := byF_first n.toNat n hn (Nat.le_refl _)
    rw [if_neg (fun h => a1 (List.length_eq_zero_iff.1 h)), List.singleton_append, foldF, hf _ (byF_good hn h1), num_back hn]
  · have : n = 0 := by omega
    subst this
    rw [byF_zero (by omega), if_pos (show ([] : List UInt8).length = 0 from rfl), List.nil_append, hz]
theorem tel_step {r0 : Record} {rest : List Element} {t : Int} {s : List UInt8} (set : List UInt8 → Record) (hv : validB s = true ∨ s = []) (hz : set [] = r0) (hf : ∀ v, (unpF v).2 = 0 → fldF r0 ⟨t, v⟩ = some (set (unpF v).1)) :
    foldF r0 (one t (pkF s) ++ rest) = foldF (set s) rest := by
  unfold one
  rcases hv with hv | hv
  · have hb := tel_back hv
    have hne : ¬ (pkF s).length = 0 := by
      intro h
      have : pkF s = [] := List.length_eq_zero_iff.1 h
      rw [this] at hb
      have e := congrArg Prod.snd hb
      have e2 : (unpF []).2 = 12 := rfl
      rw [e2] at e
      cases e
    rw [if_neg hne, List.singleton_append, foldF, hf _ (by rw [hb]), hb]
  · subst hv
    rw [pkF_nil, if_pos (show ([] : List UInt8).length = 0 from rfl), List.nil_append, hz]
theorem flag_step {r0 : Record} {r : Record} (hl : r0.last = false) (hi : r0.inbound = false) : foldF r0 (one 11 (byF (flI r))) = some { r0 with last := r.last, inbound := r.inbound } := by
  have hb : ∀ n : Fin 4, byF (n.val : Int) = if n.val = 0 then [] else [UInt8.ofNat n.val] := by
    intro n
    match n with
    | ⟨0, _⟩ => rw [byF_zero (by simp)]; rfl
    | ⟨1, _⟩ => rw [byF_pos (by simp), byF_zero (by simp)]; rfl
    | ⟨2, _⟩ => rw [byF_pos (by simp), byF_zero (by simp)]; rfl
    | ⟨3, _⟩ => rw [byF_pos (by simp), byF_zero (by simp)]; rfl
  have h0 : byF 0 = [] := hb 0
  have h1 : byF 1 = [1] := hb 1
  have h2 : byF 2 = [2] := hb 2
  have h3 : byF 3 = [3] := hb 3
  obtain ⟨s, e, k, a, b, st, u, c, p, la, tr, ib⟩ := r0
  simp only at hl hi
  subst hl hi
  unfold flI one
  cases r.last <;> cases r.inbound
  · simp only [Bool.false_eq_true, if_false, Int.add_zero]; rw [h0]; rfl
  · simp only [Bool.false_eq_true, if_false, if_true, Int.zero_add]; rw [h2]; rfl
  · simp only [Bool.false_eq_true, if_false, if_true, Int.add_zero]; rw [h1]; rfl
  · simp only [if_true]; rw [show (1 + 2 : Int) = 3 from rfl, h3]; rfl
theorem fold_els {r : Record} (g : Good r) : foldF Z (elsF r) = some r := by
  have gs := g.source; have gr := g.serial; have gk := g.kind; have gt := g.start; have gu := g.units; have gc := g.call; have gp := g.part; have gkk := g.trunk
  have gb : validB r.b = true ∨ r.b = [] := g.b.elim .inl (fun h => .inr h.2)
  have nb : ∀ {t : Int} {v : List UInt8} {r0 : Record}, badN v = false → (¬ t = 4 ∧ ¬ t = 5 ∧ ¬ t = 11) → fldF r0 ⟨t, v⟩ = (if t = 1 then some { r0 with kind := numS 0 v } else if t = 2 then some { r0 with source := numS 0 v } else if t = 3 then some { r0 with serial := numS 0 v } else if t = 6 then some { r0 with start := numS 0 v } else if t = 7 then some { r0 with units := numS 0 v } else if t = 8 then some { r0 with call := numS 0 v } else if t = 9 then some { r0 with part := numS 0 v } else if t = 10 then some { r0 with trunk := numS 0 v } else none) := by
    intro t v r0 hv ht
    unfold fldF
    simp only
    rw [if_neg ht.1, if_neg ht.2.1, if_neg ht.2.2, if_neg (by rw [hv]; simp)]
  unfold elsF
  simp only [List.append_assoc]
  unfold Z
  rw [num_step (r0 := ⟨0, 0, 0, [], [], 0, 0, 0, 0, false, 0, false⟩) (fun n => ⟨0, 0, n, [], [], 0, 0, 0, 0, false, 0, false⟩) (by omega) (by omega) rfl (fun v hv => by rw [nb hv (by decide)]; rfl)]
  rw [num_step (r0 := ⟨0, 0, r.kind, [], [], 0, 0, 0, 0, false, 0, false⟩) (fun n => ⟨n, 0, r.kind, [], [], 0, 0, 0, 0, false, 0, false⟩) (by omega) (by omega) rfl (fun v hv => by rw [nb hv (by decide)]; rfl)]
  rw [num_step (r0 := ⟨r.source, 0, r.kind, [], [], 0, 0, 0, 0, false, 0, false⟩) (fun n => ⟨r.source, n, r.kind, [], [], 0, 0, 0, 0, false, 0, false⟩) (by omega) (by omega) rfl (fun v hv => by rw [nb hv (by decide)]; rfl)]
  rw [tel_step (r0 := ⟨r.source, r.serial, r.kind, [], [], 0, 0, 0, 0, false, 0, false⟩) (fun n => ⟨r.source, r.serial, r.kind, n, [], 0, 0, 0, 0, false, 0, false⟩) (.inl g.a) rfl (fun v hv => by unfold fldF; simp only; rw [if_pos trivial, if_pos hv])]
  rw [tel_step (r0 := ⟨r.source, r.serial, r.kind, r.a, [], 0, 0, 0, 0, false, 0, false⟩) (fun n => ⟨r.source, r.serial, r.kind, r.a, n, 0, 0, 0, 0, false, 0, false⟩) gb rfl (fun v hv => by unfold fldF; simp only; rw [if_neg (by decide), if_pos trivial, if_pos hv])]
  rw [num_step (r0 := ⟨r.source, r.serial, r.kind, r.a, r.b, 0, 0, 0, 0, false, 0, false⟩) (fun n => ⟨r.source, r.serial, r.kind, r.a, r.b, n, 0, 0, 0, false, 0, false⟩) (by omega) (by omega) rfl (fun v hv => by rw [nb hv (by decide)]; rfl)]
  rw [num_step (r0 := ⟨r.source, r.serial, r.kind, r.a, r.b, r.start, 0, 0, 0, false, 0, false⟩) (fun n => ⟨r.source, r.serial, r.kind, r.a, r.b, r.start, n, 0, 0, false, 0, false⟩) (by omega) (by omega) rfl (fun v hv => by rw [nb hv (by decide)]; rfl)]
  rw [num_step (r0 := ⟨r.source, r.serial, r.kind, r.a, r.b, r.start, r.units, 0, 0, false, 0, false⟩) (fun n => ⟨r.source, r.serial, r.kind, r.a, r.b, r.start, r.units, n, 0, false, 0, false⟩) (by omega) (by omega) rfl (fun v hv => by rw [nb hv (by decide)]; rfl)]
  rw [num_step (r0 := ⟨r.source, r.serial, r.kind, r.a, r.b, r.start, r.units, r.call, 0, false, 0, false⟩) (fun n => ⟨r.source, r.serial, r.kind, r.a, r.b, r.start, r.units, r.call, n, false, 0, false⟩) (by omega) (by omega) rfl (fun v hv => by rw [nb hv (by decide)]; rfl)]
  rw [num_step (r0 := ⟨r.source, r.serial, r.kind, r.a, r.b, r.start, r.units, r.call, r.part, false, 0, false⟩) (fun n => ⟨r.source, r.serial, r.kind, r.a, r.b, r.start, r.units, r.call, r.part, false, n, false⟩) (by omega) (by omega) rfl (fun v hv => by rw [nb hv (by decide)]; rfl)]
  rw [flag_step rfl rfl]
theorem bytesT_parts {r : Record} (h : (encL (elsF r)).length ≤ 110) : (bytesT r).length = 2 + (encL (elsF r)).length ∧ headN (bytesT r) = (encL (elsF r)).length ∧ (bytesT r).drop 2 = encL (elsF r) := by
  refine ⟨by simp [bytesT]; omega, ?_, rfl⟩
  unfold headN
  have e0 : nth (bytesT r) 0 = UInt8.ofInt (((encL (elsF r)).length : Int) / 256) := rfl
  have e1 : nth (bytesT r) 1 = UInt8.ofInt ((encL (elsF r)).length : Int) := rfl
  rw [e0, e1]
  have h1 := ofInt_nat (((encL (elsF r)).length : Int) / 256) (by omega)
  have h2 := ofInt_nat ((encL (elsF r)).length : Int) (by omega)
  omega
theorem dec_back {r : Record} (ha : r.a.length < 1000000000) (hb : r.b.length < 1000000000) (h : errF r = 0) : decT (bytesT r) = (r, 0) := by
  have g := errF_good h
  obtain ⟨e1, e2, e3⟩ := bytesT_parts (enc_len g ha hb)
  unfold decT
  rw [e1, e2, e3, if_neg (by omega), if_neg (by omega), elm_enc _ 0 [] (els_ok g ha hb), if_neg (by simp), List.nil_append]
  unfold finD endF
  rw [fold_els g]
  simp [h]
end Go.Proofs.YtmdpmallgcekgaaDoor

set_option linter.unusedSimpArgs false
set_option linter.unusedVariables false
namespace Go.Proofs.YtmdpmallgcekgaaDoor
open Go.RowKit Go.Abs
/-! beginnings, and one byte more -/
theorem nth_take (b : List UInt8) (n i : Nat) (h : i < n) (hb : n ≤ b.length) : nth (b.take n) i = nth b i := by
  rw [nth_eq (show i < (b.take n).length by simp; omega), nth_eq (by omega), List.getElem_take]
theorem nth_app (x y : List UInt8) (i : Nat) (h : i < x.length) : nth (x ++ y) i = nth x i := by
  rw [nth_eq (by simp; omega), nth_eq h, List.getElem_append_left h]
theorem dec_short {r : Record} (ha : r.a.length < 1000000000) (hb : r.b.length < 1000000000) (h : errF r = 0) {n : Nat} (hn : n < (bytesT r).length) : (decT ((bytesT r).take n)).2 = 2 := by
  have g := errF_good h
  obtain ⟨e1, e2, e3⟩ := bytesT_parts (enc_len g ha hb)
  unfold decT
  rw [if_pos]
  rw [List.length_take, Nat.min_eq_left (by omega)]
  by_cases h2 : n < 2
  · exact .inl h2
  · right
    have : headN ((bytesT r).take n) = headN (bytesT r) := by unfold headN; rw [nth_take _ _ _ (by omega) (by omega), nth_take _ _ _ (by omega) (by omega)]
    rw [this, e2]; omega
theorem dec_more {r : Record} (ha : r.a.length < 1000000000) (hb : r.b.length < 1000000000) (h : errF r = 0) (c : UInt8) : (decT (bytesT r ++ [c])).2 = 3 := by
  have g := errF_good h
  obtain ⟨e1, e2, e3⟩ := bytesT_parts (enc_len g ha hb)
  have : headN (bytesT r ++ [c]) = headN (bytesT r) := by unfold headN; rw [nth_app _ _ _ (by omega), nth_app _ _ _ (by omega)]
  unfold decT
  rw [this, e2, List.length_append, e1, if_neg (by simp; omega), if_pos (by rw [List.length_singleton]; omega)]
end Go.Proofs.YtmdpmallgcekgaaDoor

set_option linter.unusedSimpArgs false
set_option linter.unusedVariables false
namespace Go.Proofs.YtmdpmallgcekgaaDoor
open Go.RowKit Go.Abs
/-! values that are read are written the same -/
theorem ofInt_low (m : Int) (x : UInt8) (h : 0 ≤ m) : UInt8.ofInt (m * 256 + (x.toNat : Int)) = x := by
  apply UInt8.toNat_inj.1
  have h1 := ofInt_nat (m * 256 + (x.toNat : Int)) (by omega)
  have h2 := x.toNat_lt
  omega
theorem byF_numS : ∀ (v : List UInt8) (m : Int), 0 ≤ m → (m > 0 ∨ v = [] ∨ nth v 0 ≠ 0) → byF (numS m v) = byF m ++ v
  | [], m, _, _ => by rw [numS, List.append_nil]
  | x :: r, m, h0, h => by
    have hx := x.toNat_lt
    have hp : m * 256 + (x.toNat : Int) > 0 := by
      rcases h with h | h | h
      · omega
      · cases h
      · have : x ≠ 0 := h
        have : 0 < x.toNat := Nat.pos_of_ne_zero fun e => this (UInt8.toNat_inj.1 (by rw [e]; rfl))
        omega
    rw [numS, byF_numS r _ (by omega) (.inl hp), byF_pos hp, ofInt_low m x h0]
    have : (m * 256 + (x.toNat : Int)) / 256 = m := by omega
    rw [this]; simp
theorem num_same {v : List UInt8} (h : badN v = false) : byF (numS 0 v) = v := by
  unfold badN at h
  simp only [Bool.or_eq_false_iff, beq_eq_false_iff_ne] at h
  rw [byF_numS v 0 (by omega) (.inr (.inr h.2)), byF_zero (by omega)]; rfl
theorem isDig_add (x : UInt8) (h : isDig (48 + x) = true) (hx : x.toNat < 16) : x.toNat ≤ 9 := by
  have key : ∀ n : Fin 16, isDig (48 + UInt8.ofNat n.val) = true → n.val ≤ 9 := by decide +kernel
  have := key ⟨x.toNat, hx⟩
  simp at this
  exact this h
theorem nib_lt' (x : UInt8) : (x / 16).toNat < 16 ∧ (x % 16).toNat < 16 := by
  have := x.toNat_lt
  simp
  omega
theorem nib_join (x : UInt8) : ∀ _ : True, (u8shl (48 + x / 16 - 48) 4 ||| (48 + x % 16 - 48)) = x := fun _ => u8_all (p := fun x => (u8shl (48 + x / 16 - 48) 4 ||| (48 + x % 16 - 48)) = x) (by decide +kernel) x
theorem nib_last (x : UInt8) : x % 16 = 15 → (u8shl (48 + x / 16 - 48) 4 ||| 15) = x := u8_all (p := fun x => x % 16 = 15 → (u8shl (48 + x / 16 - 48) 4 ||| 15) = x) (by decide +kernel) x
theorem pk_upk : ∀ v : List UInt8, pkG (upkG v) = v
  | [] => rfl
  | x :: r => by
    rw [upkG]
    by_cases h : x % 16 ≠ 15 ∨ r ≠ []
    · rw [if_pos h]
      show (u8shl (48 + x / 16 - 48) 4 ||| (48 + x % 16 - 48)) :: pkG (upkG r) = x :: r
      rw [nib_join x trivial, pk_upk r]
    · have h1 : x % 16 = 15 := Decidable.byContradiction fun e => h (.inl e)
      have h2 : r = [] := Decidable.byContradiction fun e => h (.inr e)
      rw [if_neg h, h2]
      show [(u8shl (48 + x / 16 - 48) 4 ||| 15)] = [x]
      rw [nib_last x h1]
theorem tel_same {v : List UInt8} (h : (unpF v).2 = 0) : pkF (unpF v).1 = v ∧ validB (unpF v).1 = true := by
  unfold unpF finU at h ⊢
  by_cases hv : validB (upkG v) = true
  · rw [if_pos hv]
    exact ⟨by rw [pkF_valid hv, pk_upk], hv⟩
  · rw [if_neg hv] at h; cases h
theorem flag_same {v : List UInt8} {r : Record} (h : flagV v = true) : byF (flI { r with last := (nth v 0 % 2 == 1), inbound := decide (nth v 0 ≥ 2) }) = v := by
  unfold flagV at h
  simp only [Bool.and_eq_true, decide_eq_true_eq] at h
  obtain ⟨⟨h1, h2⟩, h3⟩ := h
  match v, h1 with
  | [x], _ =>
    have hx : nth [x] 0 = x := rfl
    rw [hx] at h2 h3 ⊢
    have key : ∀ x : UInt8, 1 ≤ x.toNat → x.toNat ≤ 3 → (if (x % 2 == 1) = true then (1 : Int) else 0) + (if decide (x ≥ 2) = true then 2 else 0) = (x.toNat : Int) := u8_all (by decide +kernel)
    have e : flI { r with last := (x % 2 == 1), inbound := decide (x ≥ 2) } = (x.toNat : Int) := key x h2 h3
    rw [e]
    have := byF_numS [x] 0 (by omega) (.inr (.inr (by rw [hx]; rintro rfl; simp at h2)))
    simpa [numS, byF_zero] using this
end Go.Proofs.YtmdpmallgcekgaaDoor

set_option linter.unusedSimpArgs false
set_option linter.unusedVariables false
namespace Go.Proofs.YtmdpmallgcekgaaDoor
open Go.RowKit Go.Abs
/-! elements that are read are written the same -/
/-- The value of a field. -/
def fv (r : Record) (t : Nat) : List UInt8 := nth (valsF r) t
theorem fv0 (r : Record) : fv r 0 = [] := rfl
theorem fv1 (r : Record) : fv r 1 = byF r.kind := rfl
theorem fv2 (r : Record) : fv r 2 = byF r.source := rfl
theorem fv3 (r : Record) : fv r 3 = byF r.serial := rfl
theorem fv4 (r : Record) : fv r 4 = pkF r.a := rfl
theorem fv5 (r : Record) : fv r 5 = pkF r.b := rfl
theorem fv6 (r : Record) : fv r 6 = byF r.start := rfl
theorem fv7 (r : Record) : fv r 7 = byF r.units := rfl
theorem fv8 (r : Record) : fv r 8 = byF r.call := rfl
theorem fv9 (r : Record) : fv r 9 = byF r.part := rfl
theorem fv10 (r : Record) : fv r 10 = byF r.trunk := rfl
theorem fv11 (r : Record) : fv r 11 = byF (flI r) := rfl
def elsFrom (r : Record) : Nat → Nat → List Element
  | _, 0 => []
  | k, n + 1 => one (k : Int) (fv r k) ++ elsFrom r (k + 1) n
theorem els_from (r : Record) : elsFrom r 1 11 = elsF r := by
  simp only [elsFrom, elsF, List.append_nil, List.append_assoc]
  rfl
theorem from_skip (r : Record) : ∀ (d k n : Nat), (∀ t, k ≤ t → t < k + d → fv r t = []) → elsFrom r k (d + n) = elsFrom r (k + d) n
  | 0, k, n, _ => by simp
  | d + 1, k, n, h => by
    rw [show d + 1 + n = (d + n) + 1 by omega, elsFrom, h k (by omega) (by omega), from_skip r d (k + 1) n (fun t h1 h2 => h t (by omega) (by omega))]
    rw [show k + 1 + d = k + (d + 1) by omega]; rfl
theorem unp_ne {v : List UInt8} (h : (unpF v).2 = 0) (e : v = []) : False := by
  subst e
  have e2 : (unpF []).2 = 12 := by decide
  rw [e2] at h; cases h
theorem flI_kind (r : Record) (n : Int) : True := trivial
theorem nth_set_eq {α : Type} [Inhabited α] (l : List α) (t : Nat) (v : α) (h : t < l.length) : nth (l.set t v) t = v := by
  unfold nth; rw [List.getD_eq_getElem?_getD, List.getElem?_set_self h]; rfl
theorem nth_set_ne {α : Type} [Inhabited α] (l : List α) (t s : Nat) (v : α) (h : s ≠ t) : nth (l.set t v) s = nth l s := by
  unfold nth; rw [List.getD_eq_getElem?_getD, List.getD_eq_getElem?_getD, List.getElem?_set_ne (Ne.symm h)]
theorem fv_set {r r' : Record} {t : Nat} {v w : List UInt8} (h : valsF r' = (valsF r).set t v) (ht : t < 12) (hv : v = w) : fv r' t = w ∧ ∀ s, s < 12 → s ≠ t → fv r' s = fv r s := by
  refine ⟨?_, fun s _ hs => ?_⟩
  · unfold fv; rw [h, nth_set_eq _ _ _ (show t < (valsF r).length from ht)]; exact hv
  · unfold fv; rw [h, nth_set_ne _ _ _ _ hs]
/-- What a field that is read does. -/
def Keeps (r r' : Record) (x : Element) : Prop := ∃ t : Nat, x.tag = (t : Int) ∧ 1 ≤ t ∧ t ≤ 11 ∧ fv r' t = x.value ∧ x.value ≠ [] ∧ ∀ s, s < 12 → s ≠ t → fv r' s = fv r s
theorem keeps_of {r r' : Record} {x : Element} (t : Nat) {v : List UInt8} (h : valsF r' = (valsF r).set t v) (hx : x.tag = (t : Int)) (h1 : 1 ≤ t) (h2 : t ≤ 11) (hv : v = x.value) (hn : x.value ≠ []) : Keeps r r' x :=
  have k := fv_set (w := x.value) h (by omega) hv
  ⟨t, hx, h1, h2, k.1, hn, k.2⟩
theorem set1 (r : Record) (n : Int) : valsF { r with kind := n } = (valsF r).set 1 (byF n) := rfl
theorem set2 (r : Record) (n : Int) : valsF { r with source := n } = (valsF r).set 2 (byF n) := rfl
theorem set3 (r : Record) (n : Int) : valsF { r with serial := n } = (valsF r).set 3 (byF n) := rfl
theorem set4 (r : Record) (s : List UInt8) : valsF { r with a := s } = (valsF r).set 4 (pkF s) := rfl
theorem set5 (r : Record) (s : List UInt8) : valsF { r with b := s } = (valsF r).set 5 (pkF s) := rfl
theorem set6 (r : Record) (n : Int) : valsF { r with start := n } = (valsF r).set 6 (byF n) := rfl
theorem set7 (r : Record) (n : Int) : valsF { r with units := n } = (valsF r).set 7 (byF n) := rfl
theorem set8 (r : Record) (n : Int) : valsF { r with call := n } = (valsF r).set 8 (byF n) := rfl
theorem set9 (r : Record) (n : Int) : valsF { r with part := n } = (valsF r).set 9 (byF n) := rfl
theorem set10 (r : Record) (n : Int) : valsF { r with trunk := n } = (valsF r).set 10 (byF n) := rfl
theorem set11 (r : Record) (a b : Bool) : valsF { r with last := a, inbound := b } = (valsF r).set 11 (byF (flI { r with last := a, inbound := b })) := rfl
theorem nzB {v : List UInt8} (h : badN v = false) : v ≠ [] := fun e => by subst e; simp [badN] at h
theorem nzF {v : List UInt8} (h : flagV v = true) : v ≠ [] := fun e => by subst e; simp [flagV] at h
/-- A field that is read: its value is the element's, the others stay. -/
theorem fld_keeps {r r' : Record} {x : Element} (h : fldF r x = some r') : Keeps r r' x := by
  unfold fldF at h
  by_cases h4 : x.tag = 4
  · rw [if_pos h4] at h
    by_cases hu : (unpF x.value).2 = 0
    · rw [if_pos hu] at h
      injection h with h; rw [← h]
      exact keeps_of 4 (set4 r _) h4 (by omega) (by omega) (tel_same hu).1 (fun e => unp_ne hu e)
    · rw [if_neg hu] at h; cases h
  rw [if_neg h4] at h
  by_cases h5 : x.tag = 5
  · rw [if_pos h5] at h
    by_cases hu : (unpF x.value).2 = 0
    · rw [if_pos hu] at h
      injection h with h; rw [← h]
      exact keeps_of 5 (set5 r _) h5 (by omega) (by omega) (tel_same hu).1 (fun e => unp_ne hu e)
    · rw [if_neg hu] at h; cases h
  rw [if_neg h5] at h
  by_cases h11 : x.tag = 11
  · rw [if_pos h11] at h
    by_cases hu : flagV x.value = true
    · rw [if_pos hu] at h
      injection h with h; rw [← h]
      exact keeps_of 11 (set11 r _ _) h11 (by omega) (by omega) (flag_same hu) (nzF hu)
    · rw [if_neg hu] at h; cases h
  rw [if_neg h11] at h
  by_cases hb : badN x.value = true
  · rw [if_pos hb] at h; cases h
  rw [if_neg hb] at h
  have hb' : badN x.value = false := by simpa using hb
  by_cases h1 : x.tag = 1
  · rw [if_pos h1] at h
    injection h with h; rw [← h]
    exact keeps_of 1 (set1 r _) h1 (by omega) (by omega) (num_same hb') (nzB hb')
  rw [if_neg h1] at h
  by_cases h2 : x.tag = 2
  · rw [if_pos h2] at h
    injection h with h; rw [← h]
    exact keeps_of 2 (set2 r _) h2 (by omega) (by omega) (num_same hb') (nzB hb')
  rw [if_neg h2] at h
  by_cases h3 : x.tag = 3
  · rw [if_pos h3] at h
    injection h with h; rw [← h]
    exact keeps_of 3 (set3 r _) h3 (by omega) (by omega) (num_same hb') (nzB hb')
  rw [if_neg h3] at h
  by_cases h6 : x.tag = 6
  · rw [if_pos h6] at h
    injection h with h; rw [← h]
    exact keeps_of 6 (set6 r _) h6 (by omega) (by omega) (num_same hb') (nzB hb')
  rw [if_neg h6] at h
  by_cases h7 : x.tag = 7
  · rw [if_pos h7] at h
    injection h with h; rw [← h]
    exact keeps_of 7 (set7 r _) h7 (by omega) (by omega) (num_same hb') (nzB hb')
  rw [if_neg h7] at h
  by_cases h8 : x.tag = 8
  · rw [if_pos h8] at h
    injection h with h; rw [← h]
    exact keeps_of 8 (set8 r _) h8 (by omega) (by omega) (num_same hb') (nzB hb')
  rw [if_neg h8] at h
  by_cases h9 : x.tag = 9
  · rw [if_pos h9] at h
    injection h with h; rw [← h]
    exact keeps_of 9 (set9 r _) h9 (by omega) (by omega) (num_same hb') (nzB hb')
  rw [if_neg h9] at h
  by_cases h10 : x.tag = 10
  · rw [if_pos h10] at h
    injection h with h; rw [← h]
    exact keeps_of 10 (set10 r _) h10 (by omega) (by omega) (num_same hb') (nzB hb')
  rw [if_neg h10] at h
  cases h
theorem fold_keeps : ∀ (l : List Element) (r r' : Record) (last : Nat), last ≤ 11 → okL (last : Int) l → foldF r l = some r' → (∀ t, last < t → t < 12 → fv r t = []) →
    elsFrom r' (last + 1) (11 - last) = l ∧ ∀ t, t ≤ last → fv r' t = fv r t
  | [], r, r', last, hl, _, h, hz => by
    rw [foldF] at h
    cases h
    refine ⟨?_, fun t _ => rfl⟩
    have this : elsFrom r (last + 1) (11 - last) = elsFrom r (last + 1 + (11 - last)) 0 := from_skip r (11 - last) (last + 1) 0 (fun t h1 h2 => hz t (by omega) (by omega))
    rw [this]; rfl
  | x :: l, r, r', last, hl, ho, h, hz => by
    rw [foldF] at h
    cases hf : fldF r x with
    | none => rw [hf] at h; cases h
    | some r1 =>
      rw [hf] at h
      obtain ⟨t, t1, t2, t3, t4, t5, t6⟩ := fld_keeps hf
      obtain ⟨o1, o2, o3, o4, o5⟩ := ho
      rw [t1] at o5 o3
      have hlt : last < t := by omega
      obtain ⟨q1, q2⟩ := fold_keeps l r1 r' t t3 o5 h (fun s h1 h2 => by rw [t6 s h2 (by omega)]; exact hz s (by omega) h2)
      refine ⟨?_, fun s hs => by rw [q2 s (by omega), t6 s (by omega) (by omega)]⟩
      have hsk := from_skip r' (t - last - 1) (last + 1) (11 - t + 1) (fun s h1 h2 => by rw [q2 s (by omega), t6 s (by omega) (by omega)]; exact hz s (by omega) (by omega))
      rw [show t - last - 1 + (11 - t + 1) = 11 - last by omega, show last + 1 + (t - last - 1) = t by omega] at hsk
      rw [hsk, elsFrom, q1, q2 t (Nat.le_refl _), t4]
      unfold one
      rw [if_neg (fun e => t5 (List.length_eq_zero_iff.1 e)), ← t1]
      rfl
theorem two_ahead {b : List UInt8} (h : 2 ≤ b.length) : nth b 0 :: nth b 1 :: b.drop 2 = b := by
  match b, h with
  | x :: y :: rest, _ => rfl
theorem dec_same {b : List UInt8} (h : (decT b).2 = 0) : bytesT (decT b).1 = b ∧ errF (decT b).1 = 0 := by
  unfold decT at h ⊢
  by_cases h1 : b.length < 2 ∨ b.length - 2 < headN b
  · rw [if_pos h1] at h; cases h
  rw [if_neg h1] at h ⊢
  by_cases h2 : b.length - 2 > headN b
  · rw [if_pos h2] at h; cases h
  rw [if_neg h2] at h ⊢
  by_cases h3 : (elmF 0 [] (b.drop 2)).2 ≠ 0
  · rw [if_pos h3] at h; exact absurd h h3
  rw [if_neg h3] at h ⊢
  obtain ⟨l, e1, e2, e3⟩ := elm_back _ (b.drop 2) 0 [] (Nat.le_refl _) (by omega) (by simpa using h3)
  rw [List.nil_append] at e1
  rw [e1] at h ⊢
  unfold finD endF at h ⊢
  rw [if_pos rfl] at h ⊢
  cases hf : foldF Z l with
  | none => rw [hf] at h; cases h
  | some r =>
    rw [hf] at h
    simp only at h ⊢
    by_cases he : errF r ≠ 0
    · rw [if_pos he] at h; exact absurd h he
    · rw [if_neg he]
      have he' : errF r = 0 := by simpa using he
      refine ⟨?_, he'⟩
      obtain ⟨q, _⟩ := fold_keeps l Z r 0 (by omega) e2 hf (fun t h1 h2 => by
        match t, h1, h2 with
        | 1, _, _ => exact (fv1 _).trans (byF_zero (by decide))
        | 2, _, _ => exact (fv2 _).trans (byF_zero (by decide))
        | 3, _, _ => exact (fv3 _).trans (byF_zero (by decide))
        | 4, _, _ => exact (fv4 _).trans pkF_nil
        | 5, _, _ => exact (fv5 _).trans pkF_nil
        | 6, _, _ => exact (fv6 _).trans (byF_zero (by decide))
        | 7, _, _ => exact (fv7 _).trans (byF_zero (by decide))
        | 8, _, _ => exact (fv8 _).trans (byF_zero (by decide))
        | 9, _, _ => exact (fv9 _).trans (byF_zero (by decide))
        | 10, _, _ => exact (fv10 _).trans (byF_zero (by decide))
        | 11, _, _ => exact (fv11 _).trans (byF_zero (by decide)))
      rw [show 0 + 1 = 1 from rfl, show 11 - 0 = 11 from rfl, els_from] at q
      have hx := (nth b 0).toNat_lt
      have hy := (nth b 1).toNat_lt
      have hlen : (encL l).length = headN b := by rw [e3, List.length_drop]; omega
      unfold bytesT
      rw [q, hlen, e3]
      unfold headN
      have b0 : UInt8.ofInt ((((nth b 0).toNat * 256 + (nth b 1).toNat : Nat) : Int) / 256) = nth b 0 := by
        rw [show (((nth b 0).toNat * 256 + (nth b 1).toNat : Nat) : Int) / 256 = ((nth b 0).toNat : Int) by omega, byte_fwd]
      have b1 : UInt8.ofInt (((nth b 0).toNat * 256 + (nth b 1).toNat : Nat) : Int) = nth b 1 := by
        have := ofInt_low ((nth b 0).toNat : Int) (nth b 1) (by omega)
        rw [show (((nth b 0).toNat * 256 + (nth b 1).toNat : Nat) : Int) = ((nth b 0).toNat : Int) * 256 + ((nth b 1).toNat : Int) by omega]
        exact this
      rw [b0, b1]
      exact two_ahead (by omega)
end Go.Proofs.YtmdpmallgcekgaaDoor

set_option linter.unusedSimpArgs false
set_option linter.unusedVariables false
namespace Go.Proofs.YtmdpmallgcekgaaDoor
open Go.RowKit Go.Abs
/-! the program reads what the document reads -/
theorem and1 : ∀ x : UInt8, ((x &&& 1) != 0) = (x % 2 == 1) := u8_all (by decide +kernel)
theorem and2 : ∀ x : UInt8, x.toNat ≤ 3 → ((x &&& 2) != 0) = decide (x ≥ 2) := u8_all (by decide +kernel)
theorem small_a {r : Record} {s : List UInt8} (h : SmallAB r) (hs : s.length ≤ 15) : SmallAB { r with a := s } := ⟨hs, h.2⟩
theorem small_b {r : Record} {s : List UInt8} (h : SmallAB r) (hs : s.length ≤ 15) : SmallAB { r with b := s } := ⟨h.1, hs⟩
def Fits (r : Record) (x : Element) (ok : Bool) (r' : Record) : Prop := (ok = true ∧ fldF r x = some r' ∧ SmallAB r') ∨ (ok = false ∧ fldF r x = none)
theorem p_tfield_j1 (r : Record) (x : Element) (hx : x.value.length ≤ 100000) (hs : SmallAB r) (hn : x.tag ≠ 1 ∧ x.tag ≠ 2 ∧ x.tag ≠ 3 ∧ x.tag ≠ 6 ∧ x.tag ≠ 7 ∧ x.tag ≠ 8 ∧ x.tag ≠ 9 ∧ x.tag ≠ 10) :
    ∃ ok r', g_tagged_field_j1 x r (x.tag == 4 || x.tag == 5) = some (ok, r') ∧ Fits r x ok r' := by
  obtain ⟨n1, n2, n3, n6, n7, n8, n9, n10⟩ := hn
  have hu := unp_len x.value
  unfold g_tagged_field_j1 Fits fldF
  by_cases h4 : x.tag = 4
  · rw [if_pos (by simp [h4]), p_Unpack _ hx, Option.bind_some, if_pos (by simp [h4]), if_pos h4]
    refine ⟨_, _, rfl, ?_⟩
    by_cases he : (unpF x.value).2 = 0
    · rw [if_pos he]; exact .inl ⟨by simpa using he, rfl, small_a hs hu⟩
    · rw [if_neg he]; exact .inr ⟨by simpa using he, rfl⟩
  rw [if_neg h4]
  by_cases h5 : x.tag = 5
  · rw [if_pos (by simp [h5]), p_Unpack _ hx, Option.bind_some, if_neg (by simp [h5]), if_pos h5]
    refine ⟨_, _, rfl, ?_⟩
    by_cases he : (unpF x.value).2 = 0
    · rw [if_pos he]; exact .inl ⟨by simpa using he, rfl, small_b hs hu⟩
    · rw [if_neg he]; exact .inr ⟨by simpa using he, rfl⟩
  rw [if_neg (by simp [h4, h5]), if_neg h5]
  by_cases h11 : x.tag = 11
  · rw [if_pos (by simpa using h11), if_pos h11, show Int.toNat 0 = 0 from rfl, ck_pos (by intro h; simp at h; omega), ck_pos (by intro h; simp at h; omega)]
    have hf : (((((x.value.length : Int) != 1) || (decide (nth x.value 0 < 1))) || (decide (nth x.value 0 > 3))) = true) ↔ ¬ flagV x.value = true := by
      unfold flagV
      have a1 : (nth x.value 0 < 1) ↔ (nth x.value 0).toNat < 1 := UInt8.lt_iff_toNat_lt
      have a2 : (nth x.value 0 > 3) ↔ 3 < (nth x.value 0).toNat := UInt8.lt_iff_toNat_lt
      simp only [Bool.or_eq_true, bne_iff_ne, ne_eq, decide_eq_true_eq, Bool.and_eq_true, a1, a2]
      omega
    by_cases hv : flagV x.value = true
    · rw [if_neg (fun h => (hf.1 h) hv), if_pos hv]
      have h1 : x.value.length = 1 ∧ (nth x.value 0).toNat ≤ 3 := by
        unfold flagV at hv
        simp only [Bool.and_eq_true, decide_eq_true_eq] at hv
        exact ⟨hv.1.1, hv.2⟩
      rw [ck_pos (by omega), ck_pos (by omega), and1, and2 _ h1.2]
      exact ⟨_, _, rfl, .inl ⟨rfl, rfl, hs⟩⟩
    · rw [if_pos (hf.2 hv), if_neg hv]
      exact ⟨_, _, rfl, .inr ⟨rfl, rfl⟩⟩
  rw [if_neg (by simpa using h11), if_neg h11]
  refine ⟨_, _, rfl, .inr ⟨rfl, ?_⟩⟩
  by_cases hb : badN x.value = true
  · rw [if_pos hb]
  · rw [if_neg hb, if_neg n1, if_neg n2, if_neg n3, if_neg n6, if_neg n7, if_neg n8, if_neg n9, if_neg n10]
theorem p_tfield (r : Record) (x : Element) (hx : x.value.length ≤ 100000) (hs : SmallAB r) : ∃ ok r', g_tagged_field x r = some (ok, r') ∧ Fits r x ok r' := by
  unfold g_tagged_field
  by_cases h1 : x.tag = 1
  · rw [if_pos (decide_eq_true h1), p_number _ hx, Option.bind_some]
    refine ⟨_, _, rfl, ?_⟩
    unfold Fits fldF
    rw [if_neg (show ¬ x.tag = 4 by omega), if_neg (show ¬ x.tag = 5 by omega), if_neg (show ¬ x.tag = 11 by omega)]
    by_cases hb : badN x.value = true
    · rw [if_pos hb, if_pos hb]; exact .inr ⟨rfl, rfl⟩
    · rw [if_neg hb, if_neg hb, if_pos h1]; exact .inl ⟨rfl, rfl, hs⟩
  rw [if_neg (by simpa using h1)]
  by_cases h2 : x.tag = 2
  · rw [if_pos (decide_eq_true h2), p_number _ hx, Option.bind_some]
    refine ⟨_, _, rfl, ?_⟩
    unfold Fits fldF
    rw [if_neg (show ¬ x.tag = 4 by omega), if_neg (show ¬ x.tag = 5 by omega), if_neg (show ¬ x.tag = 11 by omega)]
    by_cases hb : badN x.value = true
    · rw [if_pos hb, if_pos hb]; exact .inr ⟨rfl, rfl⟩
    · rw [if_neg hb, if_neg hb, if_neg h1, if_pos h2]; exact .inl ⟨rfl, rfl, hs⟩
  rw [if_neg (by simpa using h2)]
  by_cases h3 : x.tag = 3
  · rw [if_pos (decide_eq_true h3), p_number _ hx, Option.bind_some]
    refine ⟨_, _, rfl, ?_⟩
    unfold Fits fldF
    rw [if_neg (show ¬ x.tag = 4 by omega), if_neg (show ¬ x.tag = 5 by omega), if_neg (show ¬ x.tag = 11 by omega)]
    by_cases hb : badN x.value = true
    · rw [if_pos hb, if_pos hb]; exact .inr ⟨rfl, rfl⟩
    · rw [if_neg hb, if_neg hb, if_neg h1, if_neg h2, if_pos h3]; exact .inl ⟨rfl, rfl, hs⟩
  rw [if_neg (by simpa using h3)]
  by_cases h6 : x.tag = 6
  · rw [if_pos (decide_eq_true h6), p_number _ hx, Option.bind_some]
    refine ⟨_, _, rfl, ?_⟩
    unfold Fits fldF
    rw [if_neg (show ¬ x.tag = 4 by omega), if_neg (show ¬ x.tag = 5 by omega), if_neg (show ¬ x.tag = 11 by omega)]
    by_cases hb : badN x.value = true
    · rw [if_pos hb, if_pos hb]; exact .inr ⟨rfl, rfl⟩
    · rw [if_neg hb, if_neg hb, if_neg h1, if_neg h2, if_neg h3, if_pos h6]; exact .inl ⟨rfl, rfl, hs⟩
  rw [if_neg (by simpa using h6)]
  by_cases h7 : x.tag = 7
  · rw [if_pos (decide_eq_true h7), p_number _ hx, Option.bind_some]
    refine ⟨_, _, rfl, ?_⟩
    unfold Fits fldF
    rw [if_neg (show ¬ x.tag = 4 by omega), if_neg (show ¬ x.tag = 5 by omega), if_neg (show ¬ x.tag = 11 by omega)]
    by_cases hb : badN x.value = true
    · rw [if_pos hb, if_pos hb]; exact .inr ⟨rfl, rfl⟩
    · rw [if_neg hb, if_neg hb, if_neg h1, if_neg h2, if_neg h3, if_neg h6, if_pos h7]; exact .inl ⟨rfl, rfl, hs⟩
  rw [if_neg (by simpa using h7)]
  by_cases h8 : x.tag = 8
  · rw [if_pos (decide_eq_true h8), p_number _ hx, Option.bind_some]
    refine ⟨_, _, rfl, ?_⟩
    unfold Fits fldF
    rw [if_neg (show ¬ x.tag = 4 by omega), if_neg (show ¬ x.tag = 5 by omega), if_neg (show ¬ x.tag = 11 by omega)]
    by_cases hb : badN x.value = true
    · rw [if_pos hb, if_pos hb]; exact .inr ⟨rfl, rfl⟩
    · rw [if_neg hb, if_neg hb, if_neg h1, if_neg h2, if_neg h3, if_neg h6, if_neg h7, if_pos h8]; exact .inl ⟨rfl, rfl, hs⟩
  rw [if_neg (by simpa using h8)]
  by_cases h9 : x.tag = 9
  · rw [if_pos (decide_eq_true h9), p_number _ hx, Option.bind_some]
    refine ⟨_, _, rfl, ?_⟩
    unfold Fits fldF
    rw [if_neg (show ¬ x.tag = 4 by omega), if_neg (show ¬ x.tag = 5 by omega), if_neg (show ¬ x.tag = 11 by omega)]
    by_cases hb : badN x.value = true
    · rw [if_pos hb, if_pos hb]; exact .inr ⟨rfl, rfl⟩
    · rw [if_neg hb, if_neg hb, if_neg h1, if_neg h2, if_neg h3, if_neg h6, if_neg h7, if_neg h8, if_pos h9]; exact .inl ⟨rfl, rfl, hs⟩
  rw [if_neg (by simpa using h9)]
  by_cases h10 : x.tag = 10
  · rw [if_pos (decide_eq_true h10), p_number _ hx, Option.bind_some]
    refine ⟨_, _, rfl, ?_⟩
    unfold Fits fldF
    rw [if_neg (show ¬ x.tag = 4 by omega), if_neg (show ¬ x.tag = 5 by omega), if_neg (show ¬ x.tag = 11 by omega)]
    by_cases hb : badN x.value = true
    · rw [if_pos hb, if_pos hb]; exact .inr ⟨rfl, rfl⟩
    · rw [if_neg hb, if_neg hb, if_neg h1, if_neg h2, if_neg h3, if_neg h6, if_neg h7, if_neg h8, if_neg h9, if_pos h10]; exact .inl ⟨rfl, rfl, hs⟩
  rw [if_neg (by simpa using h10)]
  have hj := p_tfield_j1 r x hx hs ⟨h1, h2, h3, h6, h7, h8, h9, h10⟩
  by_cases h4 : x.tag = 4
  · rw [if_pos (by simpa using h4)]
    have e : (x.tag == 4 || x.tag == 5) = (x.tag == 4) := by simp [h4]
    rw [e] at hj; exact hj
  · rw [if_neg (by simpa using h4)]
    have e : (x.tag == 4 || x.tag == 5) = (x.tag == 5) := by simp [h4]
    rw [e] at hj; exact hj
theorem p_tsize (b : List UInt8) (hb : b.length ≤ 100000) : f_tagged_size b = some (if b.length < 2 ∨ b.length - 2 < headN b then (0, 2) else (((2 + headN b : Nat) : Int), 0)) := by
  have hx := (nth b 0).toNat_lt
  have hy := (nth b 1).toNat_lt
  unfold f_tagged_size headN
  simp only [show Int.toNat 0 = 0 from rfl, show Int.toNat 1 = 1 from rfl, show (2 : Int) ^ Int.toNat 8 = 256 from rfl]
  by_cases h1 : b.length < 2
  · rw [if_pos (by simp; omega), if_pos (.inl h1)]
  · rw [if_neg (by simp; omega), ck_pos (by omega), ck_pos (by refine ⟨by omega, by omega, ?_, ?_⟩ <;> omega), ck_pos (by omega), ck_pos (by omega), ck_pos (by omega)]
    by_cases h2 : b.length - 2 < (nth b 0).toNat * 256 + (nth b 1).toNat
    · rw [if_pos (by simp; omega), if_pos (.inr h2)]
    · rw [if_neg (by simp; omega), if_neg (by omega)]
      congr 2
      omega
theorem p_tDloop (y : List Element × Int) (hl : y.1.length ≤ 1000000) (hm : ∀ x, x ∈ y.1 → 1 ≤ x.tag ∧ x.value.length ≤ 255) :
    loop (fun s => f_tagged_Decode_l1 y s.1 s.2.1 s.2.2.1 s.2.2.2.1 s.2.2.2.2.1 s.2.2.2.2.2.1 s.2.2.2.2.2.2.1 s.2.2.2.2.2.2.2.1 s.2.2.2.2.2.2.2.2.1 s.2.2.2.2.2.2.2.2.2.1 s.2.2.2.2.2.2.2.2.2.2.1 s.2.2.2.2.2.2.2.2.2.2.2.1 s.2.2.2.2.2.2.2.2.2.2.2.2) (0, 0, 0, 0, ([] : List UInt8), ([] : List UInt8), 0, 0, 0, 0, false, 0, false) = some (finD true Z y.1) := by
  have := loop_spec (step := fun s : Int × Int × Int × Int × List UInt8 × List UInt8 × Int × Int × Int × Int × Bool × Int × Bool => f_tagged_Decode_l1 y s.1 s.2.1 s.2.2.1 s.2.2.2.1 s.2.2.2.2.1 s.2.2.2.2.2.1 s.2.2.2.2.2.2.1 s.2.2.2.2.2.2.2.1 s.2.2.2.2.2.2.2.2.1 s.2.2.2.2.2.2.2.2.2.1 s.2.2.2.2.2.2.2.2.2.2.1 s.2.2.2.2.2.2.2.2.2.2.2.1 s.2.2.2.2.2.2.2.2.2.2.2.2)
    (fun s => some (finD true (mkR s.2) (y.1.drop s.1.toNat))) (fun s => 0 ≤ s.1 ∧ s.1 ≤ (y.1.length : Int) ∧ SmallAB (mkR s.2)) (fun s => ((y.1.length : Int) - s.1).toNat) (fun s hI => by
      obtain ⟨i, s⟩ := s
      obtain ⟨i0, i1, i2⟩ := hI
      simp only at i0 i1 i2 ⊢
      unfold f_tagged_Decode_l1
      have hr : (⟨s.1, s.2.1, s.2.2.1, s.2.2.2.1, s.2.2.2.2.1, s.2.2.2.2.2.1, s.2.2.2.2.2.2.1, s.2.2.2.2.2.2.2.1, s.2.2.2.2.2.2.2.2.1, s.2.2.2.2.2.2.2.2.2.1, s.2.2.2.2.2.2.2.2.2.2.1, s.2.2.2.2.2.2.2.2.2.2.2⟩ : Record) = mkR s := rfl
      rw [hr]
      by_cases hi : i < (y.1.length : Int)
      · have hx := hm (nth y.1 i.toNat) (by rw [nth_eq (show i.toNat < y.1.length by omega)]; exact List.getElem_mem _)
        obtain ⟨okx, r', e1, e2⟩ := p_tfield (mkR s) (nth y.1 i.toNat) (by omega) i2
        rw [if_pos (by simpa using hi), ck_pos (by omega), e1, Option.bind_some, drop_nth (show i.toNat < y.1.length by omega)]
        rcases e2 with ⟨o1, o2, o3⟩ | ⟨o1, o2⟩
        · subst o1
          rw [if_neg (by simp), ck_pos (by omega)]
          refine .inr ⟨_, rfl, ⟨by simp only; omega, by simp only; omega, o3⟩, by simp only; omega, ?_⟩
          simp only
          rw [show (i + 1).toNat = i.toNat + 1 by omega]
          have hm' : mkR (r'.source, r'.serial, r'.kind, r'.a, r'.b, r'.start, r'.units, r'.call, r'.part, r'.last, r'.trunk, r'.inbound) = r' := rfl
          rw [hm', finD_some o2]
        · subst o1
          rw [if_pos (by simp), finD_none o2]
          exact .inl ⟨_, rfl, rfl⟩
      · rw [if_neg (by simpa using hi), List.drop_of_length_le (by omega)]
        unfold f_tagged_Decode_j2
        rw [hr, p_Encode (mkR s) (by have := i2.1; omega) (by have := i2.2; omega), Option.bind_some, finD_nil]
        unfold endF
        by_cases he : errF (mkR s) ≠ 0
        · rw [if_pos (by simpa using he), if_pos he]; exact .inl ⟨_, rfl, rfl⟩
        · rw [if_neg (by simpa using he), if_neg he]; exact .inl ⟨_, rfl, rfl⟩) (s := (0, 0, 0, 0, [], [], 0, 0, 0, 0, false, 0, false)) ⟨by simp, by simp, by simp [SmallAB, mkR]⟩ (by simp only; omega)
  exact this
theorem p_tDecode (b : List UInt8) (hb : b.length ≤ 100000) : f_tagged_Decode b = some (decT b) := by
  have bad : ∀ e : Int, e ≠ 0 → f_tagged_Decode_j1 b e = some (Z, e) := fun e he => by
    unfold f_tagged_Decode_j1; rw [if_pos (by simpa using he)]; rfl
  unfold f_tagged_Decode decT
  rw [p_tsize b hb, Option.bind_some]
  by_cases h1 : b.length < 2 ∨ b.length - 2 < headN b
  · rw [if_pos h1, if_pos h1, if_neg (by simp)]
    exact bad 2 (by decide)
  · rw [if_neg h1, if_neg h1]
    by_cases h2 : b.length - 2 > headN b
    · rw [if_pos h2, if_pos (by simp; omega)]
      exact bad 3 (by decide)
    · rw [if_neg h2, if_neg (by simp; omega)]
      unfold f_tagged_Decode_j1
      rw [if_neg (by simp), ck_pos (by omega), show Int.toNat 2 = 2 from rfl, p_Elements _ (by simp; omega), Option.bind_some]
      by_cases h3 : (elmF 0 [] (b.drop 2)).2 ≠ 0
      · rw [if_pos (by simpa using h3), if_pos h3]; rfl
      · rw [if_neg (by simpa using h3), if_neg h3]
        exact p_tDloop _ (by have := elm_len' (b.drop 2); rw [List.length_drop] at this; omega) (elm_mem (by simpa using h3))
theorem Record.eq_refl (r : Record) : eqVs r.vals r.vals = true := by simp [Record.vals, eqVs, eqV]
theorem decodes_true (b : List UInt8) : f_billinglaw10_TaggedDecodes b = some true := by
  unfold f_billinglaw10_TaggedDecodes
  rw [awake_true]
  by_cases h : (b.length : Int) > 500
  · rw [if_pos (by simpa using h)]; rfl
  · rw [if_neg (by simpa using h), p_tDecode b (by omega), p_rDecode10 b (by omega)]
    simp only [Option.bind_some]
    rw [Record.eq_refl]
    simp [gcall_mk]
theorem bytesT_le {r : Record} (ha : r.a.length < 1000000000) (hb : r.b.length < 1000000000) (h : errF r = 0) : (bytesT r).length ≤ 112 := by
  have := enc_len (errF_good h) ha hb
  have := (bytesT_parts this).1
  omega
theorem dec_small (b : List UInt8) (h : (decT b).2 = 0) : SmallAB (decT b).1 ∧ errF (decT b).1 = 0 := by
  have e := (dec_same h).2
  have g := errF_good e
  exact ⟨⟨validB_len g.a, by
    rcases g.b with h | ⟨_, h⟩
    · exact validB_len h
    · rw [h]; simp⟩, e⟩
theorem back_true_j (b : List UInt8) (hb : b.length ≤ 500) : f_billinglaw10_TaggedBack_j1 b = some true := by
  unfold f_billinglaw10_TaggedBack_j1
  rw [p_tDecode b (by omega), Option.bind_some, awake_true]
  by_cases h : (decT b).2 = 0
  · rw [if_neg (by simpa using h)]
    obtain ⟨h1, h2⟩ := dec_small b h
    rw [p_Encode10 _ (by have := h1.1; omega) (by have := h1.2; omega), Option.bind_some, h2, if_pos rfl, (dec_same h).1]
    simp [gcall_mk]
  · rw [if_pos (by simpa using h)]; rfl
theorem back_true (r : Record) (b : List UInt8) (n : Int) : f_billinglaw10_TaggedBack r b n = some true := by
  unfold f_billinglaw10_TaggedBack
  rw [p_short, awake_true]
  simp only [Option.bind_some]
  by_cases hs : Short r
  · by_cases hb : (b.length : Int) > 500
    · rw [if_pos (by simp; right; omega)]
    · have ha1 : r.a.length < 1000000000 := by have := hs.1; omega
      have hb1 : r.b.length < 1000000000 := by have := hs.2; omega
      rw [if_neg (by simp [hs]; omega), p_Encode10 r ha1 hb1, Option.bind_some]
      have hj := back_true_j b (by omega)
      by_cases he : errF r = 0
      · have hl := bytesT_le ha1 hb1 he
        rw [if_pos (by simpa using he), if_pos he]
        simp only
        rw [p_tDecode _ (by omega), Option.bind_some, ck_pos (by simp; omega), ck_pos (by simp; omega), p_tDecode _ (by simp; omega), Option.bind_some]
        rw [dec_back ha1 hb1 he, List.nil_append, dec_more ha1 hb1 he, if_neg (by simp [Record.eq_refl])]
        by_cases hn : 0 ≤ n ∧ n < ((bytesT r).length : Int)
        · rw [if_pos (by simpa using hn), ck_pos (by omega), p_tDecode _ (by simp; omega), Option.bind_some, dec_short ha1 hb1 he (by omega), if_neg (by simp)]
          exact hj
        · rw [if_neg (by simpa using hn)]
          exact hj
      · rw [if_neg (by simpa using he)]
        exact hj
  · rw [if_pos (by simp [hs])]
end Go.Proofs.YtmdpmallgcekgaaDoor

set_option linter.unusedSimpArgs false
set_option linter.unusedVariables false
namespace Go.Proofs.YtmdpmallgcekgaaDoor
open Go.RowKit Go.Abs
/-! records that follow each other -/
theorem Reject.eq_refl (r : Reject) : eqVs r.vals r.vals = true := by simp [Reject.vals, eqVs, eqV]
def allT (i : Nat) (out : List Record) (no : List Reject) (b : List UInt8) : List Record × List Reject × Int :=
  if b.length = 0 then (out, no, 0) else if i = 4096 then ([], [], 5) else if b.length < 2 ∨ b.length - 2 < headN b then ([], [], 2)
  else if (decT (b.take (2 + headN b))).2 ≠ 0 then allT (i + 1) out (no ++ [⟨0, 0, (i : Int), (decT (b.take (2 + headN b))).2⟩]) (b.drop (2 + headN b))
  else allT (i + 1) (out ++ [(decT (b.take (2 + headN b))).1]) no (b.drop (2 + headN b))
termination_by b.length
decreasing_by all_goals (simp; omega)
theorem allT_len : ∀ (n : Nat) (b : List UInt8) (i : Nat) (out : List Record) (no : List Reject), b.length ≤ n → (allT i out no b).1.length ≤ out.length + n ∧ (allT i out no b).2.1.length ≤ no.length + n := by
  intro n
  induction n with
  | zero => intro b i out no h; rw [allT, if_pos (by omega)]; simp
  | succ n ih =>
    intro b i out no h
    rw [allT]
    split
    · simp
    · split
      · simp
      · split
        · simp
        · rename_i h1 h2 h3
          have hd : (b.drop (2 + headN b)).length ≤ n := by simp; omega
          split
          · have := ih _ (i + 1) out (no ++ [⟨0, 0, (i : Int), (decT (b.take (2 + headN b))).2⟩]) hd
            simp at this ⊢
            omega
          · have := ih _ (i + 1) (out ++ [(decT (b.take (2 + headN b))).1]) no hd
            simp at this ⊢
            omega
theorem p_tAll (b : List UInt8) (hb : b.length ≤ 100000) : f_tagged_All b = some (allT 0 [] [] b) := by
  unfold f_tagged_All
  have := loop_spec (step := fun s => f_tagged_All_l1 s.1 s.2.1 s.2.2.1 s.2.2.2) (fun s : List UInt8 × List Record × List Reject × Int => some (allT s.2.2.2.toNat s.2.1 s.2.2.1 s.1))
    (fun s => 0 ≤ s.2.2.2 ∧ s.2.2.2 ≤ 4096 ∧ (s.2.1.length : Int) ≤ s.2.2.2 ∧ (s.2.2.1.length : Int) ≤ s.2.2.2 ∧ s.1.length ≤ 100000) (fun s => s.1.length) (fun s hI => by
      obtain ⟨b, out, no, i⟩ := s
      obtain ⟨i0, i1, i2, i3, i4⟩ := hI
      simp only at i0 i1 i2 i3 i4 ⊢
      unfold f_tagged_All_l1
      rw [allT]
      by_cases h0 : b.length = 0
      · rw [if_neg (show ¬ decide ((b.length : Int) > 0) = true by simp only [decide_eq_true_eq]; omega), if_pos h0]
        exact .inl ⟨_, rfl, rfl⟩
      · rw [if_pos (show decide ((b.length : Int) > 0) = true by simp only [decide_eq_true_eq]; omega), if_neg h0]
        by_cases h1 : i = 4096
        · rw [if_pos (show (i == 4096) = true by simpa using h1), if_pos (show i.toNat = 4096 by omega)]
          exact .inl ⟨_, rfl, rfl⟩
        · rw [if_neg (show ¬ (i == 4096) = true by simpa using h1), if_neg (show ¬ i.toNat = 4096 by omega), p_tsize b i4, Option.bind_some]
          by_cases h2 : b.length < 2 ∨ b.length - 2 < headN b
          · rw [if_pos h2, if_pos (by simp), if_pos h2]
            exact .inl ⟨_, rfl, rfl⟩
          · rw [if_neg h2, if_neg (by simp), if_neg h2, ck_pos (by omega), show (((2 + headN b : Nat) : Int)).toNat = 2 + headN b from rfl, p_tDecode _ (by simp; omega), Option.bind_some]
            by_cases h3 : (decT (b.take (2 + headN b))).2 ≠ 0
            · rw [if_pos (by simpa using h3), if_pos h3, ck_pos (by simp; omega)]
              unfold f_tagged_All_j2
              rw [ck_pos (by omega), ck_pos (by omega), show (((2 + headN b : Nat) : Int)).toNat = 2 + headN b from rfl]
              refine .inr ⟨_, rfl, ⟨by simp only; omega, by simp only; omega, by simp only; omega, by simp; omega, by simp; omega⟩, by simp; omega, ?_⟩
              simp only
              rw [show (i + 1).toNat = i.toNat + 1 by omega, show ((i.toNat : Nat) : Int) = i by omega]
            · rw [if_neg (by simpa using h3), if_neg h3, ck_pos (by simp; omega)]
              unfold f_tagged_All_j2
              rw [ck_pos (by omega), ck_pos (by omega), show (((2 + headN b : Nat) : Int)).toNat = 2 + headN b from rfl]
              refine .inr ⟨_, rfl, ⟨by simp only; omega, by simp only; omega, by simp; omega, by simp only; omega, by simp; omega⟩, by simp; omega, ?_⟩
              simp only
              rw [show (i + 1).toNat = i.toNat + 1 by omega]) (s := (b, [], [], 0)) ⟨by simp, by simp, by simp, by simp, hb⟩ (by simp only; omega)
  exact this
theorem nth_drop' (b : List UInt8) (i j : Nat) : nth (b.drop i) j = nth b (i + j) := by
  unfold nth; rw [List.getD_eq_getElem?_getD, List.getD_eq_getElem?_getD, List.getElem?_drop]
theorem p_rAll10 (b : List UInt8) (hb : b.length ≤ 100000) : f_billingref10_All b = some (allT 0 [] [] b) := by
  unfold f_billingref10_All
  have := loop_spec (step := fun s => f_billingref10_All_l1 b s.1 s.2.1 s.2.2.1 s.2.2.2) (fun s : List Record × List Reject × Int × Int => some (allT s.2.2.2.toNat s.1 s.2.1 (b.drop s.2.2.1.toNat)))
    (fun s => (0 ≤ s.2.2.2 ∧ s.2.2.2 ≤ 4096 ∧ (s.1.length : Int) ≤ s.2.2.2 ∧ (s.2.1.length : Int) ≤ s.2.2.2) ∧ 0 ≤ s.2.2.1 ∧ s.2.2.1 ≤ (b.length : Int)) (fun s => ((b.length : Int) - s.2.2.1).toNat) (fun s hI => by
      obtain ⟨out, no, p, i⟩ := s
      obtain ⟨⟨i0, i1, i2, i3⟩, p0, p1⟩ := hI
      simp only at i0 i1 i2 i3 p0 p1 ⊢
      unfold f_billingref10_All_l1
      rw [allT]
      have hlen : (b.drop p.toNat).length = b.length - p.toNat := List.length_drop
      have hx := (nth b p.toNat).toNat_lt
      have hy := (nth b (p.toNat + 1)).toNat_lt
      have hh : headN (b.drop p.toNat) = (nth b p.toNat).toNat * 256 + (nth b (p.toNat + 1)).toNat := by
        unfold headN; rw [nth_drop', nth_drop', Nat.add_zero]
      by_cases h0 : (b.drop p.toNat).length = 0
      · rw [if_neg (by simp; omega), if_pos h0]
        exact .inl ⟨_, rfl, rfl⟩
      · rw [if_pos (by simp; omega), if_neg h0]
        by_cases h1 : i = 4096
        · rw [if_pos (show (i == 4096) = true by simpa using h1), if_pos (show i.toNat = 4096 by omega)]
          exact .inl ⟨_, rfl, rfl⟩
        · rw [if_neg (show ¬ (i == 4096) = true by simpa using h1), if_neg (show ¬ i.toNat = 4096 by omega)]
          rw [show (p + 1).toNat = p.toNat + 1 by omega, ck_pos (by omega), ck_pos (by intro _; omega), ck_pos (by intro _; omega), ck_pos (by intro _; omega), ck_pos (by intro _; omega), ck_pos (by intro _; omega), ck_pos (by intro h; simp at h; omega), ck_pos (by intro _; omega)]
          by_cases h2 : (b.drop p.toNat).length < 2 ∨ (b.drop p.toNat).length - 2 < headN (b.drop p.toNat)
          · have h2' := h2
            rw [hh, hlen] at h2'
            rw [if_pos (by simp only [Bool.or_eq_true, decide_eq_true_eq]; omega), if_pos h2]
            exact .inl ⟨_, rfl, rfl⟩
          · have h2' := h2
            rw [hh, hlen] at h2'
            rw [if_neg (by simp only [Bool.or_eq_true, decide_eq_true_eq]; omega), if_neg h2]
            have hcut : (b.take (p + 2 + ((nth b p.toNat).toNat : Int) * 256 + ((nth b (p.toNat + 1)).toNat : Int)).toNat).drop p.toNat = (b.drop p.toNat).take (2 + headN (b.drop p.toNat)) := by
              rw [slice_dt, hh]; congr 1; omega
            have hrest : b.drop (p + 2 + ((nth b p.toNat).toNat : Int) * 256 + ((nth b (p.toNat + 1)).toNat : Int)).toNat = (b.drop p.toNat).drop (2 + headN (b.drop p.toNat)) := by
              rw [List.drop_drop, hh]; congr 1; omega
            rw [ck_pos (by omega), ck_pos (by omega), ck_pos (by omega), ck_pos (by omega), ck_pos (by omega), ck_pos (by omega), ck_pos (by omega), ck_pos (by omega), hcut]
            rw [p_rDecode10 _ (by simp; omega), Option.bind_some]
            by_cases h3 : (decT ((b.drop p.toNat).take (2 + headN (b.drop p.toNat)))).2 ≠ 0
            · rw [if_neg (by simpa using h3), if_pos h3, ck_pos (by simp; omega)]
              unfold f_billingref10_All_j2
              rw [ck_pos (by omega), show (p + 1).toNat = p.toNat + 1 by omega]
              refine .inr ⟨_, rfl, ⟨⟨by simp only; omega, by simp only; omega, by simp only; omega, by simp; omega⟩, by simp only; omega, by simp only; omega⟩, by simp only; omega, ?_⟩
              simp only
              rw [show (i + 1).toNat = i.toNat + 1 by omega, show ((i.toNat : Nat) : Int) = i by omega, hrest]
            · rw [if_pos (by simpa using h3), if_neg h3, ck_pos (by simp; omega)]
              unfold f_billingref10_All_j2
              rw [ck_pos (by omega), show (p + 1).toNat = p.toNat + 1 by omega]
              refine .inr ⟨_, rfl, ⟨⟨by simp only; omega, by simp only; omega, by simp; omega, by simp only; omega⟩, by simp only; omega, by simp only; omega⟩, by simp only; omega, ?_⟩
              simp only
              rw [show (i + 1).toNat = i.toNat + 1 by omega, hrest]) (s := ([], [], 0, 0)) ⟨⟨by simp, by simp, by simp, by simp⟩, by simp, by simp⟩ (by simp only; omega)
  rw [this]; simp
theorem p_Same (a : List Record) (hl : a.length ≤ 100000) : f_billingref09_Same a a = some true := by
  unfold f_billingref09_Same
  rw [if_neg (by simp), loop_all a (fun _ => true) true true (by omega) (fun i h0 h1 => ?_) (fun i hi => ?_)]
  · simp
  · unfold f_billingref09_Same_l1
    rw [if_pos (by simpa using h1), ck_pos (by omega), ck_pos (by omega), if_neg (by rw [Record.eq_refl]; simp), ck_pos (by omega)]
    rfl
  · unfold f_billingref09_Same_l1
    rw [if_neg (by simp; omega)]
theorem p_SameRejects (a : List Reject) (hl : a.length ≤ 100000) : f_billingref09_SameRejects a a = some true := by
  unfold f_billingref09_SameRejects
  rw [if_neg (by simp), loop_all a (fun _ => true) true true (by omega) (fun i h0 h1 => ?_) (fun i hi => ?_)]
  · simp
  · unfold f_billingref09_SameRejects_l1
    rw [if_pos (by simpa using h1), ck_pos (by omega), ck_pos (by omega), if_neg (by rw [Reject.eq_refl]; simp), ck_pos (by omega)]
    rfl
  · unfold f_billingref09_SameRejects_l1
    rw [if_neg (by simp; omega)]
theorem tall_true (b : List UInt8) : f_billinglaw10_TaggedAll b = some true := by
  unfold f_billinglaw10_TaggedAll
  rw [awake_true]
  by_cases h : (b.length : Int) > 3000
  · rw [if_pos (by simpa using h)]; rfl
  · rw [if_neg (by simpa using h), p_tAll b (by omega), p_rAll10 b (by omega)]
    simp only [Option.bind_some]
    have hl := allT_len b.length b 0 [] [] (Nat.le_refl _)
    simp only [List.length_nil, Nat.zero_add] at hl
    rw [p_Same _ (by omega), p_SameRejects _ (by omega)]
    simp [gcall_mk]
end Go.Proofs.YtmdpmallgcekgaaDoor

/- A row's arguments opened: what the given reading says of a typed argument, as data of this layer. -/
set_option linter.unusedSimpArgs false
set_option linter.unusedVariables false
set_option linter.unusedSectionVars false
namespace Go.Abs
open Go.RowKit Go.ChangeShapes Go.WideShapes Go.Deep

inductive Sh where
  | i (k : IntKind)
  | b
  | s
  | sl (row : List Sh)
inductive DFits : Sh → D → Prop where
  | i (k : IntKind) (n : Int) (h : (Lit.int k n).wf = true) : DFits (.i k) (.ex (.int k n))
  | b (x : Bool) : DFits .b (.ex (.bool x))
  | s (l : List UInt8) (h : l.length ≤ maxLen) : DFits .s (.ex (.string ⟨l.toArray⟩))
  | sl (row : List Sh) (rows : List (List D)) (hn : rows.length ≤ maxLen) (h1 : ∀ r, r ∈ rows → r.length = row.length)
      (h : ∀ r, r ∈ rows → ∀ (i : Nat) sh d, row[i]? = some sh → r[i]? = some d → DFits sh d) : DFits (.sl row) (.sl row.length rows)
def shapeFs (P : Program) (rec : TypeId → Option (List Sh)) : List Field → Nat → Option (List Sh)
  | [], _ => some []
  | f :: fs, off => match rec f.type with
    | some r => if Nat.beq f.offset off && Nat.beq r.length (P.cellsOf f.type) then (shapeFs P rec fs (off + r.length)).map (r ++ ·) else none
    | none => none
def shape (P : Program) : Nat → TypeId → Option (List Sh)
  | 0, _ => none
  | n + 1, t => match P.underlying t with
    | some (.int k) => some [.i k]
    | some .bool => some [.b]
    | some .string => some [.s]
    | some (.slice e) => match shape P n e with
      | some r => if Nat.beq r.length (P.cellsOf e) && Nat.blt 0 r.length then some [.sl r] else none
      | none => none
    | some (.struct fs) => match shapeFs P (shape P n) fs.toList 0 with
      | some r => if Nat.beq r.length (P.cellsOf t) then some r else none
      | none => none
    | _ => none
/-- What is read is data of the shape. -/
def Opens (lim : Nat → Nat) (w : World) (shs : List Sh) (cs : List Value) : Prop :=
  ∃ ds : List D, ds.length = shs.length ∧ cs.length = shs.length ∧ ∀ (i : Nat) sh d c, shs[i]? = some sh → ds[i]? = some d → cs[i]? = some c → DFits sh d ∧ DRep lim w d c ∧ c.oneCell' = true
theorem Opens.one {lim : Nat → Nat} {w : World} {sh : Sh} {d : D} {c : Value} (h1 : DFits sh d) (h2 : DRep lim w d c) (h3 : c.oneCell' = true) : Opens lim w [sh] [c] := by
  refine ⟨[d], rfl, rfl, fun i sh' d' c' ha hb hc => ?_⟩
  cases i with
  | zero => simp at ha hb hc; subst ha; subst hb; subst hc; exact ⟨h1, h2, h3⟩
  | succ i => simp at ha
theorem Opens.nil {lim : Nat → Nat} {w : World} : Opens lim w [] [] := ⟨[], rfl, rfl, fun i _ _ _ h => by simp at h⟩
theorem Opens.append {lim : Nat → Nat} {w : World} {s1 s2 : List Sh} {c1 c2 : List Value} (h : Opens lim w s1 c1) (k : Opens lim w s2 c2) : Opens lim w (s1 ++ s2) (c1 ++ c2) := by
  obtain ⟨d1, a1, b1, e1⟩ := h
  obtain ⟨d2, a2, b2, e2⟩ := k
  refine ⟨d1 ++ d2, by simp [a1, a2], by simp [b1, b2], fun i sh d c ha hb hc => ?_⟩
  by_cases hi : i < s1.length
  · rw [List.getElem?_append_left hi] at ha
    rw [List.getElem?_append_left (by omega)] at hb hc
    exact e1 i sh d c ha hb hc
  · rw [List.getElem?_append_right (by omega)] at ha hb hc
    rw [a1] at hb
    rw [b1] at hc
    exact e2 _ sh d c ha hb hc
section opening
variable {H : Type} {enc : TypeId × Value → H} {P : Program} {w : World} {held : Bool} {lim : Nat → Nat}
theorem opens_fields {rec : TypeId → Option (List Sh)} (cs : List Value) : ∀ (fs : List Field) (off : Nat) (shs : List Sh), shapeFs P rec fs off = some shs → cs.length = off + shs.length →
    (∀ (i : Nat) f, fs[i]? = some f → ∀ r, rec f.type = some r → r.length = P.cellsOf f.type → Opens lim w r ((cs.drop f.offset).take (P.cellsOf f.type))) → Opens lim w shs (cs.drop off)
  | [], off, shs, h, hl, _ => by
    simp [shapeFs] at h; subst h
    rw [List.drop_of_length_le (by simp at hl; omega)]
    exact .nil
  | f :: fs, off, shs, h, hl, hf => by
    unfold shapeFs at h
    split at h
    · rename_i r hr
      split at h
      · rename_i hc
        rw [Bool.and_eq_true] at hc
        replace hc := And.intro (Nat.eq_of_beq_eq_true hc.1) (Nat.eq_of_beq_eq_true hc.2)
        obtain ⟨rest, hrest, rfl⟩ := Option.map_eq_some_iff.1 h
        simp only [List.length_append] at hl
        have h1 := hf 0 f rfl r hr hc.2
        have h2 := opens_fields cs fs (off + r.length) rest hrest (by omega) fun i g hg => hf (i + 1) g (by simpa using hg)
        have e : cs.drop off = (cs.drop f.offset).take (P.cellsOf f.type) ++ cs.drop (off + r.length) := by
          rw [hc.1, ← hc.2, ← List.drop_drop, List.take_append_drop]
        rw [e]
        exact h1.append h2
      · cases h
    · cases h
theorem opens_shape (hlim : ∀ b off u, w.cell? ⟨b, off, none⟩ = some u → off < lim b) : ∀ (n : Nat) (t : TypeId) (shs : List Sh), shape P n t = some shs → ∀ fuel cs x, DataW.trod enc P w 0 (fun _ => true) held fuel t cs = some x → Opens lim w shs cs
  | 0, _, _, h => by simp [shape] at h
  | n + 1, t, shs, h => by
    intro fuel cs x ht
    unfold shape at h
    split at h
    · rename_i k hu
      cases h
      obtain ⟨m, rfl, _, hw⟩ := DataW.trod_int hu ht
      exact .one (.i k m hw) (.ex _) rfl
    · rename_i hu
      cases h
      obtain ⟨b, rfl, _⟩ := DataW.trod_bool hu ht
      exact .one (.b b) (.ex _) rfl
    · rename_i hu
      cases h
      obtain ⟨⟨a⟩, rfl, _, hs⟩ := DataW.trod_string hu ht
      exact .one (.s a.toList (by simpa [ByteArray.size] using hs)) (.ex _) rfl
    · rename_i e hu
      split at h
      · rename_i r hr
        split at h
        · rename_i hc
          cases h
          rw [Bool.and_eq_true] at hc
          obtain ⟨hc1, hc2⟩ := And.intro (Nat.eq_of_beq_eq_true hc.1) (blt_lt hc.2)
          rcases open_slice hu ht with ⟨rfl, _⟩ | ⟨a, len, cap, m, n', D0, Pl, rfl, hb, hl, hm, hmm, hx, hi⟩
          · exact .one (.sl r [] (Nat.zero_le _) (fun _ h => by cases h) (fun _ h => by cases h)) (.nil _ _) rfl
          · simp only [if_true] at hmm
            subst hmm
            obtain ⟨F, hF⟩ := choose_lt (n := m) (p := fun i (ds : List D) => ds.length = r.length ∧ ∀ (j : Nat) sh d, r[j]? = some sh → ds[j]? = some d → ∃ c, w.cell? (a.add (i * r.length + j)) = some c ∧ DFits sh d ∧ DRep lim w d c ∧ c.oneCell' = true) (fun i hi' => by
              obtain ⟨cs', h1, h2⟩ := hi i hi'
              obtain ⟨ds, k1, k2, k3⟩ := opens_shape hlim n e r hr n' cs' _ h2
              obtain ⟨_, h3, h4⟩ := World.cells?_some h1
              refine ⟨ds, k1, fun j sh d hj hd => ?_⟩
              have hjl : j < r.length := (List.getElem?_eq_some_iff.1 hj).1
              have hc' : cs'[j]? = some (cs'[j]'(by omega)) := List.getElem?_eq_getElem (by omega)
              refine ⟨cs'[j]'(by omega), ?_, k3 j sh d _ hj hd hc'⟩
              rw [← hc', ← h4 j (by omega), ← hc1, Go.Deep.add_add])
            have hfit : DFits (.sl r) (.sl r.length ((List.range len).map F)) := by
              refine .sl r _ (by simp; omega) (fun row hrow => ?_) fun row hrow i sh d hs hd => ?_
              · obtain ⟨i, hi2, rfl⟩ := List.mem_map.1 hrow
                exact (hF i (by have := List.mem_range.1 hi2; omega)).1
              · obtain ⟨i', hi2, rfl⟩ := List.mem_map.1 hrow
                obtain ⟨c, _, hh, _⟩ := (hF i' (by have := List.mem_range.1 hi2; omega)).2 i sh d hs hd
                exact hh
            refine .one hfit ?_ rfl
            rcases Nat.eq_zero_or_pos m with h0 | h0
            · subst h0
              have : len = 0 := by omega
              subst this
              exact .nil _ _
            · have hspot : a.spot = none := by
                obtain ⟨cs', h1, h2⟩ := hi 0 h0
                obtain ⟨_, h3, h4⟩ := World.cells?_some h1
                have h5 := h4 0 (by omega)
                have h6 : cs'[0]? = some (cs'[0]'(by omega)) := List.getElem?_eq_getElem (by omega)
                rw [h6] at h5
                unfold World.cell? at h5
                split at h5
                · split at h5
                  · cases h5
                  · rename_i hsp
                    simpa [Addr.add] using hsp
                · cases h5
              obtain ⟨b, off, sp⟩ := a
              simp only at hspot
              subst hspot
              have hcell : ∀ i j, i < m → j < r.length → ∀ sh d, r[j]? = some sh → (F i)[j]? = some d → ∃ c, w.cell? ⟨b, off + (i * r.length + j), none⟩ = some c ∧ DFits sh d ∧ DRep lim w d c ∧ c.oneCell' = true := fun i j hi' hj sh d hs hd => by
                obtain ⟨c, h1, h2⟩ := (hF i hi').2 j sh d hs hd
                rw [Addr.add_lit] at h1
                exact ⟨c, h1, h2⟩
              have hlen : ((List.range len).map F).length = len := by simp
              have key := DRep.sl (lim := lim) (w := w) r.length ((List.range len).map F) b off m (by rw [hlen]; exact hl) (fun row hrow => by
                obtain ⟨i, hi2, rfl⟩ := List.mem_map.1 hrow
                exact (hF i (by have := List.mem_range.1 hi2; omega)).1) (fun k hk => by
                rw [hlen] at hk
                have hdiv : k / r.length < len := Nat.div_lt_of_lt_mul (by rw [Nat.mul_comm]; exact hk)
                have hmod : k % r.length < r.length := Nat.mod_lt _ hc2
                obtain ⟨c, h1, h2, h3, h4⟩ := hcell (k / r.length) (k % r.length) (by omega) hmod _ _ (List.getElem?_eq_getElem hmod) (List.getElem?_eq_getElem (by rw [(hF _ (by omega)).1]; exact hmod))
                have e : k / r.length * r.length + k % r.length = k := by rw [Nat.mul_comm]; exact Nat.div_add_mod k r.length
                rw [e] at h1
                exact ⟨hlim _ _ _ h1, c, h1, h4⟩) (fun i j row c u h1 h2 h3 => by
                rw [List.getElem?_map] at h1
                obtain ⟨i', hi2, rfl⟩ := Option.map_eq_some_iff.1 h1
                have hil : i < len := by have := (List.getElem?_eq_some_iff.1 hi2).1; simpa using this
                have : i' = i := by rw [List.getElem?_range hil] at hi2; cases hi2; rfl
                subst this
                have hjl : j < r.length := by have := (List.getElem?_eq_some_iff.1 h2).1; rw [(hF _ (by omega)).1] at this; exact this
                obtain ⟨c', k1, k2, k3, k4⟩ := hcell i' j (by omega) hjl _ _ (List.getElem?_eq_getElem hjl) h2
                rw [h3] at k1
                cases k1
                exact k3)
              rw [hlen] at key
              exact key
        · cases h
      · cases h
    · rename_i fs hu
      split at h
      · rename_i r hr
        split at h
        · rename_i hc
          cases h
          have hc' := Nat.eq_of_beq_eq_true hc
          obtain ⟨ys, n', _, hy, hlen, hyl, hf⟩ := DataW.trod_struct hu ht
          have := opens_fields (lim := lim) (w := w) (P := P) cs fs.toList 0 _ hr (by omega) fun i f hi r' hr' hl' => by
            have h1 := hf i f (by simpa using hi)
            have hys : ys[i]? = some (ys[i]'(by have := (List.getElem?_eq_some_iff.1 hi).1; simp at this; omega)) := List.getElem?_eq_getElem _
            exact opens_shape hlim n f.type r' hr' n' _ _ (h1.trans hys)
          simpa using this
        · cases h
      · cases h
    · cases h
end opening
end Go.Abs

/- A law of data, true at all arguments of its shapes, as the row asks it. -/
set_option linter.unusedSimpArgs false
set_option linter.unusedVariables false
set_option linter.unusedSectionVars false
namespace Go.Abs
open Go.RowKit Go.ChangeShapes Go.WideShapes Go.Deep Go.ChangeAt

def limW (w : World) (b : Nat) : Nat := match w.heap[b]? with
  | some (.cells c _ _) => c.size
  | _ => 0
theorem limW_lt (w : World) (b off : Nat) (u : Value) (h : w.cell? ⟨b, off, none⟩ = some u) : off < limW w b := by
  unfold World.cell? at h
  unfold limW
  split at h
  · rename_i c e k hb
    simp only at hb
    rw [hb]
    simp only [Option.isSome_none, Bool.false_eq_true, if_false] at h
    exact (Array.getElem?_eq_some_iff.1 h).1
  · cases h
theorem Opens.top {lim : Nat → Nat} {w : World} {sh : Sh} {c : Value} (h : Opens lim w [sh] [c]) : ∃ d, DFits sh d ∧ DRep lim w d c := by
  obtain ⟨ds, h1, _, h3⟩ := h
  match ds, h1 with
  | [d], _ => exact ⟨d, (h3 0 sh d c rfl rfl rfl).1, (h3 0 sh d c rfl rfl rfl).2.1⟩
section top
variable {H : Type} {enc : TypeId × Value → H} {P : Program} {w : World} {held : Bool} {r : Reach} {b0 : Nat} {t : TypeId} {v : Value} {d : DataW H} {ps : List MemPlace}
theorem top_slice {n : Nat} {e : TypeId} {row : List Sh} (hs : shape P n t = some [.sl row]) (ht : P.underlying t = some (.slice e)) (hv : Value.okWide P w r b0 t v) (h : DataW.Trod enc P w 0 (fun _ => true) held t v d ps) : ∃ x, DFits (.sl row) x ∧ DRep (limW w) w x v := by
  obtain ⟨a, l, c, rfl⟩ := okWide_slice ht hv
  obtain ⟨fuel, hf⟩ := h
  exact (opens_shape (limW_lt w) n t _ hs fuel _ _ hf).top
theorem top_int (ht : P.underlying t = some (.int .i64)) (hv : Value.okWide P w r b0 t v) (h : DataW.Trod enc P w 0 (fun _ => true) held t v d ps) : ∃ m : Int, DRep (limW w) w (.ex (.int .i64 m)) v ∧ -9223372036854775808 ≤ m ∧ m ≤ 9223372036854775807 := by
  obtain ⟨m, rfl⟩ := okWide_int ht hv
  obtain ⟨fuel, hf⟩ := h
  obtain ⟨m', h1, _, hw⟩ := DataW.trod_int ht hf
  have : m' = m := by simpa [Value.cells] using h1.symm
  subst this
  refine ⟨m', .ex _, ?_⟩
  simp only [Lit.wf, Bool.and_eq_true, decide_eq_true_eq] at hw
  exact hw
end top
/-- A list of rows, each one a thing's. -/
theorem rows_of {α : Type} {row : α → List D} {p : α → Prop} : ∀ {rows : List (List D)}, (∀ r, r ∈ rows → ∃ x, p x ∧ r = row x) → ∃ l : List α, rows = l.map row ∧ ∀ x, x ∈ l → p x
  | [], _ => ⟨[], rfl, fun x h => by cases h⟩
  | r :: rows, h => by
    obtain ⟨x, hx, rfl⟩ := h r List.mem_cons_self
    obtain ⟨l, rfl, hl⟩ := rows_of (rows := rows) (row := row) (p := p) fun r' hr => h r' (List.mem_cons_of_mem _ hr)
    exact ⟨x :: l, rfl, fun y hy => by rcases List.mem_cons.1 hy with rfl | hy; exact hx; exact hl y hy⟩
theorem DFits.sl_inv {row : List Sh} {d : D} (h : DFits (.sl row) d) : ∃ rows, d = .sl row.length rows ∧ rows.length ≤ maxLen ∧ ∀ r, r ∈ rows → r.length = row.length ∧ ∀ (i : Nat) sh d, row[i]? = some sh → r[i]? = some d → DFits sh d := by
  cases h with
  | sl _ rows hn h1 h => exact ⟨rows, rfl, hn, fun r hr => ⟨h1 r hr, h r hr⟩⟩
theorem DFits.i_inv {d : D} (h : DFits (.i .i64) d) : ∃ n : Int, d = .ex (.int .i64 n) ∧ -9223372036854775808 ≤ n ∧ n ≤ 9223372036854775807 := by
  cases h with
  | i _ n hw => simp only [Lit.wf, Bool.and_eq_true, decide_eq_true_eq] at hw; exact ⟨n, rfl, hw⟩
theorem DFits.b_inv {d : D} (h : DFits .b d) : ∃ x : Bool, d = .ex (.bool x) := by cases h with | b x => exact ⟨x, rfl⟩
theorem DFits.s_inv {d : D} (h : DFits .s d) : ∃ l : List UInt8, d = .ex (.string ⟨l.toArray⟩) := by cases h with | s l _ => exact ⟨l, rfl⟩

section
variable {H : Type} {enc : TypeId × Value → H} {P : Program}
theorem post_of_below {f : Func} {s : ChangeSpec} {apart fresh handsOn again : Bool} {W W' : World} {args : Array Value} {v : Value} {ds gs : List (DataW H)} {before pa pv : List MemPlace}
    (hW : DataW.Whole enc P f.params.toList s.vars apart W args.toList ds gs before)
    (hres : ∀ (b : Nat) (sp : Nat → Bool) (hd : Bool), DataW.TrodAll enc P W' b sp hd f.resultTypes.toList (v.resultList f.resultTypes.size) (s.fn H (ds ++ gs)).results [])
    (hargs : ∀ sp : Nat → Bool, (∀ p ∈ before, sp p.block = true) → DataW.TrodAll enc P W' 0 sp true f.params.toList args.toList (s.fn H (ds ++ gs)).args pa)
    (hvars : ∀ sp : Nat → Bool, (∀ p ∈ before, sp p.block = true) → DataW.TrodVars enc P W' sp s.vars (s.fn H (ds ++ gs)).vars pv)
    (hps : before = pa ++ pv) (hb : Below W.heap.size W W')
    (hok : ∀ (j : Nat) (t : TypeId) (r : Value), f.resultTypes[j]? = some t → (v.resultList f.resultTypes.size)[j]? = some r → Value.okWide P W' .any 0 t r) :
    s.post enc P f apart fresh handsOn again W args v W' := by
  have hlt : ∀ p ∈ before, p.block < W.heap.size := fun p hp => hW.lt p hp
  have hold : ∀ p ∈ before, (fun b => decide (b < W.heap.size)) p.block = true := fun p hp => by simpa using hlt p hp
  refine ⟨ds, gs, before, [], pa, pv, hW, hres _ _ _, hargs _ hold, hvars _ hold, World.keptBut_mono (fun p hp => ⟨hp, ?_⟩) (hb.frame (· ∈ before)), fun _ => ?_⟩
  · rw [hps, List.mem_append] at hp
    exact Or.inr hp
  · obtain ⟨_, _, _, _, _, hz, hn⟩ := hW
    refine ⟨hok, _, _, ([] ++ pa) ++ pv, ⟨[] ++ pa, pv, trodAll_append (hargs _ (fun _ _ => rfl)) (hres _ _ _), hvars _ (fun _ _ => rfl), rfl, ?_, ?_⟩, ?_⟩
    · intro b off hp
      have hin : MemPlace.cell b off ∈ before := by rw [hps]; simpa using hp
      rw [hb.frozen (hlt _ hin)]
      exact hz b off hin
    · intro ha
      have := hn ha
      rw [hps] at this
      simpa using this
    · intro p hp _
      rw [hps]
      simpa using hp
end
/-- The arguments stand as they stood. -/
theorem trodAll_stays {H : Type} {enc : TypeId × Value → H} {P : Program} (hl : laidOutB P = true) {W W' : World} (hb : Below W.heap.size W W') (sp : Nat → Bool) : ∀ {ts : List TypeId} {vs : List Value} {ds : List (DataW H)} {ps : List MemPlace},
    (ts.all fun t => P.readableRec t && decide (t < P.types.size)) = true → DataW.TrodAll enc P W 0 (fun _ => true) true ts vs ds ps → (∀ x ∈ ps, x.block < W.heap.size) → (∀ x ∈ ps, sp x.block = true) → DataW.TrodAll enc P W' 0 sp true ts vs ds ps
  | [], [], [], _, _, h, _, _ => h
  | t :: ts, v :: vs, d :: ds, ps, hr, h, hlt, hsp => by
    obtain ⟨p, q, h1, h2, rfl⟩ := h
    simp only [List.all_cons, Bool.and_eq_true, decide_eq_true_eq] at hr
    refine ⟨p, q, ?_, ?_, rfl⟩
    · exact WideElems.Trod_stays hl hr.1.1 hr.1.2 h1 (fun x hx => hb.same (hlt x (List.mem_append_left _ hx))) (fun x hx => hsp x (List.mem_append_left _ hx))
    · exact trodAll_stays hl hb sp (by simpa using hr.2) h2 (fun x hx => hlt x (List.mem_append_right _ hx)) (fun x hx => hsp x (List.mem_append_right _ hx))
end Go.Abs

/- Typed arguments: the readings of structs, strings and slices of them. -/
set_option linter.unusedSimpArgs false
set_option linter.unusedVariables false
set_option linter.unusedSectionVars false
namespace Go.Abs
open Go.RowKit Go.ChangeShapes Go.WideShapes Go.Deep Go.ChangeAt
theorem DFits.s_inv' {d : D} (h : DFits .s d) : ∃ l : List UInt8, d = .ex (.string ⟨l.toArray⟩) ∧ l.length ≤ maxLen := by cases h with | s l h => exact ⟨l, rfl, h⟩
theorem rows_of' {α : Type} {row : α → List D} {p : α → Prop} {rows : List (List D)} (h : ∀ r, r ∈ rows → ∃ x, r = row x ∧ p x) : ∃ l : List α, rows = l.map row ∧ ∀ x, x ∈ l → p x :=
  rows_of fun r hr => let ⟨x, h1, h2⟩ := h r hr; ⟨x, h2, h1⟩
theorem DFits.sl_of {sh : List Sh} {d : D} {α : Type} {row : α → List D} {p : α → Prop} (h : DFits (.sl sh) d)
    (hr : ∀ r : List D, r.length = sh.length → (∀ (i : Nat) h d, sh[i]? = some h → r[i]? = some d → DFits h d) → ∃ x, r = row x ∧ p x) :
    ∃ l : List α, d = .sl sh.length (l.map row) ∧ l.length ≤ maxLen ∧ ∀ z, z ∈ l → p z := by
  obtain ⟨rows, rfl, hn, h2⟩ := h.sl_inv
  obtain ⟨l, rfl, hl⟩ := rows_of' (row := row) (p := p) fun r hrm => hr r (h2 r hrm).1 (h2 r hrm).2
  exact ⟨l, rfl, by simpa using hn, hl⟩
theorem ofI (r : List D) (h1 : r.length = 1) (h2 : ∀ (i : Nat) sh d, ([.i .i64] : List Sh)[i]? = some sh → r[i]? = some d → DFits sh d) : ∃ x : Int, r = rI x ∧ (-9223372036854775808 ≤ x ∧ x ≤ 9223372036854775807) := by
  match r, h1 with
  | [d], _ => obtain ⟨a, rfl, k⟩ := (h2 0 _ d rfl rfl).i_inv; exact ⟨a, rfl, k⟩
theorem ofS (r : List D) (h1 : r.length = 1) (h2 : ∀ (i : Nat) sh d, ([.s] : List Sh)[i]? = some sh → r[i]? = some d → DFits sh d) : ∃ x : List UInt8, r = rS x ∧ x.length ≤ maxLen := by
  match r, h1 with
  | [d], _ => obtain ⟨a, rfl, k⟩ := (h2 0 _ d rfl rfl).s_inv'; exact ⟨a, rfl, k⟩
theorem ofB8 (r : List D) (h1 : r.length = 1) (h2 : ∀ (i : Nat) sh d, ([.i .u8] : List Sh)[i]? = some sh → r[i]? = some d → DFits sh d) : ∃ x : UInt8, r = rB8 x ∧ True := by
  match r, h1 with
  | [d], _ =>
    have h := h2 0 _ d rfl rfl
    cases h with
    | i _ n hw =>
      simp [Lit.wf, IntKind.min, IntKind.max, IntKind.signed, IntKind.bits] at hw
      refine ⟨UInt8.ofNat n.toNat, ?_, trivial⟩
      have : ((UInt8.ofNat n.toNat).toNat : Int) = n := by simp [UInt8.toNat_ofNat']; omega
      unfold rB8
      rw [this]
section top
variable {H : Type} {enc : TypeId × Value → H} {P : Program} {w : World} {held : Bool} {r : Reach} {b0 : Nat} {t : TypeId} {v : Value} {d : DataW H} {ps : List MemPlace}
theorem top_agg {n : Nat} {shs : List Sh} {fs : Array Field} (hs : shape P n t = some shs) (ht : P.underlying t = some (.struct fs)) (hv : Value.okWide P w r b0 t v) (h : DataW.Trod enc P w 0 (fun _ => true) held t v d ps) :
    ∃ x : List D, x.length = shs.length ∧ (∀ (i : Nat) sh d, shs[i]? = some sh → x[i]? = some d → DFits sh d) ∧ DRep (limW w) w (.agg x) v := by
  obtain ⟨cs, rfl, _⟩ := okWide_struct ht hv
  obtain ⟨fuel, hf⟩ := h
  obtain ⟨ds, h1, h2, h3⟩ := opens_shape (limW_lt w) n t _ hs fuel _ _ hf
  have h2' : cs.size = shs.length := by simpa [Value.cells] using h2
  refine ⟨ds, h1, fun i sh d hi hd => ?_, .agg ds cs (by omega) (fun i u hu => ?_) fun i c u hc hu => ?_⟩
  · have hil : i < cs.size := by have := (List.getElem?_eq_some_iff.1 hi).1; omega
    exact (h3 i sh d cs[i] hi hd (by simp [Value.cells, hil])).1
  · have hil : i < shs.length := by have := (Array.getElem?_eq_some_iff.1 hu).1; omega
    exact (h3 i shs[i] (ds[i]'(by omega)) u (List.getElem?_eq_getElem hil) (List.getElem?_eq_getElem (by omega)) (by simpa [Value.cells] using hu)).2.2
  · have hil : i < shs.length := by have := (Array.getElem?_eq_some_iff.1 hu).1; omega
    exact (h3 i shs[i] c u (List.getElem?_eq_getElem hil) hc (by simpa [Value.cells] using hu)).2.1
theorem top_str (ht : P.underlying t = some .string) (hv : Value.okWide P w r b0 t v) (h : DataW.Trod enc P w 0 (fun _ => true) held t v d ps) : ∃ l : List UInt8, DRep (limW w) w (.ex (.string ⟨l.toArray⟩)) v ∧ l.length ≤ maxLen := by
  obtain ⟨a, rfl⟩ := okWide_string ht hv
  obtain ⟨fuel, hf⟩ := h
  obtain ⟨a', h1, _, hs⟩ := DataW.trod_string ht hf
  have h2 : [Value.string a] = [Value.string a'] := h1
  simp only [List.cons.injEq, Value.string.injEq, and_true] at h2
  subst h2
  exact ⟨a.data.toList, .ex _, by rw [Array.length_toList]; exact hs⟩
end top
end Go.Abs
