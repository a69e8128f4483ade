import Derived.Test.YtmdpmallgcekgaaDoorT2
set_option linter.unusedSimpArgs false
set_option linter.unusedVariables false
namespace Go.Proofs.YtmdpmallgcekgaaDoor
open Go.RowKit Go.Abs
/-! the bytes of records -/
def byG (n : Int) (out : List UInt8) : List UInt8 := if n > 0 then byG (n / 256) (UInt8.ofInt n :: out) else out
termination_by n.toNat
decreasing_by omega
def byF (n : Int) : List UInt8 := byG n []
theorem pow256 (k : Nat) : (256 : Int) ^ (k + 1) = 256 ^ k * 256 := Int.pow_succ _ _
theorem byG_len : ∀ (k : Nat) (n : Int) (out : List UInt8), n < 256 ^ k → (byG n out).length ≤ out.length + k
  | k, n, out, h => by
    rw [byG]
    split
    · match k, h with
      | 0, h => simp at h; omega
      | k + 1, h =>
        have := byG_len k (n / 256) (UInt8.ofInt n :: out) (by rw [pow256] at h; exact Int.ediv_lt_of_lt_mul (by omega) h)
        simp at this ⊢; omega
    · omega
theorem byF_len {n : Int} (h : n ≤ 9223372036854775807) : (byF n).length ≤ 8 := by
  have := byG_len 8 n [] (by rw [show (256 : Int) ^ 8 = 18446744073709551616 from by decide]; omega)
  simpa [byF] using this
theorem ofInt_mod {n : Int} (h : 0 ≤ n) : UInt8.ofInt (n % 256) = UInt8.ofInt n := by
  apply UInt8.toNat_inj.1
  simp [UInt8.ofInt]
theorem p_bytes (n : Int) (h : n ≤ 9223372036854775807) : f_tagged_bytes n = some (byF n) := by
  unfold f_tagged_bytes byF
  exact loop_spec (step := fun st => f_tagged_bytes_l1 st.1 st.2) (fun st : Int × List UInt8 => some (byG st.1 st.2)) (fun st => ∃ k, st.2.length + k ≤ 8 ∧ st.1 < 256 ^ k) (fun st => st.1.toNat) (fun st hI => by
    obtain ⟨n, out⟩ := st
    obtain ⟨k, i0, i1⟩ := hI
    simp only at i0 i1 ⊢
    unfold f_tagged_bytes_l1
    rw [byG]
    by_cases hn : n > 0
    · rw [if_pos (by simpa using hn), if_pos hn, ck_pos (by simp; omega), ck_pos (by decide), show (2 : Int) ^ Int.toNat 8 = 256 from rfl]
      match k, i1 with
      | 0, i1 => simp at i1; omega
      | k + 1, i1 => exact .inr ⟨_, rfl, ⟨k, by simp; omega, by rw [pow256] at i1; exact Int.ediv_lt_of_lt_mul (by omega) i1⟩, by simp only; omega, rfl⟩
    · rw [if_neg (by simpa using hn), if_neg hn]
      exact .inl ⟨_, rfl, rfl⟩) ⟨8, by simp, by simp only; rw [show (256 : Int) ^ 8 = 18446744073709551616 from by decide]; omega⟩ (by simp only; omega)
theorem p_shortest (n : Int) (h : n ≤ 9223372036854775807) : f_billingref10_shortest n = some (byF n) := by
  unfold f_billingref10_shortest byF
  exact loop_spec (step := fun st => f_billingref10_shortest_l1 st.1 st.2) (fun st : Int × List UInt8 => some (byG st.1 st.2)) (fun st => st.1 ≤ 9223372036854775807 ∧ ∃ k, st.2.length + k ≤ 8 ∧ st.1 < 256 ^ k) (fun st => st.1.toNat) (fun st hI => by
    obtain ⟨n, out⟩ := st
    obtain ⟨i2, k, i0, i1⟩ := hI
    simp only at i0 i1 i2 ⊢
    unfold f_billingref10_shortest_l1
    rw [byG]
    by_cases hn : n > 0
    · have ht : Int.tdiv n 256 = n / 256 := Int.tdiv_eq_ediv_of_nonneg (by omega)
      have hm : Int.tmod n 256 = n % 256 := Int.tmod_eq_emod_of_nonneg (by omega)
      rw [if_pos (by simpa using hn), if_pos hn, ht, hm, ofInt_mod (by omega), ck_pos (by decide), ck_pos (by simp; omega), ck_pos (by omega)]
      match k, i1 with
      | 0, i1 => simp at i1; omega
      | k + 1, i1 => exact .inr ⟨_, rfl, ⟨by simp only; omega, k, by simp; omega, by rw [pow256] at i1; exact Int.ediv_lt_of_lt_mul (by omega) i1⟩, by simp only; omega, rfl⟩
    · rw [if_neg (by simpa using hn), if_neg hn]
      exact .inl ⟨_, rfl, rfl⟩) ⟨h, 8, by simp, by simp only; rw [show (256 : Int) ^ 8 = 18446744073709551616 from by decide]; omega⟩ (by simp only; omega)
theorem pack_post (s : List UInt8) (hs : s.length < 1000000000) : ∃ r, f_digits_Pack s = some r ∧ r.1.length ≤ 8 ∧ (validB s = false → r.1 = []) := by
  unfold f_digits_Pack
  rw [p_Valid s hs, Option.bind_some]
  cases hv : validB s with
  | false => exact ⟨_, by rw [if_pos (by rfl)], by simp, fun _ => rfl⟩
  | true =>
    have hl := validB_len hv
    rw [if_neg (by simp)]
    have := loop_post (step := fun st => f_digits_Pack_l1 s st.1 st.2) (fun r : List UInt8 × Int => r.1.length ≤ 8) (fun st : List UInt8 × Int => 0 ≤ st.2 ∧ (2 * st.1.length : Int) = st.2 ∧ st.2 ≤ (s.length : Int) + 1) (fun st => ((s.length : Int) - st.2).toNat) (fun st hI => by
      obtain ⟨b, i⟩ := st
      obtain ⟨i0, i1, i2⟩ := hI
      simp only at i0 i1 i2 ⊢
      unfold f_digits_Pack_l1
      by_cases hi : i < (s.length : Int)
      · rw [if_pos (by simpa using hi), ck_pos (by omega)]
        by_cases hj : i + 1 < (s.length : Int)
        · rw [if_pos (by simpa using hj), ck_pos (by omega), ck_pos (by omega)]
          unfold f_digits_Pack_j1
          rw [ck_pos (by omega), ck_pos (by decide), ck_pos (by simp; omega), ck_pos (by omega)]
          exact .inr ⟨_, rfl, ⟨by simp only; omega, by simp; omega, by simp only; omega⟩, by simp only; omega⟩
        · rw [if_neg (by simpa using hj)]
          unfold f_digits_Pack_j1
          rw [ck_pos (by omega), ck_pos (by decide), ck_pos (by simp; omega), ck_pos (by omega)]
          exact .inr ⟨_, rfl, ⟨by simp only; omega, by simp; omega, by simp only; omega⟩, by simp only; omega⟩
      · rw [if_neg (by simpa using hi)]
        refine .inl ⟨_, rfl, ?_⟩
        simp only
        omega) (s := ([], 0)) ⟨by simp, by simp, by simp; omega⟩ (by simp only; omega)
    obtain ⟨r, h1, h2⟩ := this
    exact ⟨r, h1, h2, fun h => by cases h⟩
theorem pack_same (s : List UInt8) (hs : s.length < 1000000000) : f_billingref02_Pack s = f_digits_Pack s := by
  unfold f_billingref02_Pack f_digits_Pack
  rw [p_Valid s hs, p_rValid s hs]
  rfl
def pkF (s : List UInt8) : List UInt8 := ((f_digits_Pack s).getD ([], 0)).1
theorem p_Pack (s : List UInt8) (hs : s.length < 1000000000) : ∃ e, f_digits_Pack s = some (pkF s, e) := by
  obtain ⟨r, h, _⟩ := pack_post s hs
  exact ⟨r.2, by unfold pkF; rw [h]; rfl⟩
theorem pkF_len (s : List UInt8) (hs : s.length < 1000000000) : (pkF s).length ≤ 8 := by
  obtain ⟨r, h, h1, _⟩ := pack_post s hs
  unfold pkF; rw [h]; exact h1
theorem pkF_nil : pkF [] = [] := by
  obtain ⟨r, h, _, h2⟩ := pack_post [] (by simp)
  unfold pkF; rw [h]; exact h2 rfl
def one (tag : Int) (v : List UInt8) : List Element := if v.length = 0 then [] else [⟨tag, v⟩]
theorem encL_app : ∀ x y : List Element, encL (x ++ y) = encL x ++ encL y
  | [], y => rfl
  | a :: x, y => by rw [List.cons_append, encL, encL, encL_app x y]; simp only [List.append_assoc]
theorem one_len (tag : Int) (v : List UInt8) (h : v.length ≤ 8) : (encL (one tag v)).length ≤ 10 := by
  unfold one; split
  · simp [encL]
  · simp [encL]; omega
theorem p_add (tag : Int) (v out : List UInt8) (h : out.length + v.length ≤ 900000000) : g_tagged_Encode_1 tag v out = some (out ++ encL (one tag v)) := by
  unfold g_tagged_Encode_1 one
  by_cases hv : v.length = 0
  · rw [if_neg (by simp; exact List.length_eq_zero_iff.1 hv), if_pos hv]; simp [encL]
  · rw [if_pos (by simp; omega), if_neg hv]
    unfold g_tagged_put_v2
    rw [ck_pos (by simp; omega), ck_pos (by simp; omega)]
    simp [encL]
def flI (r : Record) : Int := (if r.last = true then 1 else 0) + (if r.inbound = true then 2 else 0)
def valsF (r : Record) : List (List UInt8) := [[], byF r.kind, byF r.source, byF r.serial, pkF r.a, pkF r.b, byF r.start, byF r.units, byF r.call, byF r.part, byF r.trunk, byF (flI r)]
def elsF (r : Record) : List Element := one 1 (byF r.kind) ++ one 2 (byF r.source) ++ one 3 (byF r.serial) ++ one 4 (pkF r.a) ++ one 5 (pkF r.b) ++ one 6 (byF r.start) ++ one 7 (byF r.units) ++ one 8 (byF r.call) ++ one 9 (byF r.part) ++ one 10 (byF r.trunk) ++ one 11 (byF (flI r))
def bytesT (r : Record) : List UInt8 := [UInt8.ofInt (((encL (elsF r)).length : Int) / 256), UInt8.ofInt ((encL (elsF r)).length : Int)] ++ encL (elsF r)
theorem p_flag (b : Bool) (n : Int) : f_tagged_flag b n = some (if b = true then n else 0) := by unfold f_tagged_flag; cases b <;> rfl
theorem p_flags (r : Record) : f_billingref10_flags r = some (flI r) := by
  unfold f_billingref10_flags flI f_billingref10_flags_j1
  cases r.last <;> cases r.inbound <;> rfl
theorem flI_le (r : Record) : 0 ≤ flI r ∧ flI r ≤ 3 := by unfold flI; cases r.last <;> cases r.inbound <;> decide
theorem p_Encode10 (r : Record) (ha : r.a.length < 1000000000) (hb : r.b.length < 1000000000) : f_tagged_Encode r = some (if errF r = 0 then bytesT r else [], errF r) := by
  unfold f_tagged_Encode
  rw [p_Encode r ha hb, Option.bind_some]
  by_cases he : errF r = 0
  · have g := errF_good he
    have gs := g.source; have gr := g.serial; have gk := g.kind; have gt := g.start; have gu := g.units; have gc := g.call; have gp := g.part; have gkk := g.trunk
    obtain ⟨e1, h1⟩ := p_Pack r.a ha
    obtain ⟨e2, h2⟩ := p_Pack r.b hb
    have k1 := pkF_len r.a ha
    have k2 := pkF_len r.b hb
    have hf := flI_le r
    have b1 := byF_len (n := r.kind) (by omega); have b2 := byF_len (n := r.source) (by omega); have b3 := byF_len (n := r.serial) (by omega); have b4 := byF_len (n := r.start) (by omega)
    have b5 := byF_len (n := r.units) (by omega); have b6 := byF_len (n := r.call) (by omega); have b7 := byF_len (n := r.part) (by omega); have b8 := byF_len (n := r.trunk) (by omega); have b9 := byF_len (n := flI r) (by omega)
    have o1 := one_len 1 _ b1; have o2 := one_len 2 _ b2; have o3 := one_len 3 _ b3; have o4 := one_len 4 _ k1; have o5 := one_len 5 _ k2; have o6 := one_len 6 _ b4
    have o7 := one_len 7 _ b5; have o8 := one_len 8 _ b6; have o9 := one_len 9 _ b7; have o10 := one_len 10 _ b8; have o11 := one_len 11 _ b9
    rw [if_neg (by simp [he]), h1, h2, if_pos he, he]
    simp only [Option.bind_some, p_flag]
    rw [ck_pos (by decide), show (List.replicate (Int.toNat 2) 0 : List UInt8) = [0, 0] from rfl]
    rw [p_bytes _ (by omega), Option.bind_some, p_add _ _ _ (by simp; omega), Option.bind_some, p_bytes _ (by omega), Option.bind_some, p_add _ _ _ (by simp; omega), Option.bind_some]
    rw [p_bytes _ (by omega), Option.bind_some, p_add _ _ _ (by simp; omega), Option.bind_some, p_add _ _ _ (by simp; omega), Option.bind_some, p_add _ _ _ (by simp; omega), Option.bind_some]
    rw [p_bytes _ (by omega), Option.bind_some, p_add _ _ _ (by simp; omega), Option.bind_some, p_bytes _ (by omega), Option.bind_some, p_add _ _ _ (by simp; omega), Option.bind_some]
    rw [p_bytes _ (by omega), Option.bind_some, p_add _ _ _ (by simp; omega), Option.bind_some, p_bytes _ (by omega), Option.bind_some, p_add _ _ _ (by simp; omega), Option.bind_some]
    rw [p_bytes _ (by omega), Option.bind_some, p_add _ _ _ (by simp; omega), Option.bind_some]
    rw [show ((if r.last = true then 1 else 0) + (if r.inbound = true then 2 else 0) : Int) = flI r from rfl]
    rw [ck_pos (by omega), p_bytes _ (by omega), Option.bind_some, p_add _ _ _ (by simp; omega), Option.bind_some]
    have e : ([0, 0] ++ encL (one 1 (byF r.kind)) ++ encL (one 2 (byF r.source)) ++ encL (one 3 (byF r.serial)) ++ encL (one 4 (pkF r.a)) ++ encL (one 5 (pkF r.b)) ++ encL (one 6 (byF r.start)) ++ encL (one 7 (byF r.units)) ++ encL (one 8 (byF r.call)) ++ encL (one 9 (byF r.part)) ++ encL (one 10 (byF r.trunk)) ++ encL (one 11 (byF (flI r))) : List UInt8) = 0 :: 0 :: encL (elsF r) := by
      unfold elsF
      simp only [encL_app, List.append_assoc, List.cons_append, List.nil_append]
    have hl : (encL (elsF r)).length ≤ 110 := by
      unfold elsF
      simp only [encL_app, List.length_append]
      omega
    rw [e]
    rw [ck_pos (by simp; omega), ck_pos (by decide), ck_pos (by simp; omega), ck_pos (by simp), ck_pos (by simp; omega), ck_pos (by simp)]
    have e3 : (((0 :: 0 :: encL (elsF r) : List UInt8).length : Int) - 2) = ((encL (elsF r)).length : Int) := by simp; omega
    rw [e3, show (2 : Int) ^ Int.toNat 8 = 256 from rfl]
    rfl
  · rw [if_pos (by simpa using he)]; simp [he]
theorem okL_app : ∀ (x y : List Element) (last m : Int), okL last x → (∀ e, e ∈ x → e.tag ≤ m) → last ≤ m → okL m y → okL last (x ++ y)
  | [], y, last, m, _, _, hm, hy => by
    cases y with
    | nil => trivial
    | cons a y => exact ⟨hy.1, hy.2.1, by have := hy.2.2.1; omega, hy.2.2.2⟩
  | a :: x, y, last, m, hx, hm, hl, hy => ⟨hx.1, hx.2.1, hx.2.2.1, hx.2.2.2.1, okL_app x y a.tag m hx.2.2.2.2 (fun e he => hm e (List.mem_cons_of_mem _ he)) (hm a List.mem_cons_self) hy⟩
theorem okL_one {tag last : Int} {v : List UInt8} (h : 1 ≤ tag ∧ tag ≤ 255 ∧ last < tag) (hv : v.length ≤ 8) : okL last (one tag v) := by
  unfold one; split
  · trivial
  · exact ⟨h.1, h.2.1, h.2.2, by simp only; omega, trivial⟩
theorem one_tag {tag m : Int} {v : List UInt8} (h : tag ≤ m) : ∀ e, e ∈ one tag v → e.tag ≤ m := by
  intro e he
  unfold one at he
  split at he
  · cases he
  · rw [List.mem_singleton] at he; subst he; exact h
theorem els_ok {r : Record} (g : Good r) (ha : r.a.length < 1000000000) (hb : r.b.length < 1000000000) : okL 0 (elsF r) := by
  have gs := g.source; have gr := g.serial; have gk := g.kind; have gt := g.start; have gu := g.units; have gc := g.call; have gp := g.part; have gkk := g.trunk
  have k1 := pkF_len r.a ha
  have k2 := pkF_len r.b hb
  have hf := flI_le r
  have b1 := byF_len (n := r.kind) (by omega); have b2 := byF_len (n := r.source) (by omega); have b3 := byF_len (n := r.serial) (by omega); have b4 := byF_len (n := r.start) (by omega)
  have b5 := byF_len (n := r.units) (by omega); have b6 := byF_len (n := r.call) (by omega); have b7 := byF_len (n := r.part) (by omega); have b8 := byF_len (n := r.trunk) (by omega); have b9 := byF_len (n := flI r) (by omega)
  unfold elsF
  simp only [List.append_assoc]
  refine okL_app _ _ 0 1 (okL_one (by omega) b1) (one_tag (by omega)) (by omega) ?_
  refine okL_app _ _ 1 2 (okL_one (by omega) b2) (one_tag (by omega)) (by omega) ?_
  refine okL_app _ _ 2 3 (okL_one (by omega) b3) (one_tag (by omega)) (by omega) ?_
  refine okL_app _ _ 3 4 (okL_one (by omega) k1) (one_tag (by omega)) (by omega) ?_
  refine okL_app _ _ 4 5 (okL_one (by omega) k2) (one_tag (by omega)) (by omega) ?_
  refine okL_app _ _ 5 6 (okL_one (by omega) b4) (one_tag (by omega)) (by omega) ?_
  refine okL_app _ _ 6 7 (okL_one (by omega) b5) (one_tag (by omega)) (by omega) ?_
  refine okL_app _ _ 7 8 (okL_one (by omega) b6) (one_tag (by omega)) (by omega) ?_
  refine okL_app _ _ 8 9 (okL_one (by omega) b7) (one_tag (by omega)) (by omega) ?_
  refine okL_app _ _ 9 10 (okL_one (by omega) b8) (one_tag (by omega)) (by omega) ?_
  exact okL_one (by omega) b9
theorem els_count (r : Record) : (elsF r).length ≤ 11 := by
  have : ∀ t v, (one t v).length ≤ 1 := fun t v => by unfold one; split <;> simp
  unfold elsF
  simp only [List.length_append]
  have h1 := this 1 (byF r.kind); have h2 := this 2 (byF r.source); have h3 := this 3 (byF r.serial); have h4 := this 4 (pkF r.a); have h5 := this 5 (pkF r.b); have h6 := this 6 (byF r.start)
  have h7 := this 7 (byF r.units); have h8 := this 8 (byF r.call); have h9 := this 9 (byF r.part); have h10 := this 10 (byF r.trunk); have h11 := this 11 (byF (flI r))
  omega
theorem enc_len {r : Record} (g : Good r) (ha : r.a.length < 1000000000) (hb : r.b.length < 1000000000) : (encL (elsF r)).length ≤ 110 := by
  have gs := g.source; have gr := g.serial; have gk := g.kind; have gt := g.start; have gu := g.units; have gc := g.call; have gp := g.part; have gkk := g.trunk
  have hf := flI_le r
  have o1 := one_len 1 _ (byF_len (n := r.kind) (by omega)); have o2 := one_len 2 _ (byF_len (n := r.source) (by omega)); have o3 := one_len 3 _ (byF_len (n := r.serial) (by omega)); have o4 := one_len 4 _ (pkF_len r.a ha); have o5 := one_len 5 _ (pkF_len r.b hb); have o6 := one_len 6 _ (byF_len (n := r.start) (by omega))
  have o7 := one_len 7 _ (byF_len (n := r.units) (by omega)); have o8 := one_len 8 _ (byF_len (n := r.call) (by omega)); have o9 := one_len 9 _ (byF_len (n := r.part) (by omega)); have o10 := one_len 10 _ (byF_len (n := r.trunk) (by omega)); have o11 := one_len 11 _ (byF_len (n := flI r) (by omega))
  unfold elsF
  simp only [encL_app, List.length_append]
  omega
theorem p_j2 {r : Record} (g : Good r) (ha : r.a.length < 1000000000) (hb : r.b.length < 1000000000) : f_billingref10_Encode_j2 (elsF r) = some (bytesT r, 0) := by
  have hl := enc_len g ha hb
  unfold f_billingref10_Encode_j2
  rw [p_rBuild _ (by have := els_count r; omega), bld_of_ok _ 0 [] (els_ok g ha hb), Option.bind_some, List.nil_append]
  have ht : Int.tdiv ((encL (elsF r)).length : Int) 256 = ((encL (elsF r)).length : Int) / 256 := Int.tdiv_eq_ediv_of_nonneg (by omega)
  have hm : Int.tmod ((encL (elsF r)).length : Int) 256 = ((encL (elsF r)).length : Int) % 256 := Int.tmod_eq_emod_of_nonneg (by omega)
  rw [ht, hm, ofInt_mod (by omega), ck_pos (by omega), ck_pos (by decide), ck_pos (by simp; omega)]
  rfl
theorem p_rEncode10 (r : Record) (ha : r.a.length < 1000000000) (hb : r.b.length < 1000000000) : f_billingref10_Encode r = some (if errF r = 0 then bytesT r else [], errF r) := by
  unfold f_billingref10_Encode
  rw [p_rError r ha hb, Option.bind_some]
  by_cases he : errF r = 0
  · have g := errF_good he
    have gs := g.source; have gr := g.serial; have gk := g.kind; have gt := g.start; have gu := g.units; have gc := g.call; have gp := g.part; have gkk := g.trunk
    have hf := flI_le r
    rw [if_neg (by simp [he]), if_pos he, he, pack_same _ ha, pack_same _ hb]
    obtain ⟨e1, h1⟩ := p_Pack r.a ha
    obtain ⟨e2, h2⟩ := p_Pack r.b hb
    rw [h1, Option.bind_some]
    have hj : f_billingref10_Encode_j1 r (pkF r.a, e1) (pkF r.b) = some (bytesT r, 0) := by
      unfold f_billingref10_Encode_j1
      rw [p_shortest _ (by omega), Option.bind_some, p_shortest _ (by omega), Option.bind_some, p_shortest _ (by omega), Option.bind_some, p_shortest _ (by omega), Option.bind_some, p_shortest _ (by omega), Option.bind_some, p_shortest _ (by omega), Option.bind_some, p_shortest _ (by omega), Option.bind_some, p_shortest _ (by omega), Option.bind_some, p_flags, Option.bind_some, p_shortest _ (by omega), Option.bind_some]
      have step : ∀ (acc : List Element) (k : Nat), acc.length ≤ 12 → 1 ≤ k → k < 12 → f_billingref10_Encode_l1 (pkF r.a, e1) (pkF r.b) (byF r.kind) (byF r.source) (byF r.serial) (byF r.start) (byF r.units) (byF r.call) (byF r.part) (byF r.trunk) (byF (flI r)) acc (k : Int) = some (.inl (acc ++ one (k : Int) (nth (valsF r) k), (k : Int) + 1)) := by
        intro acc k ha h1 h2
        unfold f_billingref10_Encode_l1
        rw [if_pos (by simp; omega), ck_pos (by simp; omega), Int.toNat_natCast]
        show (if (decide (((nth (valsF r) k).length : Int) > 0)) = true then _ else _) = _
        unfold one
        by_cases hv : (nth (valsF r) k).length = 0
        · rw [if_neg (by simp; exact List.length_eq_zero_iff.1 hv), if_pos hv, ck_pos (by omega), List.append_nil]
        · rw [if_pos (by simp; omega), if_neg hv, ck_pos (by simp; omega), ck_pos (by simp; omega), ck_pos (by omega)]
          rfl
      have oneS : ∀ (n : Nat) (acc : List Element) (k : Nat), acc.length ≤ 12 → 1 ≤ k → k < 12 →
          iter (fun s => f_billingref10_Encode_l1 (pkF r.a, e1) (pkF r.b) (byF r.kind) (byF r.source) (byF r.serial) (byF r.start) (byF r.units) (byF r.call) (byF r.part) (byF r.trunk) (byF (flI r)) s.1 s.2) (n + 1) (acc, (k : Int)) =
          iter (fun s => f_billingref10_Encode_l1 (pkF r.a, e1) (pkF r.b) (byF r.kind) (byF r.source) (byF r.serial) (byF r.start) (byF r.units) (byF r.call) (byF r.part) (byF r.trunk) (byF (flI r)) s.1 s.2) n (acc ++ one (k : Int) (nth (valsF r) k), ((k + 1 : Nat) : Int)) := by
        intro n acc k ha h1 h2
        conv => lhs; unfold iter
        rw [step acc k ha h1 h2]
        rfl
      have stop : ∀ (n : Nat) (acc : List Element) (q : List UInt8 × Int), f_billingref10_Encode_l1 (pkF r.a, e1) (pkF r.b) (byF r.kind) (byF r.source) (byF r.serial) (byF r.start) (byF r.units) (byF r.call) (byF r.part) (byF r.trunk) (byF (flI r)) acc 12 = some (.inr q) → iter (fun s => f_billingref10_Encode_l1 (pkF r.a, e1) (pkF r.b) (byF r.kind) (byF r.source) (byF r.serial) (byF r.start) (byF r.units) (byF r.call) (byF r.part) (byF r.trunk) (byF (flI r)) s.1 s.2) (n + 1) (acc, ((11 + 1 : Nat) : Int)) = some q := by
        intro n acc q h
        unfold iter
        simp only [show ((11 + 1 : Nat) : Int) = 12 from rfl, h]
      have len1 : ∀ t v, (one t v).length ≤ 1 := fun t v => by unfold one; split <;> simp
      have l1 := len1 1 (byF r.kind); have l2 := len1 2 (byF r.source); have l3 := len1 3 (byF r.serial); have l4 := len1 4 (pkF r.a); have l5 := len1 5 (pkF r.b); have l6 := len1 6 (byF r.start)
      have l7 := len1 7 (byF r.units); have l8 := len1 8 (byF r.call); have l9 := len1 9 (byF r.part); have l10 := len1 10 (byF r.trunk); have l11 := len1 11 (byF (flI r))
      unfold loop
      rw [show (18446744073709551616 : Nat) = 18446744073709551604 + 12 from rfl]
      rw [show (([] : List Element), (1 : Int)) = (([] : List Element), ((1 : Nat) : Int)) from rfl]
      rw [oneS _ _ 1 (by simp) (by omega) (by omega), show nth (valsF r) 1 = byF r.kind from rfl, oneS _ _ 2 (by simp; omega) (by omega) (by omega), show nth (valsF r) (1 + 1) = byF r.source from rfl]
      rw [oneS _ _ 3 (by simp; omega) (by omega) (by omega), show nth (valsF r) (2 + 1) = byF r.serial from rfl, oneS _ _ 4 (by simp; omega) (by omega) (by omega), show nth (valsF r) (3 + 1) = pkF r.a from rfl]
      rw [oneS _ _ 5 (by simp; omega) (by omega) (by omega), show nth (valsF r) (4 + 1) = pkF r.b from rfl, oneS _ _ 6 (by simp; omega) (by omega) (by omega), show nth (valsF r) (5 + 1) = byF r.start from rfl]
      rw [oneS _ _ 7 (by simp; omega) (by omega) (by omega), show nth (valsF r) (6 + 1) = byF r.units from rfl, oneS _ _ 8 (by simp; omega) (by omega) (by omega), show nth (valsF r) (7 + 1) = byF r.call from rfl]
      rw [oneS _ _ 9 (by simp; omega) (by omega) (by omega), show nth (valsF r) (8 + 1) = byF r.part from rfl, oneS _ _ 10 (by simp; omega) (by omega) (by omega), show nth (valsF r) (9 + 1) = byF r.trunk from rfl]
      rw [oneS _ _ 11 (by simp; omega) (by omega) (by omega), show nth (valsF r) (10 + 1) = byF (flI r) from rfl]
      refine stop _ _ _ ?_
      unfold f_billingref10_Encode_l1
      rw [if_neg (by simp)]
      exact (congrArg (Option.map fun z => Sum.inr z) (p_j2 g ha hb)).trans rfl
    by_cases hbn : r.b = []
    · rw [if_neg (by simp [hbn])]
      rw [hbn, pkF_nil] at hj
      exact hj
    · rw [if_pos (by simpa using hbn), h2, Option.bind_some]
      exact hj
  · rw [if_pos (by simpa using he), if_neg he]
def Short (r : Record) : Prop := (r.a.length : Int) ≤ 200 ∧ (r.b.length : Int) ≤ 200
instance (r : Record) : Decidable (Short r) := inferInstanceAs (Decidable (_ ∧ _))
theorem p_short (r : Record) : f_billinglaw10_short r = some (decide (Short r)) := by
  unfold f_billinglaw10_short
  congr 1
  rw [Bool.eq_iff_iff, decide_eq_true_iff]
  simp [Short]
theorem encodes_true (r : Record) : f_billinglaw10_TaggedEncodes r = some true := by
  unfold f_billinglaw10_TaggedEncodes
  rw [p_short, awake_true]
  simp only [Option.bind_some]
  by_cases h : Short r
  · rw [if_neg (by simp [h]), p_Encode10 r (by have := h.1; omega) (by have := h.2; omega), p_rEncode10 r (by have := h.1; omega) (by have := h.2; omega)]
    simp [gcall_mk]
  · rw [if_pos (by simp [h])]
end Go.Proofs.YtmdpmallgcekgaaDoor
