import Derived.Test.YtlgoaojmancfpaaDoorR6
set_option linter.unusedSimpArgs false
set_option linter.unusedVariables false
namespace Go.Proofs.YtlgoaojmancfpaaDoor
open Go.RowKit Go.Abs
/-! there and back -/
theorem u8_two {x y : UInt8} (hx : x.toNat < 16) (hy : y.toNat < 16) : (x * 16 + y) / 16 = x ∧ (x * 16 + y) % 16 = y := by
  have h : (x * 16 + y).toNat = x.toNat * 16 + y.toNat := by
    rw [UInt8.toNat_add, UInt8.toNat_mul, show (16 : UInt8).toNat = 16 from rfl]; omega
  constructor
  · apply UInt8.toNat_inj.1; rw [u8_hin, h]; omega
  · apply UInt8.toNat_inj.1; rw [u8_lon, h]; omega
theorem u8_join (x : UInt8) : (x / 16) * 16 + x % 16 = x := u8_all (p := fun x => (x / 16) * 16 + x % 16 = x) (by decide +kernel) x
theorem nibAt_telF {s : List UInt8} (hs : s.all isDig = true) (hl : s.length ≤ 15) {k : Nat} (hk : k < 16) : nibAt (telF s) k = nibI s s.length k := by
  have h2 := u8_two (nib_lt hs hl (k := 2 * (k / 2)) (Nat.le_refl _)) (nib_lt hs hl (k := 2 * (k / 2) + 1) (Nat.le_refl _))
  unfold nibAt telF
  rw [telI_nth (by omega)]
  split
  · rw [h2.1, show 2 * (k / 2) = k by omega]
  · rw [h2.2, show 2 * (k / 2) + 1 = k by omega]
theorem telN_telF {s : List UInt8} (hs : s.all isDig = true) (hl : s.length ≤ 15) : telN (telF s) = s.length := by
  have h := nibAt_telF hs hl (k := 0) (by omega)
  unfold nibAt at h
  rw [if_pos rfl] at h
  unfold telN
  have h' := congrArg UInt8.toNat h
  rw [u8_hin] at h'
  rw [show (0 / 2 : Nat) = 0 from rfl] at h'
  rw [h']
  simp [nibI]; omega
theorem dig48 (x : UInt8) : (48 : UInt8) + (x - 48) = x := u8_all (p := fun x => (48 : UInt8) + (x - 48) = x) (by decide +kernel) x
theorem telG_telF {s : List UInt8} (hs : s.all isDig = true) (hl : s.length ≤ 15) : ∀ m i : Nat, i + m = 15 → telG (telF s) (i + 1) m (s.take i) = (s, true)
  | 0, i, e => by rw [telG, List.take_of_length_le (by omega)]
  | m + 1, i, e => by
    rw [telG, telN_telF hs hl, nibAt_telF hs hl (by omega)]
    by_cases hi : i < s.length
    · rw [if_pos ⟨by omega, nib_digs hs (by omega) (Nat.le_refl _)⟩]
      have : nibI s s.length (i + 1) = nth s i - 48 := by unfold nibI; rw [if_neg (by omega), if_pos (by omega)]; rfl
      rw [this, dig48]
      have e1 : s.take i ++ [nth s i] = s.take (i + 1) := by rw [nth_eq hi, List.take_append_getElem hi]
      rw [e1]
      exact telG_telF hs hl m (i + 1) (by omega)
    · rw [if_neg (by omega), nib_zero (by omega), if_neg (by simp; omega)]
      have := telG_telF hs hl m (i + 1) (by omega)
      rw [List.take_of_length_le (by omega)] at this ⊢
      exact this
theorem telD_telF {s : List UInt8} (hs : s.all isDig = true) (hl : s.length ≤ 15) : telD (telF s) = (s, true) := by
  have := telG_telF hs hl 15 0 rfl
  simpa [telD] using this
/-- A number that is read has the digits it says. -/
theorem telG_inv (f : List UInt8) : ∀ (m i : Nat) (s : List UInt8), telG f (i + 1) m ((List.range (min i (telN f))).map fun j => 48 + nibAt f (j + 1)) = (s, true) →
    s = (List.range (min (i + m) (telN f))).map (fun j => 48 + nibAt f (j + 1)) ∧ ∀ j, i < j → j ≤ i + m → (j ≤ telN f → (nibAt f j).toNat ≤ 9) ∧ (telN f < j → nibAt f j = 0)
  | 0, i, s, h => by
    rw [telG] at h
    exact ⟨(congrArg Prod.fst h).symm, fun j h1 h2 => by omega⟩
  | m + 1, i, s, h => by
    rw [telG] at h
    by_cases h1 : i + 1 ≤ telN f ∧ (nibAt f (i + 1)).toNat ≤ 9
    · rw [if_pos h1, Nat.min_eq_left (by omega)] at h
      have e : (List.range i).map (fun j => 48 + nibAt f (j + 1)) ++ [48 + nibAt f (i + 1)] = (List.range (min (i + 1) (telN f))).map (fun j => 48 + nibAt f (j + 1)) := by
        rw [Nat.min_eq_left (by omega), List.range_succ, List.map_append]; rfl
      rw [e] at h
      obtain ⟨e1, e2⟩ := telG_inv f m (i + 1) s h
      refine ⟨by rw [e1, show i + 1 + m = i + (m + 1) by omega], fun j h3 h4 => ?_⟩
      by_cases hj : j = i + 1
      · subst hj; exact ⟨fun _ => h1.2, fun h => by omega⟩
      · exact e2 j (by omega) (by omega)
    · rw [if_neg h1] at h
      by_cases h2 : i + 1 ≤ telN f ∨ nibAt f (i + 1) ≠ 0
      · rw [if_pos h2] at h; cases h
      · rw [if_neg h2] at h
        have hN : ¬ i + 1 ≤ telN f := fun h => h2 (.inl h)
        have h0 : nibAt f (i + 1) = 0 := Decidable.byContradiction fun h => h2 (.inr h)
        have e : (List.range (min i (telN f))).map (fun j => 48 + nibAt f (j + 1)) = (List.range (min (i + 1) (telN f))).map (fun j => 48 + nibAt f (j + 1)) := by
          rw [show min i (telN f) = min (i + 1) (telN f) by omega]
        rw [e] at h
        obtain ⟨e1, e2⟩ := telG_inv f m (i + 1) s h
        refine ⟨by rw [e1, show i + 1 + m = i + (m + 1) by omega], fun j h3 h4 => ?_⟩
        by_cases hj : j = i + 1
        · subst hj; exact ⟨fun h => absurd h hN, fun _ => h0⟩
        · exact e2 j (by omega) (by omega)
theorem sub48 (x : UInt8) : (48 : UInt8) + x - 48 = x := u8_all (p := fun x => (48 : UInt8) + x - 48 = x) (by decide +kernel) x
theorem telF_telD {f s : List UInt8} (hf : f.length = 8) (h : telD f = (s, true)) : telF s = f := by
  obtain ⟨e, hd⟩ := telG_inv f 15 0 s (by simpa [telD] using h)
  have hN : telN f ≤ 15 := by unfold telN; have := (nth f 0).toNat_lt; omega
  rw [Nat.min_eq_right (by omega)] at e
  have hs : s.length = telN f := by rw [e]; simp
  have hn : ∀ k, k < 16 → nibI s s.length k = nibAt f k := by
    intro k hk
    unfold nibI
    by_cases h0 : k = 0
    · subst h0
      rw [if_pos rfl, hs]
      apply UInt8.toNat_inj.1
      unfold nibAt telN
      rw [if_pos rfl, u8_hin, show (0 / 2 : Nat) = 0 from rfl, UInt8.toNat_ofNat']
      have := (nth f 0).toNat_lt; omega
    · rw [if_neg h0]
      by_cases h1 : k ≤ s.length
      · rw [if_pos h1, nth_eq (by omega)]
        simp only [e, List.getElem_map, List.getElem_range]
        rw [show k - 1 + 1 = k by omega, sub48]
      · rw [if_neg h1, (hd k (by omega) (by omega)).2 (by omega)]
  apply List.ext_getElem
  · rw [telF_len, hf]
  · intro j h1 h2
    have h1' : j < 8 := by rw [telF_len] at h1; exact h1
    refine (nth_eq h1).symm.trans (Eq.trans ?_ (nth_eq h2))
    unfold telF
    rw [telI_nth h1', hn _ (by omega), hn _ (by omega)]
    unfold nibAt
    rw [if_pos (by omega), if_neg (by omega), show 2 * j / 2 = j by omega, show (2 * j + 1) / 2 = j by omega, u8_join]
theorem pk_two {m : Int} (hm : 0 ≤ m) {x : UInt8} (h1 : x.toNat / 16 ≤ 9) (h2 : x.toNat % 16 ≤ 9) : pk (100 * m + ((x.toNat / 16 : Nat) : Int) * 10 + ((x.toNat % 16 : Nat) : Int)) = x := by
  apply UInt8.toNat_inj.1
  have := pk_nat (100 * m + ((x.toNat / 16 : Nat) : Int) * 10 + ((x.toNat % 16 : Nat) : Int)) (by omega)
  omega
theorem pack_dec : ∀ (c : List UInt8) (m n : Int), 0 ≤ m → decS m c = (n, 0) → 0 ≤ n ∧ packF c.length n = c ∧ n / 100 ^ c.length = m
  | [], m, n, hm, h => by
    rw [decS] at h
    have : m = n := congrArg Prod.fst h
    subst this
    exact ⟨hm, rfl, by simp⟩
  | x :: r, m, n, hm, h => by
    rw [decS] at h
    split at h
    · cases congrArg Prod.snd h
    · rename_i hx
      obtain ⟨h1, h2, h3⟩ := pack_dec r _ n (by omega) h
      refine ⟨h1, ?_, ?_⟩
      · rw [List.length_cons, packF, h2, h3, pk_two hm (by omega) (by omega)]
      · rw [List.length_cons, ← div_pow, h3]; omega
theorem packF_decD {c : List UInt8} {k : Nat} (hc : c.length = k) (h : (decD c).2 = 0) : packF k (decD c).1 = c := by
  unfold decD at h ⊢
  split at h
  · cases h
  · rename_i h1
    rw [if_neg h1, ← hc]
    exact (pack_dec c 0 _ (by omega) (Prod.ext rfl h)).2.1
theorem flag_back (x : UInt8) : x % 16 ≤ 3 → UInt8.ofInt (((x.toNat / 16 : Nat) : Int) * 16 + ((if ((x % 2) == 1) = true then 1 else 0) + (if decide (x % 16 ≥ 2) = true then 2 else 0))) = x :=
  u8_all (p := fun x => x % 16 ≤ 3 → UInt8.ofInt (((x.toNat / 16 : Nat) : Int) * 16 + ((if ((x % 2) == 1) = true then 1 else 0) + (if decide (x % 16 ≥ 2) = true then 2 else 0))) = x) (by decide +kernel) x
theorem cut_cut_len {b : List UInt8} {i n : Nat} (h : i + n ≤ b.length) : (cut b i n).length = n := by simp [cut]; omega
theorem cut_join (b : List UInt8) (i m n : Nat) : cut b i m ++ cut b (i + m) n = cut b i (m + n) := by
  unfold cut
  rw [← List.drop_drop, ← List.take_add]
theorem cut_one {b : List UInt8} {i : Nat} (h : i < b.length) : [nth b i] = cut b i 1 := by
  unfold cut
  rw [nth_eq h, List.drop_eq_getElem_cons h]; rfl
theorem cut_all (b : List UInt8) : cut b 0 b.length = b := by simp [cut]
/-- What is read is written the same. -/
theorem bytes_back {b : List UInt8} (h : (unpackF b).2 = 0) : bytesF (unpackF b).1 = b ∧ errF (unpackF b).1 = 0 := by
  unfold unpackF at h ⊢
  split at h; · cases h
  split at h; · cases h
  split at h; · cases h
  split at h; · cases h
  split at h; · exact absurd h (by assumption)
  rename_i h1 h2 h3 h4 h5
  rw [if_neg h1, if_neg h2, if_neg h3, if_neg h4, if_neg h5]
  have hl : b.length = 45 := by omega
  refine ⟨?_, by simpa using h5⟩
  have h4' : formB b = true := by simpa using h4
  unfold formB at h4'
  simp only [Bool.and_eq_true, beq_iff_eq, decide_eq_true_eq] at h4'
  obtain ⟨⟨⟨⟨⟨⟨⟨⟨⟨f1, f2⟩, f3⟩, f4⟩, f5⟩, f6⟩, f7⟩, f8⟩, f9⟩, f10⟩ := h4'
  have hbody : bodyF (recF b) = b.take 44 := by
    have e : ∀ i n, i + n ≤ 45 → (cut b i n).length = n := fun i n h => cut_cut_len (by omega)
    unfold bodyF headB
    simp only [recF]
    rw [packF_decD (e 0 1 (by omega)) f1, packF_decD (e 1 5 (by omega)) f2, packF_decD (e 23 6 (by omega)) f5, packF_decD (e 29 7 (by omega)) f6, packF_decD (e 36 5 (by omega)) f7, packF_decD (e 41 1 (by omega)) f8, packF_decD (e 42 2 (by omega)) f9,
      telF_telD (e 7 8 (by omega)) (Prod.ext rfl f3), telF_telD (e 15 8 (by omega)) (Prod.ext rfl f4)]
    unfold flagF
    simp only []
    rw [flag_back _ f10, cut_one (by omega)]
    rw [cut_join b 0 1, cut_join b 0 (1 + 5), cut_join b 0 (1 + 5 + 1), cut_join b 0 (1 + 5 + 1 + 8), cut_join b 0 (1 + 5 + 1 + 8 + 8), cut_join b 0 (1 + 5 + 1 + 8 + 8 + 6), cut_join b 0 (1 + 5 + 1 + 8 + 8 + 6 + 7), cut_join b 0 (1 + 5 + 1 + 8 + 8 + 6 + 7 + 5), cut_join b 0 (1 + 5 + 1 + 8 + 8 + 6 + 7 + 5 + 1)]
    rfl
  unfold bytesF
  have h3' : sumF (b.take 44) = nth b 44 := Decidable.byContradiction h3
  rw [hbody, h3', cut_one (by omega), show b.take 44 = cut b 0 44 from rfl, cut_join b 0 44 1, show 44 + 1 = b.length by omega, cut_all]
theorem cut_left (x y : List UInt8) (i n : Nat) (h : i + n ≤ x.length) : cut (x ++ y) i n = cut x i n := by
  unfold cut
  rw [List.drop_append_of_le_length (by omega), List.take_append_of_le_length (by simp; omega)]
theorem cut_end (x y : List UInt8) (i n : Nat) (h : x.length = i) (hy : y.length = n) : cut (x ++ y) i n = y := by
  subst h hy
  simp [cut]
theorem bytes_len (r : Record) : (bytesF r).length = 45 := by simp [bytesF, bodyF_len]
theorem nth_left (x y : List UInt8) (i : Nat) (h : i < x.length) : nth (x ++ y) i = nth x i := by
  rw [nth_eq (by simp; omega), nth_eq h, List.getElem_append_left h]
theorem nth_end (x : List UInt8) (y : UInt8) (i : Nat) (h : x.length = i) : nth (x ++ [y]) i = y := by
  subst h
  rw [nth_eq (by simp)]; simp
theorem flag_read {r : Record} (hk : 1 ≤ r.kind ∧ r.kind ≤ 4) : (((flagF r).toNat / 16 : Nat) : Int) = r.kind ∧ ((flagF r % 2) == 1) = r.last ∧ decide (flagF r % 16 ≥ 2) = r.inbound ∧ flagF r % 16 ≤ 3 := by
  unfold flagF
  obtain ⟨h1, h2⟩ := hk
  have : r.kind = 1 ∨ r.kind = 2 ∨ r.kind = 3 ∨ r.kind = 4 := by omega
  rcases this with h | h | h | h <;> rw [h] <;> cases r.last <;> cases r.inbound <;> decide
theorem fields_of {r : Record} (g : Good r) : recF (bytesF r) = r ∧ formB (bytesF r) = true := by
  have hf := flag_read g.kind
  have c1 : cut (bytesF r) 0 1 = packF 1 r.source := by
    unfold bytesF bodyF headB
    iterate 10 rw [cut_left _ _ _ _ (by simp [packF_len, telF_len])]
    have e : (packF 1 r.source).length = 1 := packF_len _ _
    have := cut_all (packF 1 r.source)
    rw [e] at this; exact this
  have c2 : cut (bytesF r) 1 5 = packF 5 r.serial := by
    unfold bytesF bodyF headB
    iterate 9 rw [cut_left _ _ _ _ (by simp [packF_len, telF_len])]
    exact cut_end _ _ _ _ (by simp [packF_len, telF_len]) (by simp [packF_len, telF_len])
  have c3 : nth (bytesF r) 6 = flagF r := by
    unfold bytesF bodyF headB
    iterate 8 rw [nth_left _ _ _ (by simp [packF_len, telF_len])]
    exact nth_end _ _ _ (by simp [packF_len, telF_len])
  have c4 : cut (bytesF r) 7 8 = telF r.a := by
    unfold bytesF bodyF headB
    iterate 7 rw [cut_left _ _ _ _ (by simp [packF_len, telF_len])]
    exact cut_end _ _ _ _ (by simp [packF_len, telF_len]) (by simp [packF_len, telF_len])
  have c5 : cut (bytesF r) 15 8 = telF r.b := by
    unfold bytesF bodyF headB
    iterate 6 rw [cut_left _ _ _ _ (by simp [packF_len, telF_len])]
    exact cut_end _ _ _ _ (by simp [packF_len, telF_len]) (by simp [packF_len, telF_len])
  have c6 : cut (bytesF r) 23 6 = packF 6 r.start := by
    unfold bytesF bodyF headB
    iterate 5 rw [cut_left _ _ _ _ (by simp [packF_len, telF_len])]
    exact cut_end _ _ _ _ (by simp [packF_len, telF_len]) (by simp [packF_len, telF_len])
  have c7 : cut (bytesF r) 29 7 = packF 7 r.units := by
    unfold bytesF bodyF headB
    iterate 4 rw [cut_left _ _ _ _ (by simp [packF_len, telF_len])]
    exact cut_end _ _ _ _ (by simp [packF_len, telF_len]) (by simp [packF_len, telF_len])
  have c8 : cut (bytesF r) 36 5 = packF 5 r.call := by
    unfold bytesF bodyF headB
    iterate 3 rw [cut_left _ _ _ _ (by simp [packF_len, telF_len])]
    exact cut_end _ _ _ _ (by simp [packF_len, telF_len]) (by simp [packF_len, telF_len])
  have c9 : cut (bytesF r) 41 1 = packF 1 r.part := by
    unfold bytesF bodyF headB
    iterate 2 rw [cut_left _ _ _ _ (by simp [packF_len, telF_len])]
    exact cut_end _ _ _ _ (by simp [packF_len, telF_len]) (by simp [packF_len, telF_len])
  have c10 : cut (bytesF r) 42 2 = packF 2 r.trunk := by
    unfold bytesF bodyF headB
    rw [cut_left _ _ _ _ (by simp [packF_len, telF_len])]
    exact cut_end _ _ _ _ (by simp [packF_len, telF_len]) (by simp [packF_len, telF_len])
  obtain ⟨⟨ga, gal⟩, gb, gbl⟩ := good_tel g
  have gs := g.source; have gr := g.serial; have gt := g.start; have gu := g.units; have gc := g.call; have gp := g.part; have gk := g.trunk
  have d1 : decD (packF 1 r.source) = (r.source, 0) := decD_pack (by omega) (by omega) (by omega)
  have d2 : decD (packF 5 r.serial) = (r.serial, 0) := decD_pack (by omega) (by omega) (by omega)
  have d3 : decD (packF 6 r.start) = (r.start, 0) := decD_pack (by omega) (by omega) (by omega)
  have d4 : decD (packF 7 r.units) = (r.units, 0) := decD_pack (by omega) (by omega) (by omega)
  have d5 : decD (packF 5 r.call) = (r.call, 0) := decD_pack (by omega) (by omega) (by omega)
  have d6 : decD (packF 1 r.part) = (r.part, 0) := decD_pack (by omega) (by omega) (by omega)
  have d7 : decD (packF 2 r.trunk) = (r.trunk, 0) := decD_pack (by omega) (by omega) (by omega)
  constructor
  · unfold recF
    rw [c1, c2, c3, c4, c5, c6, c7, c8, c9, c10, d1, d2, d3, d4, d5, d6, d7, telD_telF ga gal, telD_telF gb gbl, hf.1, hf.2.1, hf.2.2.1]
  · unfold formB
    rw [c1, c2, c3, c4, c5, c6, c7, c8, c9, c10, d1, d2, d3, d4, d5, d6, d7, telD_telF ga gal, telD_telF gb gbl]
    simp [hf.2.2.2]
theorem read_back {r : Record} (h : errF r = 0) : unpackF (bytesF r) = (r, 0) := by
  have hf := fields_of (errF_good h)
  unfold unpackF
  rw [bytes_len, if_neg (by omega), if_neg (by omega), hf.1, hf.2, if_neg, if_neg (by simp), if_neg (by simp [h])]
  unfold bytesF
  rw [List.take_append_of_le_length (by rw [bodyF_len]; omega), List.take_of_length_le (by rw [bodyF_len]; omega), nth_end _ _ _ (bodyF_len r)]
  simp
theorem foldl_add : ∀ (l : List UInt8) (n : UInt8), l.foldl (· + ·) n = n + sumF l
  | [], n => by simp [sumF]
  | x :: r, n => by
    unfold sumF
    rw [List.foldl_cons, List.foldl_cons, foldl_add r, foldl_add r (0 + x), UInt8.zero_add, UInt8.add_assoc]
theorem sum_app (x y : List UInt8) : sumF (x ++ y) = sumF x + sumF y := by
  unfold sumF
  rw [List.foldl_append, foldl_add y]; rfl
theorem sum_set {l : List UInt8} {i : Nat} {c : UInt8} (h : i < l.length) (hc : nth l i ≠ c) : sumF (l.set i c) ≠ sumF l := by
  intro e
  have e1 : l.set i c = l.take i ++ ([c] ++ l.drop (i + 1)) := by rw [List.set_eq_take_append_cons_drop, if_pos h]; rfl
  have e2 : l = l.take i ++ ([nth l i] ++ l.drop (i + 1)) := by
    rw [nth_eq h, List.singleton_append, ← List.drop_eq_getElem_cons h, List.take_append_drop]
  rw [e1] at e
  conv at e => rhs; rw [e2]
  rw [sum_app, sum_app, sum_app, sum_app] at e
  have e3 := (UInt8.add_left_inj _).1 ((UInt8.add_right_inj _).1 e)
  simp [sumF] at e3
  exact hc e3.symm
theorem changed {r : Record} {i : Nat} {c : UInt8} (hi : i < 45) (hc : nth (bytesF r) i ≠ c) : (unpackF ((bytesF r).set i c)).2 = 4 := by
  unfold unpackF
  rw [List.length_set, bytes_len, if_neg (by omega), if_neg (by omega), if_pos]
  have hb := bodyF_len r
  unfold bytesF at hc ⊢
  by_cases h : i < 44
  · rw [nth_left _ _ _ (by omega)] at hc
    rw [List.set_append_left _ _ (by omega), List.take_append_of_le_length (by simp; omega), List.take_of_length_le (by simp; omega), nth_end _ _ _ (by simp; omega)]
    exact sum_set (by omega) hc
  · have : i = 44 := by omega
    subst this
    rw [nth_end _ _ _ hb] at hc
    rw [List.set_append_right _ _ (by omega), hb]
    show sumF ((bodyF r ++ [c]).take 44) ≠ nth (bodyF r ++ [c]) 44
    rw [List.take_append_of_le_length (by omega), List.take_of_length_le (by omega), nth_end _ _ _ hb]
    exact hc
theorem back_j1 (b : List UInt8) (hb : b.length ≤ 100000) : f_billinglaw11_PackedBack_j1 b = some true := by
  unfold f_billinglaw11_PackedBack_j1
  rw [p_Decode11 b hb, awake_true]
  simp only [Option.bind_some]
  by_cases h : (unpackF b).2 = 0
  · rw [if_neg (by simp [h])]
    obtain ⟨h1, h2⟩ := bytes_back h
    have g := errF_good h2
    have hg := good_tel g
    rw [p_Encode11 _ (by have := hg.1.2; omega) (by have := hg.2.2; omega), h1, h2]
    simp [gcall_mk]
  · rw [if_pos (by simpa using h)]
theorem back_true (r : Record) (b : List UInt8) (c : Billinglaw11Change) : f_billinglaw11_PackedBack r b c = some true := by
  unfold f_billinglaw11_PackedBack
  rw [p_short, awake_true]
  simp only [Option.bind_some]
  by_cases h : Short r
  · by_cases hb : (b.length : Int) > 200
    · rw [if_pos (by simp; omega)]
    · rw [if_neg (by simp [h]; omega), p_Encode11 r (by have := h.1; omega) (by have := h.2; omega)]
      simp only [Option.bind_some]
      rw [back_j1 b (by omega)]
      by_cases he : errF r = 0
      · rw [if_pos (by simp [he]), if_pos he, p_Decode11 _ (by rw [bytes_len]; omega), read_back he, bytes_len]
        simp only [Option.bind_some]
        rw [if_neg (by simp [Record.eq_refl])]
        rw [ck_pos (by intro hx; simp only [Bool.and_eq_true, decide_eq_true_eq] at hx; omega)]
        by_cases hx : ((decide (c.at_ ≥ 0) && decide (c.at_ < ((45 : Nat) : Int))) && (nth (bytesF r) (Int.toNat c.at_) != c.to_)) = true
        · rw [if_pos hx]
          simp only [Bool.and_eq_true, decide_eq_true_eq, bne_iff_ne] at hx
          rw [List.nil_append, ck_pos (by simp), ck_pos (by rw [bytes_len]; omega), ck_pos (by rw [bytes_len]; omega), p_Decode11 _ (by rw [List.length_set, bytes_len]; omega), Option.bind_some, changed (by omega) hx.2]
          simp
        · rw [if_neg hx]
      · rw [if_neg (by simp [he])]
  · rw [if_pos (by simp [h])]
end Go.Proofs.YtlgoaojmancfpaaDoor
