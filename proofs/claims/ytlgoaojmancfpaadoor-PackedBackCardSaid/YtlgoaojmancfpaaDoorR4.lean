import Derived.Test.YtlgoaojmancfpaaDoorR3
set_option linter.unusedSimpArgs false
set_option linter.unusedVariables false
namespace Go.Proofs.YtlgoaojmancfpaaDoor
open Go.RowKit Go.Abs
/-! the bytes of a record -/
def flagF (r : Record) : UInt8 := UInt8.ofInt (r.kind * 16 + ((if r.last = true then 1 else 0) + (if r.inbound = true then 2 else 0)))
def headB (r : Record) : List UInt8 := packF 1 r.source ++ packF 5 r.serial ++ [flagF r] ++ telF r.a ++ telF r.b
def bodyF (r : Record) : List UInt8 := headB r ++ packF 6 r.start ++ packF 7 r.units ++ packF 5 r.call ++ packF 1 r.part ++ packF 2 r.trunk
def bytesF (r : Record) : List UInt8 := bodyF r ++ [sumF (bodyF r)]
theorem telF_len (s : List UInt8) : (telF s).length = 8 := telI_len _ _
theorem headB_len (r : Record) : (headB r).length = 23 := by simp [headB, packF_len, telF_len]
theorem bodyF_len (r : Record) : (bodyF r).length = 44 := by simp [bodyF, headB_len, packF_len]
theorem putF_ok {b : List UInt8} {n : Int} {k : Nat} (hk : 1 ≤ k ∧ k ≤ 9) (h0 : 0 ≤ n) (h1 : n < 100 ^ k) : putF b n (k : Int) = (b ++ packF k n, 0) := by
  unfold putF
  rw [if_neg (by omega), Int.toNat_natCast, Int.ediv_eq_zero_of_lt h0 h1, if_neg (by omega)]
theorem good_tel {r : Record} (g : Good r) : (r.a.all isDig = true ∧ r.a.length ≤ 15) ∧ r.b.all isDig = true ∧ r.b.length ≤ 15 := by
  have key : ∀ s : List UInt8, validB s = true → s.all isDig = true ∧ s.length ≤ 15 := fun s h => by
    unfold validB at h
    simp only [Bool.and_eq_true, decide_eq_true_eq] at h
    exact ⟨h.1.1, h.2⟩
  refine ⟨key _ g.a, ?_⟩
  rcases g.b with h | ⟨_, h⟩
  · exact key _ h
  · rw [h]; exact ⟨rfl, by simp⟩
theorem put1 {b : List UInt8} {n : Int} {k : Nat} (hb : b.length ≤ 100000) (hk : 1 ≤ k ∧ k ≤ 9) (h0 : 0 ≤ n) (h1 : n < 100 ^ k) : g_packed_Encode_1_v1 n (k : Int) b = some (b ++ packF k n) := by
  have h2 : (100 : Int) ^ k ≤ 1000000000000000000 := by
    have : ∀ j : Fin 10, (100 : Int) ^ j.val ≤ 1000000000000000000 := by decide +kernel
    exact this ⟨k, by omega⟩
  unfold g_packed_Encode_1_v1
  rw [p_PutDecimal b n k (by omega) (by omega), putF_ok hk h0 h1]
  rfl
theorem rput1 {b : List UInt8} {n : Int} {k : Nat} (hb : b.length ≤ 100000) (hk : 1 ≤ k ∧ k ≤ 9) (h0 : 0 ≤ n) (h1 : n < 100 ^ k) : f_billingref11_PutDecimal b n (k : Int) = some (b ++ packF k n, 0) := by
  have h2 : (100 : Int) ^ k ≤ 1000000000000000000 := by
    have : ∀ j : Fin 10, (100 : Int) ^ j.val ≤ 1000000000000000000 := by decide +kernel
    exact this ⟨k, by omega⟩
  rw [p_rPutDecimal b n k (by omega) (by omega), putF_ok hk h0 h1]
theorem flag_or {r : Record} (hk : 1 ≤ r.kind ∧ r.kind ≤ 4) : (UInt8.ofInt (r.kind * 2 ^ (Int.toNat 4)) ||| (if r.last = true then 1 else 0)) ||| (if r.inbound = true then 2 else 0) = flagF r := by
  unfold flagF
  obtain ⟨h1, h2⟩ := hk
  have : r.kind = 1 ∨ r.kind = 2 ∨ r.kind = 3 ∨ r.kind = 4 := by omega
  rcases this with h | h | h | h <;> rw [h] <;> cases r.last <;> cases r.inbound <;> decide
theorem p_bit (b : Bool) (n : UInt8) : f_packed_bit b n = some (if b = true then n else 0) := by unfold f_packed_bit; cases b <;> rfl
theorem p_Encode11 (r : Record) (ha : r.a.length < 1000000000) (hb : r.b.length < 1000000000) : f_packed_Encode r = some (if errF r = 0 then bytesF r else [], errF r) := by
  unfold f_packed_Encode
  rw [p_Encode r ha hb]
  simp only [Option.bind_some]
  by_cases h : errF r = 0
  · have g := errF_good h
    obtain ⟨⟨a1, a2⟩, b1, b2⟩ := good_tel g
    have e1 : g_packed_Encode_1 r.source 1 = some (packF 1 r.source) := by
      unfold g_packed_Encode_1
      rw [p_PutDecimal [] _ 1 (by simp) (by have := g.source; omega)]
      rw [show ((1 : Int)) = ((1 : Nat) : Int) from rfl, putF_ok ⟨by omega, by omega⟩ (by have := g.source; omega) (by have := g.source; omega)]
      rfl
    have e4 : (2 : Int) ^ (Int.toNat 4) = 16 := by decide
    rw [if_neg (by simpa using h), e1, if_pos h, h]
    simp only [Option.bind_some]
    rw [show (5 : Int) = ((5 : Nat) : Int) from rfl, put1 (by simp [packF_len]) ⟨by omega, by omega⟩ (by have := g.serial; omega) (by have := g.serial; omega)]
    simp only [Option.bind_some]
    rw [ck_pos (by rw [e4]; have := g.kind; omega), p_bit, p_bit]
    simp only [Option.bind_some]
    rw [ck_pos (by simp [packF_len]), flag_or g.kind, p_putNumber r.a _ a1 a2 (by simp [packF_len])]
    simp only [Option.bind_some]
    rw [p_putNumber r.b _ b1 b2 (by simp [packF_len, telF_len])]
    simp only [Option.bind_some]
    rw [show packF 1 r.source ++ packF 5 r.serial ++ [flagF r] ++ telF r.a ++ telF r.b = headB r from rfl]
    rw [show (6 : Int) = ((6 : Nat) : Int) from rfl, put1 (by simp [headB_len]) ⟨by omega, by omega⟩ (by have := g.start; omega) (by have := g.start; omega)]
    simp only [Option.bind_some]
    rw [show (7 : Int) = ((7 : Nat) : Int) from rfl, put1 (by simp [headB_len, packF_len]) ⟨by omega, by omega⟩ (by have := g.units; omega) (by have := g.units; omega)]
    simp only [Option.bind_some]
    rw [put1 (by simp [headB_len, packF_len]) ⟨by omega, by omega⟩ (by have := g.call; omega) (by have := g.call; omega)]
    simp only [Option.bind_some]
    rw [show (1 : Int) = ((1 : Nat) : Int) from rfl, put1 (by simp [headB_len, packF_len]) ⟨by omega, by omega⟩ (by have := g.part; omega) (by have := g.part; omega)]
    simp only [Option.bind_some]
    rw [show (2 : Int) = ((2 : Nat) : Int) from rfl, put1 (by simp [headB_len, packF_len]) ⟨by omega, by omega⟩ (by have := g.trunk; omega) (by have := g.trunk; omega)]
    simp only [Option.bind_some]
    rw [show headB r ++ packF 6 r.start ++ packF 7 r.units ++ packF 5 r.call ++ packF 1 r.part ++ packF 2 r.trunk = bodyF r from rfl, p_sum _ (by rw [bodyF_len]; omega)]
    simp only [Option.bind_some]
    rw [ck_pos (by simp [bodyF_len])]
    rfl
  · rw [if_pos (by simpa using h), if_neg h]
theorem p_rEncode11 (r : Record) (ha : r.a.length < 1000000000) (hb : r.b.length < 1000000000) : f_billingref11_Encode r = some (if errF r = 0 then bytesF r else [], errF r) := by
  unfold f_billingref11_Encode
  rw [p_rError r ha hb]
  simp only [Option.bind_some]
  by_cases h : errF r = 0
  · have g := errF_good h
    obtain ⟨⟨a1, a2⟩, b1, b2⟩ := good_tel g
    have key : ∀ fl : Int, 0 ≤ fl → fl ≤ 3 → UInt8.ofInt (r.kind * 16 + fl) = flagF r → f_billingref11_Encode_j2 r fl = some (bytesF r, 0) := by
      intro fl f0 f1 hf
      unfold f_billingref11_Encode_j2
      rw [show (1 : Int) = ((1 : Nat) : Int) from rfl, rput1 (by simp) ⟨by omega, by omega⟩ (by have := g.source; omega) (by have := g.source; omega)]
      simp only [Option.bind_some]
      rw [show (5 : Int) = ((5 : Nat) : Int) from rfl, rput1 (by simp [packF_len]) ⟨by omega, by omega⟩ (by have := g.serial; omega) (by have := g.serial; omega)]
      simp only [Option.bind_some]
      rw [ck_pos (by have := g.kind; omega), ck_pos (by have := g.kind; omega), hf, ck_pos (by simp [packF_len]), p_digits r.a a1 a2]
      simp only [Option.bind_some]
      rw [ck_pos (by simp [packF_len, telF_len]), p_digits r.b b1 b2]
      simp only [Option.bind_some]
      rw [ck_pos (by simp [packF_len, telF_len]), List.nil_append]
      rw [show packF 1 r.source ++ packF 5 r.serial ++ [flagF r] ++ telF r.a ++ telF r.b = headB r from rfl]
      rw [show (6 : Int) = ((6 : Nat) : Int) from rfl, rput1 (by simp [headB_len]) ⟨by omega, by omega⟩ (by have := g.start; omega) (by have := g.start; omega)]
      simp only [Option.bind_some]
      rw [show (7 : Int) = ((7 : Nat) : Int) from rfl, rput1 (by simp [headB_len, packF_len]) ⟨by omega, by omega⟩ (by have := g.units; omega) (by have := g.units; omega)]
      simp only [Option.bind_some]
      rw [rput1 (by simp [headB_len, packF_len]) ⟨by omega, by omega⟩ (by have := g.call; omega) (by have := g.call; omega)]
      simp only [Option.bind_some]
      rw [rput1 (by simp [headB_len, packF_len]) ⟨by omega, by omega⟩ (by have := g.part; omega) (by have := g.part; omega)]
      simp only [Option.bind_some]
      rw [show (2 : Int) = ((2 : Nat) : Int) from rfl, rput1 (by simp [headB_len, packF_len]) ⟨by omega, by omega⟩ (by have := g.trunk; omega) (by have := g.trunk; omega)]
      simp only [Option.bind_some]
      rw [show headB r ++ packF 6 r.start ++ packF 7 r.units ++ packF 5 r.call ++ packF 1 r.part ++ packF 2 r.trunk = bodyF r from rfl, p_rsum _ (by rw [bodyF_len]; omega)]
      simp only [Option.bind_some]
      rw [ck_pos (by simp [bodyF_len])]
      rfl
    rw [if_neg (by simpa using h), if_pos h, h]
    unfold flagF at key
    unfold f_billingref11_Encode_j1
    cases hl : r.last <;> cases hi : r.inbound
    · exact key 0 (by omega) (by omega) (by rw [hl, hi]; rfl)
    · rw [if_neg (by decide), if_pos rfl, ck_pos (by decide)]
      exact key 2 (by omega) (by omega) (by rw [hl, hi]; rfl)
    · rw [if_pos rfl, ck_pos (by decide), if_neg (by decide)]
      exact key 1 (by omega) (by omega) (by rw [hl, hi]; rfl)
    · rw [if_pos rfl, ck_pos (by decide), if_pos rfl, ck_pos (by decide)]
      exact key 3 (by omega) (by omega) (by rw [hl, hi]; rfl)
  · rw [if_pos (by simpa using h), if_neg h]
def Short (r : Record) : Prop := (r.a.length : Int) ≤ 200 ∧ (r.b.length : Int) ≤ 200
instance (r : Record) : Decidable (Short r) := inferInstanceAs (Decidable (_ ∧ _))
theorem p_short (r : Record) : f_billinglaw11_short r = some (decide (Short r)) := by
  unfold f_billinglaw11_short
  congr 1
  rw [Bool.eq_iff_iff, decide_eq_true_iff]
  simp [Short]
theorem encodes_true (r : Record) : f_billinglaw11_PackedEncodes r = some true := by
  unfold f_billinglaw11_PackedEncodes
  rw [p_short, awake_true]
  simp only [Option.bind_some]
  by_cases h : Short r
  · rw [if_neg (by simp [h]), p_Encode11 r (by have := h.1; omega) (by have := h.2; omega), p_rEncode11 r (by have := h.1; omega) (by have := h.2; omega)]
    simp [gcall_mk]
  · rw [if_pos (by simp [h])]
end Go.Proofs.YtlgoaojmancfpaaDoor
