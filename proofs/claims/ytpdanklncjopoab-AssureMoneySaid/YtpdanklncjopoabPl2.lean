import Derived.Test.YtpdanklncjopoabPl1
set_option linter.unusedSimpArgs false
set_option linter.unusedVariables false
namespace Go.Proofs.Ytpdanklncjopoab
open Go.RowKit Go.Abs

structure Usage where
  id : Int
  kind : Int
  account : Int
  sub : Int
  a : List UInt8
  b : List UInt8
  start : Int
  units : Int
  trunk : Int
  inbound : Bool
  source : Int
  serial : Int
instance : Inhabited Usage := ⟨⟨0, 0, 0, 0, [], [], 0, 0, 0, false, 0, 0⟩⟩
def Usage.row (u : Usage) : List D := [cI u.id, cI u.kind, cI u.account, cI u.sub, cS u.a, cS u.b, cI u.start, cI u.units, cI u.trunk, cB u.inbound, cI u.source, cI u.serial]
def Usage.vals (u : Usage) : List Value := [.int .i64 u.id, .int .i64 u.kind, .int .i64 u.account, .int .i64 u.sub, .string ⟨u.a.toArray⟩, .string ⟨u.b.toArray⟩, .int .i64 u.start, .int .i64 u.units, .int .i64 u.trunk, .bool u.inbound, .int .i64 u.source, .int .i64 u.serial]
structure Leak where
  ctl : Int
  key : Int
  left : Int
  right : Int
instance : Inhabited Leak := ⟨⟨0, 0, 0, 0⟩⟩
def Leak.row (l : Leak) : List D := [cI l.ctl, cI l.key, cI l.left, cI l.right]
def Leak.vals (l : Leak) : List Value := [.int .i64 l.ctl, .int .i64 l.key, .int .i64 l.left, .int .i64 l.right]
theorem eqV_refl_int (k : IntKind) (n : Int) : eqV (.int k n) (.int k n) = true := by simp [eqV]
def sameL : List Leak → List Leak → Bool
  | [], [] => true
  | x :: xs, y :: ys => eqVs x.vals y.vals && sameL xs ys
  | _, _ => false
theorem sameL_refl : ∀ l, sameL l l = true
  | [] => rfl
  | x :: xs => by simp [sameL, sameL_refl xs, Leak.vals, eqVs, eqV]
theorem sameL_len : ∀ {a b : List Leak}, sameL a b = true → a.length = b.length
  | [], [], _ => rfl
  | x :: xs, y :: ys, h => by simp only [sameL, Bool.and_eq_true] at h; simp [sameL_len h.2]
  | [], _ :: _, h => by cases h
  | _ :: _, [], h => by cases h
theorem sameL_cons {a b : List Leak} {k : Nat} (ha : k < a.length) (hb : k < b.length) : sameL (a.drop k) (b.drop k) = (eqVs (nth a k).vals (nth b k).vals && sameL (a.drop (k + 1)) (b.drop (k + 1))) := by
  rw [drop_nth ha, drop_nth hb]; rfl
theorem sameL_eq : ∀ {a b : List Leak}, sameL a b = true → a = b
  | [], [], _ => rfl
  | ⟨a1, a2, a3, a4⟩ :: xs, ⟨b1, b2, b3, b4⟩ :: ys, h => by
    simp only [sameL, Bool.and_eq_true] at h
    have := sameL_eq h.2
    subst this
    have h1 := h.1
    simp [Leak.vals, eqVs, eqV] at h1
    obtain ⟨rfl, rfl, rfl, rfl⟩ := h1
    rfl
  | [], _ :: _, h => by cases h
  | _ :: _, [], h => by cases h
structure Take where
  sub : Int
  product : List UInt8
  index : Int
  from_ : Int
  units : Int
instance : Inhabited Take := ⟨⟨0, [], 0, 0, 0⟩⟩
def Take.row (t : Take) : List D := [cI t.sub, cS t.product, cI t.index, cI t.from_, cI t.units]
structure Segment where
  band : List UInt8
  start : Int
  units : Int
  amount : Int
instance : Inhabited Segment := ⟨⟨[], 0, 0, 0⟩⟩
def Segment.row (s : Segment) : List D := [cS s.band, cI s.start, cI s.units, cI s.amount]
structure Given where
  name : List UInt8
  amount : Int
instance : Inhabited Given := ⟨⟨[], 0⟩⟩
def Given.row (g : Given) : List D := [cS g.name, cI g.amount]
structure Rated where
  usage : Usage
  err : Int
  plan : List UInt8
  version : Int
  zone : List UInt8
  takes : List Take
  segments : List Segment
  setup : Int
  gross : Int
  net : Int
  given : List Given
  paid : Int
  owed : Int
instance : Inhabited Rated := ⟨⟨default, 0, [], 0, [], [], [], 0, 0, 0, [], 0, 0⟩⟩
def Rated.row (r : Rated) : List D := [cI r.usage.id, cI r.usage.kind, cI r.usage.account, cI r.usage.sub, cS r.usage.a, cS r.usage.b, cI r.usage.start, cI r.usage.units, cI r.usage.trunk, cB r.usage.inbound, cI r.usage.source, cI r.usage.serial,
  cI r.err, cS r.plan, cI r.version, cS r.zone, slOf 5 Take.row r.takes, slOf 4 Segment.row r.segments, cI r.setup, cI r.gross, cI r.net, slOf 2 Given.row r.given, cI r.paid, cI r.owed]
structure Line where
  kind : Int
  sub : Int
  name : List UInt8
  category : List UInt8
  count : Int
  units : Int
  amount : Int
  rounded : Int
instance : Inhabited Line := ⟨⟨0, 0, [], [], 0, 0, 0, 0⟩⟩
def Line.row (l : Line) : List D := [cI l.kind, cI l.sub, cS l.name, cS l.category, cI l.count, cI l.units, cI l.amount, cI l.rounded]
def charged (l : Line) : Bool := if (l.kind == 1) = true then true else l.kind == 3

/-! ### text -/
def leakText (x : Leak) : List UInt8 := nameF x.ctl ++ [32] ++ decF x.key ++ [32] ++ decF x.left ++ [32] ++ decF x.right ++ [10]
def textF (l : List Leak) : List UInt8 := (l.map leakText).flatten
theorem textF_take {l : List Leak} {k : Nat} (h : k < l.length) : textF (l.take (k + 1)) = textF (l.take k) ++ leakText (nth l k) := by
  unfold textF; rw [take_nth h]; simp
theorem ite_len {p : Prop} [Decidable p] {a b : List UInt8} {n : Nat} (ha : a.length ≤ n) (hb : b.length ≤ n) : (if p then a else b).length ≤ n := by split <;> assumption
theorem nameF_len (k : Int) : (nameF k).length ≤ 7 := by
  unfold nameF
  exact ite_len (by simp) (ite_len (by simp) (ite_len (by simp) (ite_len (by simp) (ite_len (by simp) (ite_len (by simp) (by simp))))))
theorem leakText_len (x : Leak) : (leakText x).length ≤ 80 := by
  have h1 := nameF_len x.ctl
  have h2 := decF_len x.key
  have h3 := decF_len x.left
  have h4 := decF_len x.right
  simp [leakText]; omega
theorem textF_len (l : List Leak) : (textF l).length ≤ 80 * l.length := by
  induction l with
  | nil => simp [textF]
  | cons x t ih =>
    have h := leakText_len x
    have e : textF (x :: t) = leakText x ++ textF t := by simp [textF]
    rw [e]; simp; omega
theorem u64_neg {n : Int} (h1 : -9223372036854775808 ≤ n) (h2 : n < 0) : IntKind.u64.wrap (0 - IntKind.u64.wrap n) = ((-n).toNat : Int) := by
  simp only [IntKind.wrap]
  simp [IntKind.signed, IntKind.bits]
  omega
theorem u64_pos {n : Int} (h1 : 0 ≤ n) (h2 : n ≤ 9223372036854775807) : IntKind.u64.wrap n = (n.toNat : Int) := by
  simp only [IntKind.wrap]
  simp [IntKind.signed, IntKind.bits]
  omega
theorem digs_step {m : Nat} (ds : List UInt8) (h0 : 0 < m) (hb : m < 10 ^ 20) : (if m = 0 then [] else digs m) ++ ds = (if m / 10 = 0 then [] else digs (m / 10)) ++ (digit (m % 10) :: ds) := by
  rw [if_neg (by omega)]
  by_cases h : m < 10
  · rw [if_pos (by omega), digs_small h, Nat.mod_eq_of_lt h]; rfl
  · rw [if_neg (by omega), digs_big (by omega) hb]; simp
theorem digs_first {n : Nat} (hb : n < 10 ^ 20) : digs n = (if n / 10 = 0 then [] else digs (n / 10)) ++ [digit (n % 10)] := by
  by_cases h0 : n = 0
  · subst h0; rfl
  · have h := digs_step (m := n) [] (by omega) hb
    rw [if_neg h0, List.append_nil] at h
    exact h
theorem u8_digit {m : Nat} : IntKind.u8.wrap (IntKind.u64.wrap (48 + (m : Int).tmod 10)) = ((digit (m % 10)).toNat : Int) := by
  have h1 : (m : Int).tmod 10 = ((m % 10 : Nat) : Int) := by rw [Int.tmod_eq_emod_of_nonneg (by omega)]; omega
  rw [h1, digit_byte (by omega)]
  simp only [IntKind.wrap]
  simp [IntKind.signed, IntKind.bits]
  omega
theorem u64_quo {m : Nat} (h : m < 18446744073709551616) : IntKind.u64.wrap ((m : Int).tdiv 10) = ((m / 10 : Nat) : Int) := by
  have h1 : (m : Int).tdiv 10 = ((m / 10 : Nat) : Int) := by rw [Int.tdiv_eq_ediv_of_nonneg (by omega)]; omega
  rw [h1]
  simp only [IntKind.wrap]
  simp [IntKind.signed, IntKind.bits]
  omega
def i64 (n : Int) : Prop := -9223372036854775808 ≤ n ∧ n ≤ 9223372036854775807
def Leak.nums (x : Leak) : List Int := [x.key, x.left, x.right]
def Leak.ok (x : Leak) : Prop := i64 x.key ∧ i64 x.left ∧ i64 x.right
theorem Leak.ok_nums {x : Leak} (h : x.ok) {j : Nat} (hj : j < 3) : i64 (nth x.nums j) := by
  match j, hj with
  | 0, _ => exact h.1
  | 1, _ => exact h.2.1
  | 2, _ => exact h.2.2
def partF (x : Leak) (j : Nat) : List UInt8 := ((x.nums.take j).map fun n => 32 :: decF n).flatten
theorem partF_succ {x : Leak} {j : Nat} (h : j < 3) : partF x (j + 1) = partF x j ++ 32 :: decF (nth x.nums j) := by
  unfold partF
  rw [take_nth (l := x.nums) (by simpa [Leak.nums] using h)]
  simp
theorem leakText_eq (x : Leak) : leakText x = nameF x.ctl ++ partF x 3 ++ [10] := by
  simp [leakText, partF, Leak.nums]
theorem partF_len {x : Leak} {j : Nat} (h : j ≤ 3) : (partF x j).length ≤ 66 := by
  have h1 := decF_len x.key
  have h2 := decF_len x.left
  have h3 := decF_len x.right
  match j, h with
  | 0, _ => simp [partF]
  | 1, _ => simp [partF, Leak.nums]; omega
  | 2, _ => simp [partF, Leak.nums]; omega
  | 3, _ => simp [partF, Leak.nums]; omega
theorem byteRows_append (a b : List UInt8) : byteRows (a ++ b) = byteRows a ++ byteRows b := by simp [byteRows]
theorem byteRows_nil : byteRows [] = [] := rfl
theorem byteRows_len (a : List UInt8) : (byteRows a).length = a.length := by simp [byteRows]
theorem textF_take_len {l : List Leak} {k : Nat} (h : l.length ≤ 1000000) : (textF (l.take k)).length ≤ 80000000 := by
  have h1 := textF_len (l.take k)
  have h2 : (l.take k).length ≤ l.length := by simp; omega
  omega
end Go.Proofs.Ytpdanklncjopoab
