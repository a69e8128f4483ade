import Derived.Test.YtalecnjpdjdlgaaDoorD3
import Derived.Lib.ItoaNum
import Derived.Lib.Join
set_option linter.unusedSimpArgs false
set_option linter.unusedVariables false
namespace Go.Proofs.YtalecnjpdjdlgaaDoor
open Go.RowKit Go.Abs
structure Record where
  source : Int
  serial : Int
  kind : Int
  a : (List UInt8)
  b : (List UInt8)
  start : Int
  units : Int
  call : Int
  part : Int
  last : Bool
  trunk : Int
  inbound : Bool
instance : Inhabited Record := ⟨⟨default, default, default, default, default, default, default, default, default, default, default, default⟩⟩
def Record.row (x : Record) : List D := [cI x.source, cI x.serial, cI x.kind, cS x.a, cS x.b, cI x.start, cI x.units, cI x.call, cI x.part, cB x.last, cI x.trunk, cB x.inbound]
def Record.vals (x : Record) : List Value := [.int .i64 x.source, .int .i64 x.serial, .int .i64 x.kind, .string ⟨x.a.toArray⟩, .string ⟨x.b.toArray⟩, .int .i64 x.start, .int .i64 x.units, .int .i64 x.call, .int .i64 x.part, .bool x.last, .int .i64 x.trunk, .bool x.inbound]
structure Window where
  earliest : Int
  latest : Int
instance : Inhabited Window := ⟨⟨default, default⟩⟩
def Window.row (x : Window) : List D := [cI x.earliest, cI x.latest]
def Window.vals (x : Window) : List Value := [.int .i64 x.earliest, .int .i64 x.latest]
structure Reject where
  source : Int
  serial : Int
  index : Int
  err : Int
instance : Inhabited Reject := ⟨⟨default, default, default, default⟩⟩
def Reject.row (x : Reject) : List D := [cI x.source, cI x.serial, cI x.index, cI x.err]
def Reject.vals (x : Reject) : List Value := [.int .i64 x.source, .int .i64 x.serial, .int .i64 x.index, .int .i64 x.err]
def x_Itoa (n : Int) : Option (List UInt8) := ck (-9223372036854775808 ≤ n ∧ n ≤ 9223372036854775807) (some (Go.Lib.itoa n))
def x_Join (xs : List (List UInt8)) (sep : List UInt8) : Option (List UInt8) := ck (xs.length ≤ 1000000000 ∧ (Go.Lib.join xs sep).length ≤ 1000000000) (some (Go.Lib.join xs sep))
def f_billinglaw13_short (v0r : Record) : Option Bool :=
  some ((decide ((v0r.a.length : Int) ≤ 200)) && (decide ((v0r.b.length : Int) ≤ 200)))
def f_textual_within (v0n : Int) (v1lo : Int) (v2hi : Int) : Option Bool :=
  some ((decide (v0n ≥ v1lo)) && (decide (v0n ≤ v2hi)))
def f_digits_digit (v0c : UInt8) : Option Bool :=
  some ((decide (v0c ≥ 48)) && (decide (v0c ≤ 57)))
def f_digits_Valid_j1 (v0s : List UInt8) : Option Bool :=
  some ((decide ((v0s.length : Int) ≥ 1)) && (decide ((v0s.length : Int) ≤ 15)))
def f_digits_Valid_l1 (v0s : List UInt8) (v6l1 : Int) : Option ((Int) ⊕ Bool) :=
  if (decide (v6l1 < (v0s.length : Int))) = true then (ck ((0 : Int) ≤ v6l1 ∧ v6l1 < (v0s.length : Int)) ((f_digits_digit (nth v0s (Int.toNat (v6l1)))).bind fun y1 => if (!y1) = true then some (.inr false) else ck ((-9223372036854775808 : Int) ≤ v6l1 + 1 ∧ v6l1 + 1 ≤ 9223372036854775807) (some (.inl (v6l1 + 1))))) else (f_digits_Valid_j1 v0s).map (fun z => .inr z)
def f_digits_Valid (v0s : List UInt8) : Option Bool :=
  loop (fun s => f_digits_Valid_l1 v0s s) 0
def f_textual_check_j1 (v0 : Record) (v4j1 : Int) : Option Int :=
  (f_textual_within v0.source 1 99).bind fun y1 => (gcall (!(!y1)) (f_textual_within v0.serial 1 999999999)).bind fun y2 => if ((!y1) || (!y2)) = true then some 6 else (f_textual_within v0.kind 1 4).bind fun y3 => if (!y3) = true then some 7 else (f_digits_Valid v0.a).bind fun y4 => (gcall (!(!y4)) (f_digits_Valid v0.b)).bind fun y5 => if ((!y4) || ((!y5) && (!(((v0.kind == 3) || (v0.kind == 4)) && (v0.b == ([] : List UInt8)))))) = true then some 12 else (f_textual_within v0.start 0 12622780799).bind fun y6 => if (!y6) = true then some 15 else (f_textual_within v0.units 0 v4j1).bind fun y7 => if (!y7) = true then some 6 else ck ((v0.kind == 1) = true → ((-9223372036854775808 : Int) ≤ v0.start + v0.units ∧ v0.start + v0.units ≤ 9223372036854775807)) (if ((v0.kind == 1) && (decide ((v0.start + v0.units) > 12622780800))) = true then some 15 else (f_textual_within v0.call 0 999999999).bind fun y8 => (gcall (!(!y8)) (f_textual_within v0.part 0 99)).bind fun y9 => if ((!y8) || (!y9)) = true then some 6 else if (((v0.part == 0) != (v0.call == 0)) || (v0.last && (v0.part == 0))) = true then some 8 else (f_textual_within v0.trunk 0 999).bind fun y10 => if (!y10) = true then some 6 else if (v0.inbound && (v0.trunk == 0)) = true then some 8 else some 0)
def f_textual_check (v0 : Record) : Option Int :=
  if (v0.kind == 1) = true then (f_textual_check_j1 v0 604800) else f_textual_check_j1 v0 1099511627776
def f_textual_Encode_j3 (v7j3 : List (List UInt8)) : Option ((List UInt8) × Int) :=
  (x_Join v7j3 ([32] : List UInt8)).bind fun y6 => some (y6, 0)
def f_textual_Encode_j4 (v0 : Record) (v7j2 : List (List UInt8)) (v8j4 : List UInt8) : Option ((List UInt8) × Int) :=
  (x_Itoa v0.trunk).bind fun y7 => ck (v7j2.length + ([v8j4, y7]).length ≤ 1000000000) (f_textual_Encode_j3 (v7j2 ++ ([v8j4, y7])))
def f_textual_Encode_j2 (v0 : Record) (v7j2 : List (List UInt8)) : Option ((List UInt8) × Int) :=
  if (v0.trunk != 0) = true then (if v0.inbound = true then (f_textual_Encode_j4 v0 v7j2 ([105, 110] : List UInt8)) else f_textual_Encode_j4 v0 v7j2 ([111, 117, 116] : List UInt8)) else f_textual_Encode_j3 v7j2
def f_textual_Encode_j1 (v0 : Record) (v6j1 : List UInt8) : Option ((List UInt8) × Int) :=
  ck ((-9223372036854775808 : Int) ≤ v0.kind - 1 ∧ v0.kind - 1 ≤ 9223372036854775807) (ck ((0 : Int) ≤ v0.kind - 1 ∧ v0.kind - 1 ≤ v0.kind ∧ v0.kind ≤ (([118, 116, 100, 99] : List UInt8).length : Int)) ((x_Itoa v0.source).bind fun y2 => (x_Itoa v0.serial).bind fun y3 => (x_Itoa v0.start).bind fun y4 => (x_Itoa v0.units).bind fun y5 => if (v0.part != 0) = true then ((x_Itoa v0.call).bind fun y8 => (x_Itoa v0.part).bind fun y9 => ck (([(([118, 116, 100, 99] : List UInt8).take (Int.toNat (v0.kind))).drop (Int.toNat (v0.kind - 1)), y2, y3, v0.a, v6j1, y4, y5] : List (List UInt8)).length + ([([112, 97, 114, 116] : List UInt8), y8, y9]).length ≤ 1000000000) (if v0.last = true then (ck ((([(([118, 116, 100, 99] : List UInt8).take (Int.toNat (v0.kind))).drop (Int.toNat (v0.kind - 1)), y2, y3, v0.a, v6j1, y4, y5] : List (List UInt8)) ++ ([([112, 97, 114, 116] : List UInt8), y8, y9])).length + ([([108, 97, 115, 116] : List UInt8)]).length ≤ 1000000000) (f_textual_Encode_j2 v0 ((([(([118, 116, 100, 99] : List UInt8).take (Int.toNat (v0.kind))).drop (Int.toNat (v0.kind - 1)), y2, y3, v0.a, v6j1, y4, y5] : List (List UInt8)) ++ ([([112, 97, 114, 116] : List UInt8), y8, y9])) ++ ([([108, 97, 115, 116] : List UInt8)])))) else f_textual_Encode_j2 v0 (([(([118, 116, 100, 99] : List UInt8).take (Int.toNat (v0.kind))).drop (Int.toNat (v0.kind - 1)), y2, y3, v0.a, v6j1, y4, y5] : List (List UInt8)) ++ ([([112, 97, 114, 116] : List UInt8), y8, y9])))) else f_textual_Encode_j2 v0 ([(([118, 116, 100, 99] : List UInt8).take (Int.toNat (v0.kind))).drop (Int.toNat (v0.kind - 1)), y2, y3, v0.a, v6j1, y4, y5] : List (List UInt8))))
def f_textual_Encode (v0 : Record) : Option ((List UInt8) × Int) :=
  (f_textual_check v0).bind fun y1 => if (y1 != 0) = true then some (([] : List UInt8), y1) else if (v0.b == ([] : List UInt8)) = true then (f_textual_Encode_j1 v0 ([45] : List UInt8)) else f_textual_Encode_j1 v0 v0.b
def f_validate_Check (v0r : Record) : Option Int :=
  (f_textual_Encode v0r).bind fun y1 => some y1.2
def f_validate_Window (v0r : Record) (v1w : Window) : Option Int :=
  if ((decide (v0r.start < v1w.earliest)) || (decide (v0r.start > v1w.latest))) = true then some 15 else some 0
def f_validate_All_j1 (v0records : List Record) (v6outl1 : List Record) (v7nol1 : List Reject) (v13l1 : Int) (v10ej1 : Int) : Option ((List Record × List Reject × Int) ⊕ ((List Record) × (List Reject))) :=
  if (v10ej1 != 0) = true then (ck (v7nol1.length + ([(⟨(nth v0records (Int.toNat (v13l1))).source, (nth v0records (Int.toNat (v13l1))).serial, v13l1, v10ej1⟩ : Reject)]).length ≤ 1000000000) (ck ((-9223372036854775808 : Int) ≤ v13l1 + 1 ∧ v13l1 + 1 ≤ 9223372036854775807) (some (.inl (v6outl1, v7nol1 ++ ([(⟨(nth v0records (Int.toNat (v13l1))).source, (nth v0records (Int.toNat (v13l1))).serial, v13l1, v10ej1⟩ : Reject)]), v13l1 + 1))))) else ck (v6outl1.length + ([nth v0records (Int.toNat (v13l1))]).length ≤ 1000000000) (ck ((-9223372036854775808 : Int) ≤ v13l1 + 1 ∧ v13l1 + 1 ≤ 9223372036854775807) (some (.inl (v6outl1 ++ ([nth v0records (Int.toNat (v13l1))]), v7nol1, v13l1 + 1))))
def f_validate_All_l1 (v0records : List Record) (v1w : Window) (v6outl1 : List Record) (v7nol1 : List Reject) (v13l1 : Int) : Option ((List Record × List Reject × Int) ⊕ ((List Record) × (List Reject))) :=
  if (decide (v13l1 < (v0records.length : Int))) = true then (ck ((0 : Int) ≤ v13l1 ∧ v13l1 < (v0records.length : Int)) ((f_validate_Check (nth v0records (Int.toNat (v13l1)))).bind fun y1 => if (y1 == 0) = true then ((f_validate_Window (nth v0records (Int.toNat (v13l1))) v1w).bind fun y2 => f_validate_All_j1 v0records v6outl1 v7nol1 v13l1 y2) else f_validate_All_j1 v0records v6outl1 v7nol1 v13l1 y1)) else some (.inr (v6outl1, v7nol1))
def f_validate_All (v0records : List Record) (v1w : Window) : Option ((List Record) × (List Reject)) :=
  loop (fun s => f_validate_All_l1 v0records v1w s.1 s.2.1 s.2.2) (([] : List Record), ([] : List Reject), 0)
def f_validate_Name (v0kind : Int) : Option (List UInt8) :=
  if (v0kind == 1) = true then some ([118, 111, 105, 99, 101] : List UInt8) else if (v0kind == 2) = true then some ([116, 101, 120, 116] : List UInt8) else if (v0kind == 3) = true then some ([100, 97, 116, 97] : List UInt8) else if (v0kind == 4) = true then some ([99, 111, 110, 116, 101, 110, 116] : List UInt8) else some ([] : List UInt8)
def f_validate_Kind_l1 (v0name : List UInt8) (v4l1 : Int) : Option ((Int) ⊕ Int) :=
  if (decide (v4l1 < 5)) = true then ((gcall (decide (v4l1 > 0)) (f_validate_Name v4l1)).bind fun y1 => if ((decide (v4l1 > 0)) && (y1 == v0name)) = true then some (.inr v4l1) else ck ((-9223372036854775808 : Int) ≤ v4l1 + 1 ∧ v4l1 + 1 ≤ 9223372036854775807) (some (.inl (v4l1 + 1)))) else some (.inr 0)
def f_validate_Kind (v0name : List UInt8) : Option Int :=
  loop (fun s => f_validate_Kind_l1 v0name s) 0
def f_billinglaw13_awake : Option Bool :=
  (f_validate_All ([(⟨1, 1, 1, ([49] : List UInt8), ([50] : List UInt8), 0, 604800, 0, 0, false, 0, false⟩ : Record)]) (⟨10, 20⟩ : Window)).bind fun y1 => ck ((!((y1.2.length : Int) != 1)) = true → ((0 : Int) ≤ 0 ∧ 0 < (y1.2.length : Int))) (if (((y1.2.length : Int) != 1) || (!(eqVs (Reject.vals (nth y1.2 (Int.toNat (0)))) (Reject.vals (⟨1, 1, 0, 15⟩ : Reject))))) = true then some false else (f_validate_Check (⟨1, 1, 1, ([49] : List UInt8), ([50] : List UInt8), 0, 604800, 0, 0, false, 0, false⟩ : Record)).bind fun y2 => (gcall (y2 == 0) (f_validate_Check (⟨1, 1, 1, ([49] : List UInt8), ([50] : List UInt8), 0, 604801, 0, 0, false, 0, false⟩ : Record))).bind fun y3 => (gcall ((y2 == 0) && (y3 == 6)) (f_validate_Check (⟨1, 1, 1, ([49] : List UInt8), ([50] : List UInt8), 12622780790, 11, 0, 0, false, 0, false⟩ : Record))).bind fun y4 => (gcall (((y2 == 0) && (y3 == 6)) && (y4 == 15)) (f_validate_Check (⟨1, 1, 1, ([49] : List UInt8), ([50] : List UInt8), 0, 604800, 5, 0, false, 0, false⟩ : Record))).bind fun y5 => (gcall ((((y2 == 0) && (y3 == 6)) && (y4 == 15)) && (y5 == 8)) (f_validate_Name 3)).bind fun y6 => (gcall (((((y2 == 0) && (y3 == 6)) && (y4 == 15)) && (y5 == 8)) && (y6 == ([100, 97, 116, 97] : List UInt8))) (f_validate_Kind ([116, 101, 120, 116] : List UInt8))).bind fun y7 => (gcall ((((((y2 == 0) && (y3 == 6)) && (y4 == 15)) && (y5 == 8)) && (y6 == ([100, 97, 116, 97] : List UInt8))) && (y7 == 2)) (f_validate_Kind ([84, 101, 120, 116] : List UInt8))).bind fun y8 => some (((((((y2 == 0) && (y3 == 6)) && (y4 == 15)) && (y5 == 8)) && (y6 == ([100, 97, 116, 97] : List UInt8))) && (y7 == 2)) && (y8 == 0)))
def f_billingref09_in (v0n : Int) (v1low : Int) (v2high : Int) : Option Bool :=
  some ((decide (v0n ≥ v1low)) && (decide (v0n ≤ v2high)))
def f_billingref02_Valid_j1 (v0s : List UInt8) : Option Bool :=
  some ((decide ((v0s.length : Int) ≥ 1)) && (decide ((v0s.length : Int) ≤ 15)))
def f_billingref02_Valid_l1 (v0s : List UInt8) (v3il1 : Int) : Option ((Int) ⊕ Bool) :=
  if (decide (v3il1 < (v0s.length : Int))) = true then (ck ((0 : Int) ≤ v3il1 ∧ v3il1 < (v0s.length : Int)) (ck ((!(decide ((nth v0s (Int.toNat (v3il1))) < 48))) = true → ((0 : Int) ≤ v3il1 ∧ v3il1 < (v0s.length : Int))) (if ((decide ((nth v0s (Int.toNat (v3il1))) < 48)) || (decide ((nth v0s (Int.toNat (v3il1))) > 57))) = true then some (.inr false) else ck ((-9223372036854775808 : Int) ≤ v3il1 + 1 ∧ v3il1 + 1 ≤ 9223372036854775807) (some (.inl (v3il1 + 1)))))) else (f_billingref02_Valid_j1 v0s).map (fun z => .inr z)
def f_billingref02_Valid (v0s : List UInt8) : Option Bool :=
  loop (fun s => f_billingref02_Valid_l1 v0s s) 0
def f_billingref09_Error (v0 : Record) : Option Int :=
  (f_billingref09_in v0.source 1 99).bind fun y1 => (gcall (!(!y1)) (f_billingref09_in v0.serial 1 999999999)).bind fun y2 => if ((!y1) || (!y2)) = true then some 6 else (f_billingref09_in v0.kind 1 4).bind fun y3 => if (!y3) = true then some 7 else (f_billingref02_Valid v0.a).bind fun y4 => if (!y4) = true then some 12 else (f_billingref02_Valid v0.b).bind fun y5 => if ((!y5) && ((v0.b != ([] : List UInt8)) || ((v0.kind != 3) && (v0.kind != 4)))) = true then some 12 else (f_billingref09_in v0.start 0 12622780799).bind fun y6 => if (!y6) = true then some 15 else (f_billingref09_in v0.units 0 1099511627776).bind fun y7 => if ((!y7) || ((v0.kind == 1) && (decide (v0.units > 604800)))) = true then some 6 else ck ((v0.kind == 1) = true → ((-9223372036854775808 : Int) ≤ v0.start + v0.units ∧ v0.start + v0.units ≤ 9223372036854775807)) (if ((v0.kind == 1) && (decide ((v0.start + v0.units) > 12622780800))) = true then some 15 else (f_billingref09_in v0.call 0 999999999).bind fun y8 => (gcall (!(!y8)) (f_billingref09_in v0.part 0 99)).bind fun y9 => if ((!y8) || (!y9)) = true then some 6 else if (((v0.part == 0) != (v0.call == 0)) || (v0.last && (v0.part == 0))) = true then some 8 else (f_billingref09_in v0.trunk 0 999).bind fun y10 => if (!y10) = true then some 6 else if (v0.inbound && (v0.trunk == 0)) = true then some 8 else some 0)
def f_billingref13_Check (v0r : Record) : Option Int :=
  (f_billingref09_Error v0r).bind fun y1 => some y1
def f_billingref13_Window (v0r : Record) (v1w : Window) : Option Int :=
  if ((decide (v0r.start < v1w.earliest)) || (decide (v0r.start > v1w.latest))) = true then some 15 else some 0
def f_billinglaw13_ValidateChecks (v0r : Record) (v1w : Window) : Option Bool :=
  (f_billinglaw13_short v0r).bind fun y1 => if (!y1) = true then ((f_billinglaw13_awake).bind fun y2 => some y2) else (f_validate_Check v0r).bind fun y3 => (f_billingref13_Check v0r).bind fun y4 => (gcall (y3 == y4) (f_validate_Window v0r v1w)).bind fun y5 => (gcall (y3 == y4) (f_billingref13_Window v0r v1w)).bind fun y6 => (gcall ((y3 == y4) && (y5 == y6)) (f_billinglaw13_awake)).bind fun y7 => some (((y3 == y4) && (y5 == y6)) && y7)
def f_billinglaw13_few_j1 (v0l : List Record) : Option Bool :=
  some (decide ((v0l.length : Int) ≤ 60))
def f_billinglaw13_few_l1 (v0l : List Record) (v3il1 : Int) : Option ((Int) ⊕ Bool) :=
  if ((decide (v3il1 < (v0l.length : Int))) && (decide (v3il1 < 61))) = true then (ck ((0 : Int) ≤ v3il1 ∧ v3il1 < (v0l.length : Int)) ((f_billinglaw13_short (nth v0l (Int.toNat (v3il1)))).bind fun y1 => if (!y1) = true then some (.inr false) else ck ((-9223372036854775808 : Int) ≤ v3il1 + 1 ∧ v3il1 + 1 ≤ 9223372036854775807) (some (.inl (v3il1 + 1))))) else (f_billinglaw13_few_j1 v0l).map (fun z => .inr z)
def f_billinglaw13_few (v0l : List Record) : Option Bool :=
  loop (fun s => f_billinglaw13_few_l1 v0l s) 0
def f_billingref13_All_j1 (v0records : List Record) (v6outl1 : List Record) (v7nol1 : List Reject) (v8il1 : Int) (v10ej1 : Int) : Option ((List Record × List Reject × Int) ⊕ ((List Record) × (List Reject))) :=
  if (v10ej1 == 0) = true then (ck (v6outl1.length + ([nth v0records (Int.toNat (v8il1))]).length ≤ 1000000000) (ck ((-9223372036854775808 : Int) ≤ v8il1 + 1 ∧ v8il1 + 1 ≤ 9223372036854775807) (some (.inl (v6outl1 ++ ([nth v0records (Int.toNat (v8il1))]), v7nol1, v8il1 + 1))))) else ck (v7nol1.length + ([(⟨(nth v0records (Int.toNat (v8il1))).source, (nth v0records (Int.toNat (v8il1))).serial, v8il1, v10ej1⟩ : Reject)]).length ≤ 1000000000) (ck ((-9223372036854775808 : Int) ≤ v8il1 + 1 ∧ v8il1 + 1 ≤ 9223372036854775807) (some (.inl (v6outl1, v7nol1 ++ ([(⟨(nth v0records (Int.toNat (v8il1))).source, (nth v0records (Int.toNat (v8il1))).serial, v8il1, v10ej1⟩ : Reject)]), v8il1 + 1))))
def f_billingref13_All_l1 (v0records : List Record) (v1w : Window) (v6outl1 : List Record) (v7nol1 : List Reject) (v8il1 : Int) : Option ((List Record × List Reject × Int) ⊕ ((List Record) × (List Reject))) :=
  if (decide (v8il1 < (v0records.length : Int))) = true then (ck ((0 : Int) ≤ v8il1 ∧ v8il1 < (v0records.length : Int)) ((f_billingref13_Check (nth v0records (Int.toNat (v8il1)))).bind fun y1 => if (y1 == 0) = true then ((f_billingref13_Window (nth v0records (Int.toNat (v8il1))) v1w).bind fun y2 => f_billingref13_All_j1 v0records v6outl1 v7nol1 v8il1 y2) else f_billingref13_All_j1 v0records v6outl1 v7nol1 v8il1 y1)) else some (.inr (v6outl1, v7nol1))
def f_billingref13_All (v0records : List Record) (v1w : Window) : Option ((List Record) × (List Reject)) :=
  loop (fun s => f_billingref13_All_l1 v0records v1w s.1 s.2.1 s.2.2) (([] : List Record), ([] : List Reject), 0)
def f_billingref09_Same_l1 (v0a : List Record) (v1b : List Record) (v5il1 : Int) : Option ((Int) ⊕ Bool) :=
  if (decide (v5il1 < (v0a.length : Int))) = true then (ck ((0 : Int) ≤ v5il1 ∧ v5il1 < (v0a.length : Int)) (ck ((0 : Int) ≤ v5il1 ∧ v5il1 < (v1b.length : Int)) (if (!(eqVs (Record.vals (nth v0a (Int.toNat (v5il1)))) (Record.vals (nth v1b (Int.toNat (v5il1)))))) = true then some (.inr false) else ck ((-9223372036854775808 : Int) ≤ v5il1 + 1 ∧ v5il1 + 1 ≤ 9223372036854775807) (some (.inl (v5il1 + 1)))))) else some (.inr true)
def f_billingref09_Same (v0a : List Record) (v1b : List Record) : Option Bool :=
  if ((v0a.length : Int) != (v1b.length : Int)) = true then some false else loop (fun s => f_billingref09_Same_l1 v0a v1b s) 0
def f_billingref13_Same (v0a : List Record) (v1b : List Record) : Option Bool :=
  (f_billingref09_Same v0a v1b).bind fun y1 => some y1
def f_billingref09_SameRejects_l1 (v0a : List Reject) (v1b : List Reject) (v5il1 : Int) : Option ((Int) ⊕ Bool) :=
  if (decide (v5il1 < (v0a.length : Int))) = true then (ck ((0 : Int) ≤ v5il1 ∧ v5il1 < (v0a.length : Int)) (ck ((0 : Int) ≤ v5il1 ∧ v5il1 < (v1b.length : Int)) (if (!(eqVs (Reject.vals (nth v0a (Int.toNat (v5il1)))) (Reject.vals (nth v1b (Int.toNat (v5il1)))))) = true then some (.inr false) else ck ((-9223372036854775808 : Int) ≤ v5il1 + 1 ∧ v5il1 + 1 ≤ 9223372036854775807) (some (.inl (v5il1 + 1)))))) else some (.inr true)
def f_billingref09_SameRejects (v0a : List Reject) (v1b : List Reject) : Option Bool :=
  if ((v0a.length : Int) != (v1b.length : Int)) = true then some false else loop (fun s => f_billingref09_SameRejects_l1 v0a v1b s) 0
def f_billingref13_SameRejects (v0a : List Reject) (v1b : List Reject) : Option Bool :=
  (f_billingref09_SameRejects v0a v1b).bind fun y1 => some y1
def f_billinglaw13_ValidateAll (v0l : List Record) (v1w : Window) : Option Bool :=
  (f_billinglaw13_few v0l).bind fun y1 => if (!y1) = true then ((f_billinglaw13_awake).bind fun y2 => some y2) else (f_validate_All v0l v1w).bind fun y3 => (f_billingref13_All v0l v1w).bind fun y4 => (f_billingref13_Same y3.1 y4.1).bind fun y5 => (gcall y5 (f_billingref13_SameRejects y3.2 y4.2)).bind fun y6 => (gcall (y5 && y6) (f_billinglaw13_awake)).bind fun y7 => some ((y5 && y6) && y7)
def f_billingref13_Name (v0kind : Int) : Option (List UInt8) :=
  if (v0kind == 1) = true then some ([118, 111, 105, 99, 101] : List UInt8) else if (v0kind == 2) = true then some ([116, 101, 120, 116] : List UInt8) else if (v0kind == 3) = true then some ([100, 97, 116, 97] : List UInt8) else if (v0kind == 4) = true then some ([99, 111, 110, 116, 101, 110, 116] : List UInt8) else some ([] : List UInt8)
def f_billingref13_Kind_l1 (v0name : List UInt8) (v3kl1 : Int) : Option ((Int) ⊕ Int) :=
  if (decide (v3kl1 < 5)) = true then ((f_billingref13_Name v3kl1).bind fun y1 => if (y1 == v0name) = true then some (.inr v3kl1) else ck ((-9223372036854775808 : Int) ≤ v3kl1 + 1 ∧ v3kl1 + 1 ≤ 9223372036854775807) (some (.inl (v3kl1 + 1)))) else some (.inr 0)
def f_billingref13_Kind (v0name : List UInt8) : Option Int :=
  loop (fun s => f_billingref13_Kind_l1 v0name s) 1
def f_billinglaw13_ValidateNames (v0kind : Int) (v1name : List UInt8) : Option Bool :=
  (f_validate_Name v0kind).bind fun y1 => (f_billingref13_Name v0kind).bind fun y2 => (gcall (!(y1 != y2)) (f_validate_Kind v1name)).bind fun y3 => (gcall (!(y1 != y2)) (f_billingref13_Kind v1name)).bind fun y4 => if ((y1 != y2) || (y3 != y4)) = true then some false else (gcall (!(y1 == ([] : List UInt8))) (f_validate_Kind y1)).bind fun y5 => (gcall ((y1 == ([] : List UInt8)) || (y5 == v0kind)) (f_validate_Kind v1name)).bind fun y6 => (gcall (((y1 == ([] : List UInt8)) || (y5 == v0kind)) && (!(y6 == 0))) (f_validate_Kind v1name)).bind fun y7 => (gcall (((y1 == ([] : List UInt8)) || (y5 == v0kind)) && (!(y6 == 0))) (f_validate_Name y7)).bind fun y8 => (gcall (((y1 == ([] : List UInt8)) || (y5 == v0kind)) && ((y6 == 0) || (y8 == v1name))) (f_billinglaw13_awake)).bind fun y9 => some ((((y1 == ([] : List UInt8)) || (y5 == v0kind)) && ((y6 == 0) || (y8 == v1name))) && y9)
def f_billinglaw13_ValidatePlaces_j1 (y3 : (List Record) × (List Reject)) (v9j1 : Int) : Option Bool :=
  (gcall (v9j1 == (y3.2.length : Int)) (f_billinglaw13_awake)).bind fun y6 => some ((v9j1 == (y3.2.length : Int)) && y6)
def f_billinglaw13_ValidatePlaces_j2 (v0 : List Record) (y3 : (List Record) × (List Reject)) (v9l1 : Int) (v10l1 : Int) (v11j2 : Int) : Option ((Int × Int) ⊕ Bool) :=
  if (v11j2 == 0) = true then (ck ((-9223372036854775808 : Int) ≤ v10l1 + 1 ∧ v10l1 + 1 ≤ 9223372036854775807) (some (.inl (v9l1, v10l1 + 1)))) else ck ((!(decide (v9l1 ≥ (y3.2.length : Int)))) = true → ((0 : Int) ≤ v9l1 ∧ v9l1 < (y3.2.length : Int))) (ck ((!(decide (v9l1 ≥ (y3.2.length : Int)))) = true → ((0 : Int) ≤ v10l1 ∧ v10l1 < (v0.length : Int))) (ck ((!(decide (v9l1 ≥ (y3.2.length : Int)))) = true → ((0 : Int) ≤ v10l1 ∧ v10l1 < (v0.length : Int))) (if ((decide (v9l1 ≥ (y3.2.length : Int))) || (!(eqVs (Reject.vals (nth y3.2 (Int.toNat (v9l1)))) (Reject.vals (⟨(nth v0 (Int.toNat (v10l1))).source, (nth v0 (Int.toNat (v10l1))).serial, v10l1, v11j2⟩ : Reject))))) = true then some (.inr false) else ck ((-9223372036854775808 : Int) ≤ v9l1 + 1 ∧ v9l1 + 1 ≤ 9223372036854775807) (ck ((-9223372036854775808 : Int) ≤ v10l1 + 1 ∧ v10l1 + 1 ≤ 9223372036854775807) (some (.inl (v9l1 + 1, v10l1 + 1)))))))
def f_billinglaw13_ValidatePlaces_l1 (v0 : List Record) (v1 : Window) (y3 : (List Record) × (List Reject)) (v9l1 : Int) (v10l1 : Int) : Option ((Int × Int) ⊕ Bool) :=
  if (decide (v10l1 < (v0.length : Int))) = true then (ck ((0 : Int) ≤ v10l1 ∧ v10l1 < (v0.length : Int)) ((f_validate_Check (nth v0 (Int.toNat (v10l1)))).bind fun y7 => if (y7 == 0) = true then (ck ((0 : Int) ≤ v10l1 ∧ v10l1 < (v0.length : Int)) ((f_validate_Window (nth v0 (Int.toNat (v10l1))) v1).bind fun y8 => f_billinglaw13_ValidatePlaces_j2 v0 y3 v9l1 v10l1 y8)) else f_billinglaw13_ValidatePlaces_j2 v0 y3 v9l1 v10l1 y7)) else (f_billinglaw13_ValidatePlaces_j1 y3 v9l1).map (fun z => .inr z)
def f_billinglaw13_ValidatePlaces (v0 : List Record) (v1 : Window) : Option Bool :=
  (f_billinglaw13_few v0).bind fun y1 => if (!y1) = true then ((f_billinglaw13_awake).bind fun y2 => some y2) else (f_validate_All v0 v1).bind fun y3 => (f_validate_All y3.1 v1).bind fun y4 => ck ((-9223372036854775808 : Int) ≤ (y3.1.length : Int) + (y3.2.length : Int) ∧ (y3.1.length : Int) + (y3.2.length : Int) ≤ 9223372036854775807) ((gcall (!((((y3.1.length : Int) + (y3.2.length : Int)) != (v0.length : Int)) || ((y4.2.length : Int) != 0))) (f_billingref13_Same y3.1 y4.1)).bind fun y5 => if (((((y3.1.length : Int) + (y3.2.length : Int)) != (v0.length : Int)) || ((y4.2.length : Int) != 0)) || (!y5)) = true then some false else loop (fun s => f_billinglaw13_ValidatePlaces_l1 v0 v1 y3 s.1 s.2) (0, 0))
def f_billinglaw13_ValidateFewer (v0r : Record) (v1units : Int) (v2serial : Int) : Option Bool :=
  (f_billinglaw13_short v0r).bind fun y1 => (gcall (!(!y1)) (f_validate_Check v0r)).bind fun y2 => if ((!y1) || (y2 != 0)) = true then ((f_billinglaw13_awake).bind fun y3 => some y3) else (gcall ((decide (v1units ≥ 0)) && (decide (v1units ≤ v0r.units))) (f_validate_Check (⟨v0r.source, v0r.serial, v0r.kind, v0r.a, v0r.b, v0r.start, v1units, v0r.call, v0r.part, v0r.last, v0r.trunk, v0r.inbound⟩ : Record))).bind fun y4 => if (((decide (v1units ≥ 0)) && (decide (v1units ≤ v0r.units))) && (y4 != 0)) = true then some false else (f_validate_Check (⟨v0r.source, v2serial, v0r.kind, v0r.a, v0r.b, v0r.start, v0r.units, v0r.call, v0r.part, v0r.last, v0r.trunk, v0r.inbound⟩ : Record)).bind fun y5 => (gcall ((((decide (v2serial < 1)) || (decide (v2serial > 999999999))) == (y5 == 6)) && (!((decide (v2serial < 1)) || (decide (v2serial > 999999999))))) (f_validate_Check (⟨v0r.source, v2serial, v0r.kind, v0r.a, v0r.b, v0r.start, v0r.units, v0r.call, v0r.part, v0r.last, v0r.trunk, v0r.inbound⟩ : Record))).bind fun y6 => (gcall ((((decide (v2serial < 1)) || (decide (v2serial > 999999999))) == (y5 == 6)) && (((decide (v2serial < 1)) || (decide (v2serial > 999999999))) || (y6 == 0))) (f_billinglaw13_awake)).bind fun y7 => some (((((decide (v2serial < 1)) || (decide (v2serial > 999999999))) == (y5 == 6)) && (((decide (v2serial < 1)) || (decide (v2serial > 999999999))) || (y6 == 0))) && y7)
end Go.Proofs.YtalecnjpdjdlgaaDoor
