/- Our own texts LTys LF E1 Sh LX LW0 LW1 of this seat in one. -/
import Derived.Test.YtccmaffefdcikaaDoorZ1
import Derived.Test.YtccmaffefdcikaaDoorRows
import Derived.Lib.ItoaNum
import Derived.Lib.Join
import Derived.Sort.Grow
import Derived.Deep.Draws
import Derived.Shelf.Strings.Builder1
import Derived.Shelf.Strings.Builder2
import Derived.Shelf.Strings.OnBuilder
import Derived.Shelf.Strings.BuilderF
import Derived.Shelf.Strings.BuilderK
import Derived.Shelf.Strings.Builder2Cap
import Derived.Shelf.Strconv.Itoa0
import Derived.Shelf.Strconv.Itoa1
import Derived.Shelf.LaysM
import Derived.Shelf.Strconv.Itoa2
import Derived.Shelf.Strconv.Itoa3
import Derived.Test.YtccmaffefdcikaaDoorProg
set_option linter.unusedVariables false
namespace Go.Proofs.YtccmaffefdcikaaDoor
open Go.RowKit Go.Abs
theorem hMix : Tryd.prog.follows .mixedOrders = true := by kernel_rfl
theorem inf_3 : (Tryd.prog.info? 3).map (fun i => (i.zero, i.size, i.bytes)) = some (some (.int .i64 0), 1, 8) := by kernel_rfl
theorem sz_3 : (Tryd.prog.info? 3).map (·.size) = some 1 := by kernel_rfl
theorem in_3 : ∃ i, Tryd.prog.info? 3 = some i ∧ i.zero = some (.int .i64 0) ∧ i.size = 1 ∧ i.bytes = 8 := info_parts inf_3
theorem inf_5 : (Tryd.prog.info? 5).map (fun i => (i.zero, i.size, i.bytes)) = some (some (.int .u8 0), 1, 1) := by kernel_rfl
theorem sz_5 : (Tryd.prog.info? 5).map (·.size) = some 1 := by kernel_rfl
theorem in_5 : ∃ i, Tryd.prog.info? 5 = some i ∧ i.zero = some (.int .u8 0) ∧ i.size = 1 ∧ i.bytes = 1 := info_parts inf_5
theorem inf_9 : (Tryd.prog.info? 9).map (fun i => (i.zero, i.size, i.bytes)) = some (some (.string ⟨#[]⟩), 1, 16) := by kernel_rfl
theorem in_9 : ∃ i, Tryd.prog.info? 9 = some i ∧ i.zero = some (.string ⟨#[]⟩) ∧ i.size = 1 ∧ i.bytes = 16 := info_parts inf_9
theorem inf_27 : (Tryd.prog.info? 27).map (fun i => (i.zero, i.size, i.bytes)) = some (some (.agg #[.int .i64 0, .int .i64 0, .int .i64 0, .int .i64 0, .int .i64 0, .int .i64 0]), 6, 48) := by kernel_rfl
theorem sz_27 : (Tryd.prog.info? 27).map (·.size) = some 6 := by kernel_rfl
theorem in_27 : ∃ i, Tryd.prog.info? 27 = some i ∧ i.zero = some (.agg #[.int .i64 0, .int .i64 0, .int .i64 0, .int .i64 0, .int .i64 0, .int .i64 0]) ∧ i.size = 6 ∧ i.bytes = 48 := info_parts inf_27
theorem inf_31 : (Tryd.prog.info? 31).map (fun i => (i.zero, i.size, i.bytes)) = some (some (.agg #[.int .i64 0, .int .i64 0, .int .i64 0, .slice none 0 0]), 4, 48) := by kernel_rfl
theorem sz_31 : (Tryd.prog.info? 31).map (·.size) = some 4 := by kernel_rfl
theorem in_31 : ∃ i, Tryd.prog.info? 31 = some i ∧ i.zero = some (.agg #[.int .i64 0, .int .i64 0, .int .i64 0, .slice none 0 0]) ∧ i.size = 4 ∧ i.bytes = 48 := info_parts inf_31
theorem inf_32 : (Tryd.prog.info? 32).map (fun i => (i.zero, i.size, i.bytes)) = some (some (.slice none 0 0), 1, 24) := by kernel_rfl
theorem sz_32 : (Tryd.prog.info? 32).map (·.size) = some 1 := by kernel_rfl
theorem in_32 : ∃ i, Tryd.prog.info? 32 = some i ∧ i.zero = some (.slice none 0 0) ∧ i.size = 1 ∧ i.bytes = 24 := info_parts inf_32
theorem inf_39 : (Tryd.prog.info? 39).map (fun i => (i.zero, i.size, i.bytes)) = some (some (.agg #[.int .i64 0, .int .i64 0, .int .i64 0, .string ⟨#[]⟩, .string ⟨#[]⟩, .int .i64 0, .int .i64 0, .int .i64 0, .int .i64 0, .bool false, .int .i64 0, .bool false]), 12, 112) := by kernel_rfl
theorem sz_39 : (Tryd.prog.info? 39).map (·.size) = some 12 := by kernel_rfl
theorem in_39 : ∃ i, Tryd.prog.info? 39 = some i ∧ i.zero = some (.agg #[.int .i64 0, .int .i64 0, .int .i64 0, .string ⟨#[]⟩, .string ⟨#[]⟩, .int .i64 0, .int .i64 0, .int .i64 0, .int .i64 0, .bool false, .int .i64 0, .bool false]) ∧ i.size = 12 ∧ i.bytes = 112 := info_parts inf_39
theorem inf_42 : (Tryd.prog.info? 42).map (fun i => (i.zero, i.size, i.bytes)) = some (some (.agg #[.int .i64 0, .int .i64 0, .int .i64 0, .int .i64 0]), 4, 32) := by kernel_rfl
theorem sz_42 : (Tryd.prog.info? 42).map (·.size) = some 4 := by kernel_rfl
theorem in_42 : ∃ i, Tryd.prog.info? 42 = some i ∧ i.zero = some (.agg #[.int .i64 0, .int .i64 0, .int .i64 0, .int .i64 0]) ∧ i.size = 4 ∧ i.bytes = 32 := info_parts inf_42
theorem inf_75 : (Tryd.prog.info? 75).map (fun i => (i.zero, i.size, i.bytes)) = some (some (.pointer none), 1, 8) := by kernel_rfl
theorem in_75 : ∃ i, Tryd.prog.info? 75 = some i ∧ i.zero = some (.pointer none) ∧ i.size = 1 ∧ i.bytes = 8 := info_parts inf_75
theorem inf_92 : (Tryd.prog.info? 92).map (fun i => (i.zero, i.size, i.bytes)) = some (some (.agg #[.int .i64 0, .slice none 0 0]), 2, 32) := by kernel_rfl
theorem sz_92 : (Tryd.prog.info? 92).map (·.size) = some 2 := by kernel_rfl
theorem in_92 : ∃ i, Tryd.prog.info? 92 = some i ∧ i.zero = some (.agg #[.int .i64 0, .slice none 0 0]) ∧ i.size = 2 ∧ i.bytes = 32 := info_parts inf_92
theorem fo_27_0 : fieldOff Tryd.prog 27 0 = some 0 := by kernel_rfl
theorem fo_27_1 : fieldOff Tryd.prog 27 1 = some 1 := by kernel_rfl
theorem fo_31_0 : fieldOff Tryd.prog 31 0 = some 0 := by kernel_rfl
theorem fo_31_1 : fieldOff Tryd.prog 31 1 = some 1 := by kernel_rfl
theorem fo_31_2 : fieldOff Tryd.prog 31 2 = some 2 := by kernel_rfl
theorem fo_31_3 : fieldOff Tryd.prog 31 3 = some 3 := by kernel_rfl
theorem fo_39_0 : fieldOff Tryd.prog 39 0 = some 0 := by kernel_rfl
theorem fo_39_1 : fieldOff Tryd.prog 39 1 = some 1 := by kernel_rfl
theorem fo_39_2 : fieldOff Tryd.prog 39 2 = some 2 := by kernel_rfl
theorem fo_39_3 : fieldOff Tryd.prog 39 3 = some 3 := by kernel_rfl
theorem fo_39_4 : fieldOff Tryd.prog 39 4 = some 4 := by kernel_rfl
theorem fo_39_5 : fieldOff Tryd.prog 39 5 = some 5 := by kernel_rfl
theorem fo_39_6 : fieldOff Tryd.prog 39 6 = some 6 := by kernel_rfl
theorem fo_39_7 : fieldOff Tryd.prog 39 7 = some 7 := by kernel_rfl
theorem fo_39_8 : fieldOff Tryd.prog 39 8 = some 8 := by kernel_rfl
theorem fo_39_9 : fieldOff Tryd.prog 39 9 = some 9 := by kernel_rfl
theorem fo_39_10 : fieldOff Tryd.prog 39 10 = some 10 := by kernel_rfl
theorem fo_39_11 : fieldOff Tryd.prog 39 11 = some 11 := by kernel_rfl
theorem fo_42_0 : fieldOff Tryd.prog 42 0 = some 0 := by kernel_rfl
theorem fo_42_1 : fieldOff Tryd.prog 42 1 = some 1 := by kernel_rfl
theorem fo_42_2 : fieldOff Tryd.prog 42 2 = some 2 := by kernel_rfl
theorem fo_42_3 : fieldOff Tryd.prog 42 3 = some 3 := by kernel_rfl
theorem fo_92_0 : fieldOff Tryd.prog 92 0 = some 0 := by kernel_rfl
theorem fo_92_1 : fieldOff Tryd.prog 92 1 = some 1 := by kernel_rfl
theorem one_3 : (Tryd.prog.underlying 3).map oneB = some true := by kernel_rfl
theorem one_4 : (Tryd.prog.underlying 4).map oneB = some true := by kernel_rfl
theorem one_5 : (Tryd.prog.underlying 5).map oneB = some true := by kernel_rfl
theorem one_9 : (Tryd.prog.underlying 9).map oneB = some true := by kernel_rfl
theorem one_22 : (Tryd.prog.underlying 22).map oneB = some true := by kernel_rfl
theorem one_27 : (Tryd.prog.underlying 27).map oneB = some false := by kernel_rfl
theorem one_31 : (Tryd.prog.underlying 31).map oneB = some false := by kernel_rfl
theorem one_32 : (Tryd.prog.underlying 32).map oneB = some true := by kernel_rfl
theorem one_39 : (Tryd.prog.underlying 39).map oneB = some false := by kernel_rfl
theorem one_42 : (Tryd.prog.underlying 42).map oneB = some false := by kernel_rfl
theorem one_75 : (Tryd.prog.underlying 75).map oneB = some true := by kernel_rfl
theorem one_92 : (Tryd.prog.underlying 92).map oneB = some false := by kernel_rfl
theorem pl_27 : placesOf Tryd.prog 27 = some [(0, 1), (1, 5)] := by kernel_rfl
theorem pl_31 : placesOf Tryd.prog 31 = some [(0, 1), (1, 1), (2, 1), (3, 1)] := by kernel_rfl
theorem pl_39 : placesOf Tryd.prog 39 = some [(0, 1), (1, 1), (2, 1), (3, 1), (4, 1), (5, 1), (6, 1), (7, 1), (8, 1), (9, 1), (10, 1), (11, 1)] := by kernel_rfl
theorem pl_42 : placesOf Tryd.prog 42 = some [(0, 1), (1, 1), (2, 1), (3, 1)] := by kernel_rfl
theorem pl_92 : placesOf Tryd.prog 92 = some [(0, 1), (1, 1)] := by kernel_rfl
theorem zr_27 : (Tryd.prog.info? 27).bind (·.zero) = some (.agg #[.int .i64 0, .int .i64 0, .int .i64 0, .int .i64 0, .int .i64 0, .int .i64 0]) := by kernel_rfl
theorem zr_32 : (Tryd.prog.info? 32).bind (·.zero) = some (.slice none 0 0) := by kernel_rfl
theorem zr_39 : (Tryd.prog.info? 39).bind (·.zero) = some (.agg #[.int .i64 0, .int .i64 0, .int .i64 0, .string ⟨#[]⟩, .string ⟨#[]⟩, .int .i64 0, .int .i64 0, .int .i64 0, .int .i64 0, .bool false, .int .i64 0, .bool false]) := by kernel_rfl
theorem zr_42 : (Tryd.prog.info? 42).bind (·.zero) = some (.agg #[.int .i64 0, .int .i64 0, .int .i64 0, .int .i64 0]) := by kernel_rfl
theorem zr_92 : (Tryd.prog.info? 92).bind (·.zero) = some (.agg #[.int .i64 0, .slice none 0 0]) := by kernel_rfl
theorem zr_112 : (Tryd.prog.info? 112).bind (·.zero) = some (.agg #[.int .u8 0, .int .u8 0, .int .u8 0, .int .u8 0, .int .u8 0, .int .u8 0, .int .u8 0, .int .u8 0]) := by kernel_rfl
theorem fk_42 : flatKinds Tryd.prog 42 = some [.i .i64, .i .i64, .i .i64, .i .i64] := by kernel_rfl
theorem en_6 : Go.Abs.Enters Tryd.prog 6 := ⟨_, Tryd.func6, by kernel_rfl, rfl⟩
theorem en_7 : Go.Abs.Enters Tryd.prog 7 := ⟨_, Tryd.func7, by kernel_rfl, rfl⟩
theorem en_8 : Go.Abs.Enters Tryd.prog 8 := ⟨_, Tryd.func8, by kernel_rfl, rfl⟩
theorem en_9 : Go.Abs.Enters Tryd.prog 9 := ⟨_, Tryd.func9, by kernel_rfl, rfl⟩
theorem en_10 : Go.Abs.Enters Tryd.prog 10 := ⟨_, Tryd.func10, by kernel_rfl, rfl⟩
theorem en_11 : Go.Abs.Enters Tryd.prog 11 := ⟨_, Tryd.func11, by kernel_rfl, rfl⟩
theorem en_12 : Go.Abs.Enters Tryd.prog 12 := ⟨_, Tryd.func12, by kernel_rfl, rfl⟩
theorem en_13 : Go.Abs.Enters Tryd.prog 13 := ⟨_, Tryd.func13, by kernel_rfl, rfl⟩
theorem en_14 : Go.Abs.Enters Tryd.prog 14 := ⟨_, Tryd.func14, by kernel_rfl, rfl⟩
theorem en_15 : Go.Abs.Enters Tryd.prog 15 := ⟨_, Tryd.func15, by kernel_rfl, rfl⟩
theorem en_16 : Go.Abs.Enters Tryd.prog 16 := ⟨_, Tryd.func16, by kernel_rfl, rfl⟩
theorem en_17 : Go.Abs.Enters Tryd.prog 17 := ⟨_, Tryd.func17, by kernel_rfl, rfl⟩
theorem en_18 : Go.Abs.Enters Tryd.prog 18 := ⟨_, Tryd.func18, by kernel_rfl, rfl⟩
theorem en_19 : Go.Abs.Enters Tryd.prog 19 := ⟨_, Tryd.func19, by kernel_rfl, rfl⟩
theorem en_20 : Go.Abs.Enters Tryd.prog 20 := ⟨_, Tryd.func20, by kernel_rfl, rfl⟩
theorem en_21 : Go.Abs.Enters Tryd.prog 21 := ⟨_, Tryd.func21, by kernel_rfl, rfl⟩
theorem en_22 : Go.Abs.Enters Tryd.prog 22 := ⟨_, Tryd.func22, by kernel_rfl, rfl⟩
theorem en_23 : Go.Abs.Enters Tryd.prog 23 := ⟨_, Tryd.func23, by kernel_rfl, rfl⟩
theorem en_24 : Go.Abs.Enters Tryd.prog 24 := ⟨_, Tryd.func24, by kernel_rfl, rfl⟩
theorem en_25 : Go.Abs.Enters Tryd.prog 25 := ⟨_, Tryd.func25, by kernel_rfl, rfl⟩
theorem en_26 : Go.Abs.Enters Tryd.prog 26 := ⟨_, Tryd.func26, by kernel_rfl, rfl⟩
theorem en_27 : Go.Abs.Enters Tryd.prog 27 := ⟨_, Tryd.func27, by kernel_rfl, rfl⟩
theorem en_28 : Go.Abs.Enters Tryd.prog 28 := ⟨_, Tryd.func28, by kernel_rfl, rfl⟩
theorem en_29 : Go.Abs.Enters Tryd.prog 29 := ⟨_, Tryd.func29, by kernel_rfl, rfl⟩
theorem en_30 : Go.Abs.Enters Tryd.prog 30 := ⟨_, Tryd.func30, by kernel_rfl, rfl⟩
theorem en_31 : Go.Abs.Enters Tryd.prog 31 := ⟨_, Tryd.func31, by kernel_rfl, rfl⟩
theorem en_32 : Go.Abs.Enters Tryd.prog 32 := ⟨_, Tryd.func32, by kernel_rfl, rfl⟩
theorem en_33 : Go.Abs.Enters Tryd.prog 33 := ⟨_, Tryd.func33, by kernel_rfl, rfl⟩
theorem en_34 : Go.Abs.Enters Tryd.prog 34 := ⟨_, Tryd.func34, by kernel_rfl, rfl⟩
theorem en_35 : Go.Abs.Enters Tryd.prog 35 := ⟨_, Tryd.func35, by kernel_rfl, rfl⟩
theorem en_36 : Go.Abs.Enters Tryd.prog 36 := ⟨_, Tryd.func36, by kernel_rfl, rfl⟩
theorem en_37 : Go.Abs.Enters Tryd.prog 37 := ⟨_, Tryd.func37, by kernel_rfl, rfl⟩
theorem en_38 : Go.Abs.Enters Tryd.prog 38 := ⟨_, Tryd.func38, by kernel_rfl, rfl⟩
theorem en_39 : Go.Abs.Enters Tryd.prog 39 := ⟨_, Tryd.func39, by kernel_rfl, rfl⟩
theorem en_40 : Go.Abs.Enters Tryd.prog 40 := ⟨_, Tryd.func40, by kernel_rfl, rfl⟩
theorem en_41 : Go.Abs.Enters Tryd.prog 41 := ⟨_, Tryd.func41, by kernel_rfl, rfl⟩
theorem en_42 : Go.Abs.Enters Tryd.prog 42 := ⟨_, Tryd.func42, by kernel_rfl, rfl⟩
theorem en_43 : Go.Abs.Enters Tryd.prog 43 := ⟨_, Tryd.func43, by kernel_rfl, rfl⟩
theorem en_44 : Go.Abs.Enters Tryd.prog 44 := ⟨_, Tryd.func44, by kernel_rfl, rfl⟩
theorem en_45 : Go.Abs.Enters Tryd.prog 45 := ⟨_, Tryd.func45, by kernel_rfl, rfl⟩
theorem en_46 : Go.Abs.Enters Tryd.prog 46 := ⟨_, Tryd.func46, by kernel_rfl, rfl⟩
theorem en_47 : Go.Abs.Enters Tryd.prog 47 := ⟨_, Tryd.func47, by kernel_rfl, rfl⟩
theorem en_48 : Go.Abs.Enters Tryd.prog 48 := ⟨_, Tryd.func48, by kernel_rfl, rfl⟩
theorem en_49 : Go.Abs.Enters Tryd.prog 49 := ⟨_, Tryd.func49, by kernel_rfl, rfl⟩
theorem en_50 : Go.Abs.Enters Tryd.prog 50 := ⟨_, Tryd.func50, by kernel_rfl, rfl⟩
theorem en_51 : Go.Abs.Enters Tryd.prog 51 := ⟨_, Tryd.func51, by kernel_rfl, rfl⟩
theorem en_52 : Go.Abs.Enters Tryd.prog 52 := ⟨_, Tryd.func52, by kernel_rfl, rfl⟩
theorem en_53 : Go.Abs.Enters Tryd.prog 53 := ⟨_, Tryd.func53, by kernel_rfl, rfl⟩
theorem en_54 : Go.Abs.Enters Tryd.prog 54 := ⟨_, Tryd.func54, by kernel_rfl, rfl⟩
theorem en_55 : Go.Abs.Enters Tryd.prog 55 := ⟨_, Tryd.func55, by kernel_rfl, rfl⟩
theorem en_56 : Go.Abs.Enters Tryd.prog 56 := ⟨_, Tryd.func56, by kernel_rfl, rfl⟩
theorem en_57 : Go.Abs.Enters Tryd.prog 57 := ⟨_, Tryd.func57, by kernel_rfl, rfl⟩
theorem en_58 : Go.Abs.Enters Tryd.prog 58 := ⟨_, Tryd.func58, by kernel_rfl, rfl⟩
theorem en_59 : Go.Abs.Enters Tryd.prog 59 := ⟨_, Tryd.func59, by kernel_rfl, rfl⟩
theorem en_60 : Go.Abs.Enters Tryd.prog 60 := ⟨_, Tryd.func60, by kernel_rfl, rfl⟩
theorem en_61 : Go.Abs.Enters Tryd.prog 61 := ⟨_, Tryd.func61, by kernel_rfl, rfl⟩
theorem en_62 : Go.Abs.Enters Tryd.prog 62 := ⟨_, Tryd.func62, by kernel_rfl, rfl⟩
theorem en_63 : Go.Abs.Enters Tryd.prog 63 := ⟨_, Tryd.func63, by kernel_rfl, rfl⟩
theorem en_64 : Go.Abs.Enters Tryd.prog 64 := ⟨_, Tryd.func64, by kernel_rfl, rfl⟩
theorem en_65 : Go.Abs.Enters Tryd.prog 65 := ⟨_, Tryd.func65, by kernel_rfl, rfl⟩
theorem en_66 : Go.Abs.Enters Tryd.prog 66 := ⟨_, Tryd.func66, by kernel_rfl, rfl⟩
theorem en_67 : Go.Abs.Enters Tryd.prog 67 := ⟨_, Tryd.func67, by kernel_rfl, rfl⟩
theorem en_68 : Go.Abs.Enters Tryd.prog 68 := ⟨_, Tryd.func68, by kernel_rfl, rfl⟩
theorem en_69 : Go.Abs.Enters Tryd.prog 69 := ⟨_, Tryd.func69, by kernel_rfl, rfl⟩
theorem en_70 : Go.Abs.Enters Tryd.prog 70 := ⟨_, Tryd.func70, by kernel_rfl, rfl⟩
theorem en_71 : Go.Abs.Enters Tryd.prog 71 := ⟨_, Tryd.func71, by kernel_rfl, rfl⟩
theorem en_76 : Go.Abs.Enters Tryd.prog 76 := ⟨_, Tryd.func76, by kernel_rfl, rfl⟩
theorem en_77 : Go.Abs.Enters Tryd.prog 77 := ⟨_, Tryd.func77, by kernel_rfl, rfl⟩
theorem en_78 : Go.Abs.Enters Tryd.prog 78 := ⟨_, Tryd.func78, by kernel_rfl, rfl⟩
theorem en_79 : Go.Abs.Enters Tryd.prog 79 := ⟨_, Tryd.func79, by kernel_rfl, rfl⟩
theorem en_80 : Go.Abs.Enters Tryd.prog 80 := ⟨_, Tryd.func80, by kernel_rfl, rfl⟩
theorem en_81 : Go.Abs.Enters Tryd.prog 81 := ⟨_, Tryd.func81, by kernel_rfl, rfl⟩
theorem en_82 : Go.Abs.Enters Tryd.prog 82 := ⟨_, Tryd.func82, by kernel_rfl, rfl⟩
theorem en_86 : Go.Abs.Enters Tryd.prog 86 := ⟨_, Tryd.func86, by kernel_rfl, rfl⟩
theorem en_87 : Go.Abs.Enters Tryd.prog 87 := ⟨_, Tryd.func87, by kernel_rfl, rfl⟩
theorem en_94 : Go.Abs.Enters Tryd.prog 94 := ⟨_, Tryd.func94, by kernel_rfl, rfl⟩
end Go.Proofs.YtccmaffefdcikaaDoor

set_option linter.unusedSimpArgs false
set_option linter.unusedVariables false
namespace Go.Proofs.YtccmaffefdcikaaDoor
open Go.RowKit Go.Abs
structure Record where
  source : Int
  serial : Int
  kind : Int
  a : (List UInt8)
  b : (List UInt8)
  start : Int
  units : Int
  call : Int
  part : Int
  last : Bool
  trunk : Int
  inbound : Bool
instance : Inhabited Record := ⟨⟨default, default, default, default, default, default, default, default, default, default, default, default⟩⟩
def Record.row (x : Record) : List D := [cI x.source, cI x.serial, cI x.kind, cS x.a, cS x.b, cI x.start, cI x.units, cI x.call, cI x.part, cB x.last, cI x.trunk, cB x.inbound]
def Record.vals (x : Record) : List Value := [.int .i64 x.source, .int .i64 x.serial, .int .i64 x.kind, .string ⟨x.a.toArray⟩, .string ⟨x.b.toArray⟩, .int .i64 x.start, .int .i64 x.units, .int .i64 x.call, .int .i64 x.part, .bool x.last, .int .i64 x.trunk, .bool x.inbound]
structure Totals where
  count : Int
  units : (List Int)
instance : Inhabited Totals := ⟨⟨default, default⟩⟩
def Totals.row (x : Totals) : List D := [cI x.count, cI (nth x.units 0), cI (nth x.units 1), cI (nth x.units 2), cI (nth x.units 3), cI (nth x.units 4)]
def Totals.vals (x : Totals) : List Value := [.int .i64 x.count, .int .i64 (nth x.units 0), .int .i64 (nth x.units 1), .int .i64 (nth x.units 2), .int .i64 (nth x.units 3), .int .i64 (nth x.units 4)]
structure Head where
  source : Int
  number : Int
  format : Int
  count : Int
instance : Inhabited Head := ⟨⟨default, default, default, default⟩⟩
def Head.row (x : Head) : List D := [cI x.source, cI x.number, cI x.format, cI x.count]
def Head.vals (x : Head) : List Value := [.int .i64 x.source, .int .i64 x.number, .int .i64 x.format, .int .i64 x.count]
structure Batch where
  source : Int
  number : Int
  format : Int
  records : (List Record)
instance : Inhabited Batch := ⟨⟨default, default, default, default⟩⟩
def Batch.row (x : Batch) : List D := [cI x.source, cI x.number, cI x.format, slOf 12 Record.row x.records]
structure Element where
  tag : Int
  value : (List UInt8)
instance : Inhabited Element := ⟨⟨default, default⟩⟩
def Element.row (x : Element) : List D := [cI x.tag, slOf 1 rB8 x.value]
def x_Itoa (n : Int) : Option (List UInt8) := ck (-9223372036854775808 ≤ n ∧ n ≤ 9223372036854775807) (some (Go.Lib.itoa n))
def x_Join (xs : List (List UInt8)) (sep : List UInt8) : Option (List UInt8) := ck (xs.length ≤ 1000000000 ∧ (Go.Lib.join xs sep).length ≤ 1000000000) (some (Go.Lib.join xs sep))
def f_billinglaw12_few_j1 (v0l : List Record) : Option Bool :=
  some (decide ((v0l.length : Int) ≤ 40))
def f_billinglaw12_few_l1 (v0l : List Record) (v3il1 : Int) : Option ((Int) ⊕ Bool) :=
  if ((decide (v3il1 < (v0l.length : Int))) && (decide (v3il1 < 41))) = true then (ck ((0 : Int) ≤ v3il1 ∧ v3il1 < (v0l.length : Int)) (ck ((!(decide ((((nth v0l (Int.toNat (v3il1))).a).length : Int) > 200))) = true → ((0 : Int) ≤ v3il1 ∧ v3il1 < (v0l.length : Int))) (if ((decide ((((nth v0l (Int.toNat (v3il1))).a).length : Int) > 200)) || (decide ((((nth v0l (Int.toNat (v3il1))).b).length : Int) > 200))) = true then some (.inr false) else ck ((-9223372036854775808 : Int) ≤ v3il1 + 1 ∧ v3il1 + 1 ≤ (9223372036854775807 : Int)) (some (.inl (v3il1 + 1)))))) else (f_billinglaw12_few_j1 v0l).map (fun z => .inr z)
def f_billinglaw12_few (v0l : List Record) : Option Bool :=
  loop (fun s => f_billinglaw12_few_l1 v0l s) 0
def f_batch_within (v0n : Int) (v1lo : Int) (v2hi : Int) : Option Bool :=
  some ((decide (v0n ≥ v1lo)) && (decide (v0n ≤ v2hi)))
def f_batch_Totals_l1 (v0records : List Record) (v11l1 : Int) (o1c1l1 : Int) (o1c2l1 : Int) (o1c3l1 : Int) (o1c4l1 : Int) (o1c5l1 : Int) : Option ((Int × Int × Int × Int × Int × Int) ⊕ Totals) :=
  if (decide (v11l1 < (v0records.length : Int))) = true then (ck ((0 : Int) ≤ v11l1 ∧ v11l1 < (v0records.length : Int)) ((f_batch_within ((nth v0records (Int.toNat (v11l1))).kind) 1 4).bind fun y1 => (gcall y1 (f_batch_within ((nth v0records (Int.toNat (v11l1))).units) 0 1099511627776)).bind fun y2 => if (y1 && y2) = true then (ck ((0 : Int) ≤ ((nth v0records (Int.toNat (v11l1))).kind) ∧ ((nth v0records (Int.toNat (v11l1))).kind) < (5 : Int)) (ck (Int.toNat ((nth v0records (Int.toNat (v11l1))).kind) < 5) (ck ((-9223372036854775808 : Int) ≤ (nth ([o1c1l1, o1c2l1, o1c3l1, o1c4l1, o1c5l1] : List Int) (Int.toNat ((nth v0records (Int.toNat (v11l1))).kind))) + ((nth v0records (Int.toNat (v11l1))).units) ∧ (nth ([o1c1l1, o1c2l1, o1c3l1, o1c4l1, o1c5l1] : List Int) (Int.toNat ((nth v0records (Int.toNat (v11l1))).kind))) + ((nth v0records (Int.toNat (v11l1))).units) ≤ (9223372036854775807 : Int)) (ck ((0 : Int) ≤ ((nth v0records (Int.toNat (v11l1))).kind) ∧ ((nth v0records (Int.toNat (v11l1))).kind) < (5 : Int)) (ck (Int.toNat ((nth v0records (Int.toNat (v11l1))).kind) < 5) (ck ((-9223372036854775808 : Int) ≤ v11l1 + 1 ∧ v11l1 + 1 ≤ (9223372036854775807 : Int)) (some (.inl (v11l1 + 1, nth (setN ([o1c1l1, o1c2l1, o1c3l1, o1c4l1, o1c5l1] : List Int) 5 (Int.toNat ((nth v0records (Int.toNat (v11l1))).kind)) ((nth ([o1c1l1, o1c2l1, o1c3l1, o1c4l1, o1c5l1] : List Int) (Int.toNat ((nth v0records (Int.toNat (v11l1))).kind))) + ((nth v0records (Int.toNat (v11l1))).units))) 0, nth (setN ([o1c1l1, o1c2l1, o1c3l1, o1c4l1, o1c5l1] : List Int) 5 (Int.toNat ((nth v0records (Int.toNat (v11l1))).kind)) ((nth ([o1c1l1, o1c2l1, o1c3l1, o1c4l1, o1c5l1] : List Int) (Int.toNat ((nth v0records (Int.toNat (v11l1))).kind))) + ((nth v0records (Int.toNat (v11l1))).units))) 1, nth (setN ([o1c1l1, o1c2l1, o1c3l1, o1c4l1, o1c5l1] : List Int) 5 (Int.toNat ((nth v0records (Int.toNat (v11l1))).kind)) ((nth ([o1c1l1, o1c2l1, o1c3l1, o1c4l1, o1c5l1] : List Int) (Int.toNat ((nth v0records (Int.toNat (v11l1))).kind))) + ((nth v0records (Int.toNat (v11l1))).units))) 2, nth (setN ([o1c1l1, o1c2l1, o1c3l1, o1c4l1, o1c5l1] : List Int) 5 (Int.toNat ((nth v0records (Int.toNat (v11l1))).kind)) ((nth ([o1c1l1, o1c2l1, o1c3l1, o1c4l1, o1c5l1] : List Int) (Int.toNat ((nth v0records (Int.toNat (v11l1))).kind))) + ((nth v0records (Int.toNat (v11l1))).units))) 3, nth (setN ([o1c1l1, o1c2l1, o1c3l1, o1c4l1, o1c5l1] : List Int) 5 (Int.toNat ((nth v0records (Int.toNat (v11l1))).kind)) ((nth ([o1c1l1, o1c2l1, o1c3l1, o1c4l1, o1c5l1] : List Int) (Int.toNat ((nth v0records (Int.toNat (v11l1))).kind))) + ((nth v0records (Int.toNat (v11l1))).units))) 4))))))))) else ck ((-9223372036854775808 : Int) ≤ v11l1 + 1 ∧ v11l1 + 1 ≤ (9223372036854775807 : Int)) (some (.inl (v11l1 + 1, o1c1l1, o1c2l1, o1c3l1, o1c4l1, o1c5l1))))) else some (.inr (⟨(v0records.length : Int), ([o1c1l1, o1c2l1, o1c3l1, o1c4l1, o1c5l1] : List Int)⟩ : Totals))
def f_batch_Totals (v0records : List Record) : Option Totals :=
  loop (fun s => f_batch_Totals_l1 v0records s.1 s.2.1 s.2.2.1 s.2.2.2.1 s.2.2.2.2.1 s.2.2.2.2.2) (0, 0, 0, 0, 0, 0)
def f_batch_headOf (v0b : Batch) : Option Head :=
  some (⟨v0b.source, v0b.number, v0b.format, (v0b.records.length : Int)⟩ : Head)
def f_batch_checkHead (v0h : Head) : Option Int :=
  (f_batch_within v0h.source 1 99).bind fun y1 => (gcall (!(!y1)) (f_batch_within v0h.number 1 999999999)).bind fun y2 => if ((!y1) || (!y2)) = true then some 6 else (f_batch_within v0h.format 1 3).bind fun y3 => if (!y3) = true then some 7 else (f_batch_within v0h.count 0 4096).bind fun y4 => if (!y4) = true then some 5 else some 0
def f_textual_within (v0n : Int) (v1lo : Int) (v2hi : Int) : Option Bool :=
  some ((decide (v0n ≥ v1lo)) && (decide (v0n ≤ v2hi)))
def f_digits_digit (v0c : UInt8) : Option Bool :=
  some ((decide (v0c ≥ 48)) && (decide (v0c ≤ 57)))
def f_digits_Valid_j1 (v0s : List UInt8) : Option Bool :=
  some ((decide ((v0s.length : Int) ≥ 1)) && (decide ((v0s.length : Int) ≤ 15)))
def f_digits_Valid_l1 (v0s : List UInt8) (v6l1 : Int) : Option ((Int) ⊕ Bool) :=
  if (decide (v6l1 < (v0s.length : Int))) = true then (ck ((0 : Int) ≤ v6l1 ∧ v6l1 < (v0s.length : Int)) ((f_digits_digit (nth v0s (Int.toNat (v6l1)))).bind fun y1 => if (!y1) = true then some (.inr false) else ck ((-9223372036854775808 : Int) ≤ v6l1 + 1 ∧ v6l1 + 1 ≤ (9223372036854775807 : Int)) (some (.inl (v6l1 + 1))))) else (f_digits_Valid_j1 v0s).map (fun z => .inr z)
def f_digits_Valid (v0s : List UInt8) : Option Bool :=
  loop (fun s => f_digits_Valid_l1 v0s s) 0
def f_textual_check_j1 (v0 : Record) (v4j1 : Int) : Option Int :=
  (f_textual_within v0.source 1 99).bind fun y1 => (gcall (!(!y1)) (f_textual_within v0.serial 1 999999999)).bind fun y2 => if ((!y1) || (!y2)) = true then some 6 else (f_textual_within v0.kind 1 4).bind fun y3 => if (!y3) = true then some 7 else (f_digits_Valid v0.a).bind fun y4 => (gcall (!(!y4)) (f_digits_Valid v0.b)).bind fun y5 => if ((!y4) || ((!y5) && (!(((v0.kind == 3) || (v0.kind == 4)) && (v0.b == ([] : List UInt8)))))) = true then some 12 else (f_textual_within v0.start 0 12622780799).bind fun y6 => if (!y6) = true then some 15 else (f_textual_within v0.units 0 v4j1).bind fun y7 => if (!y7) = true then some 6 else ck ((v0.kind == 1) = true → ((-9223372036854775808 : Int) ≤ v0.start + v0.units ∧ v0.start + v0.units ≤ (9223372036854775807 : Int))) (if ((v0.kind == 1) && (decide ((v0.start + v0.units) > 12622780800))) = true then some 15 else (f_textual_within v0.call 0 999999999).bind fun y8 => (gcall (!(!y8)) (f_textual_within v0.part 0 99)).bind fun y9 => if ((!y8) || (!y9)) = true then some 6 else if (((v0.part == 0) != (v0.call == 0)) || (v0.last && (v0.part == 0))) = true then some 8 else (f_textual_within v0.trunk 0 999).bind fun y10 => if (!y10) = true then some 6 else if (v0.inbound && (v0.trunk == 0)) = true then some 8 else some 0)
def f_textual_check (v0 : Record) : Option Int :=
  if (v0.kind == 1) = true then (f_textual_check_j1 v0 604800) else f_textual_check_j1 v0 1099511627776
def f_textual_Encode_j3 (v7j3 : List (List UInt8)) : Option ((List UInt8) × Int) :=
  (x_Join v7j3 ([32] : List UInt8)).bind fun y6 => some (y6, 0)
def f_textual_Encode_j4 (v0 : Record) (v7j2 : List (List UInt8)) (v8j4 : List UInt8) : Option ((List UInt8) × Int) :=
  (x_Itoa v0.trunk).bind fun y7 => ck (v7j2.length + ([v8j4, y7] : List (List UInt8)).length ≤ 1000000000) (f_textual_Encode_j3 (v7j2 ++ ([v8j4, y7] : List (List UInt8))))
def f_textual_Encode_j2 (v0 : Record) (v7j2 : List (List UInt8)) : Option ((List UInt8) × Int) :=
  if (v0.trunk != 0) = true then (if v0.inbound = true then (f_textual_Encode_j4 v0 v7j2 ([105, 110] : List UInt8)) else f_textual_Encode_j4 v0 v7j2 ([111, 117, 116] : List UInt8)) else f_textual_Encode_j3 v7j2
def f_textual_Encode_j1 (v0 : Record) (v6j1 : List UInt8) : Option ((List UInt8) × Int) :=
  ck ((-9223372036854775808 : Int) ≤ v0.kind - 1 ∧ v0.kind - 1 ≤ (9223372036854775807 : Int)) (ck ((0 : Int) ≤ v0.kind - 1 ∧ v0.kind - 1 ≤ v0.kind ∧ v0.kind ≤ (([118, 116, 100, 99] : List UInt8).length : Int)) ((x_Itoa v0.source).bind fun y2 => (x_Itoa v0.serial).bind fun y3 => (x_Itoa v0.start).bind fun y4 => (x_Itoa v0.units).bind fun y5 => if (v0.part != 0) = true then ((x_Itoa v0.call).bind fun y8 => (x_Itoa v0.part).bind fun y9 => ck (([(([118, 116, 100, 99] : List UInt8).take (Int.toNat (v0.kind))).drop (Int.toNat (v0.kind - 1)), y2, y3, v0.a, v6j1, y4, y5] : List (List UInt8)).length + ([([112, 97, 114, 116] : List UInt8), y8, y9] : List (List UInt8)).length ≤ 1000000000) (if v0.last = true then (ck ((([(([118, 116, 100, 99] : List UInt8).take (Int.toNat (v0.kind))).drop (Int.toNat (v0.kind - 1)), y2, y3, v0.a, v6j1, y4, y5] : List (List UInt8)) ++ ([([112, 97, 114, 116] : List UInt8), y8, y9] : List (List UInt8))).length + ([([108, 97, 115, 116] : List UInt8)] : List (List UInt8)).length ≤ 1000000000) (f_textual_Encode_j2 v0 ((([(([118, 116, 100, 99] : List UInt8).take (Int.toNat (v0.kind))).drop (Int.toNat (v0.kind - 1)), y2, y3, v0.a, v6j1, y4, y5] : List (List UInt8)) ++ ([([112, 97, 114, 116] : List UInt8), y8, y9] : List (List UInt8))) ++ ([([108, 97, 115, 116] : List UInt8)] : List (List UInt8))))) else f_textual_Encode_j2 v0 (([(([118, 116, 100, 99] : List UInt8).take (Int.toNat (v0.kind))).drop (Int.toNat (v0.kind - 1)), y2, y3, v0.a, v6j1, y4, y5] : List (List UInt8)) ++ ([([112, 97, 114, 116] : List UInt8), y8, y9] : List (List UInt8))))) else f_textual_Encode_j2 v0 ([(([118, 116, 100, 99] : List UInt8).take (Int.toNat (v0.kind))).drop (Int.toNat (v0.kind - 1)), y2, y3, v0.a, v6j1, y4, y5] : List (List UInt8))))
def f_textual_Encode (v0 : Record) : Option ((List UInt8) × Int) :=
  (f_textual_check v0).bind fun y1 => if (y1 != 0) = true then some (([] : List UInt8), y1) else if (v0.b == ([] : List UInt8)) = true then (f_textual_Encode_j1 v0 ([45] : List UInt8)) else f_textual_Encode_j1 v0 v0.b
def f_batch_Check_l1 (v0b : Batch) (v17l1 : Int) : Option ((Int) ⊕ Int) :=
  if (decide (v17l1 < (v0b.records.length : Int))) = true then (ck ((0 : Int) ≤ v17l1 ∧ v17l1 < (v0b.records.length : Int)) ((f_textual_Encode (nth v0b.records (Int.toNat (v17l1)))).bind fun y3 => if (y3.2 != 0) = true then some (.inr y3.2) else if (((nth v0b.records (Int.toNat (v17l1))).source) != v0b.source) = true then some (.inr 8) else ck ((-9223372036854775808 : Int) ≤ v17l1 + 1 ∧ v17l1 + 1 ≤ (9223372036854775807 : Int)) (some (.inl (v17l1 + 1))))) else some (.inr 0)
def f_batch_Check (v0b : Batch) : Option Int :=
  (f_batch_headOf v0b).bind fun y1 => (f_batch_checkHead y1).bind fun y2 => if (y2 != 0) = true then some y2 else loop (fun s => f_batch_Check_l1 v0b s) 0
def f_codec_grown (v0b : List UInt8) (v1n : Int) : Option (List UInt8) :=
  ck ((-9223372036854775808 : Int) ≤ (v0b.length : Int) + v1n ∧ (v0b.length : Int) + v1n ≤ (9223372036854775807 : Int)) (ck ((0 : Int) ≤ (v0b.length : Int) ∧ (v0b.length : Int) ≤ ((v0b.length : Int) + v1n) ∧ ((v0b.length : Int) + v1n) ≤ (1000000000 : Int)) (some (v0b.take (min v0b.length (List.replicate (Int.toNat ((v0b.length : Int))) 0 : List UInt8).length) ++ (List.replicate (Int.toNat ((v0b.length : Int))) 0 : List UInt8).drop (min v0b.length (List.replicate (Int.toNat ((v0b.length : Int))) 0 : List UInt8).length))))
def f_codec_zigzag (v0n : Int) : Option Int :=
  ck ((0 : Int) ≤ 1) (some (bXor .u64 (IntKind.wrap .u64 ((IntKind.wrap .u64 v0n) * 2 ^ (min (Int.toNat (1)) 64))) (IntKind.wrap .u64 (v0n / 2 ^ (Int.toNat (63))))))
def g_codec_add_j1 (v0bj1 : List UInt8) (v5uj1 : Int) : Option (List UInt8) :=
  ck (v0bj1.length + ([UInt8.ofInt v5uj1] : List UInt8).length ≤ 1000000000) (some (v0bj1 ++ ([UInt8.ofInt v5uj1] : List UInt8)))
def g_codec_add_l1 (v0bl1 : List UInt8) (v5ul1 : Int) : Option ((List UInt8 × Int) ⊕ (List UInt8)) :=
  if (decide (v5ul1 ≥ 128)) = true then (ck (v0bl1.length + ([(UInt8.ofInt v5ul1) ||| 128] : List UInt8).length ≤ 1000000000) (ck ((0 : Int) ≤ 7) (some (.inl (v0bl1 ++ ([(UInt8.ofInt v5ul1) ||| 128] : List UInt8), Int.fdiv v5ul1 (2 ^ (min (Int.toNat (7)) 64))))))) else (g_codec_add_j1 v0bl1 v5ul1).map (fun z => .inr z)
def g_codec_add (v1n : Int) (y0t0p : List UInt8) : Option (List UInt8) :=
  (f_codec_zigzag v1n).bind fun y1 => loop (fun s => g_codec_add_l1 s.1 s.2) (y0t0p, y1)
def f_codec_PutNumber (v0b : List UInt8) (v1n : Int) : Option (List UInt8) :=
  (f_codec_grown v0b 10).bind fun y1 => (g_codec_add v1n y1).bind fun y2 => some y2
def f_batch_number (v0n : Int) : Option ((List UInt8) × Int) :=
  (f_codec_PutNumber ([] : List UInt8) v0n).bind fun y1 => some (y1, 0)
def f_digits_Pack_j1 (v0s : List UInt8) (v4bl1 : List UInt8) (v5il1 : Int) (v6lowj1 : UInt8) : Option ((List UInt8 × Int) ⊕ ((List UInt8) × Int)) :=
  ck ((0 : Int) ≤ v5il1 ∧ v5il1 < (v0s.length : Int)) (ck ((0 : Int) ≤ 4) (ck (v4bl1.length + ([(u8shl ((nth v0s (Int.toNat (v5il1))) - 48) 4) ||| v6lowj1] : List UInt8).length ≤ 1000000000) (ck ((-9223372036854775808 : Int) ≤ v5il1 + 2 ∧ v5il1 + 2 ≤ (9223372036854775807 : Int)) (some (.inl (v4bl1 ++ ([(u8shl ((nth v0s (Int.toNat (v5il1))) - 48) 4) ||| v6lowj1] : List UInt8), v5il1 + 2))))))
def f_digits_Pack_l1 (v0s : List UInt8) (v4bl1 : List UInt8) (v5il1 : Int) : Option ((List UInt8 × Int) ⊕ ((List UInt8) × Int)) :=
  if (decide (v5il1 < (v0s.length : Int))) = true then (ck ((-9223372036854775808 : Int) ≤ v5il1 + 1 ∧ v5il1 + 1 ≤ (9223372036854775807 : Int)) (if (decide ((v5il1 + 1) < (v0s.length : Int))) = true then (ck ((-9223372036854775808 : Int) ≤ v5il1 + 1 ∧ v5il1 + 1 ≤ (9223372036854775807 : Int)) (ck ((0 : Int) ≤ (v5il1 + 1) ∧ (v5il1 + 1) < (v0s.length : Int)) (f_digits_Pack_j1 v0s v4bl1 v5il1 ((nth v0s (Int.toNat (v5il1 + 1))) - 48)))) else f_digits_Pack_j1 v0s v4bl1 v5il1 15)) else some (.inr (v4bl1, 0))
def f_digits_Pack (v0s : List UInt8) : Option ((List UInt8) × Int) :=
  (f_digits_Valid v0s).bind fun y1 => if (!y1) = true then some (([] : List UInt8), 12) else loop (fun s => f_digits_Pack_l1 v0s s.1 s.2) (([] : List UInt8), 0)
def f_tagged_bytes_l1 (v0nl1 : Int) (v3outl1 : List UInt8) : Option ((Int × List UInt8) ⊕ (List UInt8)) :=
  if (decide (v0nl1 > 0)) = true then (ck (([UInt8.ofInt v0nl1] : List UInt8).length + v3outl1.length ≤ 1000000000) (ck ((0 : Int) ≤ 8 ∧ 8 < (63 : Int)) (some (.inl (v0nl1 / 2 ^ (Int.toNat (8)), ([UInt8.ofInt v0nl1] : List UInt8) ++ v3outl1))))) else some (.inr v3outl1)
def f_tagged_bytes (v0n : Int) : Option (List UInt8) :=
  loop (fun s => f_tagged_bytes_l1 s.1 s.2) (v0n, [])
def f_tagged_flag (v0holds : Bool) (v1n : Int) : Option Int :=
  if v0holds = true then some v1n else some 0
def g_tagged_put (v1tag : Int) (v2value : List UInt8) (y0t0p : List UInt8) : Option (List UInt8) :=
  ck (y0t0p.length + ([UInt8.ofInt v1tag, UInt8.ofInt (v2value.length : Int)] : List UInt8).length ≤ 1000000000) (ck ((y0t0p ++ ([UInt8.ofInt v1tag, UInt8.ofInt (v2value.length : Int)] : List UInt8)).length + v2value.length ≤ 1000000000) (some ((y0t0p ++ ([UInt8.ofInt v1tag, UInt8.ofInt (v2value.length : Int)] : List UInt8)) ++ v2value)))
def g_tagged_Encode_1 (v0tag : Int) (v1value : List UInt8) (y0t0p : List UInt8) : Option (List UInt8) :=
  if (decide ((v1value.length : Int) > 0)) = true then ((g_tagged_put v0tag v1value y0t0p).bind fun y1 => some y1) else some y0t0p
def f_tagged_Encode (v0 : Record) : Option ((List UInt8) × Int) :=
  (f_textual_Encode v0).bind fun y1 => if (y1.2 != 0) = true then some (([] : List UInt8), y1.2) else (f_digits_Pack v0.a).bind fun y2 => (f_digits_Pack v0.b).bind fun y3 => ck ((0 : Int) ≤ 2 ∧ (2 : Int) ≤ 2 ∧ 2 ≤ (1000000000 : Int)) ((f_tagged_bytes v0.kind).bind fun y4 => (g_tagged_Encode_1 1 y4 (List.replicate (Int.toNat (2)) 0 : List UInt8)).bind fun y5 => (f_tagged_bytes v0.source).bind fun y6 => (g_tagged_Encode_1 2 y6 y5).bind fun y7 => (f_tagged_bytes v0.serial).bind fun y8 => (g_tagged_Encode_1 3 y8 y7).bind fun y9 => (g_tagged_Encode_1 4 y2.1 y9).bind fun y10 => (g_tagged_Encode_1 5 y3.1 y10).bind fun y11 => (f_tagged_bytes v0.start).bind fun y12 => (g_tagged_Encode_1 6 y12 y11).bind fun y13 => (f_tagged_bytes v0.units).bind fun y14 => (g_tagged_Encode_1 7 y14 y13).bind fun y15 => (f_tagged_bytes v0.call).bind fun y16 => (g_tagged_Encode_1 8 y16 y15).bind fun y17 => (f_tagged_bytes v0.part).bind fun y18 => (g_tagged_Encode_1 9 y18 y17).bind fun y19 => (f_tagged_bytes v0.trunk).bind fun y20 => (g_tagged_Encode_1 10 y20 y19).bind fun y21 => (f_tagged_flag v0.last 1).bind fun y22 => (f_tagged_flag v0.inbound 2).bind fun y23 => ck ((-9223372036854775808 : Int) ≤ y22 + y23 ∧ y22 + y23 ≤ (9223372036854775807 : Int)) ((f_tagged_bytes (y22 + y23)).bind fun y24 => (g_tagged_Encode_1 11 y24 y21).bind fun y25 => ck ((-9223372036854775808 : Int) ≤ (y25.length : Int) - 2 ∧ (y25.length : Int) - 2 ≤ (9223372036854775807 : Int)) (ck ((0 : Int) ≤ 8 ∧ 8 < (63 : Int)) (ck ((0 : Int) ≤ 0 ∧ 0 < (y25.length : Int)) (ck (Int.toNat (0) < y25.length) (ck ((0 : Int) ≤ 1 ∧ 1 < ((y25.set (Int.toNat (0)) (UInt8.ofInt (((y25.length : Int) - 2) / 2 ^ (Int.toNat (8))))).length : Int)) (ck (Int.toNat (1) < (y25.set (Int.toNat (0)) (UInt8.ofInt (((y25.length : Int) - 2) / 2 ^ (Int.toNat (8))))).length) (some ((y25.set (Int.toNat (0)) (UInt8.ofInt (((y25.length : Int) - 2) / 2 ^ (Int.toNat (8))))).set (Int.toNat (1)) (UInt8.ofInt ((y25.length : Int) - 2)), 0)))))))))
def f_packed_PutDecimal_j1 (y0tj1 : List UInt8) (v1nj1 : Int) : Option ((List UInt8) × Int) :=
  if (decide (v1nj1 > 0)) = true then some (([] : List UInt8), 6) else some (y0tj1, 0)
def f_packed_PutDecimal_l1 (v0b : List UInt8) (y0tl1 : List UInt8) (v1nl1 : Int) (v9il1 : Int) : Option ((List UInt8 × Int × Int) ⊕ ((List UInt8) × Int)) :=
  if (decide (v9il1 ≥ (v0b.length : Int))) = true then (ck (10 ≠ (0 : Int) ∧ (-9223372036854775808 : Int) ≤ Int.tdiv v1nl1 10 ∧ Int.tdiv v1nl1 10 ≤ (9223372036854775807 : Int)) (ck (10 ≠ (0 : Int)) (ck ((0 : Int) ≤ 4 ∧ 4 < (63 : Int) ∧ (-9223372036854775808 : Int) ≤ (Int.tmod (Int.tdiv v1nl1 10) 10) * 2 ^ (Int.toNat (4)) ∧ (Int.tmod (Int.tdiv v1nl1 10) 10) * 2 ^ (Int.toNat (4)) ≤ (9223372036854775807 : Int)) (ck (10 ≠ (0 : Int)) (ck ((0 : Int) ≤ v9il1 ∧ v9il1 < (y0tl1.length : Int)) (ck (Int.toNat (v9il1) < y0tl1.length) (ck (100 ≠ (0 : Int) ∧ (-9223372036854775808 : Int) ≤ Int.tdiv v1nl1 100 ∧ Int.tdiv v1nl1 100 ≤ (9223372036854775807 : Int)) (ck ((-9223372036854775808 : Int) ≤ v9il1 - 1 ∧ v9il1 - 1 ≤ (9223372036854775807 : Int)) (some (.inl (y0tl1.set (Int.toNat (v9il1)) (UInt8.ofInt (bOr .i64 ((Int.tmod (Int.tdiv v1nl1 10) 10) * 2 ^ (Int.toNat (4))) (Int.tmod v1nl1 10))), Int.tdiv v1nl1 100, v9il1 - 1))))))))))) else (f_packed_PutDecimal_j1 y0tl1 v1nl1).map (fun z => .inr z)
def f_packed_PutDecimal (v0b : List UInt8) (v1n : Int) (v2size : Int) : Option ((List UInt8) × Int) :=
  if (((decide (v2size < 1)) || (decide (v2size > 9))) || (decide (v1n < 0))) = true then some (([] : List UInt8), 6) else ck ((-9223372036854775808 : Int) ≤ (v0b.length : Int) + v2size ∧ (v0b.length : Int) + v2size ≤ (9223372036854775807 : Int)) (ck ((0 : Int) ≤ ((v0b.length : Int) + v2size) ∧ ((v0b.length : Int) + v2size) ≤ ((v0b.length : Int) + v2size) ∧ ((v0b.length : Int) + v2size) ≤ (1000000000 : Int)) (ck ((-9223372036854775808 : Int) ≤ ((v0b.take (min v0b.length (List.replicate (Int.toNat ((v0b.length : Int) + v2size)) 0 : List UInt8).length) ++ (List.replicate (Int.toNat ((v0b.length : Int) + v2size)) 0 : List UInt8).drop (min v0b.length (List.replicate (Int.toNat ((v0b.length : Int) + v2size)) 0 : List UInt8).length)).length : Int) - 1 ∧ ((v0b.take (min v0b.length (List.replicate (Int.toNat ((v0b.length : Int) + v2size)) 0 : List UInt8).length) ++ (List.replicate (Int.toNat ((v0b.length : Int) + v2size)) 0 : List UInt8).drop (min v0b.length (List.replicate (Int.toNat ((v0b.length : Int) + v2size)) 0 : List UInt8).length)).length : Int) - 1 ≤ (9223372036854775807 : Int)) (loop (fun s => f_packed_PutDecimal_l1 v0b s.1 s.2.1 s.2.2) (v0b.take (min v0b.length (List.replicate (Int.toNat ((v0b.length : Int) + v2size)) 0 : List UInt8).length) ++ (List.replicate (Int.toNat ((v0b.length : Int) + v2size)) 0 : List UInt8).drop (min v0b.length (List.replicate (Int.toNat ((v0b.length : Int) + v2size)) 0 : List UInt8).length), v1n, ((v0b.take (min v0b.length (List.replicate (Int.toNat ((v0b.length : Int) + v2size)) 0 : List UInt8).length) ++ (List.replicate (Int.toNat ((v0b.length : Int) + v2size)) 0 : List UInt8).drop (min v0b.length (List.replicate (Int.toNat ((v0b.length : Int) + v2size)) 0 : List UInt8).length)).length : Int) - 1))))
def f_packed_bit (v0holds : Bool) (v1n : UInt8) : Option UInt8 :=
  if v0holds = true then some v1n else some 0
def f_packed_sum_l1 (v0b : List UInt8) (v3nl1 : UInt8) (v8l1 : Int) : Option ((UInt8 × Int) ⊕ UInt8) :=
  if (decide (v8l1 < (v0b.length : Int))) = true then (ck ((0 : Int) ≤ v8l1 ∧ v8l1 < (v0b.length : Int)) (ck ((-9223372036854775808 : Int) ≤ v8l1 + 1 ∧ v8l1 + 1 ≤ (9223372036854775807 : Int)) (some (.inl (v3nl1 + (nth v0b (Int.toNat (v8l1))), v8l1 + 1))))) else some (.inr v3nl1)
def f_packed_sum (v0b : List UInt8) : Option UInt8 :=
  loop (fun s => f_packed_sum_l1 v0b s.1 s.2) (0, 0)
def g_packed_Encode_1 (v0n : Int) (v1size : Int) : Option (List UInt8) :=
  (f_packed_PutDecimal ([] : List UInt8) v0n v1size).bind fun y1 => some y1.1
def g_packed_Encode_1_v1 (v0n : Int) (v1size : Int) (y0t0p : List UInt8) : Option (List UInt8) :=
  (f_packed_PutDecimal y0t0p v0n v1size).bind fun y1 => some y1.1
def g_packed_putNumber_j1 (y0t0p : List UInt8) (o0c0j1 : List UInt8) : Option (List UInt8) :=
  ck (o0c0j1.length = 8 ∧ y0t0p.length + o0c0j1.length ≤ 1000000000) (some (y0t0p ++ o0c0j1))
def g_packed_putNumber_l1 (v1s : List UInt8) (y0t0p : List UInt8) (v15l1 : Int) (o0c0l1 : List UInt8) : Option ((Int × List UInt8) ⊕ (List UInt8)) :=
  if (decide (v15l1 < (v1s.length : Int))) = true then (ck ((0 : Int) ≤ v15l1 ∧ v15l1 < (v1s.length : Int)) (ck (2 ≠ (0 : Int)) (if ((Int.tmod v15l1 2) == 0) = true then (ck (2 ≠ (0 : Int) ∧ (-9223372036854775808 : Int) ≤ Int.tdiv v15l1 2 ∧ Int.tdiv v15l1 2 ≤ (9223372036854775807 : Int)) (ck ((0 : Int) ≤ (Int.tdiv v15l1 2) ∧ (Int.tdiv v15l1 2) < (8 : Int)) (ck ((Int.toNat (Int.tdiv v15l1 2)) < o0c0l1.length) (ck ((0 : Int) ≤ (Int.tdiv v15l1 2) ∧ (Int.tdiv v15l1 2) < (8 : Int)) (ck ((Int.toNat (Int.tdiv v15l1 2)) < o0c0l1.length) (ck ((-9223372036854775808 : Int) ≤ v15l1 + 1 ∧ v15l1 + 1 ≤ (9223372036854775807 : Int)) (some (.inl (v15l1 + 1, o0c0l1.set (Int.toNat (Int.tdiv v15l1 2)) ((nth o0c0l1 (Int.toNat (Int.tdiv v15l1 2))) ||| ((nth v1s (Int.toNat (v15l1))) - 48))))))))))) else ck ((-9223372036854775808 : Int) ≤ v15l1 + 1 ∧ v15l1 + 1 ≤ (9223372036854775807 : Int)) (ck (2 ≠ (0 : Int) ∧ (-9223372036854775808 : Int) ≤ Int.tdiv (v15l1 + 1) 2 ∧ Int.tdiv (v15l1 + 1) 2 ≤ (9223372036854775807 : Int)) (ck ((0 : Int) ≤ 4) (ck ((0 : Int) ≤ (Int.tdiv (v15l1 + 1) 2) ∧ (Int.tdiv (v15l1 + 1) 2) < (8 : Int)) (ck ((Int.toNat (Int.tdiv (v15l1 + 1) 2)) < o0c0l1.length) (ck ((-9223372036854775808 : Int) ≤ v15l1 + 1 ∧ v15l1 + 1 ≤ (9223372036854775807 : Int)) (some (.inl (v15l1 + 1, o0c0l1.set (Int.toNat (Int.tdiv (v15l1 + 1) 2)) (u8shl ((nth v1s (Int.toNat (v15l1))) - 48) 4)))))))))))) else (g_packed_putNumber_j1 y0t0p o0c0l1).map (fun z => .inr z)
def g_packed_putNumber (v1s : List UInt8) (y0t0p : List UInt8) : Option (List UInt8) :=
  ck ((0 : Int) ≤ 4 ∧ 4 < (63 : Int) ∧ (-9223372036854775808 : Int) ≤ (v1s.length : Int) * 2 ^ (Int.toNat (4)) ∧ (v1s.length : Int) * 2 ^ (Int.toNat (4)) ≤ (9223372036854775807 : Int)) (ck ((0 : Int) ≤ 0 ∧ 0 < (8 : Int)) (ck ((Int.toNat (0)) < (List.replicate 8 0 : List UInt8).length) (loop (fun s => g_packed_putNumber_l1 v1s y0t0p s.1 s.2) (0, (List.replicate 8 0 : List UInt8).set (Int.toNat (0)) (UInt8.ofInt ((v1s.length : Int) * 2 ^ (Int.toNat (4))))))))
def f_packed_Encode (v0 : Record) : Option ((List UInt8) × Int) :=
  (f_textual_Encode v0).bind fun y1 => if (y1.2 != 0) = true then some (([] : List UInt8), y1.2) else (g_packed_Encode_1 v0.source 1).bind fun y2 => (g_packed_Encode_1_v1 v0.serial 5 y2).bind fun y3 => ck ((0 : Int) ≤ 4 ∧ 4 < (63 : Int) ∧ (-9223372036854775808 : Int) ≤ v0.kind * 2 ^ (Int.toNat (4)) ∧ v0.kind * 2 ^ (Int.toNat (4)) ≤ (9223372036854775807 : Int)) ((f_packed_bit v0.last 1).bind fun y4 => (f_packed_bit v0.inbound 2).bind fun y5 => ck (y3.length + ([((UInt8.ofInt (v0.kind * 2 ^ (Int.toNat (4)))) ||| y4) ||| y5] : List UInt8).length ≤ 1000000000) ((g_packed_putNumber v0.a (y3 ++ ([((UInt8.ofInt (v0.kind * 2 ^ (Int.toNat (4)))) ||| y4) ||| y5] : List UInt8))).bind fun y6 => (g_packed_putNumber v0.b y6).bind fun y7 => (g_packed_Encode_1_v1 v0.start 6 y7).bind fun y8 => (g_packed_Encode_1_v1 v0.units 7 y8).bind fun y9 => (g_packed_Encode_1_v1 v0.call 5 y9).bind fun y10 => (g_packed_Encode_1_v1 v0.part 1 y10).bind fun y11 => (g_packed_Encode_1_v1 v0.trunk 2 y11).bind fun y12 => (f_packed_sum y12).bind fun y13 => ck (y12.length + ([y13] : List UInt8).length ≤ 1000000000) (some (y12 ++ ([y13] : List UInt8), 0))))
def f_batch_line (v0r : Record) : Option ((List UInt8) × Int) :=
  (f_textual_Encode v0r).bind fun y1 => ck (y1.1.length + ([10] : List UInt8).length ≤ 9223372036854775807) (some (y1.1 ++ ([10] : List UInt8), y1.2))
def g_api_Record_byte_l1 (v0list : List Record) (v5outl1 : List UInt8) (v12l1 : Int) : Option ((List UInt8 × Int) ⊕ (List UInt8)) :=
  if (decide (v12l1 < (v0list.length : Int))) = true then (ck ((0 : Int) ≤ v12l1 ∧ v12l1 < (v0list.length : Int)) ((f_tagged_Encode (nth v0list (Int.toNat (v12l1)))).bind fun y1 => ck (v5outl1.length + y1.1.length ≤ 1000000000) (ck ((-9223372036854775808 : Int) ≤ v12l1 + 1 ∧ v12l1 + 1 ≤ (9223372036854775807 : Int)) (some (.inl (v5outl1 ++ y1.1, v12l1 + 1)))))) else some (.inr v5outl1)
def g_api_Record_byte (v0list : List Record) : Option (List UInt8) :=
  loop (fun s => g_api_Record_byte_l1 v0list s.1 s.2) (([] : List UInt8), 0)
def g_api_Record_byte_v1_l1 (v0list : List Record) (v5outl1 : List UInt8) (v12l1 : Int) : Option ((List UInt8 × Int) ⊕ (List UInt8)) :=
  if (decide (v12l1 < (v0list.length : Int))) = true then (ck ((0 : Int) ≤ v12l1 ∧ v12l1 < (v0list.length : Int)) ((f_packed_Encode (nth v0list (Int.toNat (v12l1)))).bind fun y1 => ck (v5outl1.length + y1.1.length ≤ 1000000000) (ck ((-9223372036854775808 : Int) ≤ v12l1 + 1 ∧ v12l1 + 1 ≤ (9223372036854775807 : Int)) (some (.inl (v5outl1 ++ y1.1, v12l1 + 1)))))) else some (.inr v5outl1)
def g_api_Record_byte_v1 (v0list : List Record) : Option (List UInt8) :=
  loop (fun s => g_api_Record_byte_v1_l1 v0list s.1 s.2) (([] : List UInt8), 0)
def g_api_Record_string_l1 (v0list : List Record) (v5outl1 : List UInt8) (v12l1 : Int) : Option ((List UInt8 × Int) ⊕ (List UInt8)) :=
  if (decide (v12l1 < (v0list.length : Int))) = true then (ck ((0 : Int) ≤ v12l1 ∧ v12l1 < (v0list.length : Int)) ((f_batch_line (nth v0list (Int.toNat (v12l1)))).bind fun y1 => ck (v5outl1.length + y1.1.length ≤ 1000000000) (ck ((-9223372036854775808 : Int) ≤ v12l1 + 1 ∧ v12l1 + 1 ≤ (9223372036854775807 : Int)) (some (.inl (v5outl1 ++ y1.1, v12l1 + 1)))))) else some (.inr v5outl1)
def g_api_Record_string (v0list : List Record) : Option (List UInt8) :=
  loop (fun s => g_api_Record_string_l1 v0list s.1 s.2) (([] : List UInt8), 0)
def f_batch_payload (v0format : Int) (v1records : List Record) : Option (List UInt8) :=
  if (v0format == 2) = true then ((g_api_Record_byte v1records).bind fun y1 => some y1) else if (v0format == 3) = true then ((g_api_Record_byte_v1 v1records).bind fun y2 => some y2) else (g_api_Record_string v1records).bind fun y3 => some y3
def f_frame_Sum_l1 (v0b : List UInt8) (v3nl1 : Int) (v8l1 : Int) : Option ((Int × Int) ⊕ Int) :=
  if (decide (v8l1 < (v0b.length : Int))) = true then (ck ((0 : Int) ≤ v8l1 ∧ v8l1 < (v0b.length : Int)) (ck ((-9223372036854775808 : Int) ≤ v8l1 + 1 ∧ v8l1 + 1 ≤ (9223372036854775807 : Int)) (some (.inl (IntKind.wrap .u32 ((bXor .u32 v3nl1 (IntKind.wrap .u32 ((nth v0b (Int.toNat (v8l1))).toNat : Int))) * 16777619), v8l1 + 1))))) else some (.inr v3nl1)
def f_frame_Sum (v0b : List UInt8) : Option Int :=
  loop (fun s => f_frame_Sum_l1 v0b s.1 s.2) (2166136261, 0)
def g_frame_wrap (v1payload : List UInt8) : Option (List UInt8) :=
  (f_frame_Sum v1payload).bind fun y1 => (f_codec_PutNumber ([] : List UInt8) (v1payload.length : Int)).bind fun y2 => ck (y2.length ≤ 1000000000) (ck ((0 : Int) ≤ 24) (ck ((0 : Int) ≤ 16) (ck ((0 : Int) ≤ 8) (ck (y2.length + ([UInt8.ofInt (Int.fdiv y1 (2 ^ (min (Int.toNat (24)) 32))), UInt8.ofInt (Int.fdiv y1 (2 ^ (min (Int.toNat (16)) 32))), UInt8.ofInt (Int.fdiv y1 (2 ^ (min (Int.toNat (8)) 32))), UInt8.ofInt y1] : List UInt8).length ≤ 1000000000) (ck ((y2 ++ ([UInt8.ofInt (Int.fdiv y1 (2 ^ (min (Int.toNat (24)) 32))), UInt8.ofInt (Int.fdiv y1 (2 ^ (min (Int.toNat (16)) 32))), UInt8.ofInt (Int.fdiv y1 (2 ^ (min (Int.toNat (8)) 32))), UInt8.ofInt y1] : List UInt8)).length + v1payload.length ≤ 1000000000) (some ((y2 ++ ([UInt8.ofInt (Int.fdiv y1 (2 ^ (min (Int.toNat (24)) 32))), UInt8.ofInt (Int.fdiv y1 (2 ^ (min (Int.toNat (16)) 32))), UInt8.ofInt (Int.fdiv y1 (2 ^ (min (Int.toNat (8)) 32))), UInt8.ofInt y1] : List UInt8)) ++ v1payload)))))))
def g_frame_wrap_v1 (v1payload : List UInt8) (y0t0p : List UInt8) : Option (List UInt8) :=
  (f_frame_Sum v1payload).bind fun y1 => (f_codec_PutNumber ([] : List UInt8) (v1payload.length : Int)).bind fun y2 => ck (y0t0p.length + y2.length ≤ 1000000000) (ck ((0 : Int) ≤ 24) (ck ((0 : Int) ≤ 16) (ck ((0 : Int) ≤ 8) (ck ((y0t0p ++ y2).length + ([UInt8.ofInt (Int.fdiv y1 (2 ^ (min (Int.toNat (24)) 32))), UInt8.ofInt (Int.fdiv y1 (2 ^ (min (Int.toNat (16)) 32))), UInt8.ofInt (Int.fdiv y1 (2 ^ (min (Int.toNat (8)) 32))), UInt8.ofInt y1] : List UInt8).length ≤ 1000000000) (ck (((y0t0p ++ y2) ++ ([UInt8.ofInt (Int.fdiv y1 (2 ^ (min (Int.toNat (24)) 32))), UInt8.ofInt (Int.fdiv y1 (2 ^ (min (Int.toNat (16)) 32))), UInt8.ofInt (Int.fdiv y1 (2 ^ (min (Int.toNat (8)) 32))), UInt8.ofInt y1] : List UInt8)).length + v1payload.length ≤ 1000000000) (some (((y0t0p ++ y2) ++ ([UInt8.ofInt (Int.fdiv y1 (2 ^ (min (Int.toNat (24)) 32))), UInt8.ofInt (Int.fdiv y1 (2 ^ (min (Int.toNat (16)) 32))), UInt8.ofInt (Int.fdiv y1 (2 ^ (min (Int.toNat (8)) 32))), UInt8.ofInt y1] : List UInt8)) ++ v1payload)))))))
def f_frame_Join_l1 (v0list : List (List UInt8)) (v4outl1 : List UInt8) (v9l1 : Int) : Option ((List UInt8 × Int) ⊕ ((List UInt8) × Int)) :=
  if (decide (v9l1 < (v0list.length : Int))) = true then (ck ((0 : Int) ≤ v9l1 ∧ v9l1 < (v0list.length : Int)) (if (decide (((nth v0list (Int.toNat (v9l1))).length : Int) > 1048576)) = true then some (.inr (([] : List UInt8), 5)) else (g_frame_wrap_v1 (nth v0list (Int.toNat (v9l1))) v4outl1).bind fun y1 => ck ((-9223372036854775808 : Int) ≤ v9l1 + 1 ∧ v9l1 + 1 ≤ (9223372036854775807 : Int)) (some (.inl (y1, v9l1 + 1))))) else some (.inr (v4outl1, 0))
def f_frame_Join (v0list : List (List UInt8)) : Option ((List UInt8) × Int) :=
  loop (fun s => f_frame_Join_l1 v0list s.1 s.2) (([] : List UInt8), 0)
def g_batch_all_int_byte_l1 (v0list : List Int) (v5outl1 : List UInt8) (v12l1 : Int) : Option ((List UInt8 × Int) ⊕ (List UInt8)) :=
  if (decide (v12l1 < (v0list.length : Int))) = true then (ck ((0 : Int) ≤ v12l1 ∧ v12l1 < (v0list.length : Int)) ((f_batch_number (nth v0list (Int.toNat (v12l1)))).bind fun y1 => ck (v5outl1.length + y1.1.length ≤ 1000000000) (ck ((-9223372036854775808 : Int) ≤ v12l1 + 1 ∧ v12l1 + 1 ≤ (9223372036854775807 : Int)) (some (.inl (v5outl1 ++ y1.1, v12l1 + 1)))))) else some (.inr v5outl1)
def g_batch_all_int_byte (v0list : List Int) : Option (List UInt8) :=
  loop (fun s => g_batch_all_int_byte_l1 v0list s.1 s.2) (([] : List UInt8), 0)
def f_batch_Write (v0b : Batch) : Option ((List UInt8) × Int) :=
  (f_batch_Check v0b).bind fun y1 => if (y1 != 0) = true then some (([] : List UInt8), y1) else (f_batch_headOf v0b).bind fun y2 => (f_batch_Totals v0b.records).bind fun y3 => (g_batch_all_int_byte ([y2.source, y2.number, y2.format, y2.count] : List Int)).bind fun y4 => (f_batch_payload v0b.format v0b.records).bind fun y5 => ck (([nth y3.units 1, nth y3.units 2, nth y3.units 3, nth y3.units 4] : List Int).length = 4 ∧ ([y3.count] : List Int).length + ([nth y3.units 1, nth y3.units 2, nth y3.units 3, nth y3.units 4] : List Int).length ≤ 1000000000) ((g_batch_all_int_byte (([y3.count] : List Int) ++ ([nth y3.units 1, nth y3.units 2, nth y3.units 3, nth y3.units 4] : List Int))).bind fun y6 => (f_frame_Join ([y4, y5, y6] : List (List UInt8))).bind fun y7 => some (y7.1, y7.2))
def f_codec_back (v0u : Int) : Option Int :=
  ck ((0 : Int) ≤ 1) (ck ((-9223372036854775807 : Int) ≤ IntKind.wrap .i64 (bAnd .u64 v0u 1) ∧ IntKind.wrap .i64 (bAnd .u64 v0u 1) ≤ 9223372036854775807) (some (bXor .i64 (IntKind.wrap .i64 (Int.fdiv v0u (2 ^ (min (Int.toNat (1)) 64)))) (-(IntKind.wrap .i64 (bAnd .u64 v0u 1))))))
def f_codec_scan_l1 (v0b : List UInt8) (v5ul1 : Int) (v6il1 : Int) : Option ((Int × Int) ⊕ (Int × Int × Int)) :=
  if (decide (v6il1 < (v0b.length : Int))) = true then (ck ((0 : Int) ≤ v6il1 ∧ v6il1 < (v0b.length : Int)) (if (((v6il1 == 9) && ((nth v0b (Int.toNat (v6il1))) != 1)) || ((decide (v6il1 > 0)) && ((nth v0b (Int.toNat (v6il1))) == 0))) = true then some (.inr (0, 0, 1)) else ck ((-9223372036854775808 : Int) ≤ 7 * v6il1 ∧ 7 * v6il1 ≤ (9223372036854775807 : Int)) (ck ((0 : Int) ≤ 7 * v6il1) (if (decide ((nth v0b (Int.toNat (v6il1))) < 128)) = true then ((f_codec_back (bOr .u64 v5ul1 (IntKind.wrap .u64 ((IntKind.wrap .u64 (((nth v0b (Int.toNat (v6il1))) &&& 127).toNat : Int)) * 2 ^ (min (Int.toNat (7 * v6il1)) 64))))).bind fun y1 => ck ((-9223372036854775808 : Int) ≤ v6il1 + 1 ∧ v6il1 + 1 ≤ (9223372036854775807 : Int)) (some (.inr (y1, v6il1 + 1, 0)))) else ck ((-9223372036854775808 : Int) ≤ v6il1 + 1 ∧ v6il1 + 1 ≤ (9223372036854775807 : Int)) (some (.inl (bOr .u64 v5ul1 (IntKind.wrap .u64 ((IntKind.wrap .u64 (((nth v0b (Int.toNat (v6il1))) &&& 127).toNat : Int)) * 2 ^ (min (Int.toNat (7 * v6il1)) 64))), v6il1 + 1))))))) else some (.inr (0, 0, 2))
def f_codec_scan (v0b : List UInt8) : Option (Int × Int × Int) :=
  loop (fun s => f_codec_scan_l1 v0b s.1 s.2) (0, 0)
def f_codec_rest (v0b : List UInt8) (v1i : Int) : Option (List UInt8) :=
  ck ((-9223372036854775808 : Int) ≤ (v0b.length : Int) - v1i ∧ (v0b.length : Int) - v1i ≤ (9223372036854775807 : Int)) (ck ((0 : Int) ≤ ((v0b.length : Int) - v1i) ∧ ((v0b.length : Int) - v1i) ≤ ((v0b.length : Int) - v1i) ∧ ((v0b.length : Int) - v1i) ≤ (1000000000 : Int)) (ck ((0 : Int) ≤ v1i ∧ v1i ≤ (v0b.length : Int) ∧ (v0b.length : Int) ≤ (v0b.length : Int) ∧ (v0b.length : Int) ≤ (v0b.length : Int)) (some (((v0b.take (Int.toNat ((v0b.length : Int)))).drop (Int.toNat (v1i))).take (min ((v0b.take (Int.toNat ((v0b.length : Int)))).drop (Int.toNat (v1i))).length (List.replicate (Int.toNat ((v0b.length : Int) - v1i)) 0 : List UInt8).length) ++ (List.replicate (Int.toNat ((v0b.length : Int) - v1i)) 0 : List UInt8).drop (min ((v0b.take (Int.toNat ((v0b.length : Int)))).drop (Int.toNat (v1i))).length (List.replicate (Int.toNat ((v0b.length : Int) - v1i)) 0 : List UInt8).length)))))
def f_codec_Number (v0b : List UInt8) : Option (Int × (List UInt8) × Int) :=
  (f_codec_scan v0b).bind fun y1 => if (y1.2.2 != 0) = true then some (0, ([] : List UInt8), y1.2.2) else (f_codec_rest v0b y1.2.1).bind fun y2 => some (y1.1, y2, 0)
def f_frame_locate (v0 : List UInt8) : Option (Int × Int × Int) :=
  ck ((0 : Int) ≤ (if 10 < (v0.length : Int) then 10 else (v0.length : Int)) ∧ (if 10 < (v0.length : Int) then 10 else (v0.length : Int)) ≤ (if 10 < (v0.length : Int) then 10 else (v0.length : Int)) ∧ (if 10 < (v0.length : Int) then 10 else (v0.length : Int)) ≤ (v0.length : Int)) ((f_codec_Number (v0.take (Int.toNat ((if 10 < (v0.length : Int) then 10 else (v0.length : Int)))))).bind fun y1 => if (y1.2.2 != 0) = true then some (0, 0, y1.2.2) else if (decide (y1.1 < 0)) = true then some (0, 0, 1) else if (decide (y1.1 > 1048576)) = true then some (0, 0, 5) else ck ((-9223372036854775808 : Int) ≤ ((v0.take (Int.toNat ((if 10 < (v0.length : Int) then 10 else (v0.length : Int))))).length : Int) - (y1.2.1.length : Int) ∧ ((v0.take (Int.toNat ((if 10 < (v0.length : Int) then 10 else (v0.length : Int))))).length : Int) - (y1.2.1.length : Int) ≤ (9223372036854775807 : Int)) (ck ((-9223372036854775808 : Int) ≤ (v0.length : Int) - (((v0.take (Int.toNat ((if 10 < (v0.length : Int) then 10 else (v0.length : Int))))).length : Int) - (y1.2.1.length : Int)) ∧ (v0.length : Int) - (((v0.take (Int.toNat ((if 10 < (v0.length : Int) then 10 else (v0.length : Int))))).length : Int) - (y1.2.1.length : Int)) ≤ (9223372036854775807 : Int)) (ck ((-9223372036854775808 : Int) ≤ 4 + y1.1 ∧ 4 + y1.1 ≤ (9223372036854775807 : Int)) (if (decide (((v0.length : Int) - (((v0.take (Int.toNat ((if 10 < (v0.length : Int) then 10 else (v0.length : Int))))).length : Int) - (y1.2.1.length : Int))) < (4 + y1.1))) = true then some (0, 0, 2) else ck ((0 : Int) ≤ (((v0.take (Int.toNat ((if 10 < (v0.length : Int) then 10 else (v0.length : Int))))).length : Int) - (y1.2.1.length : Int)) ∧ (((v0.take (Int.toNat ((if 10 < (v0.length : Int) then 10 else (v0.length : Int))))).length : Int) - (y1.2.1.length : Int)) < (v0.length : Int)) (ck ((0 : Int) ≤ 24) (ck ((-9223372036854775808 : Int) ≤ (((v0.take (Int.toNat ((if 10 < (v0.length : Int) then 10 else (v0.length : Int))))).length : Int) - (y1.2.1.length : Int)) + 1 ∧ (((v0.take (Int.toNat ((if 10 < (v0.length : Int) then 10 else (v0.length : Int))))).length : Int) - (y1.2.1.length : Int)) + 1 ≤ (9223372036854775807 : Int)) (ck ((0 : Int) ≤ ((((v0.take (Int.toNat ((if 10 < (v0.length : Int) then 10 else (v0.length : Int))))).length : Int) - (y1.2.1.length : Int)) + 1) ∧ ((((v0.take (Int.toNat ((if 10 < (v0.length : Int) then 10 else (v0.length : Int))))).length : Int) - (y1.2.1.length : Int)) + 1) < (v0.length : Int)) (ck ((0 : Int) ≤ 16) (ck ((-9223372036854775808 : Int) ≤ (((v0.take (Int.toNat ((if 10 < (v0.length : Int) then 10 else (v0.length : Int))))).length : Int) - (y1.2.1.length : Int)) + 2 ∧ (((v0.take (Int.toNat ((if 10 < (v0.length : Int) then 10 else (v0.length : Int))))).length : Int) - (y1.2.1.length : Int)) + 2 ≤ (9223372036854775807 : Int)) (ck ((0 : Int) ≤ ((((v0.take (Int.toNat ((if 10 < (v0.length : Int) then 10 else (v0.length : Int))))).length : Int) - (y1.2.1.length : Int)) + 2) ∧ ((((v0.take (Int.toNat ((if 10 < (v0.length : Int) then 10 else (v0.length : Int))))).length : Int) - (y1.2.1.length : Int)) + 2) < (v0.length : Int)) (ck ((0 : Int) ≤ 8) (ck ((-9223372036854775808 : Int) ≤ (((v0.take (Int.toNat ((if 10 < (v0.length : Int) then 10 else (v0.length : Int))))).length : Int) - (y1.2.1.length : Int)) + 3 ∧ (((v0.take (Int.toNat ((if 10 < (v0.length : Int) then 10 else (v0.length : Int))))).length : Int) - (y1.2.1.length : Int)) + 3 ≤ (9223372036854775807 : Int)) (ck ((0 : Int) ≤ ((((v0.take (Int.toNat ((if 10 < (v0.length : Int) then 10 else (v0.length : Int))))).length : Int) - (y1.2.1.length : Int)) + 3) ∧ ((((v0.take (Int.toNat ((if 10 < (v0.length : Int) then 10 else (v0.length : Int))))).length : Int) - (y1.2.1.length : Int)) + 3) < (v0.length : Int)) (ck ((-9223372036854775808 : Int) ≤ (((v0.take (Int.toNat ((if 10 < (v0.length : Int) then 10 else (v0.length : Int))))).length : Int) - (y1.2.1.length : Int)) + 4 ∧ (((v0.take (Int.toNat ((if 10 < (v0.length : Int) then 10 else (v0.length : Int))))).length : Int) - (y1.2.1.length : Int)) + 4 ≤ (9223372036854775807 : Int)) (ck ((-9223372036854775808 : Int) ≤ (((v0.take (Int.toNat ((if 10 < (v0.length : Int) then 10 else (v0.length : Int))))).length : Int) - (y1.2.1.length : Int)) + 4 ∧ (((v0.take (Int.toNat ((if 10 < (v0.length : Int) then 10 else (v0.length : Int))))).length : Int) - (y1.2.1.length : Int)) + 4 ≤ (9223372036854775807 : Int)) (ck ((-9223372036854775808 : Int) ≤ ((((v0.take (Int.toNat ((if 10 < (v0.length : Int) then 10 else (v0.length : Int))))).length : Int) - (y1.2.1.length : Int)) + 4) + y1.1 ∧ ((((v0.take (Int.toNat ((if 10 < (v0.length : Int) then 10 else (v0.length : Int))))).length : Int) - (y1.2.1.length : Int)) + 4) + y1.1 ≤ (9223372036854775807 : Int)) (ck ((0 : Int) ≤ (((v0.take (Int.toNat ((if 10 < (v0.length : Int) then 10 else (v0.length : Int))))).length : Int) - (y1.2.1.length : Int)) + 4 ∧ (((v0.take (Int.toNat ((if 10 < (v0.length : Int) then 10 else (v0.length : Int))))).length : Int) - (y1.2.1.length : Int)) + 4 ≤ ((((v0.take (Int.toNat ((if 10 < (v0.length : Int) then 10 else (v0.length : Int))))).length : Int) - (y1.2.1.length : Int)) + 4) + y1.1 ∧ ((((v0.take (Int.toNat ((if 10 < (v0.length : Int) then 10 else (v0.length : Int))))).length : Int) - (y1.2.1.length : Int)) + 4) + y1.1 ≤ (v0.length : Int)) ((f_frame_Sum ((v0.take (Int.toNat (((((v0.take (Int.toNat ((if 10 < (v0.length : Int) then 10 else (v0.length : Int))))).length : Int) - (y1.2.1.length : Int)) + 4) + y1.1))).drop (Int.toNat ((((v0.take (Int.toNat ((if 10 < (v0.length : Int) then 10 else (v0.length : Int))))).length : Int) - (y1.2.1.length : Int)) + 4)))).bind fun y2 => if (y2 != (bOr .u32 (bOr .u32 (bOr .u32 (IntKind.wrap .u32 ((IntKind.wrap .u32 ((nth v0 (Int.toNat (((v0.take (Int.toNat ((if 10 < (v0.length : Int) then 10 else (v0.length : Int))))).length : Int) - (y1.2.1.length : Int)))).toNat : Int)) * 2 ^ (min (Int.toNat (24)) 32))) (IntKind.wrap .u32 ((IntKind.wrap .u32 ((nth v0 (Int.toNat ((((v0.take (Int.toNat ((if 10 < (v0.length : Int) then 10 else (v0.length : Int))))).length : Int) - (y1.2.1.length : Int)) + 1))).toNat : Int)) * 2 ^ (min (Int.toNat (16)) 32)))) (IntKind.wrap .u32 ((IntKind.wrap .u32 ((nth v0 (Int.toNat ((((v0.take (Int.toNat ((if 10 < (v0.length : Int) then 10 else (v0.length : Int))))).length : Int) - (y1.2.1.length : Int)) + 2))).toNat : Int)) * 2 ^ (min (Int.toNat (8)) 32)))) (IntKind.wrap .u32 ((nth v0 (Int.toNat ((((v0.take (Int.toNat ((if 10 < (v0.length : Int) then 10 else (v0.length : Int))))).length : Int) - (y1.2.1.length : Int)) + 3))).toNat : Int)))) = true then some (0, 0, 4) else ck ((-9223372036854775808 : Int) ≤ (((v0.take (Int.toNat ((if 10 < (v0.length : Int) then 10 else (v0.length : Int))))).length : Int) - (y1.2.1.length : Int)) + 4 ∧ (((v0.take (Int.toNat ((if 10 < (v0.length : Int) then 10 else (v0.length : Int))))).length : Int) - (y1.2.1.length : Int)) + 4 ≤ (9223372036854775807 : Int)) (ck ((-9223372036854775808 : Int) ≤ (((v0.take (Int.toNat ((if 10 < (v0.length : Int) then 10 else (v0.length : Int))))).length : Int) - (y1.2.1.length : Int)) + 4 ∧ (((v0.take (Int.toNat ((if 10 < (v0.length : Int) then 10 else (v0.length : Int))))).length : Int) - (y1.2.1.length : Int)) + 4 ≤ (9223372036854775807 : Int)) (ck ((-9223372036854775808 : Int) ≤ ((((v0.take (Int.toNat ((if 10 < (v0.length : Int) then 10 else (v0.length : Int))))).length : Int) - (y1.2.1.length : Int)) + 4) + y1.1 ∧ ((((v0.take (Int.toNat ((if 10 < (v0.length : Int) then 10 else (v0.length : Int))))).length : Int) - (y1.2.1.length : Int)) + 4) + y1.1 ≤ (9223372036854775807 : Int)) (some ((((v0.take (Int.toNat ((if 10 < (v0.length : Int) then 10 else (v0.length : Int))))).length : Int) - (y1.2.1.length : Int)) + 4, ((((v0.take (Int.toNat ((if 10 < (v0.length : Int) then 10 else (v0.length : Int))))).length : Int) - (y1.2.1.length : Int)) + 4) + y1.1, 0))))))))))))))))))))))
def f_frame_copied (v0b : List UInt8) (v1from : Int) (v2to : Int) : Option (List UInt8) :=
  ck ((-9223372036854775808 : Int) ≤ v2to - v1from ∧ v2to - v1from ≤ (9223372036854775807 : Int)) (ck ((0 : Int) ≤ (v2to - v1from) ∧ (v2to - v1from) ≤ (v2to - v1from) ∧ (v2to - v1from) ≤ (1000000000 : Int)) (ck ((0 : Int) ≤ v1from ∧ v1from ≤ v2to ∧ v2to ≤ v2to ∧ v2to ≤ (v0b.length : Int)) (some (((v0b.take (Int.toNat (v2to))).drop (Int.toNat (v1from))).take (min ((v0b.take (Int.toNat (v2to))).drop (Int.toNat (v1from))).length (List.replicate (Int.toNat (v2to - v1from)) 0 : List UInt8).length) ++ (List.replicate (Int.toNat (v2to - v1from)) 0 : List UInt8).drop (min ((v0b.take (Int.toNat (v2to))).drop (Int.toNat (v1from))).length (List.replicate (Int.toNat (v2to - v1from)) 0 : List UInt8).length)))))
def f_frame_Unwrap (v0b : List UInt8) : Option ((List UInt8) × (List UInt8) × Int) :=
  (f_frame_locate v0b).bind fun y1 => if (y1.2.2 != 0) = true then some (([] : List UInt8), ([] : List UInt8), y1.2.2) else (f_frame_copied v0b y1.1 y1.2.1).bind fun y2 => (f_frame_copied v0b y1.2.1 (v0b.length : Int)).bind fun y3 => some (y2, y3, 0)
def g_batch_numbers_j1 (v0bj1 : List UInt8) (o1c0j1 : Int) (o1c1j1 : Int) (o1c2j1 : Int) (o1c3j1 : Int) : Option (Int × Head) :=
  if (decide ((v0bj1.length : Int) > 0)) = true then some (3, (⟨o1c0j1, o1c1j1, o1c2j1, o1c3j1⟩ : Head)) else some (0, (⟨o1c0j1, o1c1j1, o1c2j1, o1c3j1⟩ : Head))
def g_batch_numbers (v0b : List UInt8) (o1c0p : Head) : Option (Int × Head) :=
  (f_codec_Number v0b).bind fun y1 => if (y1.2.2 != 0) = true then some (y1.2.2, o1c0p) else (f_codec_Number y1.2.1).bind fun y2 => if (y2.2.2 != 0) = true then some (y2.2.2, (⟨y1.1, o1c0p.number, o1c0p.format, o1c0p.count⟩ : Head)) else (f_codec_Number y2.2.1).bind fun y3 => if (y3.2.2 != 0) = true then some (y3.2.2, (⟨y1.1, y2.1, o1c0p.format, o1c0p.count⟩ : Head)) else (f_codec_Number y3.2.1).bind fun y4 => if (y4.2.2 != 0) = true then some (y4.2.2, (⟨y1.1, y2.1, y3.1, o1c0p.count⟩ : Head)) else g_batch_numbers_j1 y4.2.1 y1.1 y2.1 y3.1 y4.1
def f_batch_first (v0data : List UInt8) : Option (Head × (List UInt8) × Int) :=
  (f_frame_Unwrap v0data).bind fun y1 => if (y1.2.2 != 0) = true then some ((⟨0, 0, 0, 0⟩ : Head), ([] : List UInt8), y1.2.2) else (g_batch_numbers y1.1 (⟨0, 0, 0, 0⟩ : Head)).bind fun y2 => if (y2.1 != 0) = true then some ((⟨0, 0, 0, 0⟩ : Head), ([] : List UInt8), y2.1) else (f_batch_checkHead y2.2).bind fun y3 => if (y3 != 0) = true then some ((⟨0, 0, 0, 0⟩ : Head), ([] : List UInt8), y3) else some (y2.2, y1.2.1, 0)
def f_batch_Head (v0data : List UInt8) : Option (Head × Int) :=
  (f_batch_first v0data).bind fun y1 => some (y1.1, y1.2.2)
def f_billinglaw12_awake : Option Bool :=
  (f_batch_Totals ([(⟨6, 1, 1, ([49] : List UInt8), ([50] : List UInt8), 0, 90, 0, 0, false, 0, false⟩ : Record), (⟨0, 0, 2, ([] : List UInt8), ([] : List UInt8), 0, 1, 0, 0, false, 0, false⟩ : Record)] : List Record)).bind fun y1 => (f_batch_Write (⟨1, 1, 1, ([] : List Record)⟩ : Batch)).bind fun y2 => (f_batch_Head y2.1).bind fun y3 => (gcall (((((((y1.count == 2) && ((nth y1.units 1) == 90)) && ((nth y1.units 2) == 1)) && (y2.2 == 0)) && ((y2.1.length : Int) == 24)) && (y3.2 == 0)) && (eqVs (Head.vals y3.1) (Head.vals (⟨1, 1, 1, 0⟩ : Head)))) (f_batch_Check (⟨5, 1, 1, ([(⟨6, 1, 1, ([49] : List UInt8), ([50] : List UInt8), 0, 90, 0, 0, false, 0, false⟩ : Record)] : List Record)⟩ : Batch))).bind fun y4 => some ((((((((y1.count == 2) && ((nth y1.units 1) == 90)) && ((nth y1.units 2) == 1)) && (y2.2 == 0)) && ((y2.1.length : Int) == 24)) && (y3.2 == 0)) && (eqVs (Head.vals y3.1) (Head.vals (⟨1, 1, 1, 0⟩ : Head)))) && (y4 == 8))
def f_billingref12_Totals_l1 (v0records : List Record) (v4il1 : Int) (o1c1l1 : Int) (o1c2l1 : Int) (o1c3l1 : Int) (o1c4l1 : Int) (o1c5l1 : Int) : Option ((Int × Int × Int × Int × Int × Int) ⊕ Totals) :=
  if (decide (v4il1 < (v0records.length : Int))) = true then (ck ((0 : Int) ≤ v4il1 ∧ v4il1 < (v0records.length : Int)) (if ((((decide (((nth v0records (Int.toNat (v4il1))).kind) ≥ 1)) && (decide (((nth v0records (Int.toNat (v4il1))).kind) < 5))) && (decide (((nth v0records (Int.toNat (v4il1))).units) ≥ 0))) && (decide (((nth v0records (Int.toNat (v4il1))).units) ≤ 1099511627776))) = true then (ck ((0 : Int) ≤ ((nth v0records (Int.toNat (v4il1))).kind) ∧ ((nth v0records (Int.toNat (v4il1))).kind) < (5 : Int)) (ck (Int.toNat ((nth v0records (Int.toNat (v4il1))).kind) < 5) (ck ((-9223372036854775808 : Int) ≤ (nth ([o1c1l1, o1c2l1, o1c3l1, o1c4l1, o1c5l1] : List Int) (Int.toNat ((nth v0records (Int.toNat (v4il1))).kind))) + ((nth v0records (Int.toNat (v4il1))).units) ∧ (nth ([o1c1l1, o1c2l1, o1c3l1, o1c4l1, o1c5l1] : List Int) (Int.toNat ((nth v0records (Int.toNat (v4il1))).kind))) + ((nth v0records (Int.toNat (v4il1))).units) ≤ (9223372036854775807 : Int)) (ck ((0 : Int) ≤ ((nth v0records (Int.toNat (v4il1))).kind) ∧ ((nth v0records (Int.toNat (v4il1))).kind) < (5 : Int)) (ck (Int.toNat ((nth v0records (Int.toNat (v4il1))).kind) < 5) (ck ((-9223372036854775808 : Int) ≤ v4il1 + 1 ∧ v4il1 + 1 ≤ (9223372036854775807 : Int)) (some (.inl (v4il1 + 1, nth (setN ([o1c1l1, o1c2l1, o1c3l1, o1c4l1, o1c5l1] : List Int) 5 (Int.toNat ((nth v0records (Int.toNat (v4il1))).kind)) ((nth ([o1c1l1, o1c2l1, o1c3l1, o1c4l1, o1c5l1] : List Int) (Int.toNat ((nth v0records (Int.toNat (v4il1))).kind))) + ((nth v0records (Int.toNat (v4il1))).units))) 0, nth (setN ([o1c1l1, o1c2l1, o1c3l1, o1c4l1, o1c5l1] : List Int) 5 (Int.toNat ((nth v0records (Int.toNat (v4il1))).kind)) ((nth ([o1c1l1, o1c2l1, o1c3l1, o1c4l1, o1c5l1] : List Int) (Int.toNat ((nth v0records (Int.toNat (v4il1))).kind))) + ((nth v0records (Int.toNat (v4il1))).units))) 1, nth (setN ([o1c1l1, o1c2l1, o1c3l1, o1c4l1, o1c5l1] : List Int) 5 (Int.toNat ((nth v0records (Int.toNat (v4il1))).kind)) ((nth ([o1c1l1, o1c2l1, o1c3l1, o1c4l1, o1c5l1] : List Int) (Int.toNat ((nth v0records (Int.toNat (v4il1))).kind))) + ((nth v0records (Int.toNat (v4il1))).units))) 2, nth (setN ([o1c1l1, o1c2l1, o1c3l1, o1c4l1, o1c5l1] : List Int) 5 (Int.toNat ((nth v0records (Int.toNat (v4il1))).kind)) ((nth ([o1c1l1, o1c2l1, o1c3l1, o1c4l1, o1c5l1] : List Int) (Int.toNat ((nth v0records (Int.toNat (v4il1))).kind))) + ((nth v0records (Int.toNat (v4il1))).units))) 3, nth (setN ([o1c1l1, o1c2l1, o1c3l1, o1c4l1, o1c5l1] : List Int) 5 (Int.toNat ((nth v0records (Int.toNat (v4il1))).kind)) ((nth ([o1c1l1, o1c2l1, o1c3l1, o1c4l1, o1c5l1] : List Int) (Int.toNat ((nth v0records (Int.toNat (v4il1))).kind))) + ((nth v0records (Int.toNat (v4il1))).units))) 4))))))))) else ck ((-9223372036854775808 : Int) ≤ v4il1 + 1 ∧ v4il1 + 1 ≤ (9223372036854775807 : Int)) (some (.inl (v4il1 + 1, o1c1l1, o1c2l1, o1c3l1, o1c4l1, o1c5l1))))) else some (.inr (⟨(v0records.length : Int), ([o1c1l1, o1c2l1, o1c3l1, o1c4l1, o1c5l1] : List Int)⟩ : Totals))
def f_billingref12_Totals (v0records : List Record) : Option Totals :=
  loop (fun s => f_billingref12_Totals_l1 v0records s.1 s.2.1 s.2.2.1 s.2.2.2.1 s.2.2.2.2.1 s.2.2.2.2.2) (0, 0, 0, 0, 0, 0)
def f_billinglaw12_BatchTotals_l1 (y4 : Totals) (y5 : Totals) (y6 : Totals) (v8kl1 : Int) : Option ((Int) ⊕ Bool) :=
  if (decide (v8kl1 < 5)) = true then (ck ((0 : Int) ≤ v8kl1 ∧ v8kl1 < (5 : Int)) (ck (Int.toNat (v8kl1) < 5) (ck ((0 : Int) ≤ v8kl1 ∧ v8kl1 < (5 : Int)) (ck (Int.toNat (v8kl1) < 5) (ck ((0 : Int) ≤ v8kl1 ∧ v8kl1 < (5 : Int)) (ck (Int.toNat (v8kl1) < 5) (ck ((-9223372036854775808 : Int) ≤ (nth y4.units (Int.toNat (v8kl1))) + (nth y5.units (Int.toNat (v8kl1))) ∧ (nth y4.units (Int.toNat (v8kl1))) + (nth y5.units (Int.toNat (v8kl1))) ≤ (9223372036854775807 : Int)) (if ((nth y6.units (Int.toNat (v8kl1))) != ((nth y4.units (Int.toNat (v8kl1))) + (nth y5.units (Int.toNat (v8kl1))))) = true then some (.inr false) else ck ((-9223372036854775808 : Int) ≤ v8kl1 + 1 ∧ v8kl1 + 1 ≤ (9223372036854775807 : Int)) (some (.inl (v8kl1 + 1))))))))))) else (f_billinglaw12_awake).bind fun y8 => some (.inr y8)
def f_billinglaw12_BatchTotals (v0a : List Record) (v1b : List Record) : Option Bool :=
  (f_billinglaw12_few v0a).bind fun y1 => (gcall (!(!y1)) (f_billinglaw12_few v1b)).bind fun y2 => if ((!y1) || (!y2)) = true then ((f_billinglaw12_awake).bind fun y3 => some y3) else (f_batch_Totals v0a).bind fun y4 => (f_batch_Totals v1b).bind fun y5 => ck (([] : List Record).length + v0a.length ≤ 1000000000) (ck ((([] : List Record) ++ v0a).length + v1b.length ≤ 1000000000) ((f_batch_Totals ((([] : List Record) ++ v0a) ++ v1b)).bind fun y6 => (f_billingref12_Totals v0a).bind fun y7 => ck ((!(!(eqVs (Totals.vals y4) (Totals.vals y7)))) = true → ((-9223372036854775808 : Int) ≤ y4.count + y5.count ∧ y4.count + y5.count ≤ (9223372036854775807 : Int))) (if ((!(eqVs (Totals.vals y4) (Totals.vals y7))) || (y6.count != (y4.count + y5.count))) = true then some false else loop (fun s => f_billinglaw12_BatchTotals_l1 y4 y5 y6 s) 0)))
def f_billingref12_head (v0source : Int) (v1number : Int) (v2format : Int) : Option Int :=
  if ((((decide (v0source < 1)) || (decide (v0source > 99))) || (decide (v1number < 1))) || (decide (v1number > 999999999))) = true then some 6 else if ((decide (v2format < 1)) || (decide (v2format ≥ 4))) = true then some 7 else some 0
def f_billingref09_in (v0n : Int) (v1low : Int) (v2high : Int) : Option Bool :=
  some ((decide (v0n ≥ v1low)) && (decide (v0n ≤ v2high)))
def f_billingref02_Valid_j1 (v0s : List UInt8) : Option Bool :=
  some ((decide ((v0s.length : Int) ≥ 1)) && (decide ((v0s.length : Int) ≤ 15)))
def f_billingref02_Valid_l1 (v0s : List UInt8) (v3il1 : Int) : Option ((Int) ⊕ Bool) :=
  if (decide (v3il1 < (v0s.length : Int))) = true then (ck ((0 : Int) ≤ v3il1 ∧ v3il1 < (v0s.length : Int)) (ck ((!(decide ((nth v0s (Int.toNat (v3il1))) < 48))) = true → ((0 : Int) ≤ v3il1 ∧ v3il1 < (v0s.length : Int))) (if ((decide ((nth v0s (Int.toNat (v3il1))) < 48)) || (decide ((nth v0s (Int.toNat (v3il1))) > 57))) = true then some (.inr false) else ck ((-9223372036854775808 : Int) ≤ v3il1 + 1 ∧ v3il1 + 1 ≤ (9223372036854775807 : Int)) (some (.inl (v3il1 + 1)))))) else (f_billingref02_Valid_j1 v0s).map (fun z => .inr z)
def f_billingref02_Valid (v0s : List UInt8) : Option Bool :=
  loop (fun s => f_billingref02_Valid_l1 v0s s) 0
def f_billingref09_Error (v0 : Record) : Option Int :=
  (f_billingref09_in v0.source 1 99).bind fun y1 => (gcall (!(!y1)) (f_billingref09_in v0.serial 1 999999999)).bind fun y2 => if ((!y1) || (!y2)) = true then some 6 else (f_billingref09_in v0.kind 1 4).bind fun y3 => if (!y3) = true then some 7 else (f_billingref02_Valid v0.a).bind fun y4 => if (!y4) = true then some 12 else (f_billingref02_Valid v0.b).bind fun y5 => if ((!y5) && ((v0.b != ([] : List UInt8)) || ((v0.kind != 3) && (v0.kind != 4)))) = true then some 12 else (f_billingref09_in v0.start 0 12622780799).bind fun y6 => if (!y6) = true then some 15 else (f_billingref09_in v0.units 0 1099511627776).bind fun y7 => if ((!y7) || ((v0.kind == 1) && (decide (v0.units > 604800)))) = true then some 6 else ck ((v0.kind == 1) = true → ((-9223372036854775808 : Int) ≤ v0.start + v0.units ∧ v0.start + v0.units ≤ (9223372036854775807 : Int))) (if ((v0.kind == 1) && (decide ((v0.start + v0.units) > 12622780800))) = true then some 15 else (f_billingref09_in v0.call 0 999999999).bind fun y8 => (gcall (!(!y8)) (f_billingref09_in v0.part 0 99)).bind fun y9 => if ((!y8) || (!y9)) = true then some 6 else if (((v0.part == 0) != (v0.call == 0)) || (v0.last && (v0.part == 0))) = true then some 8 else (f_billingref09_in v0.trunk 0 999).bind fun y10 => if (!y10) = true then some 6 else if (v0.inbound && (v0.trunk == 0)) = true then some 8 else some 0)
def f_billingref12_Check_l1 (v0b : Batch) (v4il1 : Int) : Option ((Int) ⊕ Int) :=
  if (decide (v4il1 < (v0b.records.length : Int))) = true then (ck ((0 : Int) ≤ v4il1 ∧ v4il1 < (v0b.records.length : Int)) ((f_billingref09_Error (nth v0b.records (Int.toNat (v4il1)))).bind fun y2 => if (y2 != 0) = true then some (.inr y2) else ck ((0 : Int) ≤ v4il1 ∧ v4il1 < (v0b.records.length : Int)) (if (((nth v0b.records (Int.toNat (v4il1))).source) != v0b.source) = true then some (.inr 8) else ck ((-9223372036854775808 : Int) ≤ v4il1 + 1 ∧ v4il1 + 1 ≤ (9223372036854775807 : Int)) (some (.inl (v4il1 + 1)))))) else some (.inr 0)
def f_billingref12_Check (v0b : Batch) : Option Int :=
  (f_billingref12_head v0b.source v0b.number v0b.format).bind fun y1 => if (y1 != 0) = true then some y1 else if (decide ((v0b.records.length : Int) > 4096)) = true then some 5 else loop (fun s => f_billingref12_Check_l1 v0b s) 0
def f_billinglaw12_BatchLengths_j1 (v0b : Batch) (y0tj1 : List Record) : Option Bool :=
  (f_batch_Check (⟨v0b.source, v0b.number, v0b.format, y0tj1⟩ : Batch)).bind fun y2 => (f_billingref12_Check (⟨v0b.source, v0b.number, v0b.format, y0tj1⟩ : Batch)).bind fun y3 => (gcall (y2 == y3) (f_billinglaw12_awake)).bind fun y4 => some ((y2 == y3) && y4)
def f_billinglaw12_BatchLengths_l1 (v0b : Batch) (v1r : Record) (y0tl1 : List Record) (v8il1 : Int) : Option ((List Record × Int) ⊕ Bool) :=
  if (decide (v8il1 < (y0tl1.length : Int))) = true then (ck ((0 : Int) ≤ v8il1 ∧ v8il1 < (y0tl1.length : Int)) (ck (Int.toNat (v8il1) < y0tl1.length) (ck ((-9223372036854775808 : Int) ≤ v8il1 + 1 ∧ v8il1 + 1 ≤ (9223372036854775807 : Int)) (some (.inl (y0tl1.set (Int.toNat (v8il1)) v1r, v8il1 + 1)))))) else (f_billinglaw12_BatchLengths_j1 v0b y0tl1).map (fun z => .inr z)
def f_billinglaw12_BatchLengths (v0b : Batch) (v1r : Record) (v2more : Int) : Option Bool :=
  if (((((decide ((v0b.records.length : Int) > 0)) || (decide (v2more < (-2)))) || (decide (v2more > 2))) || (decide ((v1r.a.length : Int) > 20))) || (decide ((v1r.b.length : Int) > 20))) = true then ((f_billinglaw12_awake).bind fun y1 => some y1) else ck ((-9223372036854775808 : Int) ≤ 4096 + v2more ∧ 4096 + v2more ≤ (9223372036854775807 : Int)) (ck ((0 : Int) ≤ (4096 + v2more) ∧ (4096 + v2more) ≤ (4096 + v2more) ∧ (4096 + v2more) ≤ (1000000000 : Int)) (loop (fun s => f_billinglaw12_BatchLengths_l1 v0b v1r s.1 s.2) ((List.replicate (Int.toNat (4096 + v2more)) (⟨0, 0, 0, ([] : List UInt8), ([] : List UInt8), 0, 0, 0, 0, false, 0, false⟩ : Record) : List Record), 0)))
def f_billingref09_Number_l1 (v0nl1 : Int) (v3sl1 : List UInt8) : Option ((Int × List UInt8) ⊕ (List UInt8)) :=
  if (decide (v0nl1 > 0)) = true then (ck (10 ≠ (0 : Int)) (ck ((-9223372036854775808 : Int) ≤ 48 + (Int.tmod v0nl1 10) ∧ 48 + (Int.tmod v0nl1 10) ≤ (9223372036854775807 : Int)) (ck (([UInt8.ofInt (48 + (Int.tmod v0nl1 10))] : List UInt8).length + v3sl1.length ≤ 9223372036854775807) (ck (10 ≠ (0 : Int) ∧ (-9223372036854775808 : Int) ≤ Int.tdiv v0nl1 10 ∧ Int.tdiv v0nl1 10 ≤ (9223372036854775807 : Int)) (some (.inl (Int.tdiv v0nl1 10, ([UInt8.ofInt (48 + (Int.tmod v0nl1 10))] : List UInt8) ++ v3sl1))))))) else some (.inr v3sl1)
def f_billingref09_Number (v0n : Int) : Option (List UInt8) :=
  ck (10 ≠ (0 : Int)) (ck ((-9223372036854775808 : Int) ≤ 48 + (Int.tmod v0n 10) ∧ 48 + (Int.tmod v0n 10) ≤ (9223372036854775807 : Int)) (ck (10 ≠ (0 : Int) ∧ (-9223372036854775808 : Int) ≤ Int.tdiv v0n 10 ∧ Int.tdiv v0n 10 ≤ (9223372036854775807 : Int)) (loop (fun s => f_billingref09_Number_l1 s.1 s.2) (Int.tdiv v0n 10, ([UInt8.ofInt (48 + (Int.tmod v0n 10))] : List UInt8)))))
def f_billingref09_Encode_j4 (v0 : Record) (v7j4 : List UInt8) : Option ((List UInt8) × Int) :=
  if ((decide (v0.trunk > 0)) && (!v0.inbound)) = true then (ck (v7j4.length + ([32, 111, 117, 116, 32] : List UInt8).length ≤ 9223372036854775807) ((f_billingref09_Number v0.trunk).bind fun y6 => ck ((v7j4 ++ ([32, 111, 117, 116, 32] : List UInt8)).length + y6.length ≤ 9223372036854775807) (some ((v7j4 ++ ([32, 111, 117, 116, 32] : List UInt8)) ++ y6, 0)))) else some (v7j4, 0)
def f_billingref09_Encode_j3 (v0 : Record) (v7j3 : List UInt8) : Option ((List UInt8) × Int) :=
  if ((decide (v0.trunk > 0)) && v0.inbound) = true then (ck (v7j3.length + ([32, 105, 110, 32] : List UInt8).length ≤ 9223372036854775807) ((f_billingref09_Number v0.trunk).bind fun y7 => ck ((v7j3 ++ ([32, 105, 110, 32] : List UInt8)).length + y7.length ≤ 9223372036854775807) (f_billingref09_Encode_j4 v0 ((v7j3 ++ ([32, 105, 110, 32] : List UInt8)) ++ y7)))) else f_billingref09_Encode_j4 v0 v7j3
def f_billingref09_Encode_j2 (v0 : Record) (v7j2 : List UInt8) : Option ((List UInt8) × Int) :=
  if v0.last = true then (ck (v7j2.length + ([32, 108, 97, 115, 116] : List UInt8).length ≤ 9223372036854775807) (f_billingref09_Encode_j3 v0 (v7j2 ++ ([32, 108, 97, 115, 116] : List UInt8)))) else f_billingref09_Encode_j3 v0 v7j2
def f_billingref09_Encode_j1 (v0 : Record) (v6j1 : List UInt8) : Option ((List UInt8) × Int) :=
  ck ((-9223372036854775808 : Int) ≤ v0.kind - 1 ∧ v0.kind - 1 ≤ (9223372036854775807 : Int)) (ck ((0 : Int) ≤ v0.kind - 1 ∧ v0.kind - 1 ≤ v0.kind ∧ v0.kind ≤ (([118, 116, 100, 99] : List UInt8).length : Int)) (ck (((([118, 116, 100, 99] : List UInt8).take (Int.toNat (v0.kind))).drop (Int.toNat (v0.kind - 1))).length + ([32] : List UInt8).length ≤ 9223372036854775807) ((f_billingref09_Number v0.source).bind fun y2 => ck ((((([118, 116, 100, 99] : List UInt8).take (Int.toNat (v0.kind))).drop (Int.toNat (v0.kind - 1))) ++ ([32] : List UInt8)).length + y2.length ≤ 9223372036854775807) (ck (((((([118, 116, 100, 99] : List UInt8).take (Int.toNat (v0.kind))).drop (Int.toNat (v0.kind - 1))) ++ ([32] : List UInt8)) ++ y2).length + ([32] : List UInt8).length ≤ 9223372036854775807) ((f_billingref09_Number v0.serial).bind fun y3 => ck ((((((([118, 116, 100, 99] : List UInt8).take (Int.toNat (v0.kind))).drop (Int.toNat (v0.kind - 1))) ++ ([32] : List UInt8)) ++ y2) ++ ([32] : List UInt8)).length + y3.length ≤ 9223372036854775807) (ck (((((((([118, 116, 100, 99] : List UInt8).take (Int.toNat (v0.kind))).drop (Int.toNat (v0.kind - 1))) ++ ([32] : List UInt8)) ++ y2) ++ ([32] : List UInt8)) ++ y3).length + ([32] : List UInt8).length ≤ 9223372036854775807) (ck ((((((((([118, 116, 100, 99] : List UInt8).take (Int.toNat (v0.kind))).drop (Int.toNat (v0.kind - 1))) ++ ([32] : List UInt8)) ++ y2) ++ ([32] : List UInt8)) ++ y3) ++ ([32] : List UInt8)).length + v0.a.length ≤ 9223372036854775807) (ck (((((((((([118, 116, 100, 99] : List UInt8).take (Int.toNat (v0.kind))).drop (Int.toNat (v0.kind - 1))) ++ ([32] : List UInt8)) ++ y2) ++ ([32] : List UInt8)) ++ y3) ++ ([32] : List UInt8)) ++ v0.a).length + ([32] : List UInt8).length ≤ 9223372036854775807) (ck ((((((((((([118, 116, 100, 99] : List UInt8).take (Int.toNat (v0.kind))).drop (Int.toNat (v0.kind - 1))) ++ ([32] : List UInt8)) ++ y2) ++ ([32] : List UInt8)) ++ y3) ++ ([32] : List UInt8)) ++ v0.a) ++ ([32] : List UInt8)).length + v6j1.length ≤ 9223372036854775807) (ck (((((((((((([118, 116, 100, 99] : List UInt8).take (Int.toNat (v0.kind))).drop (Int.toNat (v0.kind - 1))) ++ ([32] : List UInt8)) ++ y2) ++ ([32] : List UInt8)) ++ y3) ++ ([32] : List UInt8)) ++ v0.a) ++ ([32] : List UInt8)) ++ v6j1).length + ([32] : List UInt8).length ≤ 9223372036854775807) ((f_billingref09_Number v0.start).bind fun y4 => ck ((((((((((((([118, 116, 100, 99] : List UInt8).take (Int.toNat (v0.kind))).drop (Int.toNat (v0.kind - 1))) ++ ([32] : List UInt8)) ++ y2) ++ ([32] : List UInt8)) ++ y3) ++ ([32] : List UInt8)) ++ v0.a) ++ ([32] : List UInt8)) ++ v6j1) ++ ([32] : List UInt8)).length + y4.length ≤ 9223372036854775807) (ck (((((((((((((([118, 116, 100, 99] : List UInt8).take (Int.toNat (v0.kind))).drop (Int.toNat (v0.kind - 1))) ++ ([32] : List UInt8)) ++ y2) ++ ([32] : List UInt8)) ++ y3) ++ ([32] : List UInt8)) ++ v0.a) ++ ([32] : List UInt8)) ++ v6j1) ++ ([32] : List UInt8)) ++ y4).length + ([32] : List UInt8).length ≤ 9223372036854775807) ((f_billingref09_Number v0.units).bind fun y5 => ck ((((((((((((((([118, 116, 100, 99] : List UInt8).take (Int.toNat (v0.kind))).drop (Int.toNat (v0.kind - 1))) ++ ([32] : List UInt8)) ++ y2) ++ ([32] : List UInt8)) ++ y3) ++ ([32] : List UInt8)) ++ v0.a) ++ ([32] : List UInt8)) ++ v6j1) ++ ([32] : List UInt8)) ++ y4) ++ ([32] : List UInt8)).length + y5.length ≤ 9223372036854775807) (if (decide (v0.part > 0)) = true then (ck (((((((((((((((([118, 116, 100, 99] : List UInt8).take (Int.toNat (v0.kind))).drop (Int.toNat (v0.kind - 1))) ++ ([32] : List UInt8)) ++ y2) ++ ([32] : List UInt8)) ++ y3) ++ ([32] : List UInt8)) ++ v0.a) ++ ([32] : List UInt8)) ++ v6j1) ++ ([32] : List UInt8)) ++ y4) ++ ([32] : List UInt8)) ++ y5).length + ([32, 112, 97, 114, 116, 32] : List UInt8).length ≤ 9223372036854775807) ((f_billingref09_Number v0.call).bind fun y8 => ck ((((((((((((((((([118, 116, 100, 99] : List UInt8).take (Int.toNat (v0.kind))).drop (Int.toNat (v0.kind - 1))) ++ ([32] : List UInt8)) ++ y2) ++ ([32] : List UInt8)) ++ y3) ++ ([32] : List UInt8)) ++ v0.a) ++ ([32] : List UInt8)) ++ v6j1) ++ ([32] : List UInt8)) ++ y4) ++ ([32] : List UInt8)) ++ y5) ++ ([32, 112, 97, 114, 116, 32] : List UInt8)).length + y8.length ≤ 9223372036854775807) (ck (((((((((((((((((([118, 116, 100, 99] : List UInt8).take (Int.toNat (v0.kind))).drop (Int.toNat (v0.kind - 1))) ++ ([32] : List UInt8)) ++ y2) ++ ([32] : List UInt8)) ++ y3) ++ ([32] : List UInt8)) ++ v0.a) ++ ([32] : List UInt8)) ++ v6j1) ++ ([32] : List UInt8)) ++ y4) ++ ([32] : List UInt8)) ++ y5) ++ ([32, 112, 97, 114, 116, 32] : List UInt8)) ++ y8).length + ([32] : List UInt8).length ≤ 9223372036854775807) ((f_billingref09_Number v0.part).bind fun y9 => ck ((((((((((((((((((([118, 116, 100, 99] : List UInt8).take (Int.toNat (v0.kind))).drop (Int.toNat (v0.kind - 1))) ++ ([32] : List UInt8)) ++ y2) ++ ([32] : List UInt8)) ++ y3) ++ ([32] : List UInt8)) ++ v0.a) ++ ([32] : List UInt8)) ++ v6j1) ++ ([32] : List UInt8)) ++ y4) ++ ([32] : List UInt8)) ++ y5) ++ ([32, 112, 97, 114, 116, 32] : List UInt8)) ++ y8) ++ ([32] : List UInt8)).length + y9.length ≤ 9223372036854775807) (f_billingref09_Encode_j2 v0 ((((((((((((((((((([118, 116, 100, 99] : List UInt8).take (Int.toNat (v0.kind))).drop (Int.toNat (v0.kind - 1))) ++ ([32] : List UInt8)) ++ y2) ++ ([32] : List UInt8)) ++ y3) ++ ([32] : List UInt8)) ++ v0.a) ++ ([32] : List UInt8)) ++ v6j1) ++ ([32] : List UInt8)) ++ y4) ++ ([32] : List UInt8)) ++ y5) ++ ([32, 112, 97, 114, 116, 32] : List UInt8)) ++ y8) ++ ([32] : List UInt8)) ++ y9)))))) else f_billingref09_Encode_j2 v0 ((((((((((((((([118, 116, 100, 99] : List UInt8).take (Int.toNat (v0.kind))).drop (Int.toNat (v0.kind - 1))) ++ ([32] : List UInt8)) ++ y2) ++ ([32] : List UInt8)) ++ y3) ++ ([32] : List UInt8)) ++ v0.a) ++ ([32] : List UInt8)) ++ v6j1) ++ ([32] : List UInt8)) ++ y4) ++ ([32] : List UInt8)) ++ y5)))))))))))))))
def f_billingref09_Encode (v0 : Record) : Option ((List UInt8) × Int) :=
  (f_billingref09_Error v0).bind fun y1 => if (y1 != 0) = true then some (([] : List UInt8), y1) else if (v0.b == ([] : List UInt8)) = true then (f_billingref09_Encode_j1 v0 ([45] : List UInt8)) else f_billingref09_Encode_j1 v0 v0.b
def f_billingref02_Pack_j1 (v0s : List UInt8) (v4outl1 : List UInt8) (v5il1 : Int) (v6lowj1 : UInt8) : Option ((List UInt8 × Int) ⊕ ((List UInt8) × Int)) :=
  ck ((0 : Int) ≤ v5il1 ∧ v5il1 < (v0s.length : Int)) (ck ((0 : Int) ≤ 4) (ck (v4outl1.length + ([(u8shl ((nth v0s (Int.toNat (v5il1))) - 48) 4) ||| v6lowj1] : List UInt8).length ≤ 1000000000) (ck ((-9223372036854775808 : Int) ≤ v5il1 + 2 ∧ v5il1 + 2 ≤ (9223372036854775807 : Int)) (some (.inl (v4outl1 ++ ([(u8shl ((nth v0s (Int.toNat (v5il1))) - 48) 4) ||| v6lowj1] : List UInt8), v5il1 + 2))))))
def f_billingref02_Pack_l1 (v0s : List UInt8) (v4outl1 : List UInt8) (v5il1 : Int) : Option ((List UInt8 × Int) ⊕ ((List UInt8) × Int)) :=
  if (decide (v5il1 < (v0s.length : Int))) = true then (ck ((-9223372036854775808 : Int) ≤ v5il1 + 1 ∧ v5il1 + 1 ≤ (9223372036854775807 : Int)) (if (decide ((v5il1 + 1) < (v0s.length : Int))) = true then (ck ((-9223372036854775808 : Int) ≤ v5il1 + 1 ∧ v5il1 + 1 ≤ (9223372036854775807 : Int)) (ck ((0 : Int) ≤ (v5il1 + 1) ∧ (v5il1 + 1) < (v0s.length : Int)) (f_billingref02_Pack_j1 v0s v4outl1 v5il1 ((nth v0s (Int.toNat (v5il1 + 1))) - 48)))) else f_billingref02_Pack_j1 v0s v4outl1 v5il1 15)) else some (.inr (v4outl1, 0))
def f_billingref02_Pack (v0s : List UInt8) : Option ((List UInt8) × Int) :=
  (f_billingref02_Valid v0s).bind fun y1 => if (!y1) = true then some (([] : List UInt8), 12) else loop (fun s => f_billingref02_Pack_l1 v0s s.1 s.2) (([] : List UInt8), 0)
def f_billingref10_shortest_l1 (v0nl1 : Int) (v3outl1 : List UInt8) : Option ((Int × List UInt8) ⊕ (List UInt8)) :=
  if (decide (v0nl1 > 0)) = true then (ck (256 ≠ (0 : Int)) (ck (([UInt8.ofInt (Int.tmod v0nl1 256)] : List UInt8).length + v3outl1.length ≤ 1000000000) (ck (256 ≠ (0 : Int) ∧ (-9223372036854775808 : Int) ≤ Int.tdiv v0nl1 256 ∧ Int.tdiv v0nl1 256 ≤ (9223372036854775807 : Int)) (some (.inl (Int.tdiv v0nl1 256, ([UInt8.ofInt (Int.tmod v0nl1 256)] : List UInt8) ++ v3outl1)))))) else some (.inr v3outl1)
def f_billingref10_shortest (v0n : Int) : Option (List UInt8) :=
  loop (fun s => f_billingref10_shortest_l1 s.1 s.2) (v0n, [])
def f_billingref10_flags_j1 (v0r : Record) (v3nj1 : Int) : Option Int :=
  if v0r.inbound = true then (ck ((-9223372036854775808 : Int) ≤ v3nj1 + 2 ∧ v3nj1 + 2 ≤ (9223372036854775807 : Int)) (some (v3nj1 + 2))) else some v3nj1
def f_billingref10_flags (v0r : Record) : Option Int :=
  if v0r.last = true then (ck ((-9223372036854775808 : Int) ≤ 0 + 1 ∧ 0 + 1 ≤ (9223372036854775807 : Int)) (f_billingref10_flags_j1 v0r (0 + 1))) else f_billingref10_flags_j1 v0r 0
def f_billingref10_Build_l1 (v0list : List Element) (v4outl1 : List UInt8) (v5lastl1 : Int) (v6il1 : Int) : Option ((List UInt8 × Int × Int) ⊕ ((List UInt8) × Int)) :=
  if (decide (v6il1 < (v0list.length : Int))) = true then (ck ((0 : Int) ≤ v6il1 ∧ v6il1 < (v0list.length : Int)) (if ((decide (((nth v0list (Int.toNat (v6il1))).tag) < 1)) || (decide (((nth v0list (Int.toNat (v6il1))).tag) > 255))) = true then some (.inr (([] : List UInt8), 6)) else if (decide (((nth v0list (Int.toNat (v6il1))).tag) ≤ v5lastl1)) = true then some (.inr (([] : List UInt8), 9)) else if (decide ((((nth v0list (Int.toNat (v6il1))).value).length : Int) > 255)) = true then some (.inr (([] : List UInt8), 5)) else ck (v4outl1.length + ([UInt8.ofInt ((nth v0list (Int.toNat (v6il1))).tag), UInt8.ofInt (((nth v0list (Int.toNat (v6il1))).value).length : Int)] : List UInt8).length ≤ 1000000000) (ck ((v4outl1 ++ ([UInt8.ofInt ((nth v0list (Int.toNat (v6il1))).tag), UInt8.ofInt (((nth v0list (Int.toNat (v6il1))).value).length : Int)] : List UInt8)).length + ((nth v0list (Int.toNat (v6il1))).value).length ≤ 1000000000) (ck ((-9223372036854775808 : Int) ≤ v6il1 + 1 ∧ v6il1 + 1 ≤ (9223372036854775807 : Int)) (some (.inl ((v4outl1 ++ ([UInt8.ofInt ((nth v0list (Int.toNat (v6il1))).tag), UInt8.ofInt (((nth v0list (Int.toNat (v6il1))).value).length : Int)] : List UInt8)) ++ ((nth v0list (Int.toNat (v6il1))).value), (nth v0list (Int.toNat (v6il1))).tag, v6il1 + 1))))))) else some (.inr (v4outl1, 0))
def f_billingref10_Build (v0list : List Element) : Option ((List UInt8) × Int) :=
  loop (fun s => f_billingref10_Build_l1 v0list s.1 s.2.1 s.2.2) (([] : List UInt8), 0, 0)
def f_billingref10_Encode_j2 (v9j2 : List Element) : Option ((List UInt8) × Int) :=
  (f_billingref10_Build v9j2).bind fun y13 => ck (256 ≠ (0 : Int) ∧ (-9223372036854775808 : Int) ≤ Int.tdiv (y13.1.length : Int) 256 ∧ Int.tdiv (y13.1.length : Int) 256 ≤ (9223372036854775807 : Int)) (ck (256 ≠ (0 : Int)) (ck (([UInt8.ofInt (Int.tdiv (y13.1.length : Int) 256), UInt8.ofInt (Int.tmod (y13.1.length : Int) 256)] : List UInt8).length + y13.1.length ≤ 1000000000) (some (([UInt8.ofInt (Int.tdiv (y13.1.length : Int) 256), UInt8.ofInt (Int.tmod (y13.1.length : Int) 256)] : List UInt8) ++ y13.1, 0))))
def f_billingref10_Encode_l1 (y2 : (List UInt8) × Int) (v7j1 : List UInt8) (y3 : (List UInt8)) (y4 : (List UInt8)) (y5 : (List UInt8)) (y6 : (List UInt8)) (y7 : (List UInt8)) (y8 : (List UInt8)) (y9 : (List UInt8)) (y10 : (List UInt8)) (y12 : (List UInt8)) (v9l1 : List Element) (v10l1 : Int) : Option ((List Element × Int) ⊕ ((List UInt8) × Int)) :=
  if (decide (v10l1 < (([([] : List UInt8), y3, y4, y5, y2.1, v7j1, y6, y7, y8, y9, y10, y12] : List (List UInt8)).length : Int))) = true then (ck ((0 : Int) ≤ v10l1 ∧ v10l1 < (([([] : List UInt8), y3, y4, y5, y2.1, v7j1, y6, y7, y8, y9, y10, y12] : List (List UInt8)).length : Int)) (if (decide (((nth ([([] : List UInt8), y3, y4, y5, y2.1, v7j1, y6, y7, y8, y9, y10, y12] : List (List UInt8)) (Int.toNat (v10l1))).length : Int) > 0)) = true then (ck ((0 : Int) ≤ v10l1 ∧ v10l1 < (([([] : List UInt8), y3, y4, y5, y2.1, v7j1, y6, y7, y8, y9, y10, y12] : List (List UInt8)).length : Int)) (ck (v9l1.length + ([(⟨v10l1, nth ([([] : List UInt8), y3, y4, y5, y2.1, v7j1, y6, y7, y8, y9, y10, y12] : List (List UInt8)) (Int.toNat (v10l1))⟩ : Element)] : List Element).length ≤ 1000000000) (ck ((-9223372036854775808 : Int) ≤ v10l1 + 1 ∧ v10l1 + 1 ≤ (9223372036854775807 : Int)) (some (.inl (v9l1 ++ ([(⟨v10l1, nth ([([] : List UInt8), y3, y4, y5, y2.1, v7j1, y6, y7, y8, y9, y10, y12] : List (List UInt8)) (Int.toNat (v10l1))⟩ : Element)] : List Element), v10l1 + 1)))))) else ck ((-9223372036854775808 : Int) ≤ v10l1 + 1 ∧ v10l1 + 1 ≤ (9223372036854775807 : Int)) (some (.inl (v9l1, v10l1 + 1))))) else (f_billingref10_Encode_j2 v9l1).map (fun z => .inr z)
def f_billingref10_Encode_j1 (v0 : Record) (y2 : (List UInt8) × Int) (v7j1 : List UInt8) : Option ((List UInt8) × Int) :=
  (f_billingref10_shortest v0.kind).bind fun y3 => (f_billingref10_shortest v0.source).bind fun y4 => (f_billingref10_shortest v0.serial).bind fun y5 => (f_billingref10_shortest v0.start).bind fun y6 => (f_billingref10_shortest v0.units).bind fun y7 => (f_billingref10_shortest v0.call).bind fun y8 => (f_billingref10_shortest v0.part).bind fun y9 => (f_billingref10_shortest v0.trunk).bind fun y10 => (f_billingref10_flags v0).bind fun y11 => (f_billingref10_shortest y11).bind fun y12 => loop (fun s => f_billingref10_Encode_l1 y2 v7j1 y3 y4 y5 y6 y7 y8 y9 y10 y12 s.1 s.2) (([] : List Element), 1)
def f_billingref10_Encode (v0 : Record) : Option ((List UInt8) × Int) :=
  (f_billingref09_Error v0).bind fun y1 => if (y1 != 0) = true then some (([] : List UInt8), y1) else (f_billingref02_Pack v0.a).bind fun y2 => if (v0.b != ([] : List UInt8)) = true then ((f_billingref02_Pack v0.b).bind fun y14 => f_billingref10_Encode_j1 v0 y2 y14.1) else f_billingref10_Encode_j1 v0 y2 []
def f_billingref11_PutDecimal_j1 (v0b : List UInt8) (y0tj1 : List UInt8) (v1nj1 : Int) : Option ((List UInt8) × Int) :=
  if (decide (v1nj1 > 0)) = true then some (([] : List UInt8), 6) else ck (([] : List UInt8).length + v0b.length ≤ 1000000000) (ck ((([] : List UInt8) ++ v0b).length + y0tj1.length ≤ 1000000000) (some ((([] : List UInt8) ++ v0b) ++ y0tj1, 0)))
def f_billingref11_PutDecimal_l1 (v0b : List UInt8) (y0tl1 : List UInt8) (v1nl1 : Int) (v9il1 : Int) : Option ((List UInt8 × Int × Int) ⊕ ((List UInt8) × Int)) :=
  if (decide (v9il1 ≥ 0)) = true then (ck (10 ≠ (0 : Int) ∧ (-9223372036854775808 : Int) ≤ Int.tdiv v1nl1 10 ∧ Int.tdiv v1nl1 10 ≤ (9223372036854775807 : Int)) (ck (10 ≠ (0 : Int)) (ck ((-9223372036854775808 : Int) ≤ (Int.tmod (Int.tdiv v1nl1 10) 10) * 16 ∧ (Int.tmod (Int.tdiv v1nl1 10) 10) * 16 ≤ (9223372036854775807 : Int)) (ck (10 ≠ (0 : Int)) (ck ((-9223372036854775808 : Int) ≤ ((Int.tmod (Int.tdiv v1nl1 10) 10) * 16) + (Int.tmod v1nl1 10) ∧ ((Int.tmod (Int.tdiv v1nl1 10) 10) * 16) + (Int.tmod v1nl1 10) ≤ (9223372036854775807 : Int)) (ck ((0 : Int) ≤ v9il1 ∧ v9il1 < (y0tl1.length : Int)) (ck (Int.toNat (v9il1) < y0tl1.length) (ck (100 ≠ (0 : Int) ∧ (-9223372036854775808 : Int) ≤ Int.tdiv v1nl1 100 ∧ Int.tdiv v1nl1 100 ≤ (9223372036854775807 : Int)) (ck ((-9223372036854775808 : Int) ≤ v9il1 - 1 ∧ v9il1 - 1 ≤ (9223372036854775807 : Int)) (some (.inl (y0tl1.set (Int.toNat (v9il1)) (UInt8.ofInt (((Int.tmod (Int.tdiv v1nl1 10) 10) * 16) + (Int.tmod v1nl1 10))), Int.tdiv v1nl1 100, v9il1 - 1)))))))))))) else (f_billingref11_PutDecimal_j1 v0b y0tl1 v1nl1).map (fun z => .inr z)
def f_billingref11_PutDecimal (v0b : List UInt8) (v1n : Int) (v2size : Int) : Option ((List UInt8) × Int) :=
  if (((decide (v2size < 1)) || (decide (v2size > 9))) || (decide (v1n < 0))) = true then some (([] : List UInt8), 6) else ck ((0 : Int) ≤ v2size ∧ v2size ≤ v2size ∧ v2size ≤ (1000000000 : Int)) (ck ((-9223372036854775808 : Int) ≤ v2size - 1 ∧ v2size - 1 ≤ (9223372036854775807 : Int)) (loop (fun s => f_billingref11_PutDecimal_l1 v0b s.1 s.2.1 s.2.2) ((List.replicate (Int.toNat (v2size)) 0 : List UInt8), v1n, v2size - 1)))
def f_billingref11_digits_l1 (v0s : List UInt8) (y0tl1 : List UInt8) (v4il1 : Int) : Option ((List UInt8 × Int) ⊕ (List UInt8)) :=
  if (decide (v4il1 < (v0s.length : Int))) = true then (ck ((-9223372036854775808 : Int) ≤ v4il1 + 1 ∧ v4il1 + 1 ≤ (9223372036854775807 : Int)) (ck (2 ≠ (0 : Int)) (if ((Int.tmod (v4il1 + 1) 2) == 0) = true then (ck (2 ≠ (0 : Int) ∧ (-9223372036854775808 : Int) ≤ Int.tdiv (v4il1 + 1) 2 ∧ Int.tdiv (v4il1 + 1) 2 ≤ (9223372036854775807 : Int)) (ck (2 ≠ (0 : Int) ∧ (-9223372036854775808 : Int) ≤ Int.tdiv (v4il1 + 1) 2 ∧ Int.tdiv (v4il1 + 1) 2 ≤ (9223372036854775807 : Int)) (ck ((0 : Int) ≤ (Int.tdiv (v4il1 + 1) 2) ∧ (Int.tdiv (v4il1 + 1) 2) < (y0tl1.length : Int)) (ck (Int.toNat (Int.tdiv (v4il1 + 1) 2) < y0tl1.length) (ck ((0 : Int) ≤ v4il1 ∧ v4il1 < (v0s.length : Int)) (ck ((0 : Int) ≤ (Int.tdiv (v4il1 + 1) 2) ∧ (Int.tdiv (v4il1 + 1) 2) < (y0tl1.length : Int)) (ck (Int.toNat (Int.tdiv (v4il1 + 1) 2) < y0tl1.length) (ck ((-9223372036854775808 : Int) ≤ v4il1 + 1 ∧ v4il1 + 1 ≤ (9223372036854775807 : Int)) (some (.inl (y0tl1.set (Int.toNat (Int.tdiv (v4il1 + 1) 2)) ((nth y0tl1 (Int.toNat (Int.tdiv (v4il1 + 1) 2))) + (((nth v0s (Int.toNat (v4il1))) - 48) * 16)), v4il1 + 1))))))))))) else ck (2 ≠ (0 : Int) ∧ (-9223372036854775808 : Int) ≤ Int.tdiv (v4il1 + 1) 2 ∧ Int.tdiv (v4il1 + 1) 2 ≤ (9223372036854775807 : Int)) (ck (2 ≠ (0 : Int) ∧ (-9223372036854775808 : Int) ≤ Int.tdiv (v4il1 + 1) 2 ∧ Int.tdiv (v4il1 + 1) 2 ≤ (9223372036854775807 : Int)) (ck ((0 : Int) ≤ (Int.tdiv (v4il1 + 1) 2) ∧ (Int.tdiv (v4il1 + 1) 2) < (y0tl1.length : Int)) (ck (Int.toNat (Int.tdiv (v4il1 + 1) 2) < y0tl1.length) (ck ((0 : Int) ≤ v4il1 ∧ v4il1 < (v0s.length : Int)) (ck ((0 : Int) ≤ (Int.tdiv (v4il1 + 1) 2) ∧ (Int.tdiv (v4il1 + 1) 2) < (y0tl1.length : Int)) (ck (Int.toNat (Int.tdiv (v4il1 + 1) 2) < y0tl1.length) (ck ((-9223372036854775808 : Int) ≤ v4il1 + 1 ∧ v4il1 + 1 ≤ (9223372036854775807 : Int)) (some (.inl (y0tl1.set (Int.toNat (Int.tdiv (v4il1 + 1) 2)) ((nth y0tl1 (Int.toNat (Int.tdiv (v4il1 + 1) 2))) + ((nth v0s (Int.toNat (v4il1))) - 48)), v4il1 + 1))))))))))))) else some (.inr y0tl1)
def f_billingref11_digits (v0s : List UInt8) : Option (List UInt8) :=
  ck ((0 : Int) ≤ 8 ∧ (8 : Int) ≤ 8 ∧ 8 ≤ (1000000000 : Int)) (ck ((-9223372036854775808 : Int) ≤ (v0s.length : Int) * 16 ∧ (v0s.length : Int) * 16 ≤ (9223372036854775807 : Int)) (ck ((0 : Int) ≤ 0 ∧ 0 < ((List.replicate (Int.toNat (8)) 0 : List UInt8).length : Int)) (ck (Int.toNat (0) < (List.replicate (Int.toNat (8)) 0 : List UInt8).length) (loop (fun s => f_billingref11_digits_l1 v0s s.1 s.2) ((List.replicate (Int.toNat (8)) 0 : List UInt8).set (Int.toNat (0)) (UInt8.ofInt ((v0s.length : Int) * 16)), 0)))))
def f_billingref11_sum_l1 (v0b : List UInt8) (v3nl1 : Int) (v4il1 : Int) : Option ((Int × Int) ⊕ UInt8) :=
  if (decide (v4il1 < (v0b.length : Int))) = true then (ck ((0 : Int) ≤ v4il1 ∧ v4il1 < (v0b.length : Int)) (ck ((-9223372036854775808 : Int) ≤ v3nl1 + ((nth v0b (Int.toNat (v4il1))).toNat : Int) ∧ v3nl1 + ((nth v0b (Int.toNat (v4il1))).toNat : Int) ≤ (9223372036854775807 : Int)) (ck (256 ≠ (0 : Int)) (ck ((-9223372036854775808 : Int) ≤ v4il1 + 1 ∧ v4il1 + 1 ≤ (9223372036854775807 : Int)) (some (.inl (Int.tmod (v3nl1 + ((nth v0b (Int.toNat (v4il1))).toNat : Int)) 256, v4il1 + 1))))))) else some (.inr (UInt8.ofInt v3nl1))
def f_billingref11_sum (v0b : List UInt8) : Option UInt8 :=
  loop (fun s => f_billingref11_sum_l1 v0b s.1 s.2) (0, 0)
def f_billingref11_Encode_j2 (v0 : Record) (v5j2 : Int) : Option ((List UInt8) × Int) :=
  (f_billingref11_PutDecimal ([] : List UInt8) v0.source 1).bind fun y2 => (f_billingref11_PutDecimal y2.1 v0.serial 5).bind fun y3 => ck ((-9223372036854775808 : Int) ≤ v0.kind * 16 ∧ v0.kind * 16 ≤ (9223372036854775807 : Int)) (ck ((-9223372036854775808 : Int) ≤ (v0.kind * 16) + v5j2 ∧ (v0.kind * 16) + v5j2 ≤ (9223372036854775807 : Int)) (ck (y3.1.length + ([UInt8.ofInt ((v0.kind * 16) + v5j2)] : List UInt8).length ≤ 1000000000) ((f_billingref11_digits v0.a).bind fun y4 => ck ((y3.1 ++ ([UInt8.ofInt ((v0.kind * 16) + v5j2)] : List UInt8)).length + y4.length ≤ 1000000000) ((f_billingref11_digits v0.b).bind fun y5 => ck (((y3.1 ++ ([UInt8.ofInt ((v0.kind * 16) + v5j2)] : List UInt8)) ++ y4).length + y5.length ≤ 1000000000) ((f_billingref11_PutDecimal (((y3.1 ++ ([UInt8.ofInt ((v0.kind * 16) + v5j2)] : List UInt8)) ++ y4) ++ y5) v0.start 6).bind fun y6 => (f_billingref11_PutDecimal y6.1 v0.units 7).bind fun y7 => (f_billingref11_PutDecimal y7.1 v0.call 5).bind fun y8 => (f_billingref11_PutDecimal y8.1 v0.part 1).bind fun y9 => (f_billingref11_PutDecimal y9.1 v0.trunk 2).bind fun y10 => (f_billingref11_sum y10.1).bind fun y11 => ck (y10.1.length + ([y11] : List UInt8).length ≤ 1000000000) (some (y10.1 ++ ([y11] : List UInt8), 0)))))))
def f_billingref11_Encode_j1 (v0 : Record) (v5j1 : Int) : Option ((List UInt8) × Int) :=
  if v0.inbound = true then (ck ((-9223372036854775808 : Int) ≤ v5j1 + 2 ∧ v5j1 + 2 ≤ (9223372036854775807 : Int)) (f_billingref11_Encode_j2 v0 (v5j1 + 2))) else f_billingref11_Encode_j2 v0 v5j1
def f_billingref11_Encode (v0 : Record) : Option ((List UInt8) × Int) :=
  (f_billingref09_Error v0).bind fun y1 => if (y1 != 0) = true then some (([] : List UInt8), y1) else if v0.last = true then (ck ((-9223372036854775808 : Int) ≤ 0 + 1 ∧ 0 + 1 ≤ (9223372036854775807 : Int)) (f_billingref11_Encode_j1 v0 (0 + 1))) else f_billingref11_Encode_j1 v0 0
def f_billingref07_Bytes_j2 (v3uj2 : Int) (v4outj2 : List UInt8) : Option (List UInt8) :=
  ck (v4outj2.length + ([UInt8.ofInt v3uj2] : List UInt8).length ≤ 1000000000) (some (v4outj2 ++ ([UInt8.ofInt v3uj2] : List UInt8)))
def f_billingref07_Bytes_l1 (v3ul1 : Int) (v4outl1 : List UInt8) : Option ((Int × List UInt8) ⊕ (List UInt8)) :=
  if (decide (v3ul1 > 127)) = true then (ck (128 ≠ (0 : Int)) (ck (v4outl1.length + ([UInt8.ofInt (IntKind.wrap .u64 (128 + (Int.tmod v3ul1 128)))] : List UInt8).length ≤ 1000000000) (ck (128 ≠ (0 : Int)) (some (.inl (IntKind.wrap .u64 (Int.tdiv v3ul1 128), v4outl1 ++ ([UInt8.ofInt (IntKind.wrap .u64 (128 + (Int.tmod v3ul1 128)))] : List UInt8))))))) else (f_billingref07_Bytes_j2 v3ul1 v4outl1).map (fun z => .inr z)
def f_billingref07_Bytes_j1 (v3uj1 : Int) : Option (List UInt8) :=
  loop (fun s => f_billingref07_Bytes_l1 s.1 s.2) (v3uj1, ([] : List UInt8))
def f_billingref07_Bytes (v0n : Int) : Option (List UInt8) :=
  if (decide (v0n < 0)) = true then (ck ((-9223372036854775808 : Int) ≤ v0n + 1 ∧ v0n + 1 ≤ (9223372036854775807 : Int)) (ck ((-9223372036854775807 : Int) ≤ v0n + 1 ∧ v0n + 1 ≤ 9223372036854775807) (f_billingref07_Bytes_j1 (IntKind.wrap .u64 ((IntKind.wrap .u64 (2 * (IntKind.wrap .u64 (-(v0n + 1))))) + 1))))) else f_billingref07_Bytes_j1 (IntKind.wrap .u64 (2 * (IntKind.wrap .u64 v0n)))
def f_billingref07_join (v0a : List UInt8) (v1b : List UInt8) : Option (List UInt8) :=
  ck (([] : List UInt8).length + v0a.length ≤ 1000000000) (ck ((([] : List UInt8) ++ v0a).length + v1b.length ≤ 1000000000) (some ((([] : List UInt8) ++ v0a) ++ v1b)))
def f_billingref07_PutNumber (v0b : List UInt8) (v1n : Int) : Option (List UInt8) :=
  (f_billingref07_Bytes v1n).bind fun y1 => (f_billingref07_join v0b y1).bind fun y2 => some y2
def f_billingref12_numbers_l1 (v0l : List Int) (v3outl1 : List UInt8) (v4il1 : Int) : Option ((List UInt8 × Int) ⊕ (List UInt8)) :=
  if (decide (v4il1 < (v0l.length : Int))) = true then (ck ((0 : Int) ≤ v4il1 ∧ v4il1 < (v0l.length : Int)) ((f_billingref07_PutNumber v3outl1 (nth v0l (Int.toNat (v4il1)))).bind fun y1 => ck ((-9223372036854775808 : Int) ≤ v4il1 + 1 ∧ v4il1 + 1 ≤ (9223372036854775807 : Int)) (some (.inl (y1, v4il1 + 1))))) else some (.inr v3outl1)
def f_billingref12_numbers (v0l : List Int) : Option (List UInt8) :=
  loop (fun s => f_billingref12_numbers_l1 v0l s.1 s.2) ([], 0)
def f_billingref12_Payloads_j1 (v0 : Batch) (v3j1 : List UInt8) : Option (List (List UInt8)) :=
  (f_billingref12_Totals v0.records).bind fun y1 => (f_billingref12_numbers ([v0.source, v0.number, v0.format, y1.count] : List Int)).bind fun y2 => (f_billingref12_numbers ([y1.count, nth y1.units 1, nth y1.units 2, nth y1.units 3, nth y1.units 4] : List Int)).bind fun y3 => some ([y2, v3j1, y3] : List (List UInt8))
def f_billingref12_Payloads_l1 (v0 : Batch) (v3l1 : List UInt8) (v4l1 : Int) : Option ((List UInt8 × Int) ⊕ (List (List UInt8))) :=
  if (decide (v4l1 < (v0.records.length : Int))) = true then (ck ((0 : Int) ≤ v4l1 ∧ v4l1 < (v0.records.length : Int)) (if (v0.format == 1) = true then ((f_billingref09_Encode (nth v0.records (Int.toNat (v4l1)))).bind fun y4 => ck (y4.1.length + ([10] : List UInt8).length ≤ 9223372036854775807) (ck (v3l1.length + (y4.1 ++ ([10] : List UInt8)).length ≤ 1000000000) (ck ((-9223372036854775808 : Int) ≤ v4l1 + 1 ∧ v4l1 + 1 ≤ (9223372036854775807 : Int)) (some (.inl (v3l1 ++ (y4.1 ++ ([10] : List UInt8)), v4l1 + 1)))))) else if (v0.format == 2) = true then ((f_billingref10_Encode (nth v0.records (Int.toNat (v4l1)))).bind fun y5 => ck (v3l1.length + y5.1.length ≤ 1000000000) (ck ((-9223372036854775808 : Int) ≤ v4l1 + 1 ∧ v4l1 + 1 ≤ (9223372036854775807 : Int)) (some (.inl (v3l1 ++ y5.1, v4l1 + 1))))) else (f_billingref11_Encode (nth v0.records (Int.toNat (v4l1)))).bind fun y6 => ck (v3l1.length + y6.1.length ≤ 1000000000) (ck ((-9223372036854775808 : Int) ≤ v4l1 + 1 ∧ v4l1 + 1 ≤ (9223372036854775807 : Int)) (some (.inl (v3l1 ++ y6.1, v4l1 + 1)))))) else (f_billingref12_Payloads_j1 v0 v3l1).map (fun z => .inr z)
def f_billingref12_Payloads (v0 : Batch) : Option (List (List UInt8)) :=
  loop (fun s => f_billingref12_Payloads_l1 v0 s.1 s.2) (([] : List UInt8), 0)
def f_billingref08_Sum_l1 (v0b : List UInt8) (v3nl1 : Int) (v4il1 : Int) : Option ((Int × Int) ⊕ Int) :=
  if (decide (v4il1 < (v0b.length : Int))) = true then (ck ((0 : Int) ≤ v4il1 ∧ v4il1 < (v0b.length : Int)) (ck ((-9223372036854775808 : Int) ≤ v4il1 + 1 ∧ v4il1 + 1 ≤ (9223372036854775807 : Int)) (some (.inl (IntKind.wrap .u32 ((bXor .u32 v3nl1 (IntKind.wrap .u32 ((nth v0b (Int.toNat (v4il1))).toNat : Int))) * 16777619), v4il1 + 1))))) else some (.inr v3nl1)
def f_billingref08_Sum (v0b : List UInt8) : Option Int :=
  loop (fun s => f_billingref08_Sum_l1 v0b s.1 s.2) (2166136261, 0)
def f_billingref08_Wrap (v0b : List UInt8) : Option ((List UInt8) × Int) :=
  if (decide ((v0b.length : Int) > 1048576)) = true then some (([] : List UInt8), 5) else (f_billingref08_Sum v0b).bind fun y1 => (f_billingref07_PutNumber ([] : List UInt8) (v0b.length : Int)).bind fun y2 => ck ((0 : Int) ≤ 24) (ck ((0 : Int) ≤ 16) (ck ((0 : Int) ≤ 8) (ck (y2.length + ([UInt8.ofInt (Int.fdiv y1 (2 ^ (min (Int.toNat (24)) 32))), UInt8.ofInt (Int.fdiv y1 (2 ^ (min (Int.toNat (16)) 32))), UInt8.ofInt (Int.fdiv y1 (2 ^ (min (Int.toNat (8)) 32))), UInt8.ofInt y1] : List UInt8).length ≤ 1000000000) (ck ((y2 ++ ([UInt8.ofInt (Int.fdiv y1 (2 ^ (min (Int.toNat (24)) 32))), UInt8.ofInt (Int.fdiv y1 (2 ^ (min (Int.toNat (16)) 32))), UInt8.ofInt (Int.fdiv y1 (2 ^ (min (Int.toNat (8)) 32))), UInt8.ofInt y1] : List UInt8)).length + v0b.length ≤ 1000000000) (some ((y2 ++ ([UInt8.ofInt (Int.fdiv y1 (2 ^ (min (Int.toNat (24)) 32))), UInt8.ofInt (Int.fdiv y1 (2 ^ (min (Int.toNat (16)) 32))), UInt8.ofInt (Int.fdiv y1 (2 ^ (min (Int.toNat (8)) 32))), UInt8.ofInt y1] : List UInt8)) ++ v0b, 0))))))
def f_billingref08_Join_l1 (v0list : List (List UInt8)) (v4outl1 : List UInt8) (v5il1 : Int) : Option ((List UInt8 × Int) ⊕ ((List UInt8) × Int)) :=
  if (decide (v5il1 < (v0list.length : Int))) = true then (ck ((0 : Int) ≤ v5il1 ∧ v5il1 < (v0list.length : Int)) ((f_billingref08_Wrap (nth v0list (Int.toNat (v5il1)))).bind fun y1 => if (y1.2 != 0) = true then some (.inr (([] : List UInt8), y1.2)) else ck (v4outl1.length + y1.1.length ≤ 1000000000) (ck ((-9223372036854775808 : Int) ≤ v5il1 + 1 ∧ v5il1 + 1 ≤ (9223372036854775807 : Int)) (some (.inl (v4outl1 ++ y1.1, v5il1 + 1)))))) else some (.inr (v4outl1, 0))
def f_billingref08_Join (v0list : List (List UInt8)) : Option ((List UInt8) × Int) :=
  loop (fun s => f_billingref08_Join_l1 v0list s.1 s.2) (([] : List UInt8), 0)
def f_billingref12_Write (v0b : Batch) : Option ((List UInt8) × Int) :=
  (f_billingref12_Check v0b).bind fun y1 => if (y1 != 0) = true then some (([] : List UInt8), y1) else (f_billingref12_Payloads v0b).bind fun y2 => (f_billingref08_Join y2).bind fun y3 => some (y3.1, y3.2)
def f_billinglaw12_BatchWrites (v0b : Batch) : Option Bool :=
  (f_billinglaw12_few v0b.records).bind fun y1 => if (!y1) = true then ((f_billinglaw12_awake).bind fun y2 => some y2) else (f_batch_Write v0b).bind fun y3 => (f_billingref12_Write v0b).bind fun y4 => (f_batch_Check v0b).bind fun y5 => (f_billingref12_Check v0b).bind fun y6 => (gcall (((y5 == y6) && (y3.1 == y4.1)) && (y3.2 == y4.2)) (f_billinglaw12_awake)).bind fun y7 => some ((((y5 == y6) && (y3.1 == y4.1)) && (y3.2 == y4.2)) && y7)
end Go.Proofs.YtccmaffefdcikaaDoor

/- Contracts of the library, as contracts on data. -/
set_option linter.unusedSimpArgs false
set_option linter.unusedVariables false
namespace Go.Abs
open Go.RowKit
theorem DArgs.one {lim : Nat → Nat} {w : World} {d : D} {vs : Array Value} (h : DArgs lim w [d] vs) : ∃ v, vs = #[v] ∧ DRep lim w d v := by
  obtain ⟨h1, h2⟩ := h
  match vs, h1 with
  | ⟨[v]⟩, _ => exact ⟨v, rfl, h2 0 d v rfl rfl⟩
theorem DArgs.two {lim : Nat → Nat} {w : World} {d e : D} {vs : Array Value} (h : DArgs lim w [d, e] vs) : ∃ v u, vs = #[v, u] ∧ DRep lim w d v ∧ DRep lim w e u := by
  obtain ⟨h1, h2⟩ := h
  match vs, h1 with
  | ⟨[v, u]⟩, _ => exact ⟨v, u, rfl, h2 0 d v rfl rfl, h2 1 e u rfl rfl⟩
theorem below_grow (w : World) (k : Nat) (os : Array Obj) : Below w.heap.size w (Go.Sort.grow (w.drewN k) os) :=
  ⟨rfl, rfl, rfl, by simp [Go.Sort.grow], fun b hb => by
    show ((w.drewN k).heap ++ os)[b]? = _
    rw [Array.getElem?_append_left (show b < (w.drewN k).heap.size from hb)]
    rfl⟩
/-- A contract of a callee that makes memory and gives a value without references. -/
theorem ACall.lib {P : Program} {f : FuncId} {args : List D} {u : Value}
    (h : ∀ lim w vs, Globs w.heap.size w → DArgs lim w args vs → Calls P f vs w fun e w' => e = .returned u ∧ Below w.heap.size w w') : ACall P f args (· = .ex u) := by
  intro lim w vs hg ha
  refine (h lim w vs hg ha).mono ?_
  rintro e w' ⟨rfl, hb⟩
  exact ⟨u, .ex u, lim, rfl, rfl, .ex u, ⟨hb.size, fun _ _ => Nat.le_refl _, fun b off hb' _ => hb.cell (p := ⟨b, off, none⟩) hb'⟩, hb, fun _ _ => rfl⟩
theorem strs_cells {lim : Nat → Nat} {w : World} {xs : List (List UInt8)} {v : Value} (h : DRep lim w (.sl 1 (xs.map rS)) v) :
    (∃ A c, v = .slice A 0 c ∧ xs = []) ∨ ∃ b off c, v = .slice (some ⟨b, off, none⟩) xs.length c ∧ xs.length ≤ c ∧ b < w.heap.size ∧ ∀ (j : Nat) x, xs[j]? = some x → w.cell? ⟨b, off + j, none⟩ = some (.string ⟨x.toArray⟩) := by
  generalize hr : xs.map rS = rows at h
  cases h with
  | nil _ A =>
    have : xs = [] := by simpa using hr
    exact .inl ⟨A, 0, rfl, this⟩
  | sl _ _ b off c hc hrow hx hcell =>
    subst hr
    rw [List.length_map] at *
    by_cases h0 : xs = []
    · subst h0; exact .inl ⟨_, c, rfl, rfl⟩
    · refine .inr ⟨b, off, c, rfl, hc, ?_, fun j x hj => ?_⟩
      · have hl : 0 < xs.length := List.length_pos_iff.2 h0
        obtain ⟨_, u, hu, _⟩ := hx 0 (by omega)
        exact World.block_lt_of_cell? w _ hu
      · have hjl := (List.getElem?_eq_some_iff.1 hj).1
        obtain ⟨_, u, hu, _⟩ := hx j (by omega)
        have := hcell j 0 (rS x) (.ex (.string ⟨x.toArray⟩)) u (by rw [List.getElem?_map, hj]; rfl) rfl (by rw [Nat.mul_one, Nat.add_zero]; exact hu)
        rw [hu, drep_ex this]
end Go.Abs

/- Contracts of the library at this program (laid by the shelf's program, in plain words). -/
set_option linter.unusedVariables false
namespace Go.Proofs.YtccmaffefdcikaaDoor
open Go.Shelf
def Tryd.lays156_ren : Go.Shelf.Ren := ⟨fun | 156 => 42 | 165 => 73 | 166 => 74 | 169 => 75 | 240 => 84 | 241 => 85 | 276 => 92 | 277 => 93 | n => n, fun | 31 => 69 | 9 => 9 | 3 => 3 | 4 => 4 | 0 => 0 | 20 => 20 | 72 => 97 | 76 => 101 | 70 => 95 | 37 => 32 | 75 => 100 | 127 => 115 | 164 => 121 | 5 => 5 | 80 => 103 | n => n, fun | n => n⟩
theorem Tryd.lays156 : Go.Proofs.Lays.n156 Tryd.prog Tryd.lays156_ren := {
  mixed := by kernel_rfl
  f156 := Tryd.func42.trans (congrArg some (by kernel_rfl))
  f165 := Tryd.func73.trans (congrArg some (by kernel_rfl))
  f166 := Tryd.func74.trans (congrArg some (by kernel_rfl))
  f169 := Tryd.func75.trans (congrArg some (by kernel_rfl))
  f240 := Tryd.func84.trans (congrArg some (by kernel_rfl))
  f241 := Tryd.func85.trans (congrArg some (by kernel_rfl))
  f276 := Tryd.func92.trans (congrArg some (by kernel_rfl))
  f277 := Tryd.func93.trans (congrArg some (by kernel_rfl))
  t0 := Tryd.underlying0
  a0 := Tryd.isAgg0
  z0 := Tryd.sizeOf0
  v0 := Tryd.zeroValue0
  t3 := Tryd.underlying3
  a3 := Tryd.isAgg3
  z3 := Tryd.sizeOf3
  v3 := Tryd.zeroValue3
  t4 := Tryd.underlying4
  a4 := Tryd.isAgg4
  z4 := Tryd.sizeOf4
  v4 := Tryd.zeroValue4
  t9 := Tryd.underlying9
  a9 := Tryd.isAgg9
  z9 := Tryd.sizeOf9
  v9 := Tryd.zeroValue9
  t20 := Tryd.underlying20
  a20 := Tryd.isAgg20
  z20 := Tryd.sizeOf20
  v20 := Tryd.zeroValue20
  t31 := Tryd.underlying69
  a31 := Tryd.isAgg69
  z31 := Tryd.sizeOf69
  v31 := Tryd.zeroValue69
  t37 := Tryd.underlying32
  a37 := Tryd.isAgg32
  z37 := Tryd.sizeOf32
  v37 := Tryd.zeroValue32
  t70 := Tryd.underlying95
  a70 := Tryd.isAgg95
  z70 := Tryd.sizeOf95
  v70 := Tryd.zeroValue95
  t72 := Tryd.underlying97
  a72 := Tryd.isAgg97
  z72 := Tryd.sizeOf97
  v72 := Tryd.zeroValue97
  t75 := Tryd.underlying100
  a75 := Tryd.isAgg100
  z75 := Tryd.sizeOf100
  v75 := Tryd.zeroValue100
  t76 := Tryd.underlying101
  a76 := Tryd.isAgg101
  z76 := Tryd.sizeOf101
  v76 := Tryd.zeroValue101
  t127 := Tryd.underlying115
  a127 := Tryd.isAgg115
  z127 := Tryd.sizeOf115
  v127 := Tryd.zeroValue115
  t164 := Tryd.underlying121
  a164 := Tryd.isAgg121
  z164 := Tryd.sizeOf121
  v164 := Tryd.zeroValue121 }
theorem Tryd.Builder_Extra_156 : Builder.Extra Tryd.prog Tryd.lays156_ren := {
  sizeBuilder := by kernel_rfl
  liesBuilder := by kernel_rfl
  t5 := Tryd.underlying5
  a5 := Tryd.isAgg5
  z5 := Tryd.sizeOf5
  v5 := Tryd.zeroValue5
  infoByte := by kernel_rfl
  cellsByte := by kernel_rfl
  sizeByte := by kernel_rfl
  neB5 := by decide }
open Go.RowKit in
/-- No element: the empty string; the world is as it was. (Whatever the slice's address and capacity: a nil slice too.) (LAID: no walk: one application.) -/
theorem Tryd.strings_Join_none (a : Option Addr) (c : Nat) (sep : ByteArray) (w : World) :
    Calls Tryd.prog 42 #[.slice a 0 c, .string sep] w fun e w' => e = .returned (.string ⟨#[]⟩) ∧ w' = w := Any.strings_Join_none Tryd.lays156 Tryd.Builder_Extra_156 a c sep w
open Go.RowKit in
/-- strings.Join: "Join concatenates the elements of its first argument to create a single string. The separator string sep is placed between elements in the resulting string.": HOWEVER MANY ELEMENTS. Below the heap's end the world is as it was. (LAID: no walk: one application.) -/
theorem Tryd.strings_Join (bk o c : Nat) (xs : List ByteArray) (sep : ByteArray) (w : World) (hcells : ∀ (j : Nat) x, xs[j]? = some x → w.cell? ⟨bk, o + j, none⟩ = some (.string x)) (hbk : bk < w.heap.size) (hN : xs.length ≤ 140737488355328) (hcap : xs.length ≤ c) (hlen : (Lib.join (xs.map (·.data.toList)) sep.data.toList).length ≤ 140737488355328) :
    Calls Tryd.prog 42 #[.slice (some ⟨bk, o, none⟩) xs.length c, .string sep] w fun e w' => e = .returned (.string ⟨(Lib.join (xs.map (·.data.toList)) sep.data.toList).toArray⟩) ∧ Below w.heap.size w w' := Any.strings_Join Tryd.lays156 Tryd.Builder_Extra_156 bk o c xs sep w hcells hbk hN hcap hlen
def Tryd.laysM171_ren : Go.Shelf.Ren := ⟨fun | 171 => 41 | 243 => 72 | 246 => 83 | 283 => 88 | 284 => 89 | 285 => 90 | 286 => 91 | 129 => 96 | 317 => 95 | 318 => 97 | 319 => 98 | 320 => 99 | 337 => 100 | 338 => 101 | n => n, fun | 3 => 3 | 9 => 9 | 2 => 2 | 4 => 4 | 171 => 116 | 0 => 0 | 53 => 110 | 37 => 32 | 5 => 5 | 173 => 119 | 212 => 125 | 51 => 76 | 20 => 20 | 213 => 126 | 46 => 78 | 232 => 130 | 233 => 131 | n => n, fun | 17 => 0 | 18 => 2 | 19 => 3 | n => n⟩
theorem Tryd.laysM171 : Go.Proofs.LaysM.n171 Tryd.prog Tryd.laysM171_ren := {
  mixed := by kernel_rfl
  f129 := Tryd.func96.trans (congrArg some (by kernel_rfl))
  f171 := Tryd.func41.trans (congrArg some (by kernel_rfl))
  f243 := Tryd.func72.trans (congrArg some (by kernel_rfl))
  f246 := Tryd.func83.trans (congrArg some (by kernel_rfl))
  f283 := Tryd.func88.trans (congrArg some (by kernel_rfl))
  f284 := Tryd.func89.trans (congrArg some (by kernel_rfl))
  f285 := Tryd.func90.trans (congrArg some (by kernel_rfl))
  f286 := Tryd.func91.trans (congrArg some (by kernel_rfl))
  f317 := Tryd.func95.trans (congrArg some (by kernel_rfl))
  f318 := Tryd.func97.trans (congrArg some (by kernel_rfl))
  f319 := Tryd.func98.trans (congrArg some (by kernel_rfl))
  f320 := Tryd.func99.trans (congrArg some (by kernel_rfl))
  f337 := Tryd.func100.trans (congrArg some (by kernel_rfl))
  f338 := Tryd.func101.trans (congrArg some (by kernel_rfl))
  t0 := Tryd.underlying0
  a0 := Tryd.isAgg0
  z0 := Tryd.sizeOf0
  v0 := Tryd.zeroValue0
  t2 := Tryd.underlying2
  a2 := Tryd.isAgg2
  z2 := Tryd.sizeOf2
  v2 := Tryd.zeroValue2
  t3 := Tryd.underlying3
  a3 := Tryd.isAgg3
  z3 := Tryd.sizeOf3
  v3 := Tryd.zeroValue3
  t4 := Tryd.underlying4
  a4 := Tryd.isAgg4
  z4 := Tryd.sizeOf4
  v4 := Tryd.zeroValue4
  t5 := Tryd.underlying5
  a5 := Tryd.isAgg5
  z5 := Tryd.sizeOf5
  v5 := Tryd.zeroValue5
  t9 := Tryd.underlying9
  a9 := Tryd.isAgg9
  z9 := Tryd.sizeOf9
  v9 := Tryd.zeroValue9
  t20 := Tryd.underlying20
  a20 := Tryd.isAgg20
  z20 := Tryd.sizeOf20
  v20 := Tryd.zeroValue20
  t37 := Tryd.underlying32
  a37 := Tryd.isAgg32
  z37 := Tryd.sizeOf32
  v37 := Tryd.zeroValue32
  t46 := Tryd.underlying78
  a46 := Tryd.isAgg78
  z46 := Tryd.sizeOf78
  v46 := Tryd.zeroValue78
  t51 := Tryd.underlying76
  a51 := Tryd.isAgg76
  z51 := Tryd.sizeOf76
  v51 := Tryd.zeroValue76
  t53 := Tryd.underlying110
  a53 := Tryd.isAgg110
  z53 := Tryd.sizeOf110
  v53 := Tryd.zeroValue110
  t171 := Tryd.underlying116
  a171 := Tryd.isAgg116
  z171 := Tryd.sizeOf116
  v171 := Tryd.zeroValue116
  t173 := Tryd.underlying119
  a173 := Tryd.isAgg119
  z173 := Tryd.sizeOf119
  v173 := Tryd.zeroValue119
  t212 := Tryd.underlying125
  a212 := Tryd.isAgg125
  z212 := Tryd.sizeOf125
  v212 := Tryd.zeroValue125
  t213 := Tryd.underlying126
  a213 := Tryd.isAgg126
  z213 := Tryd.sizeOf126
  t232 := Tryd.underlying130
  a232 := Tryd.isAgg130
  z232 := Tryd.sizeOf130
  v232 := Tryd.zeroValue130
  t233 := Tryd.underlying131
  a233 := Tryd.isAgg131
  z233 := Tryd.sizeOf131
  v233 := Tryd.zeroValue131
  g17 := by kernel_rfl
  g18 := by kernel_rfl
  g19 := by kernel_rfl
  i0 := by kernel_rfl
  i2 := by kernel_rfl
  i3 := by kernel_rfl
  i4 := by kernel_rfl
  i5 := by kernel_rfl
  i9 := by kernel_rfl
  i20 := by kernel_rfl
  i37 := by kernel_rfl
  i46 := by kernel_rfl
  i51 := by kernel_rfl
  i53 := by kernel_rfl
  i171 := by kernel_rfl
  i173 := by kernel_rfl
  i212 := by kernel_rfl
  i232 := by kernel_rfl
  i233 := by kernel_rfl
  m17 := by kernel_rfl
  m18 := by kernel_rfl
  m19 := by kernel_rfl }
open Go.RowKit Go.Sort Go.Lib in
/-- strconv.Itoa: "Itoa is equivalent to FormatInt(int64(i), 10).": i's DECIMAL NUMERAL ('Lib.itoa': a '-' where i is negative, then the digits), FOR EVERY int. The world behind the call: the world before it, new blocks behind the heap (the library's 'var a [24]byte'), draws. (LAID: no walk: one application.) -/
theorem Tryd.strconv_Itoa (n : Int) (h0 : -9223372036854775808 ≤ n) (h1 : n ≤ 9223372036854775807) (w : World) (htab : Lib.TabIs Tryd.prog w "internal/strconv.uint64pow10" .u64 Lib.pow10Tab) :
    Calls Tryd.prog 41 #[.int .i64 n] w fun e w' => e = .returned (.string ⟨(Lib.itoa n).toArray⟩) ∧ ∃ k os, w' = grow (w.drewN k) os := Any.strconv_Itoa Tryd.laysM171 n h0 h1 w htab
end Go.Proofs.YtccmaffefdcikaaDoor

set_option linter.unusedVariables false
namespace Go.Proofs.YtccmaffefdcikaaDoor
open Go.RowKit Go.Abs
theorem tab_is {w : World} (h : Globs w.heap.size w) : Go.Lib.TabIs Tryd.prog w "internal/strconv.uint64pow10" .u64 Go.Lib.pow10Tab := by
  obtain ⟨_, ty, fr, h2⟩ := h.1 (0, (Go.Lib.pow10Tab.map fun z => Value.int .u64 z).toArray) (by simp [GL])
  have hn : Tryd.prog.globalNamed "internal/strconv.uint64pow10" = some 0 := by kernel_rfl
  unfold Go.Lib.TabIs World.var?
  rw [hn]
  simp only [Option.bind_some]
  simp only at h2
  rw [h2]
theorem c_x_Itoa {n : Int} {r : List UInt8} (H : x_Itoa n = some r) : ACall Tryd.prog 41 [cI n] (· = cS r) := by
  obtain ⟨h, H⟩ := ck_some H; cases H
  refine ACall.lib fun lim w vs hg ha => ?_
  obtain ⟨v, rfl, hv⟩ := ha.one
  rw [drep_ex hv]
  refine (Tryd.strconv_Itoa n h.1 h.2 w (tab_is hg)).mono ?_
  rintro e w' ⟨rfl, k, os, rfl⟩
  exact ⟨rfl, below_grow w k os⟩
theorem c_x_Join {xs : List (List UInt8)} {sep r : List UInt8} (H : x_Join xs sep = some r) : ACall Tryd.prog 42 [slOf 1 rS xs, cS sep] (· = cS r) := by
  obtain ⟨h, H⟩ := ck_some H; cases H
  refine ACall.lib fun lim w vs hg ha => ?_
  obtain ⟨v, u, rfl, hv, hu⟩ := ha.two
  rw [drep_ex hu]
  rcases strs_cells hv with ⟨A, c, rfl, rfl⟩ | ⟨b, off, c, rfl, hc, hb, hcell⟩
  · exact (Tryd.strings_Join_none A c ⟨sep.toArray⟩ w).mono fun e w' ⟨he, hw⟩ => ⟨he, hw ▸ Below.refl _ _⟩
  · have hm : (xs.map fun x => (⟨x.toArray⟩ : ByteArray)).map (·.data.toList) = xs := by simp [Function.comp_def]
    have := Tryd.strings_Join b off c (xs.map fun x => (⟨x.toArray⟩ : ByteArray)) ⟨sep.toArray⟩ w (fun j x hj => by
      rw [List.getElem?_map] at hj
      obtain ⟨y, hy, rfl⟩ := Option.map_eq_some_iff.1 hj
      exact hcell j y hy) hb (by simp; omega) (by simpa using hc) (by rw [hm]; simp; omega)
    rw [hm, List.length_map] at this
    exact this
end Go.Proofs.YtccmaffefdcikaaDoor

set_option linter.unusedSimpArgs false
set_option linter.unusedVariables false
namespace Go.Proofs.YtccmaffefdcikaaDoor
open Go.RowKit Go.Abs
set_option maxRecDepth 100000 in
set_option maxHeartbeats 1000000 in
theorem c_f_billinglaw12_few {v0l : List Record} {r : Bool} (H : f_billinglaw12_few v0l = some r) : ACall Tryd.prog 6 [slOf 12 Record.row v0l] (· = cB r) := by
  obtain ⟨i39, hi39, hz39, hs39, hb39⟩ := in_39
  refine ACall.enter' Tryd.func6 rfl Tryd.ntmps6 rfl fun S hS => ?_
  unfold f_billinglaw12_few at H
  change ARun _ _ _ _ _ _ [(0, .d (slOf 12 Record.row v0l))] _
  refine .seq ?_
  refine .region ?_
  refine .q (q_assign rfl) rfl ?_
  refine .nil ?_
  refine .seq ?_
  refine .seq ?_
  refine .region ?_
  refine .q (q_assign rfl) rfl ?_
  refine .nil ?_
  refine .blockJoin2 (ι := Unit) (fun s => [(0, .d (slOf 12 Record.row v0l))]) (fun s => ⟨[], []⟩) (fun s => f_billinglaw12_few_j1 v0l = some r) ?_ ?_
  · rintro _ H
    replace H : f_billinglaw12_few_j1 v0l = some r := H
    unfold f_billinglaw12_few_j1 at H
    change ARun _ _ _ _ _ _ [(0, .d (slOf 12 Record.row v0l))] ⟨[], []⟩
    refine .seq ?_
    refine .region ?_
    refine .q (q_move rfl) rfl ?_
    refine .q (q_lenL (l := v0l) (row := Record.row) Tryd.underlying22 rfl rfl) rfl ?_
    refine .q (q_leq rfl rfl) rfl ?_
    refine .q (q_assign rfl) rfl ?_
    refine .nil ?_
    refine .retN [.tmp 2] [.d (cB (decide ((v0l.length : Int) ≤ 40)))] Tryd.func6 Tryd.results6 ⟨rfl, trivial⟩ ?_
    cases H
    exact ⟨_, .rfl' _, rfl⟩
  · intro hj1 hj1x
    obtain ⟨n1, H⟩ := loop_some H
    refine .loop (ι := Nat × (Int)) (fun p => [(0, .d (slOf 12 Record.row v0l)), (3, .d (cI p.2))]) (fun p => ⟨[], []⟩) (fun p => iter (fun s => f_billinglaw12_few_l1 v0l s) p.1 p.2 = some r) (·.1) (n1, 0) H (.cons rfl (.rfl' _) (.cons rfl (.rfl' _) (.nil))) rfl ?_
    rintro ⟨m1, v3il1⟩ HI ih1
    obtain ⟨n1, q1, hm1, H, HK1⟩ := iter_succ HI
    clear HI
    replace H : f_billinglaw12_few_l1 v0l v3il1 = some q1 := H
    unfold f_billinglaw12_few_l1 at H
    change ARun _ _ _ _ _ _ [(0, .d (slOf 12 Record.row v0l)), (3, .d (cI v3il1))] ⟨[], []⟩
    refine .seq ?_
    refine .seq ?_
    refine .region ?_
    refine .q (q_move rfl) rfl ?_
    refine .q (q_move rfl) rfl ?_
    refine .q (q_lenL (l := v0l) (row := Record.row) Tryd.underlying22 rfl rfl) rfl ?_
    refine .q (q_lss rfl rfl) rfl ?_
    refine .q (q_move rfl) rfl ?_
    refine .guardG (env' := [(3, _)]) rfl rfl rfl ⟨.inl rfl, trivial⟩ rfl (fun hg => OpQ.g (q_move rfl)) ?_
    refine .guardG (env' := [(9, _)]) rfl rfl rfl ⟨.inr (.inl rfl), trivial⟩ rfl (fun hg => OpQ.g (q_lss rfl rfl)) ?_
    refine .q (q_pickAndB rfl rfl rfl) rfl ?_
    refine .nil ?_
    refine .cond rfl (fun hc => ?_) (fun hc => ?_)
    · replace H := ifT hc H; clear hc
      refine .skip ?_
      refine .seq ?_
      refine .block ?_
      refine .seq ?_
      refine .region ?_
      refine .q (q_move rfl) rfl ?_
      refine .q (q_move rfl) rfl ?_
      obtain ⟨hk1, H⟩ := ck_some H
      refine .q (x := .d (.ro (Record.row (nth v0l (Int.toNat (v3il1)))))) (q_idxL (row := Record.row) (l := v0l) (i := v3il1) Tryd.underlying22 hi39 hs39 rfl rfl rfl hk1) rfl ?_
      refine .q (q_fieldRo fo_39_3 rfl) rfl ?_
      refine .q (x := .d (cS ((nth v0l (Int.toNat (v3il1))).a))) (q_load one_9 rfl) rfl ?_
      refine .q (q_lenS Tryd.underlying9 rfl) rfl ?_
      refine .q (q_gtr rfl rfl) rfl ?_
      refine .q (q_move rfl) rfl ?_
      refine .guardG (env' := [(0, _)]) rfl rfl rfl ⟨.inl rfl, trivial⟩ rfl (fun hg => OpQ.g (q_move rfl)) ?_
      refine .guardG (env' := [(3, _)]) rfl rfl rfl ⟨.inl rfl, trivial⟩ rfl (fun hg => OpQ.g (q_move rfl)) ?_
      obtain ⟨hk2, H⟩ := ck_some H
      refine .guardG (b := (!(decide ((((nth v0l (Int.toNat (v3il1))).a).length : Int) > 200)))) (x := .d (.ro (Record.row (nth v0l (Int.toNat (v3il1)))))) (env' := [(22, _), (23, _)]) rfl rfl rfl ⟨.inr (.inl rfl), ⟨.inr (.inl rfl), trivial⟩⟩ rfl (fun hg => OpQ.g (q_idxL (row := Record.row) (l := v0l) (i := v3il1) Tryd.underlying22 hi39 hs39 rfl rfl rfl (hk2 hg))) ?_
      refine .guardG (env' := [(24, _)]) rfl rfl rfl ⟨.inr (.inl rfl), trivial⟩ rfl (fun hg => OpQ.g (q_fieldRo fo_39_4 rfl)) ?_
      refine .guardG (b := (!(decide ((((nth v0l (Int.toNat (v3il1))).a).length : Int) > 200)))) (x := .d (cS ((nth v0l (Int.toNat (v3il1))).b))) (env' := [(25, _)]) rfl rfl rfl ⟨.inr (.inl rfl), trivial⟩ rfl (fun hg => OpQ.g (q_load one_9 rfl)) ?_
      refine .guardG (env' := [(26, _)]) rfl rfl rfl ⟨.inr (.inl rfl), trivial⟩ rfl (fun hg => OpQ.g (q_lenS Tryd.underlying9 rfl)) ?_
      refine .guardG (env' := [(27, _)]) rfl rfl rfl ⟨.inr (.inl rfl), trivial⟩ rfl (fun hg => OpQ.g (q_gtr rfl rfl)) ?_
      refine .q (q_pickOrB rfl rfl rfl) rfl ?_
      refine .nil ?_
      refine .cond rfl (fun hc => ?_) (fun hc => ?_)
      · replace H := ifT hc H; clear hc
        refine .seq ?_
        refine .region ?_
        refine .q (q_assign rfl) rfl ?_
        refine .nil ?_
        refine .retN [.tmp 2] [.d (cB false)] Tryd.func6 Tryd.results6 ⟨rfl, trivial⟩ ?_
        cases H
        cases HK1
        exact ⟨_, .rfl' _, rfl⟩
      · replace H := ifF hc H; clear hc
        refine .skip ?_
        refine .inBlock ?_
        refine .region ?_
        refine .q (q_move rfl) rfl ?_
        obtain ⟨hk3, H⟩ := ck_some H
        refine .q (q_addI rfl rfl hk3.1 hk3.2) rfl ?_
        refine .q (q_assign rfl) rfl ?_
        refine .nil ?_
        cases H
        exact .sub (.cons rfl (.rfl' _) (.cons rfl (.rfl' _) (.nil))) (ih1 (n1, (v3il1 + 1)) HK1 hm1)
    · replace H := ifF hc H; clear hc
      refine .exit rfl ?_
      obtain ⟨q0, H9, hq0⟩ := map_some' H; clear H; cases hq0
      cases HK1
      have H := H9
      exact .sub (.cons rfl (.rfl' _) (.nil)) (hj1x () H)

set_option maxRecDepth 100000 in
set_option maxHeartbeats 1000000 in
theorem c_f_batch_within {v0n : Int} {v1lo : Int} {v2hi : Int} {r : Bool} (H : f_batch_within v0n v1lo v2hi = some r) : ACall Tryd.prog 15 [cI v0n, cI v1lo, cI v2hi] (· = cB r) := by
  refine ACall.enter' Tryd.func15 rfl Tryd.ntmps15 rfl fun S hS => ?_
  unfold f_batch_within at H
  change ARun _ _ _ _ _ _ [(0, .d (cI v0n)), (1, .d (cI v1lo)), (2, .d (cI v2hi))] _
  refine .seq ?_
  refine .region ?_
  refine .q (q_assign rfl) rfl ?_
  refine .nil ?_
  refine .seq ?_
  refine .region ?_
  refine .q (q_move rfl) rfl ?_
  refine .q (q_move rfl) rfl ?_
  refine .q (q_geq rfl rfl) rfl ?_
  refine .q (q_move rfl) rfl ?_
  refine .guardG (env' := [(0, _)]) rfl rfl rfl ⟨.inl rfl, trivial⟩ rfl (fun hg => OpQ.g (q_move rfl)) ?_
  refine .guardG (env' := [(2, _)]) rfl rfl rfl ⟨.inl rfl, trivial⟩ rfl (fun hg => OpQ.g (q_move rfl)) ?_
  refine .guardG (env' := [(11, _), (12, _)]) rfl rfl rfl ⟨.inr (.inl rfl), ⟨.inr (.inl rfl), trivial⟩⟩ rfl (fun hg => OpQ.g (q_leq rfl rfl)) ?_
  refine .q (q_pickAndB rfl rfl rfl) rfl ?_
  refine .q (q_assign rfl) rfl ?_
  refine .nil ?_
  refine .retN [.tmp 6] [.d (cB ((decide (v0n ≥ v1lo)) && (decide (v0n ≤ v2hi))))] Tryd.func15 Tryd.results15 ⟨rfl, trivial⟩ ?_
  cases H
  exact ⟨_, .rfl' _, rfl⟩

set_option maxRecDepth 100000 in
set_option maxHeartbeats 1000000 in
theorem c_f_batch_Totals {v0records : List Record} {r : Totals} (H : f_batch_Totals v0records = some r) : ACall Tryd.prog 8 [slOf 12 Record.row v0records] (· = .agg (Totals.row r)) := by
  obtain ⟨i3, hi3, hz3, hs3, hb3⟩ := in_3
  obtain ⟨i27, hi27, hz27, hs27, hb27⟩ := in_27
  obtain ⟨i39, hi39, hz39, hs39, hb39⟩ := in_39
  refine ACall.enter' Tryd.func8 rfl Tryd.ntmps8 rfl fun S hS => ?_
  unfold f_batch_Totals at H
  change ARun _ _ _ _ _ _ [(0, .d (slOf 12 Record.row v0records))] _
  refine .seq ?_
  refine .region ?_
  refine .v (x := .ref 0 0) (v_alloc zr_27 rfl) rfl ?_
  refine .withSt (st' := ⟨[.row 27 [.d (cI 0), .d (cI 0), .d (cI 0), .d (cI 0), .d (cI 0), .d (cI 0)]], []⟩) rfl ?_
  refine .nil ?_
  refine .seq ?_
  refine .region ?_
  refine .q (q_move rfl) rfl ?_
  refine .q (q_lenL (l := v0records) (row := Record.row) Tryd.underlying22 rfl rfl) rfl ?_
  refine .q (x := .d (.agg (Totals.row (⟨(v0records.length : Int), ([0, 0, 0, 0, 0] : List Int)⟩ : Totals)))) (q_buildP pl_27 hi27 hz27 rfl rfl) rfl ?_
  refine .v (x := .ref 1 0) (v_alloc zr_27 rfl) rfl ?_
  refine .withSt (st' := ⟨[.row 27 [.d (cI 0), .d (cI 0), .d (cI 0), .d (cI 0), .d (cI 0), .d (cI 0)], .row 27 [.d (cI 0), .d (cI 0), .d (cI 0), .d (cI 0), .d (cI 0), .d (cI 0)]], []⟩) rfl ?_
  refine .u (u_store rfl rfl rfl rfl (Nat.le_of_ble_eq_true rfl) sz_27) rfl ?_
  refine .withSt (st' := ⟨[.row 27 [.d (cI 0), .d (cI 0), .d (cI 0), .d (cI 0), .d (cI 0), .d (cI 0)], .row 27 [.d (cI (v0records.length : Int)), .d (cI 0), .d (cI 0), .d (cI 0), .d (cI 0), .d (cI 0)]], []⟩) rfl ?_
  refine .nil ?_
  refine .seq ?_
  refine .seq ?_
  refine .region ?_
  refine .q (q_move rfl) rfl ?_
  refine .q (q_lenL (l := v0records) (row := Record.row) Tryd.underlying22 rfl rfl) rfl ?_
  refine .q (q_move rfl) rfl ?_
  refine .nil ?_
  refine .block ?_
  obtain ⟨n1, H⟩ := loop_some H
  refine .withSt (st' := ⟨[.row 27 [.d (cI 0), .d (cI 0), .d (cI 0), .d (cI 0), .d (cI 0), .d (cI 0)], .row 27 [.d (cI (v0records.length : Int)), .d (cI 0), .d (cI 0), .d (cI 0), .d (cI 0), .d (cI 0)]], []⟩) rfl <| .loop (ι := Nat × (Int × Int × Int × Int × Int × Int)) (fun p => [(2, .ref 0 0), (3, .ref 1 0), (9, .d (slOf 12 Record.row v0records)), (10, .d (cI (v0records.length : Int))), (11, .d (cI p.2.1))]) (fun p => ⟨[.row 27 [.d (cI 0), .d (cI 0), .d (cI 0), .d (cI 0), .d (cI 0), .d (cI 0)], .row 27 [.d (cI (v0records.length : Int)), .d (cI p.2.2.1), .d (cI p.2.2.2.1), .d (cI p.2.2.2.2.1), .d (cI p.2.2.2.2.2.1), .d (cI p.2.2.2.2.2.2)]], []⟩) (fun p => iter (fun s => f_batch_Totals_l1 v0records s.1 s.2.1 s.2.2.1 s.2.2.2.1 s.2.2.2.2.1 s.2.2.2.2.2) p.1 p.2 = some r) (·.1) (n1, (0, 0, 0, 0, 0, 0)) H (.cons rfl (.rfl' _) (.cons rfl (.rfl' _) (.cons rfl (.rfl' _) (.cons rfl (.rfl' _) (.cons rfl (.rfl' _) (.nil)))))) rfl ?_
  rintro ⟨m1, v11l1, o1c1l1, o1c2l1, o1c3l1, o1c4l1, o1c5l1⟩ HI ih1
  obtain ⟨n1, q1, hm1, H, HK1⟩ := iter_succ HI
  clear HI
  replace H : f_batch_Totals_l1 v0records v11l1 o1c1l1 o1c2l1 o1c3l1 o1c4l1 o1c5l1 = some q1 := H
  unfold f_batch_Totals_l1 at H
  change ARun _ _ _ _ _ _ [(2, .ref 0 0), (3, .ref 1 0), (9, .d (slOf 12 Record.row v0records)), (10, .d (cI (v0records.length : Int))), (11, .d (cI v11l1))] ⟨[.row 27 [.d (cI 0), .d (cI 0), .d (cI 0), .d (cI 0), .d (cI 0), .d (cI 0)], .row 27 [.d (cI (v0records.length : Int)), .d (cI o1c1l1), .d (cI o1c2l1), .d (cI o1c3l1), .d (cI o1c4l1), .d (cI o1c5l1)]], []⟩
  refine .seq ?_
  refine .region ?_
  refine .q (q_lss rfl rfl) rfl ?_
  refine .nil ?_
  refine .seq ?_
  refine .cond rfl (fun hc => ?_) (fun hc => ?_)
  · replace H := ifT hc H; clear hc
    refine .skip ?_
    refine .seq ?_
    refine .block ?_
    refine .seq ?_
    refine .region ?_
    obtain ⟨hk1, H⟩ := ck_some H
    refine .q (x := .d (.ro (Record.row (nth v0records (Int.toNat (v11l1)))))) (q_idxL (row := Record.row) (l := v0records) (i := v11l1) Tryd.underlying22 hi39 hs39 rfl rfl rfl hk1) rfl ?_
    refine .q (x := .d (.agg (Record.row (nth v0records (Int.toNat (v11l1)))))) (q_loadAll one_39 sz_39 rfl rfl) rfl ?_
    refine .v (x := .ref 2 0) (v_alloc zr_39 rfl) rfl ?_
    refine .withSt (st' := ⟨[.row 27 [.d (cI 0), .d (cI 0), .d (cI 0), .d (cI 0), .d (cI 0), .d (cI 0)], .row 27 [.d (cI (v0records.length : Int)), .d (cI o1c1l1), .d (cI o1c2l1), .d (cI o1c3l1), .d (cI o1c4l1), .d (cI o1c5l1)], .row 39 [.d (cI 0), .d (cI 0), .d (cI 0), .d (cS ([] : List UInt8)), .d (cS ([] : List UInt8)), .d (cI 0), .d (cI 0), .d (cI 0), .d (cI 0), .d (cB false), .d (cI 0), .d (cB false)]], []⟩) rfl ?_
    refine .u (u_store rfl rfl rfl rfl (Nat.le_of_ble_eq_true rfl) sz_39) rfl ?_
    refine .withSt (st' := ⟨[.row 27 [.d (cI 0), .d (cI 0), .d (cI 0), .d (cI 0), .d (cI 0), .d (cI 0)], .row 27 [.d (cI (v0records.length : Int)), .d (cI o1c1l1), .d (cI o1c2l1), .d (cI o1c3l1), .d (cI o1c4l1), .d (cI o1c5l1)], .row 39 [.d (cI ((nth v0records (Int.toNat (v11l1))).source)), .d (cI ((nth v0records (Int.toNat (v11l1))).serial)), .d (cI ((nth v0records (Int.toNat (v11l1))).kind)), .d (cS ((nth v0records (Int.toNat (v11l1))).a)), .d (cS ((nth v0records (Int.toNat (v11l1))).b)), .d (cI ((nth v0records (Int.toNat (v11l1))).start)), .d (cI ((nth v0records (Int.toNat (v11l1))).units)), .d (cI ((nth v0records (Int.toNat (v11l1))).call)), .d (cI ((nth v0records (Int.toNat (v11l1))).part)), .d (cB ((nth v0records (Int.toNat (v11l1))).last)), .d (cI ((nth v0records (Int.toNat (v11l1))).trunk)), .d (cB ((nth v0records (Int.toNat (v11l1))).inbound))]], []⟩) rfl ?_
    refine .nil ?_
    refine .seq ?_
    refine .region ?_
    refine .q (q_fieldRef fo_39_2 rfl) rfl ?_
    refine .q (x := .d (cI ((nth v0records (Int.toNat (v11l1))).kind))) (q_loadO one_3 rfl rfl rfl) rfl ?_
    obtain ⟨y1, hy1, H⟩ := bind_some' H
    refine .g (x := .d (cB y1)) (g_call en_15 rfl rfl (c_f_batch_within (hy1))) rfl ?_
    refine .q (q_move rfl) rfl ?_
    refine .guardG (env' := [(5, _)]) rfl rfl rfl ⟨.inl rfl, trivial⟩ rfl (fun hg => OpQ.g (q_fieldRef fo_39_6 rfl)) ?_
    refine .guardG (b := y1) (x := .d (cI ((nth v0records (Int.toNat (v11l1))).units))) (env' := [(19, _)]) rfl rfl rfl ⟨.inr (.inl rfl), trivial⟩ rfl (fun hg => OpQ.g (q_loadO one_3 rfl rfl rfl)) ?_
    obtain ⟨y2, hy2, H⟩ := bind_some' H
    refine .guardG (b := y1) (x := .d (cB y2)) (env' := [(20, _)]) rfl rfl rfl ⟨.inr (.inl rfl), trivial⟩ rfl (fun hg => (g_call en_15 rfl rfl (c_f_batch_within (gcall_some hy2 hg)))) ?_
    refine .q (q_pickAndB rfl rfl rfl) rfl ?_
    refine .nil ?_
    refine .cond rfl (fun hc => ?_) (fun hc => ?_)
    · replace H := ifT hc H; clear hc
      refine .drawn 10 hMix (by kernel_rfl) ?_
      show DOps _ _ _ _ _ _ _ (_ :: _) _ _ _
      refine .q (q_fieldRef fo_39_2 rfl) rfl ?_
      refine .q (x := .d (cI ((nth v0records (Int.toNat (v11l1))).kind))) (q_loadO one_3 rfl rfl rfl) rfl ?_
      refine .q (q_fieldRef fo_27_1 rfl) rfl ?_
      obtain ⟨hk2, H⟩ := ck_some H
      refine .q (x := .ref 1 (1 + Int.toNat ((nth v0records (Int.toNat (v11l1))).kind))) (q_idxK (off := 1) (i := (nth v0records (Int.toNat (v11l1))).kind) Tryd.underlying25 ⟨_, hi3, hs3⟩ rfl rfl hk2) rfl ?_
      obtain ⟨hk3, H⟩ := ck_some H
      refine .q (x := .d (cI (nth ([o1c1l1, o1c2l1, o1c3l1, o1c4l1, o1c5l1] : List Int) (Int.toNat ((nth v0records (Int.toNat (v11l1))).kind))))) (q_loadK (n := 5) (off := 1) (i := Int.toNat ((nth v0records (Int.toNat (v11l1))).kind)) (l := ([o1c1l1, o1c2l1, o1c3l1, o1c4l1, o1c5l1] : List Int)) (c1 := cI) one_3 rfl rfl rfl hk3) rfl ?_
      refine .q (q_fieldRef fo_39_6 rfl) rfl ?_
      refine .q (x := .d (cI ((nth v0records (Int.toNat (v11l1))).units))) (q_loadO one_3 rfl rfl rfl) rfl ?_
      obtain ⟨hk4, H⟩ := ck_some H
      refine .q (q_addI rfl rfl hk4.1 hk4.2) rfl ?_
      refine .q (q_fieldRef fo_27_1 rfl) rfl ?_
      obtain ⟨hk5, H⟩ := ck_some H
      refine .q (x := .ref 1 (1 + Int.toNat ((nth v0records (Int.toNat (v11l1))).kind))) (q_idxK (off := 1) (i := (nth v0records (Int.toNat (v11l1))).kind) Tryd.underlying25 ⟨_, hi3, hs3⟩ rfl rfl hk5) rfl ?_
      refine .nil ?_
      show AOps _ _ _ _ _ _ (_ :: _) _ _ _
      obtain ⟨hk6, H⟩ := ck_some H
      refine .u (u_storeK (n := 5) (off := 1) (i := Int.toNat ((nth v0records (Int.toNat (v11l1))).kind)) (l := ([o1c1l1, o1c2l1, o1c3l1, o1c4l1, o1c5l1] : List Int)) (c1 := cI) (a := (nth ([o1c1l1, o1c2l1, o1c3l1, o1c4l1, o1c5l1] : List Int) (Int.toNat ((nth v0records (Int.toNat (v11l1))).kind))) + ((nth v0records (Int.toNat (v11l1))).units)) rfl rfl rfl rfl rfl hk6 sz_3) rfl ?_
      refine .withSt (st' := ⟨[.row 27 [.d (cI 0), .d (cI 0), .d (cI 0), .d (cI 0), .d (cI 0), .d (cI 0)], .row 27 [.d (cI (v0records.length : Int)), .d (cI (nth (setN ([o1c1l1, o1c2l1, o1c3l1, o1c4l1, o1c5l1] : List Int) 5 (Int.toNat ((nth v0records (Int.toNat (v11l1))).kind)) ((nth ([o1c1l1, o1c2l1, o1c3l1, o1c4l1, o1c5l1] : List Int) (Int.toNat ((nth v0records (Int.toNat (v11l1))).kind))) + ((nth v0records (Int.toNat (v11l1))).units))) 0)), .d (cI (nth (setN ([o1c1l1, o1c2l1, o1c3l1, o1c4l1, o1c5l1] : List Int) 5 (Int.toNat ((nth v0records (Int.toNat (v11l1))).kind)) ((nth ([o1c1l1, o1c2l1, o1c3l1, o1c4l1, o1c5l1] : List Int) (Int.toNat ((nth v0records (Int.toNat (v11l1))).kind))) + ((nth v0records (Int.toNat (v11l1))).units))) 1)), .d (cI (nth (setN ([o1c1l1, o1c2l1, o1c3l1, o1c4l1, o1c5l1] : List Int) 5 (Int.toNat ((nth v0records (Int.toNat (v11l1))).kind)) ((nth ([o1c1l1, o1c2l1, o1c3l1, o1c4l1, o1c5l1] : List Int) (Int.toNat ((nth v0records (Int.toNat (v11l1))).kind))) + ((nth v0records (Int.toNat (v11l1))).units))) 2)), .d (cI (nth (setN ([o1c1l1, o1c2l1, o1c3l1, o1c4l1, o1c5l1] : List Int) 5 (Int.toNat ((nth v0records (Int.toNat (v11l1))).kind)) ((nth ([o1c1l1, o1c2l1, o1c3l1, o1c4l1, o1c5l1] : List Int) (Int.toNat ((nth v0records (Int.toNat (v11l1))).kind))) + ((nth v0records (Int.toNat (v11l1))).units))) 3)), .d (cI (nth (setN ([o1c1l1, o1c2l1, o1c3l1, o1c4l1, o1c5l1] : List Int) 5 (Int.toNat ((nth v0records (Int.toNat (v11l1))).kind)) ((nth ([o1c1l1, o1c2l1, o1c3l1, o1c4l1, o1c5l1] : List Int) (Int.toNat ((nth v0records (Int.toNat (v11l1))).kind))) + ((nth v0records (Int.toNat (v11l1))).units))) 4))], .row 39 [.d (cI ((nth v0records (Int.toNat (v11l1))).source)), .d (cI ((nth v0records (Int.toNat (v11l1))).serial)), .d (cI ((nth v0records (Int.toNat (v11l1))).kind)), .d (cS ((nth v0records (Int.toNat (v11l1))).a)), .d (cS ((nth v0records (Int.toNat (v11l1))).b)), .d (cI ((nth v0records (Int.toNat (v11l1))).start)), .d (cI ((nth v0records (Int.toNat (v11l1))).units)), .d (cI ((nth v0records (Int.toNat (v11l1))).call)), .d (cI ((nth v0records (Int.toNat (v11l1))).part)), .d (cB ((nth v0records (Int.toNat (v11l1))).last)), .d (cI ((nth v0records (Int.toNat (v11l1))).trunk)), .d (cB ((nth v0records (Int.toNat (v11l1))).inbound))]], []⟩) rfl ?_
      refine .nil ?_
      refine .inBlock ?_
      refine .region ?_
      obtain ⟨hk7, H⟩ := ck_some H
      refine .q (q_addI rfl rfl hk7.1 hk7.2) rfl ?_
      refine .q (q_move rfl) rfl ?_
      refine .nil ?_
      cases H
      exact .to 2 0 (env' := [(2, .ref 0 0), (3, .ref 1 0), (9, .d (slOf 12 Record.row v0records)), (10, .d (cI (v0records.length : Int))), (11, .d (cI (v11l1 + 1)))]) (st' := ⟨[.row 27 [.d (cI 0), .d (cI 0), .d (cI 0), .d (cI 0), .d (cI 0), .d (cI 0)], .row 27 [.d (cI (v0records.length : Int)), .d (cI (nth (setN ([o1c1l1, o1c2l1, o1c3l1, o1c4l1, o1c5l1] : List Int) 5 (Int.toNat ((nth v0records (Int.toNat (v11l1))).kind)) ((nth ([o1c1l1, o1c2l1, o1c3l1, o1c4l1, o1c5l1] : List Int) (Int.toNat ((nth v0records (Int.toNat (v11l1))).kind))) + ((nth v0records (Int.toNat (v11l1))).units))) 0)), .d (cI (nth (setN ([o1c1l1, o1c2l1, o1c3l1, o1c4l1, o1c5l1] : List Int) 5 (Int.toNat ((nth v0records (Int.toNat (v11l1))).kind)) ((nth ([o1c1l1, o1c2l1, o1c3l1, o1c4l1, o1c5l1] : List Int) (Int.toNat ((nth v0records (Int.toNat (v11l1))).kind))) + ((nth v0records (Int.toNat (v11l1))).units))) 1)), .d (cI (nth (setN ([o1c1l1, o1c2l1, o1c3l1, o1c4l1, o1c5l1] : List Int) 5 (Int.toNat ((nth v0records (Int.toNat (v11l1))).kind)) ((nth ([o1c1l1, o1c2l1, o1c3l1, o1c4l1, o1c5l1] : List Int) (Int.toNat ((nth v0records (Int.toNat (v11l1))).kind))) + ((nth v0records (Int.toNat (v11l1))).units))) 2)), .d (cI (nth (setN ([o1c1l1, o1c2l1, o1c3l1, o1c4l1, o1c5l1] : List Int) 5 (Int.toNat ((nth v0records (Int.toNat (v11l1))).kind)) ((nth ([o1c1l1, o1c2l1, o1c3l1, o1c4l1, o1c5l1] : List Int) (Int.toNat ((nth v0records (Int.toNat (v11l1))).kind))) + ((nth v0records (Int.toNat (v11l1))).units))) 3)), .d (cI (nth (setN ([o1c1l1, o1c2l1, o1c3l1, o1c4l1, o1c5l1] : List Int) 5 (Int.toNat ((nth v0records (Int.toNat (v11l1))).kind)) ((nth ([o1c1l1, o1c2l1, o1c3l1, o1c4l1, o1c5l1] : List Int) (Int.toNat ((nth v0records (Int.toNat (v11l1))).kind))) + ((nth v0records (Int.toNat (v11l1))).units))) 4))]], []⟩) (.cons rfl (.rfl' _) (.cons rfl (.rfl' _) (.cons rfl (.rfl' _) (.cons rfl (.rfl' _) (.cons rfl (.rfl' _) (.nil)))))) rfl rfl rfl rfl rfl (by rw [hS]; exact Nat.le_of_ble_eq_true rfl) (by rw [hS]; exact Nat.le_of_ble_eq_true rfl) <| .sub (.cons rfl (.rfl' _) (.cons rfl (.rfl' _) (.cons rfl (.rfl' _) (.cons rfl (.rfl' _) (.cons rfl (.rfl' _) (.nil)))))) (ih1 (n1, (v11l1 + 1, nth (setN ([o1c1l1, o1c2l1, o1c3l1, o1c4l1, o1c5l1] : List Int) 5 (Int.toNat ((nth v0records (Int.toNat (v11l1))).kind)) ((nth ([o1c1l1, o1c2l1, o1c3l1, o1c4l1, o1c5l1] : List Int) (Int.toNat ((nth v0records (Int.toNat (v11l1))).kind))) + ((nth v0records (Int.toNat (v11l1))).units))) 0, nth (setN ([o1c1l1, o1c2l1, o1c3l1, o1c4l1, o1c5l1] : List Int) 5 (Int.toNat ((nth v0records (Int.toNat (v11l1))).kind)) ((nth ([o1c1l1, o1c2l1, o1c3l1, o1c4l1, o1c5l1] : List Int) (Int.toNat ((nth v0records (Int.toNat (v11l1))).kind))) + ((nth v0records (Int.toNat (v11l1))).units))) 1, nth (setN ([o1c1l1, o1c2l1, o1c3l1, o1c4l1, o1c5l1] : List Int) 5 (Int.toNat ((nth v0records (Int.toNat (v11l1))).kind)) ((nth ([o1c1l1, o1c2l1, o1c3l1, o1c4l1, o1c5l1] : List Int) (Int.toNat ((nth v0records (Int.toNat (v11l1))).kind))) + ((nth v0records (Int.toNat (v11l1))).units))) 2, nth (setN ([o1c1l1, o1c2l1, o1c3l1, o1c4l1, o1c5l1] : List Int) 5 (Int.toNat ((nth v0records (Int.toNat (v11l1))).kind)) ((nth ([o1c1l1, o1c2l1, o1c3l1, o1c4l1, o1c5l1] : List Int) (Int.toNat ((nth v0records (Int.toNat (v11l1))).kind))) + ((nth v0records (Int.toNat (v11l1))).units))) 3, nth (setN ([o1c1l1, o1c2l1, o1c3l1, o1c4l1, o1c5l1] : List Int) 5 (Int.toNat ((nth v0records (Int.toNat (v11l1))).kind)) ((nth ([o1c1l1, o1c2l1, o1c3l1, o1c4l1, o1c5l1] : List Int) (Int.toNat ((nth v0records (Int.toNat (v11l1))).kind))) + ((nth v0records (Int.toNat (v11l1))).units))) 4)) HK1 hm1)
    · replace H := ifF hc H; clear hc
      refine .skip ?_
      refine .inBlock ?_
      refine .region ?_
      obtain ⟨hk8, H⟩ := ck_some H
      refine .q (q_addI rfl rfl hk8.1 hk8.2) rfl ?_
      refine .q (q_move rfl) rfl ?_
      refine .nil ?_
      cases H
      exact .to 2 0 (env' := [(2, .ref 0 0), (3, .ref 1 0), (9, .d (slOf 12 Record.row v0records)), (10, .d (cI (v0records.length : Int))), (11, .d (cI (v11l1 + 1)))]) (st' := ⟨[.row 27 [.d (cI 0), .d (cI 0), .d (cI 0), .d (cI 0), .d (cI 0), .d (cI 0)], .row 27 [.d (cI (v0records.length : Int)), .d (cI o1c1l1), .d (cI o1c2l1), .d (cI o1c3l1), .d (cI o1c4l1), .d (cI o1c5l1)]], []⟩) (.cons rfl (.rfl' _) (.cons rfl (.rfl' _) (.cons rfl (.rfl' _) (.cons rfl (.rfl' _) (.cons rfl (.rfl' _) (.nil)))))) rfl rfl rfl rfl rfl (by rw [hS]; exact Nat.le_of_ble_eq_true rfl) (by rw [hS]; exact Nat.le_of_ble_eq_true rfl) <| .sub (.cons rfl (.rfl' _) (.cons rfl (.rfl' _) (.cons rfl (.rfl' _) (.cons rfl (.rfl' _) (.cons rfl (.rfl' _) (.nil)))))) (ih1 (n1, (v11l1 + 1, o1c1l1, o1c2l1, o1c3l1, o1c4l1, o1c5l1)) HK1 hm1)
  · replace H := ifF hc H; clear hc
    refine .exit rfl ?_
    refine .seq ?_
    refine .region ?_
    refine .q (x := .d (.agg (Totals.row (⟨(v0records.length : Int), ([o1c1l1, o1c2l1, o1c3l1, o1c4l1, o1c5l1] : List Int)⟩ : Totals)))) (q_loadOA one_27 sz_27 rfl rfl (Nat.le_of_ble_eq_true rfl) rfl) rfl ?_
    refine .u (u_store rfl rfl rfl rfl (Nat.le_of_ble_eq_true rfl) sz_27) rfl ?_
    refine .withSt (st' := ⟨[.row 27 [.d (cI (v0records.length : Int)), .d (cI o1c1l1), .d (cI o1c2l1), .d (cI o1c3l1), .d (cI o1c4l1), .d (cI o1c5l1)], .row 27 [.d (cI (v0records.length : Int)), .d (cI o1c1l1), .d (cI o1c2l1), .d (cI o1c3l1), .d (cI o1c4l1), .d (cI o1c5l1)]], []⟩) rfl ?_
    refine .nil ?_
    refine .retN [.cell 2 27] [.d (.agg (Totals.row (⟨(v0records.length : Int), ([o1c1l1, o1c2l1, o1c3l1, o1c4l1, o1c5l1] : List Int)⟩ : Totals)))] Tryd.func8 Tryd.results8 ⟨⟨⟨_, _, rfl⟩, q_loadOA one_27 sz_27 rfl rfl (Nat.le_of_ble_eq_true rfl) rfl⟩, trivial⟩ ?_
    cases H
    cases HK1
    exact ⟨_, .rfl' _, rfl⟩

set_option maxRecDepth 100000 in
set_option maxHeartbeats 1000000 in
theorem c_f_batch_headOf {v0b : Batch} {r : Head} (H : f_batch_headOf v0b = some r) : ACall Tryd.prog 16 [.agg (Batch.row v0b)] (· = .agg (Head.row r)) := by
  obtain ⟨i42, hi42, hz42, hs42, hb42⟩ := in_42
  refine ACall.enter' Tryd.func16 rfl Tryd.ntmps16 rfl fun S hS => ?_
  unfold f_batch_headOf at H
  change ARun _ _ _ _ _ _ [(0, .d (.agg (Batch.row v0b)))] _
  refine .seq ?_
  refine .region ?_
  refine .v (x := .ref 0 0) (v_box rfl rfl) rfl ?_
  refine .withSt (st' := ⟨[.row 31 [.d (cI v0b.source), .d (cI v0b.number), .d (cI v0b.format), .d (slOf 12 Record.row v0b.records)]], []⟩) rfl ?_
  refine .v (x := .ref 1 0) (v_alloc zr_42 rfl) rfl ?_
  refine .withSt (st' := ⟨[.row 31 [.d (cI v0b.source), .d (cI v0b.number), .d (cI v0b.format), .d (slOf 12 Record.row v0b.records)], .row 42 [.d (cI 0), .d (cI 0), .d (cI 0), .d (cI 0)]], []⟩) rfl ?_
  refine .nil ?_
  refine .seq ?_
  refine .region ?_
  refine .q (q_fieldRef fo_31_0 rfl) rfl ?_
  refine .q (x := .d (cI v0b.source)) (q_loadO one_3 rfl rfl rfl) rfl ?_
  refine .q (q_fieldRef fo_31_1 rfl) rfl ?_
  refine .q (x := .d (cI v0b.number)) (q_loadO one_3 rfl rfl rfl) rfl ?_
  refine .q (q_fieldRef fo_31_2 rfl) rfl ?_
  refine .q (x := .d (cI v0b.format)) (q_loadO one_3 rfl rfl rfl) rfl ?_
  refine .q (q_fieldRef fo_31_3 rfl) rfl ?_
  refine .q (x := .d (slOf 12 Record.row v0b.records)) (q_loadO one_22 rfl rfl rfl) rfl ?_
  refine .q (q_lenL (l := v0b.records) (row := Record.row) Tryd.underlying22 rfl rfl) rfl ?_
  refine .q (x := .d (.agg (Head.row (⟨v0b.source, v0b.number, v0b.format, (v0b.records.length : Int)⟩ : Head)))) (q_buildP pl_42 hi42 hz42 rfl rfl) rfl ?_
  refine .u (u_store rfl rfl rfl rfl (Nat.le_of_ble_eq_true rfl) sz_42) rfl ?_
  refine .withSt (st' := ⟨[.row 31 [.d (cI v0b.source), .d (cI v0b.number), .d (cI v0b.format), .d (slOf 12 Record.row v0b.records)], .row 42 [.d (cI v0b.source), .d (cI v0b.number), .d (cI v0b.format), .d (cI (v0b.records.length : Int))]], []⟩) rfl ?_
  refine .nil ?_
  refine .retN [.cell 2 42] [.d (.agg (Head.row (⟨v0b.source, v0b.number, v0b.format, (v0b.records.length : Int)⟩ : Head)))] Tryd.func16 Tryd.results16 ⟨⟨⟨_, _, rfl⟩, q_loadOA one_42 sz_42 rfl rfl (Nat.le_of_ble_eq_true rfl) rfl⟩, trivial⟩ ?_
  cases H
  exact ⟨_, .rfl' _, rfl⟩

set_option maxRecDepth 100000 in
set_option maxHeartbeats 1000000 in
theorem c_f_batch_checkHead {v0h : Head} {r : Int} (H : f_batch_checkHead v0h = some r) : ACall Tryd.prog 23 [.agg (Head.row v0h)] (· = cI r) := by
  refine ACall.enter' Tryd.func23 rfl Tryd.ntmps23 rfl fun S hS => ?_
  unfold f_batch_checkHead at H
  change ARun _ _ _ _ _ _ [(0, .d (.agg (Head.row v0h)))] _
  refine .seq ?_
  refine .region ?_
  refine .v (x := .ref 0 0) (v_box rfl rfl) rfl ?_
  refine .withSt (st' := ⟨[.row 42 [.d (cI v0h.source), .d (cI v0h.number), .d (cI v0h.format), .d (cI v0h.count)]], []⟩) rfl ?_
  refine .q (q_assign rfl) rfl ?_
  refine .nil ?_
  refine .seq ?_
  refine .block ?_
  refine .seq ?_
  refine .region ?_
  refine .q (q_fieldRef fo_42_0 rfl) rfl ?_
  refine .q (x := .d (cI v0h.source)) (q_loadO one_3 rfl rfl rfl) rfl ?_
  obtain ⟨y1, hy1, H⟩ := bind_some' H
  refine .g (x := .d (cB y1)) (g_call en_15 rfl rfl (c_f_batch_within (hy1))) rfl ?_
  refine .q (q_not rfl) rfl ?_
  refine .q (q_move rfl) rfl ?_
  refine .guardG (env' := [(1, _)]) rfl rfl rfl ⟨.inl rfl, trivial⟩ rfl (fun hg => OpQ.g (q_fieldRef fo_42_1 rfl)) ?_
  refine .guardG (b := (!(!y1))) (x := .d (cI v0h.number)) (env' := [(9, _)]) rfl rfl rfl ⟨.inr (.inl rfl), trivial⟩ rfl (fun hg => OpQ.g (q_loadO one_3 rfl rfl rfl)) ?_
  obtain ⟨y2, hy2, H⟩ := bind_some' H
  refine .guardG (b := (!(!y1))) (x := .d (cB y2)) (env' := [(10, _)]) rfl rfl rfl ⟨.inr (.inl rfl), trivial⟩ rfl (fun hg => (g_call en_15 rfl rfl (c_f_batch_within (gcall_some hy2 hg)))) ?_
  refine .guardG (env' := [(11, _)]) rfl rfl rfl ⟨.inr (.inl rfl), trivial⟩ rfl (fun hg => OpQ.g (q_not rfl)) ?_
  refine .q (q_pickOrB rfl rfl rfl) rfl ?_
  refine .q (q_assign rfl) rfl ?_
  refine .nil ?_
  refine .cond rfl (fun hc => ?_) (fun hc => ?_)
  · replace H := ifT hc H; clear hc
    refine .seq ?_
    refine .region ?_
    refine .q (q_assign rfl) rfl ?_
    refine .nil ?_
    refine .retN [.tmp 2] [.d (cI 6)] Tryd.func23 Tryd.results23 ⟨rfl, trivial⟩ ?_
    cases H
    exact ⟨_, .rfl' _, rfl⟩
  · replace H := ifF hc H; clear hc
    refine .seq ?_
    refine .region ?_
    refine .q (q_fieldRef fo_42_2 rfl) rfl ?_
    refine .q (x := .d (cI v0h.format)) (q_loadO one_3 rfl rfl rfl) rfl ?_
    obtain ⟨y3, hy3, H⟩ := bind_some' H
    refine .g (x := .d (cB y3)) (g_call en_15 rfl rfl (c_f_batch_within (hy3))) rfl ?_
    refine .q (q_not rfl) rfl ?_
    refine .q (q_assign rfl) rfl ?_
    refine .nil ?_
    refine .cond rfl (fun hc => ?_) (fun hc => ?_)
    · replace H := ifT hc H; clear hc
      refine .seq ?_
      refine .region ?_
      refine .q (q_assign rfl) rfl ?_
      refine .nil ?_
      refine .retN [.tmp 2] [.d (cI 7)] Tryd.func23 Tryd.results23 ⟨rfl, trivial⟩ ?_
      cases H
      exact ⟨_, .rfl' _, rfl⟩
    · replace H := ifF hc H; clear hc
      refine .seq ?_
      refine .region ?_
      refine .q (q_fieldRef fo_42_3 rfl) rfl ?_
      refine .q (x := .d (cI v0h.count)) (q_loadO one_3 rfl rfl rfl) rfl ?_
      obtain ⟨y4, hy4, H⟩ := bind_some' H
      refine .g (x := .d (cB y4)) (g_call en_15 rfl rfl (c_f_batch_within (hy4))) rfl ?_
      refine .q (q_not rfl) rfl ?_
      refine .q (q_assign rfl) rfl ?_
      refine .nil ?_
      refine .cond rfl (fun hc => ?_) (fun hc => ?_)
      · replace H := ifT hc H; clear hc
        refine .seq ?_
        refine .region ?_
        refine .q (q_assign rfl) rfl ?_
        refine .nil ?_
        refine .retN [.tmp 2] [.d (cI 5)] Tryd.func23 Tryd.results23 ⟨rfl, trivial⟩ ?_
        cases H
        exact ⟨_, .rfl' _, rfl⟩
      · replace H := ifF hc H; clear hc
        refine .skip ?_
        refine .inBlock ?_
        refine .seq ?_
        refine .region ?_
        refine .q (q_assign rfl) rfl ?_
        refine .nil ?_
        refine .retN [.tmp 2] [.d (cI 0)] Tryd.func23 Tryd.results23 ⟨rfl, trivial⟩ ?_
        cases H
        exact ⟨_, .rfl' _, rfl⟩

set_option maxRecDepth 100000 in
set_option maxHeartbeats 1000000 in
theorem c_f_textual_within {v0n : Int} {v1lo : Int} {v2hi : Int} {r : Bool} (H : f_textual_within v0n v1lo v2hi = some r) : ACall Tryd.prog 70 [cI v0n, cI v1lo, cI v2hi] (· = cB r) := by
  refine ACall.enter' Tryd.func70 rfl Tryd.ntmps70 rfl fun S hS => ?_
  unfold f_textual_within at H
  change ARun _ _ _ _ _ _ [(0, .d (cI v0n)), (1, .d (cI v1lo)), (2, .d (cI v2hi))] _
  refine .seq ?_
  refine .region ?_
  refine .q (q_assign rfl) rfl ?_
  refine .nil ?_
  refine .seq ?_
  refine .region ?_
  refine .q (q_move rfl) rfl ?_
  refine .q (q_move rfl) rfl ?_
  refine .q (q_geq rfl rfl) rfl ?_
  refine .q (q_move rfl) rfl ?_
  refine .guardG (env' := [(0, _)]) rfl rfl rfl ⟨.inl rfl, trivial⟩ rfl (fun hg => OpQ.g (q_move rfl)) ?_
  refine .guardG (env' := [(2, _)]) rfl rfl rfl ⟨.inl rfl, trivial⟩ rfl (fun hg => OpQ.g (q_move rfl)) ?_
  refine .guardG (env' := [(11, _), (12, _)]) rfl rfl rfl ⟨.inr (.inl rfl), ⟨.inr (.inl rfl), trivial⟩⟩ rfl (fun hg => OpQ.g (q_leq rfl rfl)) ?_
  refine .q (q_pickAndB rfl rfl rfl) rfl ?_
  refine .q (q_assign rfl) rfl ?_
  refine .nil ?_
  refine .retN [.tmp 6] [.d (cB ((decide (v0n ≥ v1lo)) && (decide (v0n ≤ v2hi))))] Tryd.func70 Tryd.results70 ⟨rfl, trivial⟩ ?_
  cases H
  exact ⟨_, .rfl' _, rfl⟩

set_option maxRecDepth 100000 in
set_option maxHeartbeats 1000000 in
theorem c_f_digits_digit {v0c : UInt8} {r : Bool} (H : f_digits_digit v0c = some r) : ACall Tryd.prog 82 [cU8 v0c] (· = cB r) := by
  refine ACall.enter' Tryd.func82 rfl Tryd.ntmps82 rfl fun S hS => ?_
  unfold f_digits_digit at H
  change ARun _ _ _ _ _ _ [(0, .d (cU8 v0c))] _
  refine .seq ?_
  refine .region ?_
  refine .q (q_assign rfl) rfl ?_
  refine .nil ?_
  refine .seq ?_
  refine .region ?_
  refine .q (q_move rfl) rfl ?_
  refine .q (x := .d (cB (decide (v0c ≥ 48)))) (q8_geq (a := v0c) (b := 48) rfl rfl) rfl ?_
  refine .q (q_move rfl) rfl ?_
  refine .guardG (env' := [(0, _)]) rfl rfl rfl ⟨.inl rfl, trivial⟩ rfl (fun hg => OpQ.g (q_move rfl)) ?_
  refine .guardG (b := decide (v0c ≥ 48)) (x := .d (cB (decide (v0c ≤ 57)))) (env' := [(6, _)]) rfl rfl rfl ⟨.inr (.inl rfl), trivial⟩ rfl (fun hg => OpQ.g (q8_leq (a := v0c) (b := 57) rfl rfl)) ?_
  refine .q (q_pickAndB rfl rfl rfl) rfl ?_
  refine .q (q_assign rfl) rfl ?_
  refine .nil ?_
  refine .retN [.tmp 2] [.d (cB ((decide (v0c ≥ 48)) && (decide (v0c ≤ 57))))] Tryd.func82 Tryd.results82 ⟨rfl, trivial⟩ ?_
  cases H
  exact ⟨_, .rfl' _, rfl⟩

set_option maxRecDepth 100000 in
set_option maxHeartbeats 1000000 in
theorem c_f_digits_Valid {v0s : List UInt8} {r : Bool} (H : f_digits_Valid v0s = some r) : ACall Tryd.prog 71 [cS v0s] (· = cB r) := by
  refine ACall.enter' Tryd.func71 rfl Tryd.ntmps71 rfl fun S hS => ?_
  unfold f_digits_Valid at H
  change ARun _ _ _ _ _ _ [(0, .d (cS v0s))] _
  refine .seq ?_
  refine .region ?_
  refine .q (q_assign rfl) rfl ?_
  refine .nil ?_
  refine .seq ?_
  refine .seq ?_
  refine .region ?_
  refine .q (q_move rfl) rfl ?_
  refine .q (q_lenS Tryd.underlying9 rfl) rfl ?_
  refine .q (q_move rfl) rfl ?_
  refine .nil ?_
  refine .blockJoin2 (ι := Unit) (fun s => [(0, .d (cS v0s))]) (fun s => ⟨[], []⟩) (fun s => f_digits_Valid_j1 v0s = some r) ?_ ?_
  · rintro _ H
    replace H : f_digits_Valid_j1 v0s = some r := H
    unfold f_digits_Valid_j1 at H
    change ARun _ _ _ _ _ _ [(0, .d (cS v0s))] ⟨[], []⟩
    refine .seq ?_
    refine .region ?_
    refine .q (q_move rfl) rfl ?_
    refine .q (q_lenS Tryd.underlying9 rfl) rfl ?_
    refine .q (q_geq rfl rfl) rfl ?_
    refine .q (q_move rfl) rfl ?_
    refine .guardG (env' := [(0, _)]) rfl rfl rfl ⟨.inl rfl, trivial⟩ rfl (fun hg => OpQ.g (q_move rfl)) ?_
    refine .guardG (env' := [(19, _)]) rfl rfl rfl ⟨.inr (.inl rfl), trivial⟩ rfl (fun hg => OpQ.g (q_lenS Tryd.underlying9 rfl)) ?_
    refine .guardG (env' := [(20, _)]) rfl rfl rfl ⟨.inr (.inl rfl), trivial⟩ rfl (fun hg => OpQ.g (q_leq rfl rfl)) ?_
    refine .q (q_pickAndB rfl rfl rfl) rfl ?_
    refine .q (q_assign rfl) rfl ?_
    refine .nil ?_
    refine .retN [.tmp 2] [.d (cB ((decide ((v0s.length : Int) ≥ 1)) && (decide ((v0s.length : Int) ≤ 15))))] Tryd.func71 Tryd.results71 ⟨rfl, trivial⟩ ?_
    cases H
    exact ⟨_, .rfl' _, rfl⟩
  · intro hj1 hj1x
    obtain ⟨n1, H⟩ := loop_some H
    refine .loop (ι := Nat × (Int)) (fun p => [(0, .d (cS v0s)), (5, .d (cI (v0s.length : Int))), (6, .d (cI p.2))]) (fun p => ⟨[], []⟩) (fun p => iter (fun s => f_digits_Valid_l1 v0s s) p.1 p.2 = some r) (·.1) (n1, 0) H (.cons rfl (.rfl' _) (.cons rfl (.rfl' _) (.cons rfl (.rfl' _) (.nil)))) rfl ?_
    rintro ⟨m1, v6l1⟩ HI ih1
    obtain ⟨n1, q1, hm1, H, HK1⟩ := iter_succ HI
    clear HI
    replace H : f_digits_Valid_l1 v0s v6l1 = some q1 := H
    unfold f_digits_Valid_l1 at H
    change ARun _ _ _ _ _ _ [(0, .d (cS v0s)), (5, .d (cI (v0s.length : Int))), (6, .d (cI v6l1))] ⟨[], []⟩
    refine .seq ?_
    refine .region ?_
    refine .q (q_lss rfl rfl) rfl ?_
    refine .nil ?_
    refine .seq ?_
    refine .cond rfl (fun hc => ?_) (fun hc => ?_)
    · replace H := ifT hc H; clear hc
      refine .skip ?_
      refine .seq ?_
      refine .block ?_
      refine .seq ?_
      refine .region ?_
      refine .q (q_move rfl) rfl ?_
      refine .q (q_assign rfl) rfl ?_
      refine .nil ?_
      refine .seq ?_
      refine .region ?_
      refine .q (q_move rfl) rfl ?_
      refine .q (q_move rfl) rfl ?_
      obtain ⟨hk1, H⟩ := ck_some H
      refine .q (x := .d (cU8 (nth v0s (Int.toNat (v6l1))))) (q_indexL (i := v6l1) Tryd.underlying9 rfl rfl hk1) rfl ?_
      obtain ⟨y1, hy1, H⟩ := bind_some' H
      refine .g (x := .d (cB y1)) (g_call en_82 rfl rfl (c_f_digits_digit (hy1))) rfl ?_
      refine .q (q_not rfl) rfl ?_
      refine .nil ?_
      refine .cond rfl (fun hc => ?_) (fun hc => ?_)
      · replace H := ifT hc H; clear hc
        refine .seq ?_
        refine .region ?_
        refine .q (q_assign rfl) rfl ?_
        refine .nil ?_
        refine .retN [.tmp 2] [.d (cB false)] Tryd.func71 Tryd.results71 ⟨rfl, trivial⟩ ?_
        cases H
        cases HK1
        exact ⟨_, .rfl' _, rfl⟩
      · replace H := ifF hc H; clear hc
        refine .skip ?_
        refine .inBlock ?_
        refine .region ?_
        obtain ⟨hk2, H⟩ := ck_some H
        refine .q (q_addI rfl rfl hk2.1 hk2.2) rfl ?_
        refine .q (q_move rfl) rfl ?_
        refine .nil ?_
        cases H
        exact .sub (.cons rfl (.rfl' _) (.cons rfl (.rfl' _) (.cons rfl (.rfl' _) (.nil)))) (ih1 (n1, (v6l1 + 1)) HK1 hm1)
    · replace H := ifF hc H; clear hc
      refine .exit rfl ?_
      obtain ⟨q0, H9, hq0⟩ := map_some' H; clear H; cases hq0
      cases HK1
      have H := H9
      exact .sub (.cons rfl (.rfl' _) (.nil)) (hj1x () H)

set_option maxRecDepth 100000 in
set_option maxHeartbeats 1000000 in
theorem c_f_textual_check {v0 : Record} {r : Int} (H : f_textual_check v0 = some r) : ACall Tryd.prog 40 [.agg (Record.row v0)] (· = cI r) := by
  refine ACall.enter' Tryd.func40 rfl Tryd.ntmps40 rfl fun S hS => ?_
  unfold f_textual_check at H
  change ARun _ _ _ _ _ _ [(0, .d (.agg (Record.row v0)))] _
  refine .seq ?_
  refine .region ?_
  refine .v (x := .ref 0 0) (v_box rfl rfl) rfl ?_
  refine .withSt (st' := ⟨[.row 39 [.d (cI v0.source), .d (cI v0.serial), .d (cI v0.kind), .d (cS v0.a), .d (cS v0.b), .d (cI v0.start), .d (cI v0.units), .d (cI v0.call), .d (cI v0.part), .d (cB v0.last), .d (cI v0.trunk), .d (cB v0.inbound)]], []⟩) rfl ?_
  refine .q (q_assign rfl) rfl ?_
  refine .nil ?_
  refine .seq ?_
  refine .region ?_
  refine .q (q_fieldRef fo_39_2 rfl) rfl ?_
  refine .q (x := .d (cI v0.kind)) (q_loadO one_3 rfl rfl rfl) rfl ?_
  refine .q (q_eql rfl rfl) rfl ?_
  refine .q (q_move rfl) rfl ?_
  refine .guardG (env' := [(1, _)]) rfl rfl rfl ⟨.inl rfl, trivial⟩ rfl (fun hg => OpQ.g (q_fieldRef fo_39_2 rfl)) ?_
  refine .guardG (b := (!(v0.kind == 3))) (x := .d (cI v0.kind)) (env' := [(9, _)]) rfl rfl rfl ⟨.inr (.inl rfl), trivial⟩ rfl (fun hg => OpQ.g (q_loadO one_3 rfl rfl rfl)) ?_
  refine .guardG (env' := [(10, _)]) rfl rfl rfl ⟨.inr (.inl rfl), trivial⟩ rfl (fun hg => OpQ.g (q_eql rfl rfl)) ?_
  refine .q (q_pickOrB rfl rfl rfl) rfl ?_
  refine .q (q_assign rfl) rfl ?_
  refine .nil ?_
  refine .seq ?_
  refine .region ?_
  refine .q (q_assign rfl) rfl ?_
  refine .nil ?_
  refine .seqJoin (ι := Int) (fun s => [(1, .ref 0 0), (3, .d (cB ((v0.kind == 3) || (v0.kind == 4)))), (4, .d (cI s))]) (fun s => ⟨[.row 39 [.d (cI v0.source), .d (cI v0.serial), .d (cI v0.kind), .d (cS v0.a), .d (cS v0.b), .d (cI v0.start), .d (cI v0.units), .d (cI v0.call), .d (cI v0.part), .d (cB v0.last), .d (cI v0.trunk), .d (cB v0.inbound)]], []⟩) (fun s => f_textual_check_j1 v0 s = some r) ?_ ?_
  · rintro v4j1 H
    replace H : f_textual_check_j1 v0 v4j1 = some r := H
    unfold f_textual_check_j1 at H
    change ARun _ _ _ _ _ _ [(1, .ref 0 0), (3, .d (cB ((v0.kind == 3) || (v0.kind == 4)))), (4, .d (cI v4j1))] ⟨[.row 39 [.d (cI v0.source), .d (cI v0.serial), .d (cI v0.kind), .d (cS v0.a), .d (cS v0.b), .d (cI v0.start), .d (cI v0.units), .d (cI v0.call), .d (cI v0.part), .d (cB v0.last), .d (cI v0.trunk), .d (cB v0.inbound)]], []⟩
    refine .seq ?_
    refine .block ?_
    refine .seq ?_
    refine .region ?_
    refine .q (q_fieldRef fo_39_0 rfl) rfl ?_
    refine .q (x := .d (cI v0.source)) (q_loadO one_3 rfl rfl rfl) rfl ?_
    obtain ⟨y1, hy1, H⟩ := bind_some' H
    refine .g (x := .d (cB y1)) (g_call en_70 rfl rfl (c_f_textual_within (hy1))) rfl ?_
    refine .q (q_not rfl) rfl ?_
    refine .q (q_move rfl) rfl ?_
    refine .guardG (env' := [(1, _)]) rfl rfl rfl ⟨.inl rfl, trivial⟩ rfl (fun hg => OpQ.g (q_fieldRef fo_39_1 rfl)) ?_
    refine .guardG (b := (!(!y1))) (x := .d (cI v0.serial)) (env' := [(22, _)]) rfl rfl rfl ⟨.inr (.inl rfl), trivial⟩ rfl (fun hg => OpQ.g (q_loadO one_3 rfl rfl rfl)) ?_
    obtain ⟨y2, hy2, H⟩ := bind_some' H
    refine .guardG (b := (!(!y1))) (x := .d (cB y2)) (env' := [(23, _)]) rfl rfl rfl ⟨.inr (.inl rfl), trivial⟩ rfl (fun hg => (g_call en_70 rfl rfl (c_f_textual_within (gcall_some hy2 hg)))) ?_
    refine .guardG (env' := [(24, _)]) rfl rfl rfl ⟨.inr (.inl rfl), trivial⟩ rfl (fun hg => OpQ.g (q_not rfl)) ?_
    refine .q (q_pickOrB rfl rfl rfl) rfl ?_
    refine .q (q_assign rfl) rfl ?_
    refine .nil ?_
    refine .cond rfl (fun hc => ?_) (fun hc => ?_)
    · replace H := ifT hc H; clear hc
      refine .seq ?_
      refine .region ?_
      refine .q (q_assign rfl) rfl ?_
      refine .nil ?_
      refine .retN [.tmp 2] [.d (cI 6)] Tryd.func40 Tryd.results40 ⟨rfl, trivial⟩ ?_
      cases H
      exact ⟨_, .rfl' _, rfl⟩
    · replace H := ifF hc H; clear hc
      refine .seq ?_
      refine .region ?_
      refine .q (q_fieldRef fo_39_2 rfl) rfl ?_
      refine .q (x := .d (cI v0.kind)) (q_loadO one_3 rfl rfl rfl) rfl ?_
      obtain ⟨y3, hy3, H⟩ := bind_some' H
      refine .g (x := .d (cB y3)) (g_call en_70 rfl rfl (c_f_textual_within (hy3))) rfl ?_
      refine .q (q_not rfl) rfl ?_
      refine .q (q_assign rfl) rfl ?_
      refine .nil ?_
      refine .cond rfl (fun hc => ?_) (fun hc => ?_)
      · replace H := ifT hc H; clear hc
        refine .seq ?_
        refine .region ?_
        refine .q (q_assign rfl) rfl ?_
        refine .nil ?_
        refine .retN [.tmp 2] [.d (cI 7)] Tryd.func40 Tryd.results40 ⟨rfl, trivial⟩ ?_
        cases H
        exact ⟨_, .rfl' _, rfl⟩
      · replace H := ifF hc H; clear hc
        refine .seq ?_
        refine .region ?_
        refine .q (q_fieldRef fo_39_3 rfl) rfl ?_
        refine .q (x := .d (cS v0.a)) (q_loadO one_9 rfl rfl rfl) rfl ?_
        obtain ⟨y4, hy4, H⟩ := bind_some' H
        refine .g (x := .d (cB y4)) (g_call en_71 rfl rfl (c_f_digits_Valid (hy4))) rfl ?_
        refine .q (q_not rfl) rfl ?_
        refine .q (q_move rfl) rfl ?_
        refine .guardG (env' := [(1, _)]) rfl rfl rfl ⟨.inl rfl, trivial⟩ rfl (fun hg => OpQ.g (q_fieldRef fo_39_4 rfl)) ?_
        refine .guardG (b := (!(!y4))) (x := .d (cS v0.b)) (env' := [(38, _)]) rfl rfl rfl ⟨.inr (.inl rfl), trivial⟩ rfl (fun hg => OpQ.g (q_loadO one_9 rfl rfl rfl)) ?_
        obtain ⟨y5, hy5, H⟩ := bind_some' H
        refine .guardG (b := (!(!y4))) (x := .d (cB y5)) (env' := [(39, _)]) rfl rfl rfl ⟨.inr (.inl rfl), trivial⟩ rfl (fun hg => (g_call en_71 rfl rfl (c_f_digits_Valid (gcall_some hy5 hg)))) ?_
        refine .guardG (env' := [(40, _)]) rfl rfl rfl ⟨.inr (.inl rfl), trivial⟩ rfl (fun hg => OpQ.g (q_not rfl)) ?_
        refine .guardG (env' := [(41, _)]) rfl rfl rfl ⟨.inr (.inl rfl), trivial⟩ rfl (fun hg => OpQ.g (q_move rfl)) ?_
        refine .guardG (env' := [(3, _)]) rfl rfl rfl ⟨.inl rfl, trivial⟩ rfl (fun hg => OpQ.g (q_move rfl)) ?_
        refine .guardG (env' := [(43, _)]) rfl rfl rfl ⟨.inr (.inl rfl), trivial⟩ rfl (fun hg => OpQ.g (q_move rfl)) ?_
        refine .guardG (env' := [(1, _)]) rfl rfl rfl ⟨.inl rfl, trivial⟩ rfl (fun hg => OpQ.g (q_fieldRef fo_39_4 rfl)) ?_
        refine .guardG (b := (((!(!y4)) && (!y5)) && ((v0.kind == 3) || (v0.kind == 4)))) (x := .d (cS v0.b)) (env' := [(45, _)]) rfl rfl rfl ⟨.inr (.inl rfl), trivial⟩ rfl (fun hg => OpQ.g (q_loadO one_9 rfl rfl rfl)) ?_
        refine .guardG (env' := [(46, _)]) rfl rfl rfl ⟨.inr (.inl rfl), trivial⟩ rfl (fun hg => OpQ.g (q_seql rfl rfl)) ?_
        refine .guardG (env' := [(44, _), (47, _)]) rfl rfl rfl ⟨.inr (.inl rfl), ⟨.inr (.inr ⟨_, _, rfl, rfl⟩), trivial⟩⟩ rfl (fun hg => OpQ.g (q_pickAndB rfl rfl rfl)) ?_
        refine .guardG (env' := [(48, _)]) rfl rfl rfl ⟨.inr (.inl rfl), trivial⟩ rfl (fun hg => OpQ.g (q_not rfl)) ?_
        refine .guardG (env' := [(42, _), (49, _)]) rfl rfl rfl ⟨.inr (.inl rfl), ⟨.inr (.inr ⟨_, _, rfl, rfl⟩), trivial⟩⟩ rfl (fun hg => OpQ.g (q_pickAndB rfl rfl rfl)) ?_
        refine .q (q_pickOrB rfl rfl rfl) rfl ?_
        refine .q (q_assign rfl) rfl ?_
        refine .nil ?_
        refine .cond rfl (fun hc => ?_) (fun hc => ?_)
        · replace H := ifT hc H; clear hc
          refine .seq ?_
          refine .region ?_
          refine .q (q_assign rfl) rfl ?_
          refine .nil ?_
          refine .retN [.tmp 2] [.d (cI 12)] Tryd.func40 Tryd.results40 ⟨rfl, trivial⟩ ?_
          cases H
          exact ⟨_, .rfl' _, rfl⟩
        · replace H := ifF hc H; clear hc
          refine .seq ?_
          refine .region ?_
          refine .q (q_fieldRef fo_39_5 rfl) rfl ?_
          refine .q (x := .d (cI v0.start)) (q_loadO one_3 rfl rfl rfl) rfl ?_
          obtain ⟨y6, hy6, H⟩ := bind_some' H
          refine .g (x := .d (cB y6)) (g_call en_70 rfl rfl (c_f_textual_within (hy6))) rfl ?_
          refine .q (q_not rfl) rfl ?_
          refine .q (q_assign rfl) rfl ?_
          refine .nil ?_
          refine .cond rfl (fun hc => ?_) (fun hc => ?_)
          · replace H := ifT hc H; clear hc
            refine .seq ?_
            refine .region ?_
            refine .q (q_assign rfl) rfl ?_
            refine .nil ?_
            refine .retN [.tmp 2] [.d (cI 15)] Tryd.func40 Tryd.results40 ⟨rfl, trivial⟩ ?_
            cases H
            exact ⟨_, .rfl' _, rfl⟩
          · replace H := ifF hc H; clear hc
            refine .seq ?_
            refine .region ?_
            refine .q (q_fieldRef fo_39_6 rfl) rfl ?_
            refine .q (x := .d (cI v0.units)) (q_loadO one_3 rfl rfl rfl) rfl ?_
            refine .q (q_move rfl) rfl ?_
            obtain ⟨y7, hy7, H⟩ := bind_some' H
            refine .g (x := .d (cB y7)) (g_call en_70 rfl rfl (c_f_textual_within (hy7))) rfl ?_
            refine .q (q_not rfl) rfl ?_
            refine .q (q_assign rfl) rfl ?_
            refine .nil ?_
            refine .cond rfl (fun hc => ?_) (fun hc => ?_)
            · replace H := ifT hc H; clear hc
              refine .seq ?_
              refine .region ?_
              refine .q (q_assign rfl) rfl ?_
              refine .nil ?_
              refine .retN [.tmp 2] [.d (cI 6)] Tryd.func40 Tryd.results40 ⟨rfl, trivial⟩ ?_
              cases H
              exact ⟨_, .rfl' _, rfl⟩
            · replace H := ifF hc H; clear hc
              refine .seq ?_
              refine .region ?_
              refine .q (q_fieldRef fo_39_2 rfl) rfl ?_
              refine .q (x := .d (cI v0.kind)) (q_loadO one_3 rfl rfl rfl) rfl ?_
              refine .q (q_eql rfl rfl) rfl ?_
              refine .q (q_move rfl) rfl ?_
              refine .guardG (env' := [(1, _)]) rfl rfl rfl ⟨.inl rfl, trivial⟩ rfl (fun hg => OpQ.g (q_fieldRef fo_39_5 rfl)) ?_
              refine .guardG (b := (v0.kind == 1)) (x := .d (cI v0.start)) (env' := [(68, _)]) rfl rfl rfl ⟨.inr (.inl rfl), trivial⟩ rfl (fun hg => OpQ.g (q_loadO one_3 rfl rfl rfl)) ?_
              refine .guardG (env' := [(1, _)]) rfl rfl rfl ⟨.inl rfl, trivial⟩ rfl (fun hg => OpQ.g (q_fieldRef fo_39_6 rfl)) ?_
              refine .guardG (b := (v0.kind == 1)) (x := .d (cI v0.units)) (env' := [(70, _)]) rfl rfl rfl ⟨.inr (.inl rfl), trivial⟩ rfl (fun hg => OpQ.g (q_loadO one_3 rfl rfl rfl)) ?_
              obtain ⟨hk1, H⟩ := ck_some H
              refine .guardG (env' := [(69, _), (71, _)]) rfl rfl rfl ⟨.inr (.inl rfl), ⟨.inr (.inl rfl), trivial⟩⟩ rfl (fun hg => OpQ.g (q_addI rfl rfl (hk1 hg).1 (hk1 hg).2)) ?_
              refine .guardG (env' := [(72, _)]) rfl rfl rfl ⟨.inr (.inl rfl), trivial⟩ rfl (fun hg => OpQ.g (q_gtr rfl rfl)) ?_
              refine .q (q_pickAndB rfl rfl rfl) rfl ?_
              refine .q (q_assign rfl) rfl ?_
              refine .nil ?_
              refine .cond rfl (fun hc => ?_) (fun hc => ?_)
              · replace H := ifT hc H; clear hc
                refine .seq ?_
                refine .region ?_
                refine .q (q_assign rfl) rfl ?_
                refine .nil ?_
                refine .retN [.tmp 2] [.d (cI 15)] Tryd.func40 Tryd.results40 ⟨rfl, trivial⟩ ?_
                cases H
                exact ⟨_, .rfl' _, rfl⟩
              · replace H := ifF hc H; clear hc
                refine .seq ?_
                refine .region ?_
                refine .q (q_fieldRef fo_39_7 rfl) rfl ?_
                refine .q (x := .d (cI v0.call)) (q_loadO one_3 rfl rfl rfl) rfl ?_
                obtain ⟨y8, hy8, H⟩ := bind_some' H
                refine .g (x := .d (cB y8)) (g_call en_70 rfl rfl (c_f_textual_within (hy8))) rfl ?_
                refine .q (q_not rfl) rfl ?_
                refine .q (q_move rfl) rfl ?_
                refine .guardG (env' := [(1, _)]) rfl rfl rfl ⟨.inl rfl, trivial⟩ rfl (fun hg => OpQ.g (q_fieldRef fo_39_8 rfl)) ?_
                refine .guardG (b := (!(!y8))) (x := .d (cI v0.part)) (env' := [(81, _)]) rfl rfl rfl ⟨.inr (.inl rfl), trivial⟩ rfl (fun hg => OpQ.g (q_loadO one_3 rfl rfl rfl)) ?_
                obtain ⟨y9, hy9, H⟩ := bind_some' H
                refine .guardG (b := (!(!y8))) (x := .d (cB y9)) (env' := [(82, _)]) rfl rfl rfl ⟨.inr (.inl rfl), trivial⟩ rfl (fun hg => (g_call en_70 rfl rfl (c_f_textual_within (gcall_some hy9 hg)))) ?_
                refine .guardG (env' := [(83, _)]) rfl rfl rfl ⟨.inr (.inl rfl), trivial⟩ rfl (fun hg => OpQ.g (q_not rfl)) ?_
                refine .q (q_pickOrB rfl rfl rfl) rfl ?_
                refine .q (q_assign rfl) rfl ?_
                refine .nil ?_
                refine .cond rfl (fun hc => ?_) (fun hc => ?_)
                · replace H := ifT hc H; clear hc
                  refine .seq ?_
                  refine .region ?_
                  refine .q (q_assign rfl) rfl ?_
                  refine .nil ?_
                  refine .retN [.tmp 2] [.d (cI 6)] Tryd.func40 Tryd.results40 ⟨rfl, trivial⟩ ?_
                  cases H
                  exact ⟨_, .rfl' _, rfl⟩
                · replace H := ifF hc H; clear hc
                  refine .seq ?_
                  refine .region ?_
                  refine .q (q_fieldRef fo_39_8 rfl) rfl ?_
                  refine .q (x := .d (cI v0.part)) (q_loadO one_3 rfl rfl rfl) rfl ?_
                  refine .q (q_eql rfl rfl) rfl ?_
                  refine .q (q_fieldRef fo_39_7 rfl) rfl ?_
                  refine .q (x := .d (cI v0.call)) (q_loadO one_3 rfl rfl rfl) rfl ?_
                  refine .q (q_eql rfl rfl) rfl ?_
                  refine .q (x := .d (cB ((v0.part == 0) != (v0.call == 0)))) (q_bneq rfl Tryd.underlying4 rfl) rfl ?_
                  refine .q (q_move rfl) rfl ?_
                  refine .guardG (env' := [(1, _)]) rfl rfl rfl ⟨.inl rfl, trivial⟩ rfl (fun hg => OpQ.g (q_fieldRef fo_39_9 rfl)) ?_
                  refine .guardG (b := (!((v0.part == 0) != (v0.call == 0)))) (x := .d (cB v0.last)) (env' := [(95, _)]) rfl rfl rfl ⟨.inr (.inl rfl), trivial⟩ rfl (fun hg => OpQ.g (q_loadO one_4 rfl rfl rfl)) ?_
                  refine .guardG (env' := [(96, _)]) rfl rfl rfl ⟨.inr (.inl rfl), trivial⟩ rfl (fun hg => OpQ.g (q_move rfl)) ?_
                  refine .guardG (env' := [(1, _)]) rfl rfl rfl ⟨.inl rfl, trivial⟩ rfl (fun hg => OpQ.g (q_fieldRef fo_39_8 rfl)) ?_
                  refine .guardG (b := ((!((v0.part == 0) != (v0.call == 0))) && v0.last)) (x := .d (cI v0.part)) (env' := [(98, _)]) rfl rfl rfl ⟨.inr (.inl rfl), trivial⟩ rfl (fun hg => OpQ.g (q_loadO one_3 rfl rfl rfl)) ?_
                  refine .guardG (env' := [(99, _)]) rfl rfl rfl ⟨.inr (.inl rfl), trivial⟩ rfl (fun hg => OpQ.g (q_eql rfl rfl)) ?_
                  refine .guardG (env' := [(97, _), (100, _)]) rfl rfl rfl ⟨.inr (.inl rfl), ⟨.inr (.inr ⟨_, _, rfl, rfl⟩), trivial⟩⟩ rfl (fun hg => OpQ.g (q_pickAndB rfl rfl rfl)) ?_
                  refine .q (q_pickOrB rfl rfl rfl) rfl ?_
                  refine .q (q_assign rfl) rfl ?_
                  refine .nil ?_
                  refine .cond rfl (fun hc => ?_) (fun hc => ?_)
                  · replace H := ifT hc H; clear hc
                    refine .seq ?_
                    refine .region ?_
                    refine .q (q_assign rfl) rfl ?_
                    refine .nil ?_
                    refine .retN [.tmp 2] [.d (cI 8)] Tryd.func40 Tryd.results40 ⟨rfl, trivial⟩ ?_
                    cases H
                    exact ⟨_, .rfl' _, rfl⟩
                  · replace H := ifF hc H; clear hc
                    refine .seq ?_
                    refine .region ?_
                    refine .q (q_fieldRef fo_39_10 rfl) rfl ?_
                    refine .q (x := .d (cI v0.trunk)) (q_loadO one_3 rfl rfl rfl) rfl ?_
                    obtain ⟨y10, hy10, H⟩ := bind_some' H
                    refine .g (x := .d (cB y10)) (g_call en_70 rfl rfl (c_f_textual_within (hy10))) rfl ?_
                    refine .q (q_not rfl) rfl ?_
                    refine .q (q_assign rfl) rfl ?_
                    refine .nil ?_
                    refine .cond rfl (fun hc => ?_) (fun hc => ?_)
                    · replace H := ifT hc H; clear hc
                      refine .seq ?_
                      refine .region ?_
                      refine .q (q_assign rfl) rfl ?_
                      refine .nil ?_
                      refine .retN [.tmp 2] [.d (cI 6)] Tryd.func40 Tryd.results40 ⟨rfl, trivial⟩ ?_
                      cases H
                      exact ⟨_, .rfl' _, rfl⟩
                    · replace H := ifF hc H; clear hc
                      refine .seq ?_
                      refine .region ?_
                      refine .q (q_fieldRef fo_39_11 rfl) rfl ?_
                      refine .q (x := .d (cB v0.inbound)) (q_loadO one_4 rfl rfl rfl) rfl ?_
                      refine .q (q_move rfl) rfl ?_
                      refine .guardG (env' := [(1, _)]) rfl rfl rfl ⟨.inl rfl, trivial⟩ rfl (fun hg => OpQ.g (q_fieldRef fo_39_10 rfl)) ?_
                      refine .guardG (b := v0.inbound) (x := .d (cI v0.trunk)) (env' := [(112, _)]) rfl rfl rfl ⟨.inr (.inl rfl), trivial⟩ rfl (fun hg => OpQ.g (q_loadO one_3 rfl rfl rfl)) ?_
                      refine .guardG (env' := [(113, _)]) rfl rfl rfl ⟨.inr (.inl rfl), trivial⟩ rfl (fun hg => OpQ.g (q_eql rfl rfl)) ?_
                      refine .q (q_pickAndB rfl rfl rfl) rfl ?_
                      refine .q (q_assign rfl) rfl ?_
                      refine .nil ?_
                      refine .cond rfl (fun hc => ?_) (fun hc => ?_)
                      · replace H := ifT hc H; clear hc
                        refine .seq ?_
                        refine .region ?_
                        refine .q (q_assign rfl) rfl ?_
                        refine .nil ?_
                        refine .retN [.tmp 2] [.d (cI 8)] Tryd.func40 Tryd.results40 ⟨rfl, trivial⟩ ?_
                        cases H
                        exact ⟨_, .rfl' _, rfl⟩
                      · replace H := ifF hc H; clear hc
                        refine .skip ?_
                        refine .inBlock ?_
                        refine .seq ?_
                        refine .region ?_
                        refine .q (q_assign rfl) rfl ?_
                        refine .nil ?_
                        refine .retN [.tmp 2] [.d (cI 0)] Tryd.func40 Tryd.results40 ⟨rfl, trivial⟩ ?_
                        cases H
                        exact ⟨_, .rfl' _, rfl⟩
  · intro hj1
    refine .seq ?_
    refine .region ?_
    refine .q (q_fieldRef fo_39_2 rfl) rfl ?_
    refine .q (x := .d (cI v0.kind)) (q_loadO one_3 rfl rfl rfl) rfl ?_
    refine .q (q_eql rfl rfl) rfl ?_
    refine .nil ?_
    refine .cond rfl (fun hc => ?_) (fun hc => ?_)
    · replace H := ifT hc H; clear hc
      refine .region ?_
      refine .q (q_assign rfl) rfl ?_
      refine .nil ?_
      exact .sub (.cons rfl (.rfl' _) (.cons rfl (.rfl' _) (.cons rfl (.rfl' _) (.nil)))) (hj1 604800 H)
    · replace H := ifF hc H; clear hc
      refine .skip ?_
      exact .sub (.cons rfl (.rfl' _) (.cons rfl (.rfl' _) (.cons rfl (.rfl' _) (.nil)))) (hj1 1099511627776 H)

set_option maxRecDepth 100000 in
set_option maxHeartbeats 1000000 in
theorem c_f_textual_Encode {v0 : Record} {r : (List UInt8) × Int} (H : f_textual_Encode v0 = some r) : ACall Tryd.prog 24 [.agg (Record.row v0)] (· = .tup [cS r.1, cI r.2]) := by
  obtain ⟨i9, hi9, hz9, hs9, hb9⟩ := in_9
  refine ACall.enter' Tryd.func24 rfl Tryd.ntmps24 rfl fun S hS => ?_
  unfold f_textual_Encode at H
  change ARun _ _ _ _ _ _ [(0, .d (.agg (Record.row v0)))] _
  refine .seq ?_
  refine .region ?_
  refine .v (x := .ref 0 0) (v_box rfl rfl) rfl ?_
  refine .withSt (st' := ⟨[.row 39 [.d (cI v0.source), .d (cI v0.serial), .d (cI v0.kind), .d (cS v0.a), .d (cS v0.b), .d (cI v0.start), .d (cI v0.units), .d (cI v0.call), .d (cI v0.part), .d (cB v0.last), .d (cI v0.trunk), .d (cB v0.inbound)]], []⟩) rfl ?_
  refine .q (q_assign rfl) rfl ?_
  refine .q (q_assign rfl) rfl ?_
  refine .nil ?_
  refine .seq ?_
  refine .seq ?_
  refine .region ?_
  refine .q (x := .d (.agg (Record.row v0))) (q_loadOA one_39 sz_39 rfl rfl (Nat.le_of_ble_eq_true rfl) rfl) rfl ?_
  obtain ⟨y1, hy1, H⟩ := bind_some' H
  refine .g (x := .d (cI y1)) (g_call en_40 rfl rfl (c_f_textual_check (hy1))) rfl ?_
  refine .q (q_assign rfl) rfl ?_
  refine .nil ?_
  refine .seq ?_
  refine .region ?_
  refine .q (q_move rfl) rfl ?_
  refine .q (q_neq rfl rfl) rfl ?_
  refine .nil ?_
  refine .cond rfl (fun hc => ?_) (fun hc => ?_)
  · replace H := ifT hc H; clear hc
    refine .seq ?_
    refine .region ?_
    refine .q (q_move rfl) rfl ?_
    refine .q (q_assign rfl) rfl ?_
    refine .q (q_assign rfl) rfl ?_
    refine .nil ?_
    refine .retN [.tmp 2, .tmp 3] [.d (cS ([] : List UInt8)), .d (cI y1)] Tryd.func24 Tryd.results24 ⟨rfl, rfl, trivial⟩ ?_
    cases H
    exact ⟨_, EVle.tupL (ds := [cS ([] : List UInt8), cI y1]) ⟨.rfl' _, .rfl' _, trivial⟩, rfl⟩
  · replace H := ifF hc H; clear hc
    refine .skip ?_
    refine .seq ?_
    refine .region ?_
    refine .q (q_assign rfl) rfl ?_
    refine .nil ?_
    refine .seq ?_
    refine .region ?_
    refine .q (q_fieldRef fo_39_4 rfl) rfl ?_
    refine .q (x := .d (cS v0.b)) (q_loadO one_9 rfl rfl rfl) rfl ?_
    refine .q (q_assign rfl) rfl ?_
    refine .nil ?_
    refine .seqJoin (ι := List UInt8) (fun s => [(1, .ref 0 0), (5, .d (.ex (.func (.func 41) #[] #[]))), (6, .d (cS s))]) (fun s => ⟨[.row 39 [.d (cI v0.source), .d (cI v0.serial), .d (cI v0.kind), .d (cS v0.a), .d (cS v0.b), .d (cI v0.start), .d (cI v0.units), .d (cI v0.call), .d (cI v0.part), .d (cB v0.last), .d (cI v0.trunk), .d (cB v0.inbound)]], []⟩) (fun s => f_textual_Encode_j1 v0 s = some r) ?_ ?_
    · rintro v6j1 H
      replace H : f_textual_Encode_j1 v0 v6j1 = some r := H
      unfold f_textual_Encode_j1 at H
      change ARun _ _ _ _ _ _ [(1, .ref 0 0), (5, .d (.ex (.func (.func 41) #[] #[]))), (6, .d (cS v6j1))] ⟨[.row 39 [.d (cI v0.source), .d (cI v0.serial), .d (cI v0.kind), .d (cS v0.a), .d (cS v0.b), .d (cI v0.start), .d (cI v0.units), .d (cI v0.call), .d (cI v0.part), .d (cB v0.last), .d (cI v0.trunk), .d (cB v0.inbound)]], []⟩
      refine .seq ?_
      refine .drawn 25 hMix (by kernel_rfl) ?_
      show DOps _ _ _ _ _ _ _ (_ :: _) _ _ _
      refine .q (q_fieldRef fo_39_2 rfl) rfl ?_
      refine .q (x := .d (cI v0.kind)) (q_loadO one_3 rfl rfl rfl) rfl ?_
      obtain ⟨hk1, H⟩ := ck_some H
      refine .q (q_subI rfl rfl hk1.1 hk1.2) rfl ?_
      refine .q (q_fieldRef fo_39_2 rfl) rfl ?_
      refine .q (x := .d (cI v0.kind)) (q_loadO one_3 rfl rfl rfl) rfl ?_
      obtain ⟨hk2, H⟩ := ck_some H
      refine .q (x := .d (cS ((([118, 116, 100, 99] : List UInt8).take (Int.toNat (v0.kind))).drop (Int.toNat (v0.kind - 1))))) (q_strLHL Tryd.underlying9 rfl rfl rfl hk2) rfl ?_
      refine .q (q_move rfl) rfl ?_
      refine .q (q_fieldRef fo_39_0 rfl) rfl ?_
      refine .q (x := .d (cI v0.source)) (q_loadO one_3 rfl rfl rfl) rfl ?_
      obtain ⟨y2, hy2, H⟩ := bind_some' H
      refine .g (x := .d (cS y2)) (g_callF en_41 rfl rfl rfl (c_x_Itoa (hy2))) rfl ?_
      refine .q (q_move rfl) rfl ?_
      refine .q (q_fieldRef fo_39_1 rfl) rfl ?_
      refine .q (x := .d (cI v0.serial)) (q_loadO one_3 rfl rfl rfl) rfl ?_
      obtain ⟨y3, hy3, H⟩ := bind_some' H
      refine .g (x := .d (cS y3)) (g_callF en_41 rfl rfl rfl (c_x_Itoa (hy3))) rfl ?_
      refine .q (q_fieldRef fo_39_3 rfl) rfl ?_
      refine .q (x := .d (cS v0.a)) (q_loadO one_9 rfl rfl rfl) rfl ?_
      refine .q (q_move rfl) rfl ?_
      refine .q (q_move rfl) rfl ?_
      refine .q (q_fieldRef fo_39_5 rfl) rfl ?_
      refine .q (x := .d (cI v0.start)) (q_loadO one_3 rfl rfl rfl) rfl ?_
      obtain ⟨y4, hy4, H⟩ := bind_some' H
      refine .g (x := .d (cS y4)) (g_callF en_41 rfl rfl rfl (c_x_Itoa (hy4))) rfl ?_
      refine .q (q_move rfl) rfl ?_
      refine .q (q_fieldRef fo_39_6 rfl) rfl ?_
      refine .q (x := .d (cI v0.units)) (q_loadO one_3 rfl rfl rfl) rfl ?_
      obtain ⟨y5, hy5, H⟩ := bind_some' H
      refine .g (x := .d (cS y5)) (g_callF en_41 rfl rfl rfl (c_x_Itoa (hy5))) rfl ?_
      refine .nil ?_
      show AOps _ _ _ _ _ _ (_ :: _) _ _ _
      refine .v (x := .tsl 1 (([(([118, 116, 100, 99] : List UInt8).take (Int.toNat (v0.kind))).drop (Int.toNat (v0.kind - 1)), y2, y3, v0.a, v6j1, y4, y5] : List (List UInt8)).map rS) 0) (v_buildSliceT (n := 7) Tryd.underlying69 hi9 hs9 hz9 rfl rfl rfl rfl rfl) rfl ?_
      refine .withSt (st' := ⟨[.row 39 [.d (cI v0.source), .d (cI v0.serial), .d (cI v0.kind), .d (cS v0.a), .d (cS v0.b), .d (cI v0.start), .d (cI v0.units), .d (cI v0.call), .d (cI v0.part), .d (cB v0.last), .d (cI v0.trunk), .d (cB v0.inbound)]], [⟨9, 1, ([(([118, 116, 100, 99] : List UInt8).take (Int.toNat (v0.kind))).drop (Int.toNat (v0.kind - 1)), y2, y3, v0.a, v6j1, y4, y5] : List (List UInt8)).length, none⟩]⟩) rfl ?_
      refine .q (q_assign rfl) rfl ?_
      refine .nil ?_
      refine .seqJoin (ι := List (List UInt8)) (fun s => [(1, .ref 0 0), (5, .d (.ex (.func (.func 41) #[] #[]))), (7, .tsl 1 (s.map rS) 0)]) (fun s => ⟨[.row 39 [.d (cI v0.source), .d (cI v0.serial), .d (cI v0.kind), .d (cS v0.a), .d (cS v0.b), .d (cI v0.start), .d (cI v0.units), .d (cI v0.call), .d (cI v0.part), .d (cB v0.last), .d (cI v0.trunk), .d (cB v0.inbound)]], [⟨9, 1, s.length, none⟩]⟩) (fun s => f_textual_Encode_j2 v0 s = some r) ?_ ?_
      · rintro v7j2 H
        replace H : f_textual_Encode_j2 v0 v7j2 = some r := H
        unfold f_textual_Encode_j2 at H
        change ARun _ _ _ _ _ _ [(1, .ref 0 0), (5, .d (.ex (.func (.func 41) #[] #[]))), (7, .tsl 1 (v7j2.map rS) 0)] ⟨[.row 39 [.d (cI v0.source), .d (cI v0.serial), .d (cI v0.kind), .d (cS v0.a), .d (cS v0.b), .d (cI v0.start), .d (cI v0.units), .d (cI v0.call), .d (cI v0.part), .d (cB v0.last), .d (cI v0.trunk), .d (cB v0.inbound)]], [⟨9, 1, v7j2.length, none⟩]⟩
        refine .seqJoin (ι := List (List UInt8)) (fun s => [(7, .tsl 1 (s.map rS) 0)]) (fun s => ⟨[.row 39 [.d (cI v0.source), .d (cI v0.serial), .d (cI v0.kind), .d (cS v0.a), .d (cS v0.b), .d (cI v0.start), .d (cI v0.units), .d (cI v0.call), .d (cI v0.part), .d (cB v0.last), .d (cI v0.trunk), .d (cB v0.inbound)]], [⟨9, 1, s.length, none⟩]⟩) (fun s => f_textual_Encode_j3 s = some r) ?_ ?_
        · rintro v7j3 H
          replace H : f_textual_Encode_j3 v7j3 = some r := H
          unfold f_textual_Encode_j3 at H
          change ARun _ _ _ _ _ _ [(7, .tsl 1 (v7j3.map rS) 0)] ⟨[.row 39 [.d (cI v0.source), .d (cI v0.serial), .d (cI v0.kind), .d (cS v0.a), .d (cS v0.b), .d (cI v0.start), .d (cI v0.units), .d (cI v0.call), .d (cI v0.part), .d (cB v0.last), .d (cI v0.trunk), .d (cB v0.inbound)]], [⟨9, 1, v7j3.length, none⟩]⟩
          refine .seq ?_
          refine .region ?_
          refine .q (q_move rfl) rfl ?_
          obtain ⟨y6, hy6, H⟩ := bind_some' H
          refine .g (x := .d (cS y6)) (g_call en_42 rfl rfl (c_x_Join (hy6))) rfl ?_
          refine .q (q_assign rfl) rfl ?_
          refine .q (q_assign rfl) rfl ?_
          refine .nil ?_
          refine .retN [.tmp 2, .tmp 3] [.d (cS y6), .d (cI 0)] Tryd.func24 Tryd.results24 ⟨rfl, rfl, trivial⟩ ?_
          cases H
          exact ⟨_, EVle.tupL (ds := [cS y6, cI 0]) ⟨.rfl' _, .rfl' _, trivial⟩, rfl⟩
        · intro hj3
          refine .seq ?_
          refine .region ?_
          refine .q (q_fieldRef fo_39_10 rfl) rfl ?_
          refine .q (x := .d (cI v0.trunk)) (q_loadO one_3 rfl rfl rfl) rfl ?_
          refine .q (q_neq rfl rfl) rfl ?_
          refine .nil ?_
          refine .cond rfl (fun hc => ?_) (fun hc => ?_)
          · replace H := ifT hc H; clear hc
            refine .seq ?_
            refine .region ?_
            refine .q (q_assign rfl) rfl ?_
            refine .nil ?_
            refine .seqJoin (ι := List UInt8) (fun s => [(1, .ref 0 0), (5, .d (.ex (.func (.func 41) #[] #[]))), (7, .tsl 1 (v7j2.map rS) 0), (8, .d (cS s))]) (fun s => ⟨[.row 39 [.d (cI v0.source), .d (cI v0.serial), .d (cI v0.kind), .d (cS v0.a), .d (cS v0.b), .d (cI v0.start), .d (cI v0.units), .d (cI v0.call), .d (cI v0.part), .d (cB v0.last), .d (cI v0.trunk), .d (cB v0.inbound)]], [⟨9, 1, v7j2.length, none⟩]⟩) (fun s => f_textual_Encode_j4 v0 v7j2 s = some r) ?_ ?_
            · rintro v8j4 H
              replace H : f_textual_Encode_j4 v0 v7j2 v8j4 = some r := H
              unfold f_textual_Encode_j4 at H
              change ARun _ _ _ _ _ _ [(1, .ref 0 0), (5, .d (.ex (.func (.func 41) #[] #[]))), (7, .tsl 1 (v7j2.map rS) 0), (8, .d (cS v8j4))] ⟨[.row 39 [.d (cI v0.source), .d (cI v0.serial), .d (cI v0.kind), .d (cS v0.a), .d (cS v0.b), .d (cI v0.start), .d (cI v0.units), .d (cI v0.call), .d (cI v0.part), .d (cB v0.last), .d (cI v0.trunk), .d (cB v0.inbound)]], [⟨9, 1, v7j2.length, none⟩]⟩
              refine .region ?_
              refine .q (q_move rfl) rfl ?_
              refine .q (q_move rfl) rfl ?_
              refine .q (q_move rfl) rfl ?_
              refine .q (q_fieldRef fo_39_10 rfl) rfl ?_
              refine .q (x := .d (cI v0.trunk)) (q_loadO one_3 rfl rfl rfl) rfl ?_
              obtain ⟨y7, hy7, H⟩ := bind_some' H
              refine .g (x := .d (cS y7)) (g_callF en_41 rfl rfl rfl (c_x_Itoa (hy7))) rfl ?_
              refine .g (x := .d (slOf 1 rS ([v8j4, y7] : List (List UInt8)))) (g_buildSliceN (n := 2) (rows := ([v8j4, y7] : List (List UInt8)).map rS) Tryd.underlying69 hi9 hs9 hz9 rfl rfl rfl rfl rfl) rfl ?_
              obtain ⟨hk3, H⟩ := ck_some H
              refine .v (x := .tsl 1 ((v7j2 ++ ([v8j4, y7] : List (List UInt8))).map rS) 0) (v_appendL (l := v7j2) (l' := ([v8j4, y7] : List (List UInt8))) (row := rS) Tryd.underlying69 hi9 hz9 hs9 rfl (by rw [hb9]; decide) rfl rfl rfl rfl hk3) rfl ?_
              refine .withSt (st' := ⟨[.row 39 [.d (cI v0.source), .d (cI v0.serial), .d (cI v0.kind), .d (cS v0.a), .d (cS v0.b), .d (cI v0.start), .d (cI v0.units), .d (cI v0.call), .d (cI v0.part), .d (cB v0.last), .d (cI v0.trunk), .d (cB v0.inbound)]], [⟨9, 1, (v7j2 ++ ([v8j4, y7] : List (List UInt8))).length, none⟩]⟩) rfl ?_
              refine .q (q_assign rfl) rfl ?_
              refine .nil ?_
              exact .withSt (st' := ⟨[.row 39 [.d (cI v0.source), .d (cI v0.serial), .d (cI v0.kind), .d (cS v0.a), .d (cS v0.b), .d (cI v0.start), .d (cI v0.units), .d (cI v0.call), .d (cI v0.part), .d (cB v0.last), .d (cI v0.trunk), .d (cB v0.inbound)]], [⟨9, 1, (v7j2 ++ ([v8j4, y7] : List (List UInt8))).length, none⟩]⟩) rfl <| .sub (.cons rfl (.rfl' _) (.nil)) (hj3 (v7j2 ++ ([v8j4, y7] : List (List UInt8))) H)
            · intro hj4
              refine .seq ?_
              refine .region ?_
              refine .q (q_fieldRef fo_39_11 rfl) rfl ?_
              refine .q (x := .d (cB v0.inbound)) (q_loadO one_4 rfl rfl rfl) rfl ?_
              refine .nil ?_
              refine .cond rfl (fun hc => ?_) (fun hc => ?_)
              · replace H := ifT hc H; clear hc
                refine .region ?_
                refine .q (q_assign rfl) rfl ?_
                refine .nil ?_
                exact .sub (.cons rfl (.rfl' _) (.cons rfl (.rfl' _) (.cons rfl (.rfl' _) (.cons rfl (.rfl' _) (.nil))))) (hj4 ([105, 110] : List UInt8) H)
              · replace H := ifF hc H; clear hc
                refine .skip ?_
                exact .sub (.cons rfl (.rfl' _) (.cons rfl (.rfl' _) (.cons rfl (.rfl' _) (.cons rfl (.rfl' _) (.nil))))) (hj4 ([111, 117, 116] : List UInt8) H)
          · replace H := ifF hc H; clear hc
            refine .skip ?_
            exact .withSt (st' := ⟨[.row 39 [.d (cI v0.source), .d (cI v0.serial), .d (cI v0.kind), .d (cS v0.a), .d (cS v0.b), .d (cI v0.start), .d (cI v0.units), .d (cI v0.call), .d (cI v0.part), .d (cB v0.last), .d (cI v0.trunk), .d (cB v0.inbound)]], [⟨9, 1, v7j2.length, none⟩]⟩) rfl <| .sub (.cons rfl (.rfl' _) (.nil)) (hj3 v7j2 H)
      · intro hj2
        refine .seq ?_
        refine .region ?_
        refine .q (q_fieldRef fo_39_8 rfl) rfl ?_
        refine .q (x := .d (cI v0.part)) (q_loadO one_3 rfl rfl rfl) rfl ?_
        refine .q (q_neq rfl rfl) rfl ?_
        refine .nil ?_
        refine .cond rfl (fun hc => ?_) (fun hc => ?_)
        · replace H := ifT hc H; clear hc
          refine .seq ?_
          refine .drawn 10 hMix (by kernel_rfl) ?_
          show DOps _ _ _ _ _ _ _ (_ :: _) _ _ _
          refine .q (q_move rfl) rfl ?_
          refine .q (q_move rfl) rfl ?_
          refine .q (q_fieldRef fo_39_7 rfl) rfl ?_
          refine .q (x := .d (cI v0.call)) (q_loadO one_3 rfl rfl rfl) rfl ?_
          obtain ⟨y8, hy8, H⟩ := bind_some' H
          refine .g (x := .d (cS y8)) (g_callF en_41 rfl rfl rfl (c_x_Itoa (hy8))) rfl ?_
          refine .q (q_move rfl) rfl ?_
          refine .q (q_fieldRef fo_39_8 rfl) rfl ?_
          refine .q (x := .d (cI v0.part)) (q_loadO one_3 rfl rfl rfl) rfl ?_
          obtain ⟨y9, hy9, H⟩ := bind_some' H
          refine .g (x := .d (cS y9)) (g_callF en_41 rfl rfl rfl (c_x_Itoa (hy9))) rfl ?_
          refine .g (x := .d (slOf 1 rS ([([112, 97, 114, 116] : List UInt8), y8, y9] : List (List UInt8)))) (g_buildSliceN (n := 3) (rows := ([([112, 97, 114, 116] : List UInt8), y8, y9] : List (List UInt8)).map rS) Tryd.underlying69 hi9 hs9 hz9 rfl rfl rfl rfl rfl) rfl ?_
          refine .nil ?_
          show AOps _ _ _ _ _ _ (_ :: _) _ _ _
          obtain ⟨hk4, H⟩ := ck_some H
          refine .v (x := .tsl 1 ((([(([118, 116, 100, 99] : List UInt8).take (Int.toNat (v0.kind))).drop (Int.toNat (v0.kind - 1)), y2, y3, v0.a, v6j1, y4, y5] : List (List UInt8)) ++ ([([112, 97, 114, 116] : List UInt8), y8, y9] : List (List UInt8))).map rS) 0) (v_appendL (l := ([(([118, 116, 100, 99] : List UInt8).take (Int.toNat (v0.kind))).drop (Int.toNat (v0.kind - 1)), y2, y3, v0.a, v6j1, y4, y5] : List (List UInt8))) (l' := ([([112, 97, 114, 116] : List UInt8), y8, y9] : List (List UInt8))) (row := rS) Tryd.underlying69 hi9 hz9 hs9 rfl (by rw [hb9]; decide) rfl rfl rfl rfl hk4) rfl ?_
          refine .withSt (st' := ⟨[.row 39 [.d (cI v0.source), .d (cI v0.serial), .d (cI v0.kind), .d (cS v0.a), .d (cS v0.b), .d (cI v0.start), .d (cI v0.units), .d (cI v0.call), .d (cI v0.part), .d (cB v0.last), .d (cI v0.trunk), .d (cB v0.inbound)]], [⟨9, 1, (([(([118, 116, 100, 99] : List UInt8).take (Int.toNat (v0.kind))).drop (Int.toNat (v0.kind - 1)), y2, y3, v0.a, v6j1, y4, y5] : List (List UInt8)) ++ ([([112, 97, 114, 116] : List UInt8), y8, y9] : List (List UInt8))).length, none⟩]⟩) rfl ?_
          refine .q (q_assign rfl) rfl ?_
          refine .nil ?_
          refine .seq ?_
          refine .region ?_
          refine .q (q_fieldRef fo_39_9 rfl) rfl ?_
          refine .q (x := .d (cB v0.last)) (q_loadO one_4 rfl rfl rfl) rfl ?_
          refine .nil ?_
          refine .cond rfl (fun hc => ?_) (fun hc => ?_)
          · replace H := ifT hc H; clear hc
            refine .region ?_
            refine .q (q_move rfl) rfl ?_
            refine .g (x := .d (slOf 1 rS ([([108, 97, 115, 116] : List UInt8)] : List (List UInt8)))) (g_buildSlice1 Tryd.underlying69 hi9 hs9 hz9 rfl rfl rfl rfl rfl) rfl ?_
            obtain ⟨hk5, H⟩ := ck_some H
            refine .v (x := .tsl 1 (((([(([118, 116, 100, 99] : List UInt8).take (Int.toNat (v0.kind))).drop (Int.toNat (v0.kind - 1)), y2, y3, v0.a, v6j1, y4, y5] : List (List UInt8)) ++ ([([112, 97, 114, 116] : List UInt8), y8, y9] : List (List UInt8))) ++ ([([108, 97, 115, 116] : List UInt8)] : List (List UInt8))).map rS) 0) (v_appendL (l := ([(([118, 116, 100, 99] : List UInt8).take (Int.toNat (v0.kind))).drop (Int.toNat (v0.kind - 1)), y2, y3, v0.a, v6j1, y4, y5] : List (List UInt8)) ++ ([([112, 97, 114, 116] : List UInt8), y8, y9] : List (List UInt8))) (l' := ([([108, 97, 115, 116] : List UInt8)] : List (List UInt8))) (row := rS) Tryd.underlying69 hi9 hz9 hs9 rfl (by rw [hb9]; decide) rfl rfl rfl rfl hk5) rfl ?_
            refine .withSt (st' := ⟨[.row 39 [.d (cI v0.source), .d (cI v0.serial), .d (cI v0.kind), .d (cS v0.a), .d (cS v0.b), .d (cI v0.start), .d (cI v0.units), .d (cI v0.call), .d (cI v0.part), .d (cB v0.last), .d (cI v0.trunk), .d (cB v0.inbound)]], [⟨9, 1, ((([(([118, 116, 100, 99] : List UInt8).take (Int.toNat (v0.kind))).drop (Int.toNat (v0.kind - 1)), y2, y3, v0.a, v6j1, y4, y5] : List (List UInt8)) ++ ([([112, 97, 114, 116] : List UInt8), y8, y9] : List (List UInt8))) ++ ([([108, 97, 115, 116] : List UInt8)] : List (List UInt8))).length, none⟩]⟩) rfl ?_
            refine .q (q_assign rfl) rfl ?_
            refine .nil ?_
            exact .withSt (st' := ⟨[.row 39 [.d (cI v0.source), .d (cI v0.serial), .d (cI v0.kind), .d (cS v0.a), .d (cS v0.b), .d (cI v0.start), .d (cI v0.units), .d (cI v0.call), .d (cI v0.part), .d (cB v0.last), .d (cI v0.trunk), .d (cB v0.inbound)]], [⟨9, 1, ((([(([118, 116, 100, 99] : List UInt8).take (Int.toNat (v0.kind))).drop (Int.toNat (v0.kind - 1)), y2, y3, v0.a, v6j1, y4, y5] : List (List UInt8)) ++ ([([112, 97, 114, 116] : List UInt8), y8, y9] : List (List UInt8))) ++ ([([108, 97, 115, 116] : List UInt8)] : List (List UInt8))).length, none⟩]⟩) rfl <| .sub (.cons rfl (.rfl' _) (.cons rfl (.rfl' _) (.cons rfl (.rfl' _) (.nil)))) (hj2 ((([(([118, 116, 100, 99] : List UInt8).take (Int.toNat (v0.kind))).drop (Int.toNat (v0.kind - 1)), y2, y3, v0.a, v6j1, y4, y5] : List (List UInt8)) ++ ([([112, 97, 114, 116] : List UInt8), y8, y9] : List (List UInt8))) ++ ([([108, 97, 115, 116] : List UInt8)] : List (List UInt8))) H)
          · replace H := ifF hc H; clear hc
            refine .skip ?_
            exact .withSt (st' := ⟨[.row 39 [.d (cI v0.source), .d (cI v0.serial), .d (cI v0.kind), .d (cS v0.a), .d (cS v0.b), .d (cI v0.start), .d (cI v0.units), .d (cI v0.call), .d (cI v0.part), .d (cB v0.last), .d (cI v0.trunk), .d (cB v0.inbound)]], [⟨9, 1, (([(([118, 116, 100, 99] : List UInt8).take (Int.toNat (v0.kind))).drop (Int.toNat (v0.kind - 1)), y2, y3, v0.a, v6j1, y4, y5] : List (List UInt8)) ++ ([([112, 97, 114, 116] : List UInt8), y8, y9] : List (List UInt8))).length, none⟩]⟩) rfl <| .sub (.cons rfl (.rfl' _) (.cons rfl (.rfl' _) (.cons rfl (.rfl' _) (.nil)))) (hj2 (([(([118, 116, 100, 99] : List UInt8).take (Int.toNat (v0.kind))).drop (Int.toNat (v0.kind - 1)), y2, y3, v0.a, v6j1, y4, y5] : List (List UInt8)) ++ ([([112, 97, 114, 116] : List UInt8), y8, y9] : List (List UInt8))) H)
        · replace H := ifF hc H; clear hc
          refine .skip ?_
          exact .withSt (st' := ⟨[.row 39 [.d (cI v0.source), .d (cI v0.serial), .d (cI v0.kind), .d (cS v0.a), .d (cS v0.b), .d (cI v0.start), .d (cI v0.units), .d (cI v0.call), .d (cI v0.part), .d (cB v0.last), .d (cI v0.trunk), .d (cB v0.inbound)]], [⟨9, 1, ([(([118, 116, 100, 99] : List UInt8).take (Int.toNat (v0.kind))).drop (Int.toNat (v0.kind - 1)), y2, y3, v0.a, v6j1, y4, y5] : List (List UInt8)).length, none⟩]⟩) rfl <| .sub (.cons rfl (.rfl' _) (.cons rfl (.rfl' _) (.cons rfl (.rfl' _) (.nil)))) (hj2 ([(([118, 116, 100, 99] : List UInt8).take (Int.toNat (v0.kind))).drop (Int.toNat (v0.kind - 1)), y2, y3, v0.a, v6j1, y4, y5] : List (List UInt8)) H)
    · intro hj1
      refine .seq ?_
      refine .region ?_
      refine .q (q_move rfl) rfl ?_
      refine .q (q_seql rfl rfl) rfl ?_
      refine .nil ?_
      refine .cond rfl (fun hc => ?_) (fun hc => ?_)
      · replace H := ifT hc H; clear hc
        refine .region ?_
        refine .q (q_assign rfl) rfl ?_
        refine .nil ?_
        exact .sub (.cons rfl (.rfl' _) (.cons rfl (.rfl' _) (.cons rfl (.rfl' _) (.nil)))) (hj1 ([45] : List UInt8) H)
      · replace H := ifF hc H; clear hc
        refine .skip ?_
        exact .sub (.cons rfl (.rfl' _) (.cons rfl (.rfl' _) (.cons rfl (.rfl' _) (.nil)))) (hj1 v0.b H)

end Go.Proofs.YtccmaffefdcikaaDoor

set_option linter.unusedSimpArgs false
set_option linter.unusedVariables false
namespace Go.Proofs.YtccmaffefdcikaaDoor
open Go.RowKit Go.Abs
set_option maxRecDepth 100000 in
set_option maxHeartbeats 1000000 in
theorem c_f_batch_Check {v0b : Batch} {r : Int} (H : f_batch_Check v0b = some r) : ACall Tryd.prog 12 [.agg (Batch.row v0b)] (· = cI r) := by
  obtain ⟨i39, hi39, hz39, hs39, hb39⟩ := in_39
  refine ACall.enter' Tryd.func12 rfl Tryd.ntmps12 rfl fun S hS => ?_
  unfold f_batch_Check at H
  change ARun _ _ _ _ _ _ [(0, .d (.agg (Batch.row v0b)))] _
  refine .seq ?_
  refine .region ?_
  refine .v (x := .ref 0 0) (v_box rfl rfl) rfl ?_
  refine .withSt (st' := ⟨[.row 31 [.d (cI v0b.source), .d (cI v0b.number), .d (cI v0b.format), .d (slOf 12 Record.row v0b.records)]], []⟩) rfl ?_
  refine .q (q_assign rfl) rfl ?_
  refine .nil ?_
  refine .seq ?_
  refine .seq ?_
  refine .region ?_
  refine .q (x := .d (.agg (Batch.row v0b))) (q_loadOA one_31 sz_31 rfl rfl (Nat.le_of_ble_eq_true rfl) rfl) rfl ?_
  obtain ⟨y1, hy1, H⟩ := bind_some' H
  refine .g (x := .d (.agg (Head.row y1))) (g_call en_16 rfl rfl (c_f_batch_headOf (hy1))) rfl ?_
  obtain ⟨y2, hy2, H⟩ := bind_some' H
  refine .g (x := .d (cI y2)) (g_call en_23 rfl rfl (c_f_batch_checkHead (hy2))) rfl ?_
  refine .q (q_assign rfl) rfl ?_
  refine .nil ?_
  refine .seq ?_
  refine .region ?_
  refine .q (q_move rfl) rfl ?_
  refine .q (q_neq rfl rfl) rfl ?_
  refine .nil ?_
  refine .cond rfl (fun hc => ?_) (fun hc => ?_)
  · replace H := ifT hc H; clear hc
    refine .seq ?_
    refine .region ?_
    refine .q (q_move rfl) rfl ?_
    refine .q (q_assign rfl) rfl ?_
    refine .nil ?_
    refine .retN [.tmp 2] [.d (cI y2)] Tryd.func12 Tryd.results12 ⟨rfl, trivial⟩ ?_
    cases H
    exact ⟨_, .rfl' _, rfl⟩
  · replace H := ifF hc H; clear hc
    refine .skip ?_
    refine .seq ?_
    refine .seq ?_
    refine .region ?_
    refine .q (q_fieldRef fo_31_3 rfl) rfl ?_
    refine .q (x := .d (slOf 12 Record.row v0b.records)) (q_loadO one_22 rfl rfl rfl) rfl ?_
    refine .q (q_lenL (l := v0b.records) (row := Record.row) Tryd.underlying22 rfl rfl) rfl ?_
    refine .q (q_move rfl) rfl ?_
    refine .nil ?_
    refine .block ?_
    obtain ⟨n1, H⟩ := loop_some H
    refine .loop (ι := Nat × (Int)) (fun p => [(1, .ref 0 0), (15, .d (slOf 12 Record.row v0b.records)), (16, .d (cI (v0b.records.length : Int))), (17, .d (cI p.2))]) (fun p => ⟨[.row 31 [.d (cI v0b.source), .d (cI v0b.number), .d (cI v0b.format), .d (slOf 12 Record.row v0b.records)]], []⟩) (fun p => iter (fun s => f_batch_Check_l1 v0b s) p.1 p.2 = some r) (·.1) (n1, 0) H (.cons rfl (.rfl' _) (.cons rfl (.rfl' _) (.cons rfl (.rfl' _) (.cons rfl (.rfl' _) (.nil))))) rfl ?_
    rintro ⟨m1, v17l1⟩ HI ih1
    obtain ⟨n1, q1, hm1, H, HK1⟩ := iter_succ HI
    clear HI
    replace H : f_batch_Check_l1 v0b v17l1 = some q1 := H
    unfold f_batch_Check_l1 at H
    change ARun _ _ _ _ _ _ [(1, .ref 0 0), (15, .d (slOf 12 Record.row v0b.records)), (16, .d (cI (v0b.records.length : Int))), (17, .d (cI v17l1))] ⟨[.row 31 [.d (cI v0b.source), .d (cI v0b.number), .d (cI v0b.format), .d (slOf 12 Record.row v0b.records)]], []⟩
    refine .seq ?_
    refine .region ?_
    refine .q (q_lss rfl rfl) rfl ?_
    refine .nil ?_
    refine .seq ?_
    refine .cond rfl (fun hc => ?_) (fun hc => ?_)
    · replace H := ifT hc H; clear hc
      refine .skip ?_
      refine .seq ?_
      refine .block ?_
      refine .seq ?_
      refine .region ?_
      obtain ⟨hk1, H⟩ := ck_some H
      refine .q (x := .d (.ro (Record.row (nth v0b.records (Int.toNat (v17l1)))))) (q_idxL (row := Record.row) (l := v0b.records) (i := v17l1) Tryd.underlying22 hi39 hs39 rfl rfl rfl hk1) rfl ?_
      refine .q (x := .d (.agg (Record.row (nth v0b.records (Int.toNat (v17l1)))))) (q_loadAll one_39 sz_39 rfl rfl) rfl ?_
      refine .v (x := .ref 1 0) (v_alloc zr_39 rfl) rfl ?_
      refine .withSt (st' := ⟨[.row 31 [.d (cI v0b.source), .d (cI v0b.number), .d (cI v0b.format), .d (slOf 12 Record.row v0b.records)], .row 39 [.d (cI 0), .d (cI 0), .d (cI 0), .d (cS ([] : List UInt8)), .d (cS ([] : List UInt8)), .d (cI 0), .d (cI 0), .d (cI 0), .d (cI 0), .d (cB false), .d (cI 0), .d (cB false)]], []⟩) rfl ?_
      refine .u (u_store rfl rfl rfl rfl (Nat.le_of_ble_eq_true rfl) sz_39) rfl ?_
      refine .withSt (st' := ⟨[.row 31 [.d (cI v0b.source), .d (cI v0b.number), .d (cI v0b.format), .d (slOf 12 Record.row v0b.records)], .row 39 [.d (cI ((nth v0b.records (Int.toNat (v17l1))).source)), .d (cI ((nth v0b.records (Int.toNat (v17l1))).serial)), .d (cI ((nth v0b.records (Int.toNat (v17l1))).kind)), .d (cS ((nth v0b.records (Int.toNat (v17l1))).a)), .d (cS ((nth v0b.records (Int.toNat (v17l1))).b)), .d (cI ((nth v0b.records (Int.toNat (v17l1))).start)), .d (cI ((nth v0b.records (Int.toNat (v17l1))).units)), .d (cI ((nth v0b.records (Int.toNat (v17l1))).call)), .d (cI ((nth v0b.records (Int.toNat (v17l1))).part)), .d (cB ((nth v0b.records (Int.toNat (v17l1))).last)), .d (cI ((nth v0b.records (Int.toNat (v17l1))).trunk)), .d (cB ((nth v0b.records (Int.toNat (v17l1))).inbound))]], []⟩) rfl ?_
      refine .nil ?_
      refine .seq ?_
      refine .seq ?_
      refine .region ?_
      refine .q (x := .d (.agg (Record.row (nth v0b.records (Int.toNat (v17l1)))))) (q_loadOA one_39 sz_39 rfl rfl (Nat.le_of_ble_eq_true rfl) rfl) rfl ?_
      obtain ⟨y3, hy3, H⟩ := bind_some' H
      refine .g (x := .d (.tup [cS y3.1, cI y3.2])) (g_call en_24 rfl rfl (c_f_textual_Encode (hy3))) rfl ?_
      refine .q (q_move rfl) rfl ?_
      refine .q (q_extract rfl rfl) rfl ?_
      refine .q (q_extract rfl rfl) rfl ?_
      refine .q (q_assign rfl) rfl ?_
      refine .q (q_assign rfl) rfl ?_
      refine .nil ?_
      refine .seq ?_
      refine .region ?_
      refine .q (q_move rfl) rfl ?_
      refine .q (q_neq rfl rfl) rfl ?_
      refine .nil ?_
      refine .cond rfl (fun hc => ?_) (fun hc => ?_)
      · replace H := ifT hc H; clear hc
        refine .seq ?_
        refine .region ?_
        refine .q (q_move rfl) rfl ?_
        refine .q (q_assign rfl) rfl ?_
        refine .nil ?_
        refine .retN [.tmp 2] [.d (cI y3.2)] Tryd.func12 Tryd.results12 ⟨rfl, trivial⟩ ?_
        cases H
        cases HK1
        exact ⟨_, .rfl' _, rfl⟩
      · replace H := ifF hc H; clear hc
        refine .skip ?_
        refine .seq ?_
        refine .region ?_
        refine .q (q_fieldRef fo_39_0 rfl) rfl ?_
        refine .q (x := .d (cI ((nth v0b.records (Int.toNat (v17l1))).source))) (q_loadO one_3 rfl rfl rfl) rfl ?_
        refine .q (q_fieldRef fo_31_0 rfl) rfl ?_
        refine .q (x := .d (cI v0b.source)) (q_loadO one_3 rfl rfl rfl) rfl ?_
        refine .q (q_neq rfl rfl) rfl ?_
        refine .nil ?_
        refine .cond rfl (fun hc => ?_) (fun hc => ?_)
        · replace H := ifT hc H; clear hc
          refine .seq ?_
          refine .region ?_
          refine .q (q_assign rfl) rfl ?_
          refine .nil ?_
          refine .retN [.tmp 2] [.d (cI 8)] Tryd.func12 Tryd.results12 ⟨rfl, trivial⟩ ?_
          cases H
          cases HK1
          exact ⟨_, .rfl' _, rfl⟩
        · replace H := ifF hc H; clear hc
          refine .skip ?_
          refine .inBlock ?_
          refine .region ?_
          obtain ⟨hk2, H⟩ := ck_some H
          refine .q (q_addI rfl rfl hk2.1 hk2.2) rfl ?_
          refine .q (q_move rfl) rfl ?_
          refine .nil ?_
          cases H
          exact .to 1 0 (env' := [(1, .ref 0 0), (15, .d (slOf 12 Record.row v0b.records)), (16, .d (cI (v0b.records.length : Int))), (17, .d (cI (v17l1 + 1)))]) (st' := ⟨[.row 31 [.d (cI v0b.source), .d (cI v0b.number), .d (cI v0b.format), .d (slOf 12 Record.row v0b.records)]], []⟩) (.cons rfl (.rfl' _) (.cons rfl (.rfl' _) (.cons rfl (.rfl' _) (.cons rfl (.rfl' _) (.nil))))) rfl rfl rfl rfl rfl (by rw [hS]; exact Nat.le_of_ble_eq_true rfl) (by rw [hS]; exact Nat.le_of_ble_eq_true rfl) <| .sub (.cons rfl (.rfl' _) (.cons rfl (.rfl' _) (.cons rfl (.rfl' _) (.cons rfl (.rfl' _) (.nil))))) (ih1 (n1, (v17l1 + 1)) HK1 hm1)
    · replace H := ifF hc H; clear hc
      refine .exit rfl ?_
      refine .seq ?_
      refine .region ?_
      refine .q (q_assign rfl) rfl ?_
      refine .nil ?_
      refine .retN [.tmp 2] [.d (cI 0)] Tryd.func12 Tryd.results12 ⟨rfl, trivial⟩ ?_
      cases H
      cases HK1
      exact ⟨_, .rfl' _, rfl⟩

set_option maxRecDepth 100000 in
set_option maxHeartbeats 1000000 in
theorem c_f_codec_zigzag {v0n : Int} {r : Int} (H : f_codec_zigzag v0n = some r) : ACall Tryd.prog 79 [cI v0n] (· = cK .u64 r) := by
  refine ACall.enter' Tryd.func79 rfl Tryd.ntmps79 rfl fun S hS => ?_
  unfold f_codec_zigzag at H
  change ARun _ _ _ _ _ _ [(0, .d (cI v0n))] _
  refine .seq ?_
  refine .region ?_
  refine .q (q_assign rfl) rfl ?_
  refine .nil ?_
  refine .seq ?_
  refine .region ?_
  refine .q (q_move rfl) rfl ?_
  refine .q (x := .d (cK .u64 (IntKind.wrap .u64 v0n))) (q_conv Tryd.underlying3 Tryd.underlying110 rfl rfl) rfl ?_
  obtain ⟨hk1, H⟩ := ck_some H
  refine .q (x := .d (cK .u64 (IntKind.wrap .u64 ((IntKind.wrap .u64 v0n) * 2 ^ (min (Int.toNat (1)) 64))))) (q_shl (a := IntKind.wrap .u64 v0n) (b := 1) rfl rfl hk1 rfl) rfl ?_
  refine .q (q_move rfl) rfl ?_
  refine .q (x := .d (cI (v0n / 2 ^ (Int.toNat (63))))) (q_shrI63 rfl rfl (by decide)) rfl ?_
  refine .q (x := .d (cK .u64 (IntKind.wrap .u64 (v0n / 2 ^ (Int.toNat (63)))))) (q_conv Tryd.underlying3 Tryd.underlying110 rfl rfl) rfl ?_
  refine .q (x := .d (cK .u64 (bXor .u64 (IntKind.wrap .u64 ((IntKind.wrap .u64 v0n) * 2 ^ (min (Int.toNat (1)) 64))) (IntKind.wrap .u64 (v0n / 2 ^ (Int.toNat (63))))))) (q_xor rfl rfl) rfl ?_
  refine .q (q_assign rfl) rfl ?_
  refine .nil ?_
  refine .retN [.tmp 2] [.d (cK .u64 (bXor .u64 (IntKind.wrap .u64 ((IntKind.wrap .u64 v0n) * 2 ^ (min (Int.toNat (1)) 64))) (IntKind.wrap .u64 (v0n / 2 ^ (Int.toNat (63))))))] Tryd.func79 Tryd.results79 ⟨rfl, trivial⟩ ?_
  cases H
  exact ⟨_, .rfl' _, rfl⟩

set_option maxRecDepth 100000 in
set_option maxHeartbeats 1000000 in
theorem c_g_codec_grown {v0b : List UInt8} {v1n : Int} {r : (List UInt8)} (H : f_codec_grown v0b v1n = some r) : ACallS Tryd.prog 49 [.d (slOf 1 rB8 v0b), .d (cI v1n)] ⟨[], []⟩ (QE (.tsl 1 (r.map rB8) 0) ⟨[], [⟨5, 1, r.length, none⟩]⟩) := by
  obtain ⟨i5, hi5, hz5, hs5, hb5⟩ := in_5
  refine ACallS.keep ?_
  refine ACallS.enter Tryd.func49 rfl Tryd.ntmps49 rfl fun S hS => ?_
  unfold f_codec_grown at H
  change ARun _ _ _ _ _ _ [(0, .d (slOf 1 rB8 v0b)), (1, .d (cI v1n))] _
  refine .seq ?_
  refine .region ?_
  refine .q (q_assign rfl) rfl ?_
  refine .nil ?_
  refine .seq ?_
  refine .region ?_
  refine .q (q_move rfl) rfl ?_
  refine .q (q_lenL (l := v0b) (row := rB8) Tryd.underlying32 rfl rfl) rfl ?_
  refine .q (q_move rfl) rfl ?_
  refine .q (q_lenL (l := v0b) (row := rB8) Tryd.underlying32 rfl rfl) rfl ?_
  refine .q (q_move rfl) rfl ?_
  obtain ⟨hk1, H⟩ := ck_some H
  refine .q (q_addI rfl rfl hk1.1 hk1.2) rfl ?_
  obtain ⟨hk2, H⟩ := ck_some H
  refine .v (x := .vc 0 ((List.replicate (Int.toNat ((v0b.length : Int))) 0 : List UInt8).length)) (v_makeV (row := rB8) (a := (v0b.length : Int)) (b := (v0b.length : Int) + v1n) (a0 := 0) Tryd.underlying32 hi5 hz5 hs5 rfl (by rw [hb5]; decide) rfl rfl rfl hk2) rfl ?_
  refine .withSt (st' := ⟨[], [⟨5, 1, ((List.replicate (Int.toNat ((v0b.length : Int))) 0 : List UInt8).length), some ((List.replicate (Int.toNat ((v0b.length : Int))) 0 : List UInt8).map rB8)⟩]⟩) rfl ?_
  refine .q (q_assign rfl) rfl ?_
  refine .nil ?_
  refine .seq ?_
  refine .region ?_
  refine .q (q_move rfl) rfl ?_
  refine .q (q_move rfl) rfl ?_
  refine .v (x := .d (cI ((min v0b.length (List.replicate (Int.toNat ((v0b.length : Int))) 0 : List UInt8).length : Nat) : Int))) (v_copyV (l := (List.replicate (Int.toNat ((v0b.length : Int))) 0 : List UInt8)) (l' := v0b) (row := rB8) Tryd.underlying32 hi5 hs5 rfl rfl rfl rfl) rfl ?_
  refine .withSt (st' := ⟨[], [⟨5, 1, ((List.replicate (Int.toNat ((v0b.length : Int))) 0 : List UInt8).length), some ((v0b.take (min v0b.length (List.replicate (Int.toNat ((v0b.length : Int))) 0 : List UInt8).length) ++ (List.replicate (Int.toNat ((v0b.length : Int))) 0 : List UInt8).drop (min v0b.length (List.replicate (Int.toNat ((v0b.length : Int))) 0 : List UInt8).length)).map rB8)⟩]⟩) rfl ?_
  refine .nil ?_
  refine .seq ?_
  refine .region ?_
  refine .q (q_move rfl) rfl ?_
  refine .q (q_assign rfl) rfl ?_
  refine .nil ?_
  refine .freezeL (l := v0b.take (min v0b.length (List.replicate (Int.toNat ((v0b.length : Int))) 0 : List UInt8).length) ++ (List.replicate (Int.toNat ((v0b.length : Int))) 0 : List UInt8).drop (min v0b.length (List.replicate (Int.toNat ((v0b.length : Int))) 0 : List UInt8).length)) (row := rB8) (i := 4) rfl rfl ?_
  refine .withSt (st' := ⟨[], [⟨5, 1, (v0b.take (min v0b.length (List.replicate (Int.toNat ((v0b.length : Int))) 0 : List UInt8).length) ++ (List.replicate (Int.toNat ((v0b.length : Int))) 0 : List UInt8).drop (min v0b.length (List.replicate (Int.toNat ((v0b.length : Int))) 0 : List UInt8).length)).length, none⟩]⟩) rfl ?_
  refine .retN [.tmp 4] [.tsl 1 ((v0b.take (min v0b.length (List.replicate (Int.toNat ((v0b.length : Int))) 0 : List UInt8).length) ++ (List.replicate (Int.toNat ((v0b.length : Int))) 0 : List UInt8).drop (min v0b.length (List.replicate (Int.toNat ((v0b.length : Int))) 0 : List UInt8).length)).map rB8) 0] Tryd.func49 Tryd.results49 ⟨rfl, trivial⟩ ?_
  cases H
  exact ⟨[], [0], rfl, rfl, rfl, rfl, rfl, rfl, rfl, rfl, .rfl' _⟩

set_option maxRecDepth 100000 in
set_option maxHeartbeats 1000000 in
theorem c_g_codec_add {v1n : Int} {y0t0p : List UInt8} {r : (List UInt8)} (H : g_codec_add v1n y0t0p = some r) : ACallS Tryd.prog 48 [.tsl 1 (y0t0p.map rB8) 0, .d (cI v1n)] ⟨[], [⟨5, 1, y0t0p.length, none⟩]⟩ (QE (.tsl 1 (r.map rB8) 0) ⟨[], [⟨5, 1, r.length, none⟩]⟩) := by
  obtain ⟨i5, hi5, hz5, hs5, hb5⟩ := in_5
  refine ACallS.keep ?_
  refine ACallS.enter Tryd.func48 rfl Tryd.ntmps48 rfl fun S hS => ?_
  unfold g_codec_add at H
  change ARun _ _ _ _ _ _ [(0, .tsl 1 (y0t0p.map rB8) 0), (1, .d (cI v1n))] _
  refine .seq ?_
  refine .region ?_
  refine .q (q_assign rfl) rfl ?_
  refine .nil ?_
  refine .seq ?_
  refine .region ?_
  refine .q (q_move rfl) rfl ?_
  obtain ⟨y1, hy1, H⟩ := bind_some' H
  refine .g (x := .d (cK .u64 y1)) (g_call en_79 rfl rfl (c_f_codec_zigzag (hy1))) rfl ?_
  refine .q (q_assign rfl) rfl ?_
  refine .nil ?_
  refine .seq ?_
  refine .blockJoin2 (ι := List UInt8 × Int) (fun s => [(0, .tsl 1 (s.1.map rB8) 0), (5, .d (cK .u64 s.2))]) (fun s => ⟨[], [⟨5, 1, s.1.length, none⟩]⟩) (fun s => g_codec_add_j1 s.1 s.2 = some r) ?_ ?_
  · rintro ⟨v0bj1, v5uj1⟩ H
    replace H : g_codec_add_j1 v0bj1 v5uj1 = some r := H
    unfold g_codec_add_j1 at H
    change ARun _ _ _ _ _ _ [(0, .tsl 1 (v0bj1.map rB8) 0), (5, .d (cK .u64 v5uj1))] ⟨[], [⟨5, 1, v0bj1.length, none⟩]⟩
    refine .seq ?_
    refine .region ?_
    refine .q (q_move rfl) rfl ?_
    refine .q (q_move rfl) rfl ?_
    refine .q (x := .d (cU8 (UInt8.ofInt v5uj1))) (q_conv8 Tryd.underlying110 Tryd.underlying5 rfl) rfl ?_
    refine .g (x := .d (slOf 1 rB8 ([UInt8.ofInt v5uj1] : List UInt8))) (g_buildSlice1 Tryd.underlying32 hi5 hs5 hz5 rfl rfl rfl rfl rfl) rfl ?_
    obtain ⟨hk1, H⟩ := ck_some H
    refine .v (x := .tsl 1 ((v0bj1 ++ ([UInt8.ofInt v5uj1] : List UInt8)).map rB8) 0) (v_appendL (l := v0bj1) (l' := ([UInt8.ofInt v5uj1] : List UInt8)) (row := rB8) Tryd.underlying32 hi5 hz5 hs5 rfl (by rw [hb5]; decide) rfl rfl rfl rfl hk1) rfl ?_
    refine .withSt (st' := ⟨[], [⟨5, 1, (v0bj1 ++ ([UInt8.ofInt v5uj1] : List UInt8)).length, none⟩]⟩) rfl ?_
    refine .q (q_assign rfl) rfl ?_
    refine .nil ?_
    refine .retN [.tmp 4] [.tsl 1 ((v0bj1 ++ ([UInt8.ofInt v5uj1] : List UInt8)).map rB8) 0] Tryd.func48 Tryd.results48 ⟨rfl, trivial⟩ ?_
    cases H
    exact ⟨[], [0], rfl, rfl, rfl, rfl, rfl, rfl, rfl, rfl, .rfl' _⟩
  · intro hj1 hj1x
    obtain ⟨n1, H⟩ := loop_some H
    refine .withSt (st' := ⟨[], [⟨5, 1, y0t0p.length, none⟩]⟩) rfl <| .loop (ι := Nat × (List UInt8 × Int)) (fun p => [(0, .tsl 1 (p.2.1.map rB8) 0), (5, .d (cK .u64 p.2.2))]) (fun p => ⟨[], [⟨5, 1, p.2.1.length, none⟩]⟩) (fun p => iter (fun s => g_codec_add_l1 s.1 s.2) p.1 p.2 = some r) (·.1) (n1, (y0t0p, y1)) H (.cons rfl (.rfl' _) (.cons rfl (.rfl' _) (.nil))) rfl ?_
    rintro ⟨m1, v0bl1, v5ul1⟩ HI ih1
    obtain ⟨n1, q1, hm1, H, HK1⟩ := iter_succ HI
    clear HI
    replace H : g_codec_add_l1 v0bl1 v5ul1 = some q1 := H
    unfold g_codec_add_l1 at H
    change ARun _ _ _ _ _ _ [(0, .tsl 1 (v0bl1.map rB8) 0), (5, .d (cK .u64 v5ul1))] ⟨[], [⟨5, 1, v0bl1.length, none⟩]⟩
    refine .seq ?_
    refine .seq ?_
    refine .region ?_
    refine .q (q_move rfl) rfl ?_
    refine .q (q_geq rfl rfl) rfl ?_
    refine .nil ?_
    refine .cond rfl (fun hc => ?_) (fun hc => ?_)
    · replace H := ifT hc H; clear hc
      refine .skip ?_
      refine .block ?_
      refine .seq ?_
      refine .region ?_
      refine .q (q_move rfl) rfl ?_
      refine .q (q_move rfl) rfl ?_
      refine .q (x := .d (cU8 (UInt8.ofInt v5ul1))) (q_conv8 Tryd.underlying110 Tryd.underlying5 rfl) rfl ?_
      refine .q (x := .d (cU8 ((UInt8.ofInt v5ul1) ||| 128))) (q8_or (a := UInt8.ofInt v5ul1) (b := 128) rfl rfl) rfl ?_
      refine .g (x := .d (slOf 1 rB8 ([(UInt8.ofInt v5ul1) ||| 128] : List UInt8))) (g_buildSlice1 Tryd.underlying32 hi5 hs5 hz5 rfl rfl rfl rfl rfl) rfl ?_
      obtain ⟨hk2, H⟩ := ck_some H
      refine .v (x := .tsl 1 ((v0bl1 ++ ([(UInt8.ofInt v5ul1) ||| 128] : List UInt8)).map rB8) 0) (v_appendL (l := v0bl1) (l' := ([(UInt8.ofInt v5ul1) ||| 128] : List UInt8)) (row := rB8) Tryd.underlying32 hi5 hz5 hs5 rfl (by rw [hb5]; decide) rfl rfl rfl rfl hk2) rfl ?_
      refine .withSt (st' := ⟨[], [⟨5, 1, (v0bl1 ++ ([(UInt8.ofInt v5ul1) ||| 128] : List UInt8)).length, none⟩]⟩) rfl ?_
      refine .q (q_assign rfl) rfl ?_
      refine .nil ?_
      refine .region ?_
      refine .q (q_move rfl) rfl ?_
      obtain ⟨hk3, H⟩ := ck_some H
      refine .q (x := .d (cK .u64 (Int.fdiv v5ul1 (2 ^ (min (Int.toNat (7)) 64))))) (q_shr (a := v5ul1) (b := 7) rfl rfl hk3 rfl) rfl ?_
      refine .q (q_assign rfl) rfl ?_
      refine .nil ?_
      refine .inBlock ?_
      cases H
      exact .withSt (st' := ⟨[], [⟨5, 1, (v0bl1 ++ ([(UInt8.ofInt v5ul1) ||| 128] : List UInt8)).length, none⟩]⟩) rfl <| .sub (.cons rfl (.rfl' _) (.cons rfl (.rfl' _) (.nil))) (ih1 (n1, (v0bl1 ++ ([(UInt8.ofInt v5ul1) ||| 128] : List UInt8), Int.fdiv v5ul1 (2 ^ (min (Int.toNat (7)) 64)))) HK1 hm1)
    · replace H := ifF hc H; clear hc
      refine .exit rfl ?_
      obtain ⟨q0, H9, hq0⟩ := map_some' H; clear H; cases hq0
      cases HK1
      have H := H9
      exact .withSt (st' := ⟨[], [⟨5, 1, v0bl1.length, none⟩]⟩) rfl <| .sub (.cons rfl (.rfl' _) (.cons rfl (.rfl' _) (.nil))) (hj1x (v0bl1, v5ul1) H)

set_option maxRecDepth 100000 in
set_option maxHeartbeats 1000000 in
theorem c_f_codec_PutNumber {v0b : List UInt8} {v1n : Int} {r : (List UInt8)} (H : f_codec_PutNumber v0b v1n = some r) : ACall Tryd.prog 29 [slOf 1 rB8 v0b, cI v1n] (· = slOf 1 rB8 r) := by
  refine ACall.enter' Tryd.func29 rfl Tryd.ntmps29 rfl fun S hS => ?_
  unfold f_codec_PutNumber at H
  change ARun _ _ _ _ _ _ [(0, .d (slOf 1 rB8 v0b)), (1, .d (cI v1n))] _
  refine .seq ?_
  refine .region ?_
  refine .q (q_assign rfl) rfl ?_
  refine .nil ?_
  refine .seq ?_
  refine .region ?_
  refine .q (q_move rfl) rfl ?_
  obtain ⟨y1, hy1, H⟩ := bind_some' H
  refine .callF en_49 rfl [] [] (x := .tsl 1 (y1.map rB8) 0) (st' := ⟨[], [⟨5, 1, y1.length, none⟩]⟩) rfl (c_g_codec_grown (hy1)) ⟨.rfl' _, .rfl' _, trivial⟩ rfl rfl rfl rfl rfl rfl ?_
  refine .withSt (st' := ⟨[], [⟨5, 1, y1.length, none⟩]⟩) rfl ?_
  refine .q (q_move rfl) rfl ?_
  obtain ⟨y2, hy2, H⟩ := bind_some' H
  refine .callF en_48 rfl [] [0] (x := .tsl 1 (y2.map rB8) 0) (st' := ⟨[], [⟨5, 1, y2.length, none⟩]⟩) rfl (c_g_codec_add (hy2)) ⟨.rfl' _, .rfl' _, trivial⟩ rfl rfl rfl rfl rfl rfl ?_
  refine .withSt (st' := ⟨[], [⟨5, 1, y2.length, none⟩]⟩) rfl ?_
  refine .q (q_assign rfl) rfl ?_
  refine .nil ?_
  refine .retN [.tmp 4] [.tsl 1 (y2.map rB8) 0] Tryd.func29 Tryd.results29 ⟨rfl, trivial⟩ ?_
  cases H
  exact ⟨_, .tsl _ _ _, rfl⟩

set_option maxRecDepth 100000 in
set_option maxHeartbeats 1000000 in
theorem c_f_batch_number {v0n : Int} {r : (List UInt8) × Int} (H : f_batch_number v0n = some r) : ACall Tryd.prog 19 [cI v0n] (· = .tup [slOf 1 rB8 r.1, cI r.2]) := by
  refine ACall.enter' Tryd.func19 rfl Tryd.ntmps19 rfl fun S hS => ?_
  unfold f_batch_number at H
  change ARun _ _ _ _ _ _ [(0, .d (cI v0n))] _
  refine .seq ?_
  refine .region ?_
  refine .q (q_assign rfl) rfl ?_
  refine .q (q_assign rfl) rfl ?_
  refine .nil ?_
  refine .seq ?_
  refine .region ?_
  refine .q (q_move rfl) rfl ?_
  obtain ⟨y1, hy1, H⟩ := bind_some' H
  refine .g (x := .d (slOf 1 rB8 y1)) (g_call en_29 rfl rfl ((c_f_codec_PutNumber (hy1)).le ⟨.nil 1, .rfl' _, trivial⟩)) rfl ?_
  refine .q (q_assign rfl) rfl ?_
  refine .q (q_assign rfl) rfl ?_
  refine .nil ?_
  refine .retN [.tmp 2, .tmp 3] [.d (slOf 1 rB8 y1), .d (cI 0)] Tryd.func19 Tryd.results19 ⟨rfl, rfl, trivial⟩ ?_
  cases H
  exact ⟨_, EVle.tupL (ds := [slOf 1 rB8 y1, cI 0]) ⟨.rfl' _, .rfl' _, trivial⟩, rfl⟩

set_option maxRecDepth 100000 in
set_option maxHeartbeats 1000000 in
theorem c_f_digits_Pack {v0s : List UInt8} {r : (List UInt8) × Int} (H : f_digits_Pack v0s = some r) : ACall Tryd.prog 50 [cS v0s] (· = .tup [slOf 1 rB8 r.1, cI r.2]) := by
  obtain ⟨i5, hi5, hz5, hs5, hb5⟩ := in_5
  refine ACall.enter' Tryd.func50 rfl Tryd.ntmps50 rfl fun S hS => ?_
  unfold f_digits_Pack at H
  change ARun _ _ _ _ _ _ [(0, .d (cS v0s))] _
  refine .seq ?_
  refine .region ?_
  refine .q (q_assign rfl) rfl ?_
  refine .q (q_assign rfl) rfl ?_
  refine .nil ?_
  refine .seq ?_
  refine .seq ?_
  refine .region ?_
  refine .q (q_move rfl) rfl ?_
  obtain ⟨y1, hy1, H⟩ := bind_some' H
  refine .g (x := .d (cB y1)) (g_call en_71 rfl rfl (c_f_digits_Valid (hy1))) rfl ?_
  refine .q (q_not rfl) rfl ?_
  refine .nil ?_
  refine .cond rfl (fun hc => ?_) (fun hc => ?_)
  · replace H := ifT hc H; clear hc
    refine .seq ?_
    refine .region ?_
    refine .q (q_assign rfl) rfl ?_
    refine .q (q_assign rfl) rfl ?_
    refine .nil ?_
    refine .retN [.tmp 2, .tmp 3] [.d (nilD), .d (cI 12)] Tryd.func50 Tryd.results50 ⟨rfl, rfl, trivial⟩ ?_
    cases H
    exact ⟨_, EVle.tupL (ds := [slOf 1 rB8 ([] : List UInt8), cI 12]) ⟨.nil 1, .rfl' _, trivial⟩, rfl⟩
  · replace H := ifF hc H; clear hc
    refine .skip ?_
    refine .seq ?_
    refine .region ?_
    refine .q (q_assign rfl) rfl ?_
    refine .nil ?_
    refine .seq ?_
    refine .seq ?_
    refine .region ?_
    refine .q (q_assign rfl) rfl ?_
    refine .nil ?_
    refine .block ?_
    refine .tok (i := 4) (e := 5) (sz := 1) rfl ?_
    refine .withSt (st' := ⟨[], [⟨5, 1, ([] : List UInt8).length, none⟩]⟩) rfl ?_
    obtain ⟨n1, H⟩ := loop_some H
    refine .withSt (st' := ⟨[], [⟨5, 1, ([] : List UInt8).length, none⟩]⟩) rfl <| .loop (ι := Nat × (List UInt8 × Int)) (fun p => [(0, .d (cS v0s)), (4, .tsl 1 (p.2.1.map rB8) 0), (5, .d (cI p.2.2))]) (fun p => ⟨[], [⟨5, 1, p.2.1.length, none⟩]⟩) (fun p => iter (fun s => f_digits_Pack_l1 v0s s.1 s.2) p.1 p.2 = some r) (·.1) (n1, (([] : List UInt8), 0)) H (.cons rfl (.rfl' _) (.cons rfl (.rfl' _) (.cons rfl (.rfl' _) (.nil)))) rfl ?_
    rintro ⟨m1, v4bl1, v5il1⟩ HI ih1
    obtain ⟨n1, q1, hm1, H, HK1⟩ := iter_succ HI
    clear HI
    replace H : f_digits_Pack_l1 v0s v4bl1 v5il1 = some q1 := H
    unfold f_digits_Pack_l1 at H
    change ARun _ _ _ _ _ _ [(0, .d (cS v0s)), (4, .tsl 1 (v4bl1.map rB8) 0), (5, .d (cI v5il1))] ⟨[], [⟨5, 1, v4bl1.length, none⟩]⟩
    refine .seq ?_
    refine .seq ?_
    refine .region ?_
    refine .q (q_move rfl) rfl ?_
    refine .q (q_move rfl) rfl ?_
    refine .q (q_lenS Tryd.underlying9 rfl) rfl ?_
    refine .q (q_lss rfl rfl) rfl ?_
    refine .nil ?_
    refine .cond rfl (fun hc => ?_) (fun hc => ?_)
    · replace H := ifT hc H; clear hc
      refine .skip ?_
      refine .seq ?_
      refine .block ?_
      refine .seq ?_
      refine .region ?_
      refine .q (q_assign rfl) rfl ?_
      refine .nil ?_
      refine .seqJoin (ι := UInt8) (fun s => [(0, .d (cS v0s)), (4, .tsl 1 (v4bl1.map rB8) 0), (5, .d (cI v5il1)), (6, .d (cU8 s))]) (fun s => ⟨[], [⟨5, 1, v4bl1.length, none⟩]⟩) (fun s => f_digits_Pack_j1 v0s v4bl1 v5il1 s = some q1) ?_ ?_
      · rintro v6lowj1 H
        replace H : f_digits_Pack_j1 v0s v4bl1 v5il1 v6lowj1 = some q1 := H
        unfold f_digits_Pack_j1 at H
        change ARun _ _ _ _ _ _ [(0, .d (cS v0s)), (4, .tsl 1 (v4bl1.map rB8) 0), (5, .d (cI v5il1)), (6, .d (cU8 v6lowj1))] ⟨[], [⟨5, 1, v4bl1.length, none⟩]⟩
        refine .region ?_
        refine .q (q_move rfl) rfl ?_
        refine .q (q_move rfl) rfl ?_
        refine .q (q_move rfl) rfl ?_
        obtain ⟨hk1, H⟩ := ck_some H
        refine .q (x := .d (cU8 (nth v0s (Int.toNat (v5il1))))) (q_indexL (i := v5il1) Tryd.underlying9 rfl rfl hk1) rfl ?_
        refine .q (x := .d (cU8 ((nth v0s (Int.toNat (v5il1))) - 48))) (q8_sub (a := nth v0s (Int.toNat (v5il1))) (b := 48) rfl rfl) rfl ?_
        obtain ⟨hk2, H⟩ := ck_some H
        refine .q (x := .d (cU8 (u8shl ((nth v0s (Int.toNat (v5il1))) - 48) 4))) (q8_shl (a := (nth v0s (Int.toNat (v5il1))) - 48) (n := 4) rfl rfl hk2) rfl ?_
        refine .q (q_move rfl) rfl ?_
        refine .q (x := .d (cU8 ((u8shl ((nth v0s (Int.toNat (v5il1))) - 48) 4) ||| v6lowj1))) (q8_or (a := u8shl ((nth v0s (Int.toNat (v5il1))) - 48) 4) (b := v6lowj1) rfl rfl) rfl ?_
        refine .g (x := .d (slOf 1 rB8 ([(u8shl ((nth v0s (Int.toNat (v5il1))) - 48) 4) ||| v6lowj1] : List UInt8))) (g_buildSlice1 Tryd.underlying32 hi5 hs5 hz5 rfl rfl rfl rfl rfl) rfl ?_
        obtain ⟨hk3, H⟩ := ck_some H
        refine .v (x := .tsl 1 ((v4bl1 ++ ([(u8shl ((nth v0s (Int.toNat (v5il1))) - 48) 4) ||| v6lowj1] : List UInt8)).map rB8) 0) (v_appendL (l := v4bl1) (l' := ([(u8shl ((nth v0s (Int.toNat (v5il1))) - 48) 4) ||| v6lowj1] : List UInt8)) (row := rB8) Tryd.underlying32 hi5 hz5 hs5 rfl (by rw [hb5]; decide) rfl rfl rfl rfl hk3) rfl ?_
        refine .withSt (st' := ⟨[], [⟨5, 1, (v4bl1 ++ ([(u8shl ((nth v0s (Int.toNat (v5il1))) - 48) 4) ||| v6lowj1] : List UInt8)).length, none⟩]⟩) rfl ?_
        refine .q (q_assign rfl) rfl ?_
        refine .nil ?_
        refine .inBlock ?_
        refine .region ?_
        refine .q (q_move rfl) rfl ?_
        obtain ⟨hk4, H⟩ := ck_some H
        refine .q (q_addI rfl rfl hk4.1 hk4.2) rfl ?_
        refine .q (q_assign rfl) rfl ?_
        refine .nil ?_
        cases H
        exact .withSt (st' := ⟨[], [⟨5, 1, (v4bl1 ++ ([(u8shl ((nth v0s (Int.toNat (v5il1))) - 48) 4) ||| v6lowj1] : List UInt8)).length, none⟩]⟩) rfl <| .sub (.cons rfl (.rfl' _) (.cons rfl (.rfl' _) (.cons rfl (.rfl' _) (.nil)))) (ih1 (n1, (v4bl1 ++ ([(u8shl ((nth v0s (Int.toNat (v5il1))) - 48) 4) ||| v6lowj1] : List UInt8), v5il1 + 2)) HK1 hm1)
      · intro hj1
        refine .seq ?_
        refine .region ?_
        refine .q (q_move rfl) rfl ?_
        obtain ⟨hk5, H⟩ := ck_some H
        refine .q (q_addI rfl rfl hk5.1 hk5.2) rfl ?_
        refine .q (q_move rfl) rfl ?_
        refine .q (q_lenS Tryd.underlying9 rfl) rfl ?_
        refine .q (q_lss rfl rfl) rfl ?_
        refine .nil ?_
        refine .cond rfl (fun hc => ?_) (fun hc => ?_)
        · replace H := ifT hc H; clear hc
          refine .region ?_
          refine .q (q_move rfl) rfl ?_
          refine .q (q_move rfl) rfl ?_
          obtain ⟨hk6, H⟩ := ck_some H
          refine .q (q_addI rfl rfl hk6.1 hk6.2) rfl ?_
          obtain ⟨hk7, H⟩ := ck_some H
          refine .q (x := .d (cU8 (nth v0s (Int.toNat (v5il1 + 1))))) (q_indexL (i := v5il1 + 1) Tryd.underlying9 rfl rfl hk7) rfl ?_
          refine .q (x := .d (cU8 ((nth v0s (Int.toNat (v5il1 + 1))) - 48))) (q8_sub (a := nth v0s (Int.toNat (v5il1 + 1))) (b := 48) rfl rfl) rfl ?_
          refine .q (q_assign rfl) rfl ?_
          refine .nil ?_
          exact .sub (.cons rfl (.rfl' _) (.cons rfl (.rfl' _) (.cons rfl (.rfl' _) (.cons rfl (.rfl' _) (.nil))))) (hj1 ((nth v0s (Int.toNat (v5il1 + 1))) - 48) H)
        · replace H := ifF hc H; clear hc
          refine .skip ?_
          exact .sub (.cons rfl (.rfl' _) (.cons rfl (.rfl' _) (.cons rfl (.rfl' _) (.cons rfl (.rfl' _) (.nil))))) (hj1 15 H)
    · replace H := ifF hc H; clear hc
      refine .exit rfl ?_
      refine .seq ?_
      refine .region ?_
      refine .q (q_move rfl) rfl ?_
      refine .q (q_assign rfl) rfl ?_
      refine .q (q_assign rfl) rfl ?_
      refine .nil ?_
      refine .retN [.tmp 2, .tmp 3] [.tsl 1 (v4bl1.map rB8) 0, .d (cI 0)] Tryd.func50 Tryd.results50 ⟨rfl, rfl, trivial⟩ ?_
      cases H
      cases HK1
      exact ⟨_, EVle.tupL (ds := [slOf 1 rB8 v4bl1, cI 0]) ⟨.tsl _ _ _, .rfl' _, trivial⟩, rfl⟩

set_option maxRecDepth 100000 in
set_option maxHeartbeats 1000000 in
theorem c_f_tagged_bytes {v0n : Int} {r : (List UInt8)} (H : f_tagged_bytes v0n = some r) : ACall Tryd.prog 53 [cI v0n] (· = slOf 1 rB8 r) := by
  obtain ⟨i5, hi5, hz5, hs5, hb5⟩ := in_5
  refine ACall.enter' Tryd.func53 rfl Tryd.ntmps53 rfl fun S hS => ?_
  unfold f_tagged_bytes at H
  change ARun _ _ _ _ _ _ [(0, .d (cI v0n))] _
  refine .seq ?_
  refine .region ?_
  refine .q (q_assign rfl) rfl ?_
  refine .nil ?_
  refine .seq ?_
  refine .region ?_
  refine .q (q_assign rfl) rfl ?_
  refine .nil ?_
  refine .seq ?_
  refine .block ?_
  obtain ⟨n1, H⟩ := loop_some H
  refine .loop (ι := Nat × (Int × List UInt8)) (fun p => [(0, .d (cI p.2.1)), (3, .d (slOf 1 rB8 p.2.2))]) (fun p => ⟨[], []⟩) (fun p => iter (fun s => f_tagged_bytes_l1 s.1 s.2) p.1 p.2 = some r) (·.1) (n1, (v0n, [])) H (.cons rfl (.rfl' _) (.cons rfl (.nil 1) (.nil))) rfl ?_
  rintro ⟨m1, v0nl1, v3outl1⟩ HI ih1
  obtain ⟨n1, q1, hm1, H, HK1⟩ := iter_succ HI
  clear HI
  replace H : f_tagged_bytes_l1 v0nl1 v3outl1 = some q1 := H
  unfold f_tagged_bytes_l1 at H
  change ARun _ _ _ _ _ _ [(0, .d (cI v0nl1)), (3, .d (slOf 1 rB8 v3outl1))] ⟨[], []⟩
  refine .seq ?_
  refine .seq ?_
  refine .region ?_
  refine .q (q_move rfl) rfl ?_
  refine .q (q_gtr rfl rfl) rfl ?_
  refine .nil ?_
  refine .cond rfl (fun hc => ?_) (fun hc => ?_)
  · replace H := ifT hc H; clear hc
    refine .skip ?_
    refine .seq ?_
    refine .block ?_
    refine .region ?_
    refine .q (q_move rfl) rfl ?_
    refine .q (x := .d (cU8 (UInt8.ofInt v0nl1))) (q_conv8 Tryd.underlying3 Tryd.underlying5 rfl) rfl ?_
    refine .v (x := .tsl 1 (([UInt8.ofInt v0nl1] : List UInt8).map rB8) 0) (v_buildSliceT (n := 1) Tryd.underlying32 hi5 hs5 hz5 rfl rfl rfl rfl rfl) rfl ?_
    refine .withSt (st' := ⟨[], [⟨5, 1, ([UInt8.ofInt v0nl1] : List UInt8).length, none⟩]⟩) rfl ?_
    refine .q (q_move rfl) rfl ?_
    obtain ⟨hk1, H⟩ := ck_some H
    refine .v (x := .tsl 1 ((([UInt8.ofInt v0nl1] : List UInt8) ++ v3outl1).map rB8) 0) (v_appendL (l := ([UInt8.ofInt v0nl1] : List UInt8)) (l' := v3outl1) (row := rB8) Tryd.underlying32 hi5 hz5 hs5 rfl (by rw [hb5]; decide) rfl rfl rfl rfl hk1) rfl ?_
    refine .withSt (st' := ⟨[], [⟨5, 1, (([UInt8.ofInt v0nl1] : List UInt8) ++ v3outl1).length, none⟩]⟩) rfl ?_
    refine .q (q_assign rfl) rfl ?_
    refine .nil ?_
    refine .inBlock ?_
    refine .region ?_
    refine .q (q_move rfl) rfl ?_
    obtain ⟨hk2, H⟩ := ck_some H
    refine .q (x := .d (cI (v0nl1 / 2 ^ (Int.toNat (8))))) (q_shrI rfl rfl hk2) rfl ?_
    refine .q (q_assign rfl) rfl ?_
    refine .nil ?_
    cases H
    exact .to 0 0 (env' := [(0, .d (cI (v0nl1 / 2 ^ (Int.toNat (8))))), (3, .d (slOf 1 rB8 (([UInt8.ofInt v0nl1] : List UInt8) ++ v3outl1)))]) (st' := ⟨[], []⟩) (.cons rfl (.rfl' _) (.cons rfl (.tsl _ _ _) .nil)) rfl rfl rfl rfl rfl (by rw [hS]; exact Nat.le_of_ble_eq_true rfl) (by rw [hS]; exact Nat.le_of_ble_eq_true rfl) <| .sub (.cons rfl (.rfl' _) (.cons rfl (.rfl' _) (.nil))) (ih1 (n1, (v0nl1 / 2 ^ (Int.toNat (8)), ([UInt8.ofInt v0nl1] : List UInt8) ++ v3outl1)) HK1 hm1)
  · replace H := ifF hc H; clear hc
    refine .exit rfl ?_
    refine .seq ?_
    refine .region ?_
    refine .q (q_move rfl) rfl ?_
    refine .q (q_assign rfl) rfl ?_
    refine .nil ?_
    refine .retN [.tmp 2] [.d (slOf 1 rB8 v3outl1)] Tryd.func53 Tryd.results53 ⟨rfl, trivial⟩ ?_
    cases H
    cases HK1
    exact ⟨_, .rfl' _, rfl⟩

set_option maxRecDepth 100000 in
set_option maxHeartbeats 1000000 in
theorem c_f_tagged_flag {v0holds : Bool} {v1n : Int} {r : Int} (H : f_tagged_flag v0holds v1n = some r) : ACall Tryd.prog 54 [cB v0holds, cI v1n] (· = cI r) := by
  refine ACall.enter' Tryd.func54 rfl Tryd.ntmps54 rfl fun S hS => ?_
  unfold f_tagged_flag at H
  change ARun _ _ _ _ _ _ [(0, .d (cB v0holds)), (1, .d (cI v1n))] _
  refine .seq ?_
  refine .region ?_
  refine .q (q_assign rfl) rfl ?_
  refine .nil ?_
  refine .seq ?_
  refine .seq ?_
  refine .region ?_
  refine .q (q_move rfl) rfl ?_
  refine .nil ?_
  refine .cond rfl (fun hc => ?_) (fun hc => ?_)
  · replace H := ifT hc H; clear hc
    refine .seq ?_
    refine .region ?_
    refine .q (q_move rfl) rfl ?_
    refine .q (q_assign rfl) rfl ?_
    refine .nil ?_
    refine .retN [.tmp 4] [.d (cI v1n)] Tryd.func54 Tryd.results54 ⟨rfl, trivial⟩ ?_
    cases H
    exact ⟨_, .rfl' _, rfl⟩
  · replace H := ifF hc H; clear hc
    refine .skip ?_
    refine .seq ?_
    refine .region ?_
    refine .q (q_assign rfl) rfl ?_
    refine .nil ?_
    refine .retN [.tmp 4] [.d (cI 0)] Tryd.func54 Tryd.results54 ⟨rfl, trivial⟩ ?_
    cases H
    exact ⟨_, .rfl' _, rfl⟩

end Go.Proofs.YtccmaffefdcikaaDoor
