import Derived.Test.YtpdanklncjopoaaRows
import Derived.Test.YtpdanklncjopoaaD2
set_option linter.unusedVariables false
namespace Go.Proofs.Ytpdanklncjopoaa.L
open Go.RowKit Go.Abs
theorem hMix : Try.prog.follows .mixedOrders = true := by kernel_rfl
theorem inf_52 : (Try.prog.info? 52).map (fun i => (i.zero, i.size, i.bytes)) = some (some (.agg #[.int .i64 0, .int .i64 0, .int .i64 0, .int .i64 0, .string ⟨#[]⟩, .string ⟨#[]⟩, .int .i64 0, .int .i64 0, .int .i64 0, .bool false, .int .i64 0, .int .i64 0]), 12, 112) := by kernel_rfl
theorem sz_52 : (Try.prog.info? 52).map (·.size) = some 12 := by kernel_rfl
theorem in_52 : ∃ i, Try.prog.info? 52 = some i ∧ i.zero = some (.agg #[.int .i64 0, .int .i64 0, .int .i64 0, .int .i64 0, .string ⟨#[]⟩, .string ⟨#[]⟩, .int .i64 0, .int .i64 0, .int .i64 0, .bool false, .int .i64 0, .int .i64 0]) ∧ i.size = 12 ∧ i.bytes = 112 := info_parts inf_52
theorem inf_58 : (Try.prog.info? 58).map (fun i => (i.zero, i.size, i.bytes)) = some (some (.agg #[.int .i64 0, .int .i64 0, .int .i64 0, .int .i64 0, .string ⟨#[]⟩, .string ⟨#[]⟩, .int .i64 0, .int .i64 0, .int .i64 0, .bool false, .int .i64 0, .int .i64 0, .int .i64 0, .string ⟨#[]⟩, .int .i64 0, .string ⟨#[]⟩, .slice none 0 0, .slice none 0 0, .int .i64 0, .int .i64 0, .int .i64 0, .slice none 0 0, .int .i64 0, .int .i64 0]), 24, 272) := by kernel_rfl
theorem sz_58 : (Try.prog.info? 58).map (·.size) = some 24 := by kernel_rfl
theorem in_58 : ∃ i, Try.prog.info? 58 = some i ∧ i.zero = some (.agg #[.int .i64 0, .int .i64 0, .int .i64 0, .int .i64 0, .string ⟨#[]⟩, .string ⟨#[]⟩, .int .i64 0, .int .i64 0, .int .i64 0, .bool false, .int .i64 0, .int .i64 0, .int .i64 0, .string ⟨#[]⟩, .int .i64 0, .string ⟨#[]⟩, .slice none 0 0, .slice none 0 0, .int .i64 0, .int .i64 0, .int .i64 0, .slice none 0 0, .int .i64 0, .int .i64 0]) ∧ i.size = 24 ∧ i.bytes = 272 := info_parts inf_58
theorem inf_64 : (Try.prog.info? 64).map (fun i => (i.zero, i.size, i.bytes)) = some (some (.agg #[.int .i64 0, .int .i64 0, .string ⟨#[]⟩, .string ⟨#[]⟩, .int .i64 0, .int .i64 0, .int .i64 0, .int .i64 0]), 8, 80) := by kernel_rfl
theorem sz_64 : (Try.prog.info? 64).map (·.size) = some 8 := by kernel_rfl
theorem in_64 : ∃ i, Try.prog.info? 64 = some i ∧ i.zero = some (.agg #[.int .i64 0, .int .i64 0, .string ⟨#[]⟩, .string ⟨#[]⟩, .int .i64 0, .int .i64 0, .int .i64 0, .int .i64 0]) ∧ i.size = 8 ∧ i.bytes = 80 := info_parts inf_64
theorem inf_95 : (Try.prog.info? 95).map (fun i => (i.zero, i.size, i.bytes)) = some (some (.agg #[.int .i64 0, .string ⟨#[]⟩, .int .i64 0, .int .i64 0, .int .i64 0]), 5, 48) := by kernel_rfl
theorem sz_95 : (Try.prog.info? 95).map (·.size) = some 5 := by kernel_rfl
theorem in_95 : ∃ i, Try.prog.info? 95 = some i ∧ i.zero = some (.agg #[.int .i64 0, .string ⟨#[]⟩, .int .i64 0, .int .i64 0, .int .i64 0]) ∧ i.size = 5 ∧ i.bytes = 48 := info_parts inf_95
theorem inf_97 : (Try.prog.info? 97).map (fun i => (i.zero, i.size, i.bytes)) = some (some (.agg #[.string ⟨#[]⟩, .int .i64 0, .int .i64 0, .int .i64 0]), 4, 40) := by kernel_rfl
theorem sz_97 : (Try.prog.info? 97).map (·.size) = some 4 := by kernel_rfl
theorem in_97 : ∃ i, Try.prog.info? 97 = some i ∧ i.zero = some (.agg #[.string ⟨#[]⟩, .int .i64 0, .int .i64 0, .int .i64 0]) ∧ i.size = 4 ∧ i.bytes = 40 := info_parts inf_97
theorem inf_99 : (Try.prog.info? 99).map (fun i => (i.zero, i.size, i.bytes)) = some (some (.agg #[.string ⟨#[]⟩, .int .i64 0]), 2, 24) := by kernel_rfl
theorem sz_99 : (Try.prog.info? 99).map (·.size) = some 2 := by kernel_rfl
theorem in_99 : ∃ i, Try.prog.info? 99 = some i ∧ i.zero = some (.agg #[.string ⟨#[]⟩, .int .i64 0]) ∧ i.size = 2 ∧ i.bytes = 24 := info_parts inf_99
theorem fo_52_7 : fieldOff Try.prog 52 7 = some 7 := by kernel_rfl
theorem fo_58_0 : fieldOff Try.prog 58 0 = some 0 := by kernel_rfl
theorem fo_58_5 : fieldOff Try.prog 58 5 = some 16 := by kernel_rfl
theorem fo_58_6 : fieldOff Try.prog 58 6 = some 17 := by kernel_rfl
theorem fo_58_7 : fieldOff Try.prog 58 7 = some 18 := by kernel_rfl
theorem fo_58_8 : fieldOff Try.prog 58 8 = some 19 := by kernel_rfl
theorem fo_58_9 : fieldOff Try.prog 58 9 = some 20 := by kernel_rfl
theorem fo_58_10 : fieldOff Try.prog 58 10 = some 21 := by kernel_rfl
theorem fo_58_11 : fieldOff Try.prog 58 11 = some 22 := by kernel_rfl
theorem fo_58_12 : fieldOff Try.prog 58 12 = some 23 := by kernel_rfl
theorem fo_64_6 : fieldOff Try.prog 64 6 = some 6 := by kernel_rfl
theorem fo_95_4 : fieldOff Try.prog 95 4 = some 4 := by kernel_rfl
theorem fo_97_2 : fieldOff Try.prog 97 2 = some 2 := by kernel_rfl
theorem fo_97_3 : fieldOff Try.prog 97 3 = some 3 := by kernel_rfl
theorem fo_99_1 : fieldOff Try.prog 99 1 = some 1 := by kernel_rfl
theorem one_3 : (Try.prog.underlying 3).map oneB = some true := by kernel_rfl
theorem one_54 : (Try.prog.underlying 54).map oneB = some true := by kernel_rfl
theorem one_55 : (Try.prog.underlying 55).map oneB = some true := by kernel_rfl
theorem one_56 : (Try.prog.underlying 56).map oneB = some true := by kernel_rfl
theorem one_58 : (Try.prog.underlying 58).map oneB = some false := by kernel_rfl
theorem zr_58 : (Try.prog.info? 58).bind (·.zero) = some (.agg #[.int .i64 0, .int .i64 0, .int .i64 0, .int .i64 0, .string ⟨#[]⟩, .string ⟨#[]⟩, .int .i64 0, .int .i64 0, .int .i64 0, .bool false, .int .i64 0, .int .i64 0, .int .i64 0, .string ⟨#[]⟩, .int .i64 0, .string ⟨#[]⟩, .slice none 0 0, .slice none 0 0, .int .i64 0, .int .i64 0, .int .i64 0, .slice none 0 0, .int .i64 0, .int .i64 0]) := by kernel_rfl
theorem en_10 : Enters Try.prog 10 := ⟨_, Try.func10, by kernel_rfl, rfl⟩
theorem en_13 : Enters Try.prog 13 := ⟨_, Try.func13, by kernel_rfl, rfl⟩
theorem en_17 : Enters Try.prog 17 := ⟨_, Try.func17, by kernel_rfl, rfl⟩
theorem en_18 : Enters Try.prog 18 := ⟨_, Try.func18, by kernel_rfl, rfl⟩
theorem en_19 : Enters Try.prog 19 := ⟨_, Try.func19, by kernel_rfl, rfl⟩
theorem en_20 : Enters Try.prog 20 := ⟨_, Try.func20, by kernel_rfl, rfl⟩
theorem en_21 : Enters Try.prog 21 := ⟨_, Try.func21, by kernel_rfl, rfl⟩
theorem en_22 : Enters Try.prog 22 := ⟨_, Try.func22, by kernel_rfl, rfl⟩
theorem en_33 : Enters Try.prog 33 := ⟨_, Try.func33, by kernel_rfl, rfl⟩
theorem en_50 : Enters Try.prog 50 := ⟨_, Try.func50, by kernel_rfl, rfl⟩
end Go.Proofs.Ytpdanklncjopoaa.L
