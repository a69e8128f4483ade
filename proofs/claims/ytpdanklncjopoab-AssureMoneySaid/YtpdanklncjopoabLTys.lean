import Derived.Test.YtpdanklncjopoabRows
import Derived.Test.YtpdanklncjopoabD2
set_option linter.unusedVariables false
namespace Go.Proofs.Ytpdanklncjopoab.L
open Go.RowKit Go.Abs
theorem hMix : Try.prog.follows .mixedOrders = true := by kernel_rfl
theorem inf_36 : (Try.prog.info? 36).map (fun i => (i.zero, i.size, i.bytes)) = some (some (.agg #[.int .i64 0, .int .i64 0, .int .i64 0, .int .i64 0, .string ⟨#[]⟩, .string ⟨#[]⟩, .int .i64 0, .int .i64 0, .int .i64 0, .bool false, .int .i64 0, .int .i64 0, .int .i64 0, .string ⟨#[]⟩, .int .i64 0, .string ⟨#[]⟩, .slice none 0 0, .slice none 0 0, .int .i64 0, .int .i64 0, .int .i64 0, .slice none 0 0, .int .i64 0, .int .i64 0]), 24, 272) := by kernel_rfl
theorem sz_36 : (Try.prog.info? 36).map (·.size) = some 24 := by kernel_rfl
theorem in_36 : ∃ i, Try.prog.info? 36 = some i ∧ i.zero = some (.agg #[.int .i64 0, .int .i64 0, .int .i64 0, .int .i64 0, .string ⟨#[]⟩, .string ⟨#[]⟩, .int .i64 0, .int .i64 0, .int .i64 0, .bool false, .int .i64 0, .int .i64 0, .int .i64 0, .string ⟨#[]⟩, .int .i64 0, .string ⟨#[]⟩, .slice none 0 0, .slice none 0 0, .int .i64 0, .int .i64 0, .int .i64 0, .slice none 0 0, .int .i64 0, .int .i64 0]) ∧ i.size = 24 ∧ i.bytes = 272 := info_parts inf_36
theorem inf_39 : (Try.prog.info? 39).map (fun i => (i.zero, i.size, i.bytes)) = some (some (.agg #[.int .i64 0, .string ⟨#[]⟩, .int .i64 0, .int .i64 0, .int .i64 0]), 5, 48) := by kernel_rfl
theorem sz_39 : (Try.prog.info? 39).map (·.size) = some 5 := by kernel_rfl
theorem in_39 : ∃ i, Try.prog.info? 39 = some i ∧ i.zero = some (.agg #[.int .i64 0, .string ⟨#[]⟩, .int .i64 0, .int .i64 0, .int .i64 0]) ∧ i.size = 5 ∧ i.bytes = 48 := info_parts inf_39
theorem inf_41 : (Try.prog.info? 41).map (fun i => (i.zero, i.size, i.bytes)) = some (some (.agg #[.string ⟨#[]⟩, .int .i64 0, .int .i64 0, .int .i64 0]), 4, 40) := by kernel_rfl
theorem sz_41 : (Try.prog.info? 41).map (·.size) = some 4 := by kernel_rfl
theorem in_41 : ∃ i, Try.prog.info? 41 = some i ∧ i.zero = some (.agg #[.string ⟨#[]⟩, .int .i64 0, .int .i64 0, .int .i64 0]) ∧ i.size = 4 ∧ i.bytes = 40 := info_parts inf_41
theorem inf_43 : (Try.prog.info? 43).map (fun i => (i.zero, i.size, i.bytes)) = some (some (.agg #[.string ⟨#[]⟩, .int .i64 0]), 2, 24) := by kernel_rfl
theorem sz_43 : (Try.prog.info? 43).map (·.size) = some 2 := by kernel_rfl
theorem in_43 : ∃ i, Try.prog.info? 43 = some i ∧ i.zero = some (.agg #[.string ⟨#[]⟩, .int .i64 0]) ∧ i.size = 2 ∧ i.bytes = 24 := info_parts inf_43
theorem inf_51 : (Try.prog.info? 51).map (fun i => (i.zero, i.size, i.bytes)) = some (some (.agg #[.int .i64 0, .int .i64 0, .int .i64 0, .int .i64 0]), 4, 32) := by kernel_rfl
theorem sz_51 : (Try.prog.info? 51).map (·.size) = some 4 := by kernel_rfl
theorem in_51 : ∃ i, Try.prog.info? 51 = some i ∧ i.zero = some (.agg #[.int .i64 0, .int .i64 0, .int .i64 0, .int .i64 0]) ∧ i.size = 4 ∧ i.bytes = 32 := info_parts inf_51
theorem fo_30_0 : fieldOff Try.prog 30 0 = some 0 := by kernel_rfl
theorem fo_30_7 : fieldOff Try.prog 30 7 = some 7 := by kernel_rfl
theorem fo_30_9 : fieldOff Try.prog 30 9 = some 9 := by kernel_rfl
theorem fo_36_0 : fieldOff Try.prog 36 0 = some 0 := by kernel_rfl
theorem fo_36_1 : fieldOff Try.prog 36 1 = some 12 := by kernel_rfl
theorem fo_36_2 : fieldOff Try.prog 36 2 = some 13 := by kernel_rfl
theorem fo_36_3 : fieldOff Try.prog 36 3 = some 14 := by kernel_rfl
theorem fo_36_4 : fieldOff Try.prog 36 4 = some 15 := by kernel_rfl
theorem fo_36_5 : fieldOff Try.prog 36 5 = some 16 := by kernel_rfl
theorem fo_36_6 : fieldOff Try.prog 36 6 = some 17 := by kernel_rfl
theorem fo_36_7 : fieldOff Try.prog 36 7 = some 18 := by kernel_rfl
theorem fo_36_8 : fieldOff Try.prog 36 8 = some 19 := by kernel_rfl
theorem fo_36_9 : fieldOff Try.prog 36 9 = some 20 := by kernel_rfl
theorem fo_36_10 : fieldOff Try.prog 36 10 = some 21 := by kernel_rfl
theorem fo_36_11 : fieldOff Try.prog 36 11 = some 22 := by kernel_rfl
theorem fo_36_12 : fieldOff Try.prog 36 12 = some 23 := by kernel_rfl
theorem fo_39_4 : fieldOff Try.prog 39 4 = some 4 := by kernel_rfl
theorem fo_41_2 : fieldOff Try.prog 41 2 = some 2 := by kernel_rfl
theorem fo_41_3 : fieldOff Try.prog 41 3 = some 3 := by kernel_rfl
theorem fo_43_1 : fieldOff Try.prog 43 1 = some 1 := by kernel_rfl
theorem one_3 : (Try.prog.underlying 3).map oneB = some true := by kernel_rfl
theorem one_4 : (Try.prog.underlying 4).map oneB = some true := by kernel_rfl
theorem one_9 : (Try.prog.underlying 9).map oneB = some true := by kernel_rfl
theorem one_31 : (Try.prog.underlying 31).map oneB = some true := by kernel_rfl
theorem one_32 : (Try.prog.underlying 32).map oneB = some true := by kernel_rfl
theorem one_33 : (Try.prog.underlying 33).map oneB = some true := by kernel_rfl
theorem one_34 : (Try.prog.underlying 34).map oneB = some true := by kernel_rfl
theorem one_36 : (Try.prog.underlying 36).map oneB = some false := by kernel_rfl
theorem one_39 : (Try.prog.underlying 39).map oneB = some false := by kernel_rfl
theorem one_41 : (Try.prog.underlying 41).map oneB = some false := by kernel_rfl
theorem one_43 : (Try.prog.underlying 43).map oneB = some false := by kernel_rfl
theorem pl_51 : placesOf Try.prog 51 = some [(0, 1), (1, 1), (2, 1), (3, 1)] := by kernel_rfl
theorem zr_36 : (Try.prog.info? 36).bind (·.zero) = some (.agg #[.int .i64 0, .int .i64 0, .int .i64 0, .int .i64 0, .string ⟨#[]⟩, .string ⟨#[]⟩, .int .i64 0, .int .i64 0, .int .i64 0, .bool false, .int .i64 0, .int .i64 0, .int .i64 0, .string ⟨#[]⟩, .int .i64 0, .string ⟨#[]⟩, .slice none 0 0, .slice none 0 0, .int .i64 0, .int .i64 0, .int .i64 0, .slice none 0 0, .int .i64 0, .int .i64 0]) := by kernel_rfl
theorem zr_39 : (Try.prog.info? 39).bind (·.zero) = some (.agg #[.int .i64 0, .string ⟨#[]⟩, .int .i64 0, .int .i64 0, .int .i64 0]) := by kernel_rfl
theorem zr_41 : (Try.prog.info? 41).bind (·.zero) = some (.agg #[.string ⟨#[]⟩, .int .i64 0, .int .i64 0, .int .i64 0]) := by kernel_rfl
theorem zr_43 : (Try.prog.info? 43).bind (·.zero) = some (.agg #[.string ⟨#[]⟩, .int .i64 0]) := by kernel_rfl
theorem en_4 : Enters Try.prog 4 := ⟨_, Try.func4, by kernel_rfl, rfl⟩
theorem en_5 : Enters Try.prog 5 := ⟨_, Try.func5, by kernel_rfl, rfl⟩
theorem en_6 : Enters Try.prog 6 := ⟨_, Try.func6, by kernel_rfl, rfl⟩
theorem en_7 : Enters Try.prog 7 := ⟨_, Try.func7, by kernel_rfl, rfl⟩
theorem en_8 : Enters Try.prog 8 := ⟨_, Try.func8, by kernel_rfl, rfl⟩
theorem en_9 : Enters Try.prog 9 := ⟨_, Try.func9, by kernel_rfl, rfl⟩
theorem en_14 : Enters Try.prog 14 := ⟨_, Try.func14, by kernel_rfl, rfl⟩
theorem en_15 : Enters Try.prog 15 := ⟨_, Try.func15, by kernel_rfl, rfl⟩
theorem en_16 : Enters Try.prog 16 := ⟨_, Try.func16, by kernel_rfl, rfl⟩
theorem en_23 : Enters Try.prog 23 := ⟨_, Try.func23, by kernel_rfl, rfl⟩
theorem en_24 : Enters Try.prog 24 := ⟨_, Try.func24, by kernel_rfl, rfl⟩
theorem en_25 : Enters Try.prog 25 := ⟨_, Try.func25, by kernel_rfl, rfl⟩
theorem en_26 : Enters Try.prog 26 := ⟨_, Try.func26, by kernel_rfl, rfl⟩
end Go.Proofs.Ytpdanklncjopoab.L
