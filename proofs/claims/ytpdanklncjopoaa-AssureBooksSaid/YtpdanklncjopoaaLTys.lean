import Derived.Test.YtpdanklncjopoaaRows
import Derived.Test.YtpdanklncjopoaaG9
set_option linter.unusedVariables false
namespace Go.Proofs.Ytpdanklncjopoaa
open Go.RowKit Go.Abs
theorem hMix : Try.prog.follows .mixedOrders = true := by kernel_rfl
theorem inf_3 : (Try.prog.info? 3).map (fun i => (i.zero, i.size, i.bytes)) = some (some (.int .i64 0), 1, 8) := by kernel_rfl
theorem sz_3 : (Try.prog.info? 3).map (·.size) = some 1 := by kernel_rfl
theorem in_3 : ∃ i, Try.prog.info? 3 = some i ∧ i.zero = some (.int .i64 0) ∧ i.size = 1 ∧ i.bytes = 8 := info_parts inf_3
theorem inf_5 : (Try.prog.info? 5).map (fun i => (i.zero, i.size, i.bytes)) = some (some (.int .u8 0), 1, 1) := by kernel_rfl
theorem sz_5 : (Try.prog.info? 5).map (·.size) = some 1 := by kernel_rfl
theorem in_5 : ∃ i, Try.prog.info? 5 = some i ∧ i.zero = some (.int .u8 0) ∧ i.size = 1 ∧ i.bytes = 1 := info_parts inf_5
theorem inf_34 : (Try.prog.info? 34).map (fun i => (i.zero, i.size, i.bytes)) = some (some (.agg #[.slice none 0 0, .slice none 0 0, .slice none 0 0, .slice none 0 0, .slice none 0 0, .slice none 0 0]), 6, 144) := by kernel_rfl
theorem sz_34 : (Try.prog.info? 34).map (·.size) = some 6 := by kernel_rfl
theorem in_34 : ∃ i, Try.prog.info? 34 = some i ∧ i.zero = some (.agg #[.slice none 0 0, .slice none 0 0, .slice none 0 0, .slice none 0 0, .slice none 0 0, .slice none 0 0]) ∧ i.size = 6 ∧ i.bytes = 144 := info_parts inf_34
theorem inf_39 : (Try.prog.info? 39).map (fun i => (i.zero, i.size, i.bytes)) = some (some (.agg #[.int .i64 0, .int .i64 0, .int .i64 0, .int .i64 0, .int .i64 0, .int .i64 0]), 6, 48) := by kernel_rfl
theorem sz_39 : (Try.prog.info? 39).map (·.size) = some 6 := by kernel_rfl
theorem in_39 : ∃ i, Try.prog.info? 39 = some i ∧ i.zero = some (.agg #[.int .i64 0, .int .i64 0, .int .i64 0, .int .i64 0, .int .i64 0, .int .i64 0]) ∧ i.size = 6 ∧ i.bytes = 48 := info_parts inf_39
theorem inf_42 : (Try.prog.info? 42).map (fun i => (i.zero, i.size, i.bytes)) = some (some (.slice none 0 0), 1, 24) := by kernel_rfl
theorem sz_42 : (Try.prog.info? 42).map (·.size) = some 1 := by kernel_rfl
theorem in_42 : ∃ i, Try.prog.info? 42 = some i ∧ i.zero = some (.slice none 0 0) ∧ i.size = 1 ∧ i.bytes = 24 := info_parts inf_42
theorem inf_52 : (Try.prog.info? 52).map (fun i => (i.zero, i.size, i.bytes)) = some (some (.agg #[.int .i64 0, .int .i64 0, .int .i64 0, .int .i64 0, .string ⟨#[]⟩, .string ⟨#[]⟩, .int .i64 0, .int .i64 0, .int .i64 0, .bool false, .int .i64 0, .int .i64 0]), 12, 112) := by kernel_rfl
theorem sz_52 : (Try.prog.info? 52).map (·.size) = some 12 := by kernel_rfl
theorem in_52 : ∃ i, Try.prog.info? 52 = some i ∧ i.zero = some (.agg #[.int .i64 0, .int .i64 0, .int .i64 0, .int .i64 0, .string ⟨#[]⟩, .string ⟨#[]⟩, .int .i64 0, .int .i64 0, .int .i64 0, .bool false, .int .i64 0, .int .i64 0]) ∧ i.size = 12 ∧ i.bytes = 112 := info_parts inf_52
theorem inf_58 : (Try.prog.info? 58).map (fun i => (i.zero, i.size, i.bytes)) = some (some (.agg #[.int .i64 0, .int .i64 0, .int .i64 0, .int .i64 0, .string ⟨#[]⟩, .string ⟨#[]⟩, .int .i64 0, .int .i64 0, .int .i64 0, .bool false, .int .i64 0, .int .i64 0, .int .i64 0, .string ⟨#[]⟩, .int .i64 0, .string ⟨#[]⟩, .slice none 0 0, .slice none 0 0, .int .i64 0, .int .i64 0, .int .i64 0, .slice none 0 0, .int .i64 0, .int .i64 0]), 24, 272) := by kernel_rfl
theorem sz_58 : (Try.prog.info? 58).map (·.size) = some 24 := by kernel_rfl
theorem in_58 : ∃ i, Try.prog.info? 58 = some i ∧ i.zero = some (.agg #[.int .i64 0, .int .i64 0, .int .i64 0, .int .i64 0, .string ⟨#[]⟩, .string ⟨#[]⟩, .int .i64 0, .int .i64 0, .int .i64 0, .bool false, .int .i64 0, .int .i64 0, .int .i64 0, .string ⟨#[]⟩, .int .i64 0, .string ⟨#[]⟩, .slice none 0 0, .slice none 0 0, .int .i64 0, .int .i64 0, .int .i64 0, .slice none 0 0, .int .i64 0, .int .i64 0]) ∧ i.size = 24 ∧ i.bytes = 272 := info_parts inf_58
theorem inf_60 : (Try.prog.info? 60).map (fun i => (i.zero, i.size, i.bytes)) = some (some (.agg #[.int .i64 0, .int .i64 0, .int .i64 0, .int .i64 0]), 4, 32) := by kernel_rfl
theorem sz_60 : (Try.prog.info? 60).map (·.size) = some 4 := by kernel_rfl
theorem in_60 : ∃ i, Try.prog.info? 60 = some i ∧ i.zero = some (.agg #[.int .i64 0, .int .i64 0, .int .i64 0, .int .i64 0]) ∧ i.size = 4 ∧ i.bytes = 32 := info_parts inf_60
theorem inf_64 : (Try.prog.info? 64).map (fun i => (i.zero, i.size, i.bytes)) = some (some (.agg #[.int .i64 0, .int .i64 0, .string ⟨#[]⟩, .string ⟨#[]⟩, .int .i64 0, .int .i64 0, .int .i64 0, .int .i64 0]), 8, 80) := by kernel_rfl
theorem sz_64 : (Try.prog.info? 64).map (·.size) = some 8 := by kernel_rfl
theorem in_64 : ∃ i, Try.prog.info? 64 = some i ∧ i.zero = some (.agg #[.int .i64 0, .int .i64 0, .string ⟨#[]⟩, .string ⟨#[]⟩, .int .i64 0, .int .i64 0, .int .i64 0, .int .i64 0]) ∧ i.size = 8 ∧ i.bytes = 80 := info_parts inf_64
theorem inf_75 : (Try.prog.info? 75).map (fun i => (i.zero, i.size, i.bytes)) = some (some (.agg #[.int .i64 0, .int .i64 0, .int .i64 0, .slice none 0 0, .slice none 0 0, .int .i64 0, .int .i64 0, .int .i64 0]), 8, 96) := by kernel_rfl
theorem sz_75 : (Try.prog.info? 75).map (·.size) = some 8 := by kernel_rfl
theorem in_75 : ∃ i, Try.prog.info? 75 = some i ∧ i.zero = some (.agg #[.int .i64 0, .int .i64 0, .int .i64 0, .slice none 0 0, .slice none 0 0, .int .i64 0, .int .i64 0, .int .i64 0]) ∧ i.size = 8 ∧ i.bytes = 96 := info_parts inf_75
theorem inf_78 : (Try.prog.info? 78).map (fun i => (i.zero, i.size, i.bytes)) = some (some (.agg #[.int .i64 0, .string ⟨#[]⟩, .slice none 0 0]), 3, 48) := by kernel_rfl
theorem sz_78 : (Try.prog.info? 78).map (·.size) = some 3 := by kernel_rfl
theorem in_78 : ∃ i, Try.prog.info? 78 = some i ∧ i.zero = some (.agg #[.int .i64 0, .string ⟨#[]⟩, .slice none 0 0]) ∧ i.size = 3 ∧ i.bytes = 48 := info_parts inf_78
theorem inf_80 : (Try.prog.info? 80).map (fun i => (i.zero, i.size, i.bytes)) = some (some (.agg #[.string ⟨#[]⟩, .int .i64 0]), 2, 24) := by kernel_rfl
theorem sz_80 : (Try.prog.info? 80).map (·.size) = some 2 := by kernel_rfl
theorem in_80 : ∃ i, Try.prog.info? 80 = some i ∧ i.zero = some (.agg #[.string ⟨#[]⟩, .int .i64 0]) ∧ i.size = 2 ∧ i.bytes = 24 := info_parts inf_80
theorem inf_90 : (Try.prog.info? 90).map (fun i => (i.zero, i.size, i.bytes)) = some (some (.agg #[.int .i64 0, .int .i64 0, .int .i64 0, .int .i64 0]), 4, 32) := by kernel_rfl
theorem sz_90 : (Try.prog.info? 90).map (·.size) = some 4 := by kernel_rfl
theorem in_90 : ∃ i, Try.prog.info? 90 = some i ∧ i.zero = some (.agg #[.int .i64 0, .int .i64 0, .int .i64 0, .int .i64 0]) ∧ i.size = 4 ∧ i.bytes = 32 := info_parts inf_90
theorem inf_107 : (Try.prog.info? 107).map (fun i => (i.zero, i.size, i.bytes)) = some (some (.agg #[.int .i64 0, .int .i64 0, .int .i64 0]), 3, 24) := by kernel_rfl
theorem sz_107 : (Try.prog.info? 107).map (·.size) = some 3 := by kernel_rfl
theorem in_107 : ∃ i, Try.prog.info? 107 = some i ∧ i.zero = some (.agg #[.int .i64 0, .int .i64 0, .int .i64 0]) ∧ i.size = 3 ∧ i.bytes = 24 := info_parts inf_107
theorem inf_126 : (Try.prog.info? 126).map (fun i => (i.zero, i.size, i.bytes)) = some (some (.agg #[.int .i64 0, .int .i64 0, .int .i64 0]), 3, 24) := by kernel_rfl
theorem sz_126 : (Try.prog.info? 126).map (·.size) = some 3 := by kernel_rfl
theorem in_126 : ∃ i, Try.prog.info? 126 = some i ∧ i.zero = some (.agg #[.int .i64 0, .int .i64 0, .int .i64 0]) ∧ i.size = 3 ∧ i.bytes = 24 := info_parts inf_126
theorem fo_30_0 : fieldOff Try.prog 30 0 = some 0 := by kernel_rfl
theorem fo_30_1 : fieldOff Try.prog 30 1 = some 1 := by kernel_rfl
theorem fo_30_2 : fieldOff Try.prog 30 2 = some 2 := by kernel_rfl
theorem fo_34_0 : fieldOff Try.prog 34 0 = some 0 := by kernel_rfl
theorem fo_34_1 : fieldOff Try.prog 34 1 = some 3 := by kernel_rfl
theorem fo_34_2 : fieldOff Try.prog 34 2 = some 4 := by kernel_rfl
theorem fo_34_3 : fieldOff Try.prog 34 3 = some 5 := by kernel_rfl
theorem fo_39_0 : fieldOff Try.prog 39 0 = some 0 := by kernel_rfl
theorem fo_39_1 : fieldOff Try.prog 39 1 = some 1 := by kernel_rfl
theorem fo_39_2 : fieldOff Try.prog 39 2 = some 2 := by kernel_rfl
theorem fo_39_3 : fieldOff Try.prog 39 3 = some 3 := by kernel_rfl
theorem fo_39_4 : fieldOff Try.prog 39 4 = some 4 := by kernel_rfl
theorem fo_39_5 : fieldOff Try.prog 39 5 = some 5 := by kernel_rfl
theorem fo_52_0 : fieldOff Try.prog 52 0 = some 0 := by kernel_rfl
theorem fo_52_3 : fieldOff Try.prog 52 3 = some 3 := by kernel_rfl
theorem fo_52_7 : fieldOff Try.prog 52 7 = some 7 := by kernel_rfl
theorem fo_58_0 : fieldOff Try.prog 58 0 = some 0 := by kernel_rfl
theorem fo_58_12 : fieldOff Try.prog 58 12 = some 23 := by kernel_rfl
theorem fo_60_0 : fieldOff Try.prog 60 0 = some 0 := by kernel_rfl
theorem fo_60_1 : fieldOff Try.prog 60 1 = some 1 := by kernel_rfl
theorem fo_60_2 : fieldOff Try.prog 60 2 = some 2 := by kernel_rfl
theorem fo_60_3 : fieldOff Try.prog 60 3 = some 3 := by kernel_rfl
theorem fo_64_0 : fieldOff Try.prog 64 0 = some 0 := by kernel_rfl
theorem fo_64_1 : fieldOff Try.prog 64 1 = some 1 := by kernel_rfl
theorem fo_64_6 : fieldOff Try.prog 64 6 = some 6 := by kernel_rfl
theorem fo_75_0 : fieldOff Try.prog 75 0 = some 0 := by kernel_rfl
theorem fo_75_6 : fieldOff Try.prog 75 6 = some 7 := by kernel_rfl
theorem fo_78_0 : fieldOff Try.prog 78 0 = some 0 := by kernel_rfl
theorem fo_78_1 : fieldOff Try.prog 78 1 = some 1 := by kernel_rfl
theorem fo_78_2 : fieldOff Try.prog 78 2 = some 2 := by kernel_rfl
theorem fo_80_0 : fieldOff Try.prog 80 0 = some 0 := by kernel_rfl
theorem fo_80_1 : fieldOff Try.prog 80 1 = some 1 := by kernel_rfl
theorem fo_90_3 : fieldOff Try.prog 90 3 = some 3 := by kernel_rfl
theorem fo_126_1 : fieldOff Try.prog 126 1 = some 1 := by kernel_rfl
theorem fo_126_2 : fieldOff Try.prog 126 2 = some 2 := by kernel_rfl
theorem one_3 : (Try.prog.underlying 3).map oneB = some true := by kernel_rfl
theorem one_9 : (Try.prog.underlying 9).map oneB = some true := by kernel_rfl
theorem one_26 : (Try.prog.underlying 26).map oneB = some true := by kernel_rfl
theorem one_27 : (Try.prog.underlying 27).map oneB = some true := by kernel_rfl
theorem one_28 : (Try.prog.underlying 28).map oneB = some true := by kernel_rfl
theorem one_31 : (Try.prog.underlying 31).map oneB = some true := by kernel_rfl
theorem one_32 : (Try.prog.underlying 32).map oneB = some true := by kernel_rfl
theorem one_34 : (Try.prog.underlying 34).map oneB = some false := by kernel_rfl
theorem one_39 : (Try.prog.underlying 39).map oneB = some false := by kernel_rfl
theorem one_42 : (Try.prog.underlying 42).map oneB = some true := by kernel_rfl
theorem one_52 : (Try.prog.underlying 52).map oneB = some false := by kernel_rfl
theorem one_58 : (Try.prog.underlying 58).map oneB = some false := by kernel_rfl
theorem one_60 : (Try.prog.underlying 60).map oneB = some false := by kernel_rfl
theorem one_64 : (Try.prog.underlying 64).map oneB = some false := by kernel_rfl
theorem one_75 : (Try.prog.underlying 75).map oneB = some false := by kernel_rfl
theorem one_76 : (Try.prog.underlying 76).map oneB = some true := by kernel_rfl
theorem one_78 : (Try.prog.underlying 78).map oneB = some false := by kernel_rfl
theorem one_80 : (Try.prog.underlying 80).map oneB = some false := by kernel_rfl
theorem one_90 : (Try.prog.underlying 90).map oneB = some false := by kernel_rfl
theorem one_126 : (Try.prog.underlying 126).map oneB = some false := by kernel_rfl
theorem pl_34 : placesOf Try.prog 34 = some [(0, 3), (3, 1), (4, 1), (5, 1)] := by kernel_rfl
theorem pl_39 : placesOf Try.prog 39 = some [(0, 1), (1, 1), (2, 1), (3, 1), (4, 1), (5, 1)] := by kernel_rfl
theorem pl_52 : placesOf Try.prog 52 = some [(0, 1), (1, 1), (2, 1), (3, 1), (4, 1), (5, 1), (6, 1), (7, 1), (8, 1), (9, 1), (10, 1), (11, 1)] := by kernel_rfl
theorem pl_58 : placesOf Try.prog 58 = some [(0, 12), (12, 1), (13, 1), (14, 1), (15, 1), (16, 1), (17, 1), (18, 1), (19, 1), (20, 1), (21, 1), (22, 1), (23, 1)] := by kernel_rfl
theorem pl_60 : placesOf Try.prog 60 = some [(0, 1), (1, 1), (2, 1), (3, 1)] := by kernel_rfl
theorem pl_64 : placesOf Try.prog 64 = some [(0, 1), (1, 1), (2, 1), (3, 1), (4, 1), (5, 1), (6, 1), (7, 1)] := by kernel_rfl
theorem pl_78 : placesOf Try.prog 78 = some [(0, 1), (1, 1), (2, 1)] := by kernel_rfl
theorem zr_39 : (Try.prog.info? 39).bind (·.zero) = some (.agg #[.int .i64 0, .int .i64 0, .int .i64 0, .int .i64 0, .int .i64 0, .int .i64 0]) := by kernel_rfl
theorem zr_42 : (Try.prog.info? 42).bind (·.zero) = some (.slice none 0 0) := by kernel_rfl
theorem zr_52 : (Try.prog.info? 52).bind (·.zero) = some (.agg #[.int .i64 0, .int .i64 0, .int .i64 0, .int .i64 0, .string ⟨#[]⟩, .string ⟨#[]⟩, .int .i64 0, .int .i64 0, .int .i64 0, .bool false, .int .i64 0, .int .i64 0]) := by kernel_rfl
theorem zr_58 : (Try.prog.info? 58).bind (·.zero) = some (.agg #[.int .i64 0, .int .i64 0, .int .i64 0, .int .i64 0, .string ⟨#[]⟩, .string ⟨#[]⟩, .int .i64 0, .int .i64 0, .int .i64 0, .bool false, .int .i64 0, .int .i64 0, .int .i64 0, .string ⟨#[]⟩, .int .i64 0, .string ⟨#[]⟩, .slice none 0 0, .slice none 0 0, .int .i64 0, .int .i64 0, .int .i64 0, .slice none 0 0, .int .i64 0, .int .i64 0]) := by kernel_rfl
theorem zr_60 : (Try.prog.info? 60).bind (·.zero) = some (.agg #[.int .i64 0, .int .i64 0, .int .i64 0, .int .i64 0]) := by kernel_rfl
theorem zr_64 : (Try.prog.info? 64).bind (·.zero) = some (.agg #[.int .i64 0, .int .i64 0, .string ⟨#[]⟩, .string ⟨#[]⟩, .int .i64 0, .int .i64 0, .int .i64 0, .int .i64 0]) := by kernel_rfl
theorem zr_75 : (Try.prog.info? 75).bind (·.zero) = some (.agg #[.int .i64 0, .int .i64 0, .int .i64 0, .slice none 0 0, .slice none 0 0, .int .i64 0, .int .i64 0, .int .i64 0]) := by kernel_rfl
theorem zr_78 : (Try.prog.info? 78).bind (·.zero) = some (.agg #[.int .i64 0, .string ⟨#[]⟩, .slice none 0 0]) := by kernel_rfl
theorem zr_80 : (Try.prog.info? 80).bind (·.zero) = some (.agg #[.string ⟨#[]⟩, .int .i64 0]) := by kernel_rfl
theorem zr_90 : (Try.prog.info? 90).bind (·.zero) = some (.agg #[.int .i64 0, .int .i64 0, .int .i64 0, .int .i64 0]) := by kernel_rfl
theorem zr_126 : (Try.prog.info? 126).bind (·.zero) = some (.agg #[.int .i64 0, .int .i64 0, .int .i64 0]) := by kernel_rfl
theorem zr_128 : (Try.prog.info? 128).bind (·.zero) = some (.agg #[.int .u8 0, .int .u8 0, .int .u8 0, .int .u8 0, .int .u8 0, .int .u8 0, .int .u8 0, .int .u8 0, .int .u8 0, .int .u8 0, .int .u8 0, .int .u8 0, .int .u8 0, .int .u8 0, .int .u8 0, .int .u8 0, .int .u8 0, .int .u8 0, .int .u8 0, .int .u8 0]) := by kernel_rfl
theorem fk_52 : flatKinds Try.prog 52 = some [.i .i64, .i .i64, .i .i64, .i .i64, .s, .s, .i .i64, .i .i64, .i .i64, .b, .i .i64, .i .i64] := by kernel_rfl
theorem fk_60 : flatKinds Try.prog 60 = some [.i .i64, .i .i64, .i .i64, .i .i64] := by kernel_rfl
theorem en_10 : Enters Try.prog 10 := ⟨_, Try.func10, by kernel_rfl, rfl⟩
theorem en_13 : Enters Try.prog 13 := ⟨_, Try.func13, by kernel_rfl, rfl⟩
theorem en_14 : Enters Try.prog 14 := ⟨_, Try.func14, by kernel_rfl, rfl⟩
theorem en_17 : Enters Try.prog 17 := ⟨_, Try.func17, by kernel_rfl, rfl⟩
theorem en_19 : Enters Try.prog 19 := ⟨_, Try.func19, by kernel_rfl, rfl⟩
theorem en_21 : Enters Try.prog 21 := ⟨_, Try.func21, by kernel_rfl, rfl⟩
theorem en_23 : Enters Try.prog 23 := ⟨_, Try.func23, by kernel_rfl, rfl⟩
theorem en_25 : Enters Try.prog 25 := ⟨_, Try.func25, by kernel_rfl, rfl⟩
theorem en_26 : Enters Try.prog 26 := ⟨_, Try.func26, by kernel_rfl, rfl⟩
theorem en_27 : Enters Try.prog 27 := ⟨_, Try.func27, by kernel_rfl, rfl⟩
theorem en_31 : Enters Try.prog 31 := ⟨_, Try.func31, by kernel_rfl, rfl⟩
theorem en_32 : Enters Try.prog 32 := ⟨_, Try.func32, by kernel_rfl, rfl⟩
theorem en_34 : Enters Try.prog 34 := ⟨_, Try.func34, by kernel_rfl, rfl⟩
theorem en_35 : Enters Try.prog 35 := ⟨_, Try.func35, by kernel_rfl, rfl⟩
theorem en_36 : Enters Try.prog 36 := ⟨_, Try.func36, by kernel_rfl, rfl⟩
theorem en_38 : Enters Try.prog 38 := ⟨_, Try.func38, by kernel_rfl, rfl⟩
theorem en_39 : Enters Try.prog 39 := ⟨_, Try.func39, by kernel_rfl, rfl⟩
theorem en_41 : Enters Try.prog 41 := ⟨_, Try.func41, by kernel_rfl, rfl⟩
theorem en_42 : Enters Try.prog 42 := ⟨_, Try.func42, by kernel_rfl, rfl⟩
theorem en_43 : Enters Try.prog 43 := ⟨_, Try.func43, by kernel_rfl, rfl⟩
theorem en_44 : Enters Try.prog 44 := ⟨_, Try.func44, by kernel_rfl, rfl⟩
theorem en_49 : Enters Try.prog 49 := ⟨_, Try.func49, by kernel_rfl, rfl⟩
theorem en_51 : Enters Try.prog 51 := ⟨_, Try.func51, by kernel_rfl, rfl⟩
end Go.Proofs.Ytpdanklncjopoaa
