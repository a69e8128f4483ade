import Derived.Test.YtlgoaojmancfpaaDoorLW2
import Derived.Test.YtlgoaojmancfpaaDoorLF
import Derived.Test.YtlgoaojmancfpaaDoorLX
set_option linter.unusedSimpArgs false
set_option linter.unusedVariables false
namespace Go.Proofs.YtlgoaojmancfpaaDoor
open Go.RowKit Go.Abs
set_option maxRecDepth 100000 in
set_option maxHeartbeats 1000000 in
theorem c_g_packed_reader_number {o0c0p : PackedReader} {r : (List UInt8) × PackedReader} (H : g_packed_reader_number o0c0p = some r) : ACallS Tryd.prog 32 [.ref 0 0] ⟨[.row 57 [.d (slOf 1 rB8 o0c0p.b), .d (cB o0c0p.bad)]], []⟩ (QE (.d (cS r.1)) ⟨[.row 57 [.d (slOf 1 rB8 r.2.b), .d (cB r.2.bad)]], []⟩) := by
  refine ACallS.keep ?_
  refine ACallS.enter Tryd.func32 rfl Tryd.ntmps32 rfl fun S hS => ?_
  unfold g_packed_reader_number at H
  change ARun _ _ _ _ _ _ [(0, .ref 0 0)] _
  refine .seq ?_
  refine .region ?_
  refine .q (x := .d (cS ([] : List UInt8))) (q_assign rfl) rfl ?_
  refine .nil ?_
  refine .seq ?_
  refine .region ?_
  refine .q (x := .ref 0 0) (q_move rfl) rfl ?_
  obtain ⟨y1, hy1, H⟩ := bind_some' H
  refine .callF en_31 rfl [0] [] (x := .d (slOf 1 rB8 y1.1)) (st' := ⟨[.row 57 [.d (slOf 1 rB8 y1.2.b), .d (cB y1.2.bad)]], []⟩) rfl (c_g_packed_reader_field (hy1)) ⟨.rfl' _, .rfl' _, trivial⟩ rfl rfl rfl rfl rfl rfl ?_
  refine .withSt (st' := ⟨[.row 57 [.d (slOf 1 rB8 y1.2.b), .d (cB y1.2.bad)]], []⟩) rfl ?_
  obtain ⟨y2, hy2, H⟩ := bind_some' H
  refine .g (x := .d (.tup [cS y2.1, cB y2.2])) (g_call en_39 rfl rfl (c_f_packed_number (hy2))) rfl ?_
  refine .q (x := .d (.tup [cS y2.1, cB y2.2])) (q_move rfl) rfl ?_
  refine .q (x := .d (cS y2.1)) (q_extract rfl rfl) rfl ?_
  refine .q (x := .d (cB y2.2)) (q_extract rfl rfl) rfl ?_
  refine .q (x := .d (cS y2.1)) (q_assign rfl) rfl ?_
  refine .q (x := .d (cB y2.2)) (q_assign rfl) rfl ?_
  refine .nil ?_
  refine .seq ?_
  refine .region ?_
  refine .q (x := .ref 0 0) (q_move rfl) rfl ?_
  refine .q (x := .ref 0 0) (q_move rfl) rfl ?_
  refine .q (x := .ref 0 0) (q_nilRef rfl) rfl ?_
  refine .q (x := .ref 0 1) (q_fieldRef fo_57_1 rfl) rfl ?_
  refine .q (x := .d (cB y1.2.bad)) (q_loadO one_4 rfl rfl rfl) rfl ?_
  refine .q (x := .d (cB y1.2.bad)) (q_move rfl) rfl ?_
  refine .guardG (b := (!y1.2.bad)) (x := .d (cB y2.2)) (env' := [(4, _)]) rfl rfl rfl ⟨.inl rfl, trivial⟩ rfl (fun hg => OpQ.g (q_move rfl)) ?_
  refine .guardG (b := (!y1.2.bad)) (x := .d (cB (!y2.2))) (env' := [(17, _)]) rfl rfl rfl ⟨.inr (.inl rfl), trivial⟩ rfl (fun hg => OpQ.g (q_not rfl)) ?_
  refine .q (x := .d (cB (y1.2.bad || (!y2.2)))) (q_pickOrB rfl rfl rfl) rfl ?_
  refine .q (x := .ref 0 0) (q_nilRef rfl) rfl ?_
  refine .q (x := .ref 0 1) (q_fieldRef fo_57_1 rfl) rfl ?_
  refine .u (u_store rfl rfl rfl rfl (Nat.le_of_ble_eq_true rfl) sz_4) rfl ?_
  refine .withSt (st' := ⟨[.row 57 [.d (slOf 1 rB8 y1.2.b), .d (cB (y1.2.bad || (!y2.2)))]], []⟩) rfl ?_
  refine .nil ?_
  refine .seq ?_
  refine .region ?_
  refine .q (x := .d (cS y2.1)) (q_move rfl) rfl ?_
  refine .q (x := .d (cS y2.1)) (q_assign rfl) rfl ?_
  refine .nil ?_
  refine .retN [.tmp 2] [.d (cS y2.1)] Tryd.func32 Tryd.results32 ⟨rfl, trivial⟩ ?_
  cases H
  exact ⟨[0], [], rfl, rfl, rfl, rfl, rfl, rfl, rfl, rfl, .rfl' _⟩

set_option maxRecDepth 100000 in
set_option maxHeartbeats 1000000 in
theorem c_f_packed_Decode {v0 : List UInt8} {r : Record × Int} (H : f_packed_Decode v0 = some r) : ACall Tryd.prog 16 [slOf 1 rB8 v0] (· = .tup [.agg (Record.row r.1), cI r.2]) := by
  obtain ⟨i5, hi5, hz5, hs5, hb5⟩ := in_5
  obtain ⟨i31, hi31, hz31, hs31, hb31⟩ := in_31
  obtain ⟨i57, hi57, hz57, hs57, hb57⟩ := in_57
  refine ACall.enter' Tryd.func16 rfl Tryd.ntmps16 rfl fun S hS => ?_
  unfold f_packed_Decode at H
  change ARun _ _ _ _ _ _ [(0, .d (slOf 1 rB8 v0))] _
  refine .seq ?_
  refine .region ?_
  refine .v (x := .ref 0 0) (v_alloc zr_31 rfl) rfl ?_
  refine .withSt (st' := ⟨[.row 31 [.d (cI 0), .d (cI 0), .d (cI 0), .d (cS ([] : List UInt8)), .d (cS ([] : List UInt8)), .d (cI 0), .d (cI 0), .d (cI 0), .d (cI 0), .d (cB false), .d (cI 0), .d (cB false)]], []⟩) rfl ?_
  refine .q (x := .d (cI 0)) (q_assign rfl) rfl ?_
  refine .nil ?_
  refine .seq ?_
  refine .block ?_
  refine .seq ?_
  refine .region ?_
  refine .q (x := .d (slOf 1 rB8 v0)) (q_move rfl) rfl ?_
  refine .q (x := .d (cI (v0.length : Int))) (q_lenL (l := v0) (row := rB8) Tryd.underlying22 rfl rfl) rfl ?_
  refine .q (x := .d (cB (decide ((v0.length : Int) < 45)))) (q_lss rfl rfl) rfl ?_
  refine .q (x := .d (cB (decide ((v0.length : Int) < 45)))) (q_assign rfl) rfl ?_
  refine .nil ?_
  refine .cond rfl (fun hc => ?_) (fun hc => ?_)
  · replace H := ifT hc H; clear hc
    refine .seq ?_
    refine .region ?_
    refine .q (x := .d (.agg (Record.row (⟨0, 0, 0, ([] : List UInt8), ([] : List UInt8), 0, 0, 0, 0, false, 0, false⟩ : Record)))) (q_buildP pl_31 hi31 hz31 rfl rfl) rfl ?_
    refine .u (u_store rfl rfl rfl rfl (Nat.le_of_ble_eq_true rfl) sz_31) rfl ?_
    refine .withSt (st' := ⟨[.row 31 [.d (cI 0), .d (cI 0), .d (cI 0), .d (cS ([] : List UInt8)), .d (cS ([] : List UInt8)), .d (cI 0), .d (cI 0), .d (cI 0), .d (cI 0), .d (cB false), .d (cI 0), .d (cB false)]], []⟩) rfl ?_
    refine .q (x := .d (cI 2)) (q_assign rfl) rfl ?_
    refine .nil ?_
    refine .retN [.cell 2 31, .tmp 3] [.d (.agg (Record.row (⟨0, 0, 0, ([] : List UInt8), ([] : List UInt8), 0, 0, 0, 0, false, 0, false⟩ : Record))), .d (cI 2)] Tryd.func16 Tryd.results16 ⟨⟨⟨_, _, rfl⟩, q_loadOA one_31 sz_31 rfl rfl (Nat.le_of_ble_eq_true rfl) rfl⟩, rfl, trivial⟩ ?_
    cases H
    exact ⟨_, EVle.tupL (ds := [.agg (Record.row (⟨0, 0, 0, ([] : List UInt8), ([] : List UInt8), 0, 0, 0, 0, false, 0, false⟩ : Record)), cI 2]) ⟨.rfl' _, .rfl' _, trivial⟩, rfl⟩
  · replace H := ifF hc H; clear hc
    refine .seq ?_
    refine .region ?_
    refine .q (x := .d (slOf 1 rB8 v0)) (q_move rfl) rfl ?_
    refine .q (x := .d (cI (v0.length : Int))) (q_lenL (l := v0) (row := rB8) Tryd.underlying22 rfl rfl) rfl ?_
    refine .q (x := .d (cB (decide ((v0.length : Int) > 45)))) (q_gtr rfl rfl) rfl ?_
    refine .q (x := .d (cB (decide ((v0.length : Int) > 45)))) (q_assign rfl) rfl ?_
    refine .nil ?_
    refine .cond rfl (fun hc => ?_) (fun hc => ?_)
    · replace H := ifT hc H; clear hc
      refine .seq ?_
      refine .region ?_
      refine .q (x := .d (.agg (Record.row (⟨0, 0, 0, ([] : List UInt8), ([] : List UInt8), 0, 0, 0, 0, false, 0, false⟩ : Record)))) (q_buildP pl_31 hi31 hz31 rfl rfl) rfl ?_
      refine .u (u_store rfl rfl rfl rfl (Nat.le_of_ble_eq_true rfl) sz_31) rfl ?_
      refine .withSt (st' := ⟨[.row 31 [.d (cI 0), .d (cI 0), .d (cI 0), .d (cS ([] : List UInt8)), .d (cS ([] : List UInt8)), .d (cI 0), .d (cI 0), .d (cI 0), .d (cI 0), .d (cB false), .d (cI 0), .d (cB false)]], []⟩) rfl ?_
      refine .q (x := .d (cI 3)) (q_assign rfl) rfl ?_
      refine .nil ?_
      refine .retN [.cell 2 31, .tmp 3] [.d (.agg (Record.row (⟨0, 0, 0, ([] : List UInt8), ([] : List UInt8), 0, 0, 0, 0, false, 0, false⟩ : Record))), .d (cI 3)] Tryd.func16 Tryd.results16 ⟨⟨⟨_, _, rfl⟩, q_loadOA one_31 sz_31 rfl rfl (Nat.le_of_ble_eq_true rfl) rfl⟩, rfl, trivial⟩ ?_
      cases H
      exact ⟨_, EVle.tupL (ds := [.agg (Record.row (⟨0, 0, 0, ([] : List UInt8), ([] : List UInt8), 0, 0, 0, 0, false, 0, false⟩ : Record)), cI 3]) ⟨.rfl' _, .rfl' _, trivial⟩, rfl⟩
    · replace H := ifF hc H; clear hc
      refine .seq ?_
      refine .drawn 8 hMix (by kernel_rfl) ?_
      show DOps _ _ _ _ _ _ _ (_ :: _) _ _ _
      refine .q (x := .d (slOf 1 rB8 v0)) (q_move rfl) rfl ?_
      obtain ⟨hk1, H⟩ := ck_some H
      refine .q (x := .d (slOf 1 rB8 (v0.take (Int.toNat ((44 : Int)))))) (q_slHL (l := v0) (row := rB8) Tryd.underlying22 hi5 hs5 rfl rfl rfl hk1) rfl ?_
      obtain ⟨y1, hy1, H⟩ := bind_some' H
      refine .g (x := .d (cU8 y1)) (g_call en_26 rfl rfl (c_f_packed_sum (hy1))) rfl ?_
      refine .q (x := .d (slOf 1 rB8 v0)) (q_move rfl) rfl ?_
      obtain ⟨hk2, H⟩ := ck_some H
      refine .q (x := .d (.ro (rB8 (nth v0 (Int.toNat (44)))))) (q_idxL (row := rB8) (l := v0) (i := 44) Tryd.underlying22 hi5 hs5 rfl rfl rfl hk2) rfl ?_
      refine .q (x := .d (cU8 (nth v0 (Int.toNat (44))))) (q_load one_5 rfl) rfl ?_
      refine .q (x := .d (cB (y1 != (nth v0 (Int.toNat (44)))))) (q8_neq (a := y1) (b := nth v0 (Int.toNat (44))) rfl rfl) rfl ?_
      refine .q (x := .d (cB (y1 != (nth v0 (Int.toNat (44)))))) (q_assign rfl) rfl ?_
      refine .nil ?_
      show AOps _ _ _ _ _ _ [] _ _ _
      refine .nil ?_
      refine .cond rfl (fun hc => ?_) (fun hc => ?_)
      · replace H := ifT hc H; clear hc
        refine .seq ?_
        refine .region ?_
        refine .q (x := .d (.agg (Record.row (⟨0, 0, 0, ([] : List UInt8), ([] : List UInt8), 0, 0, 0, 0, false, 0, false⟩ : Record)))) (q_buildP pl_31 hi31 hz31 rfl rfl) rfl ?_
        refine .u (u_store rfl rfl rfl rfl (Nat.le_of_ble_eq_true rfl) sz_31) rfl ?_
        refine .withSt (st' := ⟨[.row 31 [.d (cI 0), .d (cI 0), .d (cI 0), .d (cS ([] : List UInt8)), .d (cS ([] : List UInt8)), .d (cI 0), .d (cI 0), .d (cI 0), .d (cI 0), .d (cB false), .d (cI 0), .d (cB false)]], []⟩) rfl ?_
        refine .q (x := .d (cI 4)) (q_assign rfl) rfl ?_
        refine .nil ?_
        refine .retN [.cell 2 31, .tmp 3] [.d (.agg (Record.row (⟨0, 0, 0, ([] : List UInt8), ([] : List UInt8), 0, 0, 0, 0, false, 0, false⟩ : Record))), .d (cI 4)] Tryd.func16 Tryd.results16 ⟨⟨⟨_, _, rfl⟩, q_loadOA one_31 sz_31 rfl rfl (Nat.le_of_ble_eq_true rfl) rfl⟩, rfl, trivial⟩ ?_
        cases H
        exact ⟨_, EVle.tupL (ds := [.agg (Record.row (⟨0, 0, 0, ([] : List UInt8), ([] : List UInt8), 0, 0, 0, 0, false, 0, false⟩ : Record)), cI 4]) ⟨.rfl' _, .rfl' _, trivial⟩, rfl⟩
      · replace H := ifF hc H; clear hc
        refine .skip ?_
        refine .inBlock ?_
        refine .seq ?_
        refine .region ?_
        refine .q (x := .d (slOf 1 rB8 v0)) (q_move rfl) rfl ?_
        refine .q (x := .d (.agg (PackedReader.row (⟨v0, false⟩ : PackedReader)))) (q_buildP pl_57 hi57 hz57 rfl rfl) rfl ?_
        refine .v (x := .ref 1 0) (v_box rfl rfl) rfl ?_
        refine .withSt (st' := ⟨[.row 31 [.d (cI 0), .d (cI 0), .d (cI 0), .d (cS ([] : List UInt8)), .d (cS ([] : List UInt8)), .d (cI 0), .d (cI 0), .d (cI 0), .d (cI 0), .d (cB false), .d (cI 0), .d (cB false)], .row 57 [.d (slOf 1 rB8 v0), .d (cB false)]], []⟩) rfl ?_
        refine .q (x := .ref 1 0) (q_assign rfl) rfl ?_
        refine .nil ?_
        refine .seq ?_
        refine .region ?_
        refine .v (x := .ref 2 0) (v_alloc zr_31 rfl) rfl ?_
        refine .withSt (st' := ⟨[.row 31 [.d (cI 0), .d (cI 0), .d (cI 0), .d (cS ([] : List UInt8)), .d (cS ([] : List UInt8)), .d (cI 0), .d (cI 0), .d (cI 0), .d (cI 0), .d (cB false), .d (cI 0), .d (cB false)], .row 57 [.d (slOf 1 rB8 v0), .d (cB false)], .row 31 [.d (cI 0), .d (cI 0), .d (cI 0), .d (cS ([] : List UInt8)), .d (cS ([] : List UInt8)), .d (cI 0), .d (cI 0), .d (cI 0), .d (cI 0), .d (cB false), .d (cI 0), .d (cB false)]], []⟩) rfl ?_
        refine .nil ?_
        refine .seq ?_
        refine .region ?_
        refine .q (x := .ref 1 0) (q_move rfl) rfl ?_
        obtain ⟨y2, hy2, H⟩ := bind_some' H
        refine .callF en_30 rfl [1] [] (x := .d (cI y2.1)) (st' := ⟨[.row 31 [.d (cI 0), .d (cI 0), .d (cI 0), .d (cS ([] : List UInt8)), .d (cS ([] : List UInt8)), .d (cI 0), .d (cI 0), .d (cI 0), .d (cI 0), .d (cB false), .d (cI 0), .d (cB false)], .row 57 [.d (slOf 1 rB8 y2.2.b), .d (cB y2.2.bad)], .row 31 [.d (cI 0), .d (cI 0), .d (cI 0), .d (cS ([] : List UInt8)), .d (cS ([] : List UInt8)), .d (cI 0), .d (cI 0), .d (cI 0), .d (cI 0), .d (cB false), .d (cI 0), .d (cB false)]], []⟩) rfl (c_g_packed_reader_decimal (hy2)) ⟨.rfl' _, .rfl' _, trivial⟩ rfl rfl rfl rfl rfl rfl ?_
        refine .withSt (st' := ⟨[.row 31 [.d (cI 0), .d (cI 0), .d (cI 0), .d (cS ([] : List UInt8)), .d (cS ([] : List UInt8)), .d (cI 0), .d (cI 0), .d (cI 0), .d (cI 0), .d (cB false), .d (cI 0), .d (cB false)], .row 57 [.d (slOf 1 rB8 y2.2.b), .d (cB y2.2.bad)], .row 31 [.d (cI 0), .d (cI 0), .d (cI 0), .d (cS ([] : List UInt8)), .d (cS ([] : List UInt8)), .d (cI 0), .d (cI 0), .d (cI 0), .d (cI 0), .d (cB false), .d (cI 0), .d (cB false)]], []⟩) rfl ?_
        refine .q (x := .ref 2 0) (q_fieldRef fo_31_0 rfl) rfl ?_
        refine .u (u_store rfl rfl rfl rfl (Nat.le_of_ble_eq_true rfl) sz_3) rfl ?_
        refine .withSt (st' := ⟨[.row 31 [.d (cI 0), .d (cI 0), .d (cI 0), .d (cS ([] : List UInt8)), .d (cS ([] : List UInt8)), .d (cI 0), .d (cI 0), .d (cI 0), .d (cI 0), .d (cB false), .d (cI 0), .d (cB false)], .row 57 [.d (slOf 1 rB8 y2.2.b), .d (cB y2.2.bad)], .row 31 [.d (cI y2.1), .d (cI 0), .d (cI 0), .d (cS ([] : List UInt8)), .d (cS ([] : List UInt8)), .d (cI 0), .d (cI 0), .d (cI 0), .d (cI 0), .d (cB false), .d (cI 0), .d (cB false)]], []⟩) rfl ?_
        refine .nil ?_
        refine .seq ?_
        refine .region ?_
        refine .q (x := .ref 1 0) (q_move rfl) rfl ?_
        obtain ⟨y3, hy3, H⟩ := bind_some' H
        refine .callF en_30 rfl [1] [] (x := .d (cI y3.1)) (st' := ⟨[.row 31 [.d (cI 0), .d (cI 0), .d (cI 0), .d (cS ([] : List UInt8)), .d (cS ([] : List UInt8)), .d (cI 0), .d (cI 0), .d (cI 0), .d (cI 0), .d (cB false), .d (cI 0), .d (cB false)], .row 57 [.d (slOf 1 rB8 y3.2.b), .d (cB y3.2.bad)], .row 31 [.d (cI y2.1), .d (cI 0), .d (cI 0), .d (cS ([] : List UInt8)), .d (cS ([] : List UInt8)), .d (cI 0), .d (cI 0), .d (cI 0), .d (cI 0), .d (cB false), .d (cI 0), .d (cB false)]], []⟩) rfl (c_g_packed_reader_decimal (hy3)) ⟨.rfl' _, .rfl' _, trivial⟩ rfl rfl rfl rfl rfl rfl ?_
        refine .withSt (st' := ⟨[.row 31 [.d (cI 0), .d (cI 0), .d (cI 0), .d (cS ([] : List UInt8)), .d (cS ([] : List UInt8)), .d (cI 0), .d (cI 0), .d (cI 0), .d (cI 0), .d (cB false), .d (cI 0), .d (cB false)], .row 57 [.d (slOf 1 rB8 y3.2.b), .d (cB y3.2.bad)], .row 31 [.d (cI y2.1), .d (cI 0), .d (cI 0), .d (cS ([] : List UInt8)), .d (cS ([] : List UInt8)), .d (cI 0), .d (cI 0), .d (cI 0), .d (cI 0), .d (cB false), .d (cI 0), .d (cB false)]], []⟩) rfl ?_
        refine .q (x := .ref 2 1) (q_fieldRef fo_31_1 rfl) rfl ?_
        refine .u (u_store rfl rfl rfl rfl (Nat.le_of_ble_eq_true rfl) sz_3) rfl ?_
        refine .withSt (st' := ⟨[.row 31 [.d (cI 0), .d (cI 0), .d (cI 0), .d (cS ([] : List UInt8)), .d (cS ([] : List UInt8)), .d (cI 0), .d (cI 0), .d (cI 0), .d (cI 0), .d (cB false), .d (cI 0), .d (cB false)], .row 57 [.d (slOf 1 rB8 y3.2.b), .d (cB y3.2.bad)], .row 31 [.d (cI y2.1), .d (cI y3.1), .d (cI 0), .d (cS ([] : List UInt8)), .d (cS ([] : List UInt8)), .d (cI 0), .d (cI 0), .d (cI 0), .d (cI 0), .d (cB false), .d (cI 0), .d (cB false)]], []⟩) rfl ?_
        refine .nil ?_
        refine .seq ?_
        refine .region ?_
        refine .q (x := .ref 1 0) (q_move rfl) rfl ?_
        obtain ⟨y4, hy4, H⟩ := bind_some' H
        refine .callF en_31 rfl [1] [] (x := .d (slOf 1 rB8 y4.1)) (st' := ⟨[.row 31 [.d (cI 0), .d (cI 0), .d (cI 0), .d (cS ([] : List UInt8)), .d (cS ([] : List UInt8)), .d (cI 0), .d (cI 0), .d (cI 0), .d (cI 0), .d (cB false), .d (cI 0), .d (cB false)], .row 57 [.d (slOf 1 rB8 y4.2.b), .d (cB y4.2.bad)], .row 31 [.d (cI y2.1), .d (cI y3.1), .d (cI 0), .d (cS ([] : List UInt8)), .d (cS ([] : List UInt8)), .d (cI 0), .d (cI 0), .d (cI 0), .d (cI 0), .d (cB false), .d (cI 0), .d (cB false)]], []⟩) rfl (c_g_packed_reader_field (hy4)) ⟨.rfl' _, .rfl' _, trivial⟩ rfl rfl rfl rfl rfl rfl ?_
        refine .withSt (st' := ⟨[.row 31 [.d (cI 0), .d (cI 0), .d (cI 0), .d (cS ([] : List UInt8)), .d (cS ([] : List UInt8)), .d (cI 0), .d (cI 0), .d (cI 0), .d (cI 0), .d (cB false), .d (cI 0), .d (cB false)], .row 57 [.d (slOf 1 rB8 y4.2.b), .d (cB y4.2.bad)], .row 31 [.d (cI y2.1), .d (cI y3.1), .d (cI 0), .d (cS ([] : List UInt8)), .d (cS ([] : List UInt8)), .d (cI 0), .d (cI 0), .d (cI 0), .d (cI 0), .d (cB false), .d (cI 0), .d (cB false)]], []⟩) rfl ?_
        obtain ⟨hk3, H⟩ := ck_some H
        refine .q (x := .d (.ro (rB8 (nth y4.1 (Int.toNat (0)))))) (q_idxL (row := rB8) (l := y4.1) (i := 0) Tryd.underlying22 hi5 hs5 rfl rfl rfl hk3) rfl ?_
        refine .q (x := .d (cU8 (nth y4.1 (Int.toNat (0))))) (q_load one_5 rfl) rfl ?_
        refine .q (x := .d (cU8 (nth y4.1 (Int.toNat (0))))) (q_assign rfl) rfl ?_
        refine .nil ?_
        refine .seq ?_
        refine .region ?_
        refine .q (x := .d (cU8 (nth y4.1 (Int.toNat (0))))) (q_move rfl) rfl ?_
        obtain ⟨hk4, H⟩ := ck_some H
        refine .q (x := .d (cU8 (u8shr (nth y4.1 (Int.toNat (0))) 4))) (q8_shr (a := nth y4.1 (Int.toNat (0))) (n := 4) rfl rfl hk4) rfl ?_
        refine .q (x := .d (cI ((u8shr (nth y4.1 (Int.toNat (0))) 4).toNat : Int))) (q_conv8i (a := u8shr (nth y4.1 (Int.toNat (0))) 4) Tryd.underlying5 Tryd.underlying3 rfl) rfl ?_
        refine .q (x := .d (cU8 (nth y4.1 (Int.toNat (0))))) (q_move rfl) rfl ?_
        refine .q (x := .d (cU8 ((nth y4.1 (Int.toNat (0))) &&& 1))) (q8_and (a := nth y4.1 (Int.toNat (0))) (b := 1) rfl rfl) rfl ?_
        refine .q (x := .d (cB (((nth y4.1 (Int.toNat (0))) &&& 1) != 0))) (q8_neq (a := (nth y4.1 (Int.toNat (0))) &&& 1) (b := 0) rfl rfl) rfl ?_
        refine .q (x := .d (cU8 (nth y4.1 (Int.toNat (0))))) (q_move rfl) rfl ?_
        refine .q (x := .d (cU8 ((nth y4.1 (Int.toNat (0))) &&& 2))) (q8_and (a := nth y4.1 (Int.toNat (0))) (b := 2) rfl rfl) rfl ?_
        refine .q (x := .d (cB (((nth y4.1 (Int.toNat (0))) &&& 2) != 0))) (q8_neq (a := (nth y4.1 (Int.toNat (0))) &&& 2) (b := 0) rfl rfl) rfl ?_
        refine .q (x := .ref 2 2) (q_fieldRef fo_31_2 rfl) rfl ?_
        refine .u (u_store rfl rfl rfl rfl (Nat.le_of_ble_eq_true rfl) sz_3) rfl ?_
        refine .withSt (st' := ⟨[.row 31 [.d (cI 0), .d (cI 0), .d (cI 0), .d (cS ([] : List UInt8)), .d (cS ([] : List UInt8)), .d (cI 0), .d (cI 0), .d (cI 0), .d (cI 0), .d (cB false), .d (cI 0), .d (cB false)], .row 57 [.d (slOf 1 rB8 y4.2.b), .d (cB y4.2.bad)], .row 31 [.d (cI y2.1), .d (cI y3.1), .d (cI ((u8shr (nth y4.1 (Int.toNat (0))) 4).toNat : Int)), .d (cS ([] : List UInt8)), .d (cS ([] : List UInt8)), .d (cI 0), .d (cI 0), .d (cI 0), .d (cI 0), .d (cB false), .d (cI 0), .d (cB false)]], []⟩) rfl ?_
        refine .q (x := .ref 2 9) (q_fieldRef fo_31_9 rfl) rfl ?_
        refine .u (u_store rfl rfl rfl rfl (Nat.le_of_ble_eq_true rfl) sz_4) rfl ?_
        refine .withSt (st' := ⟨[.row 31 [.d (cI 0), .d (cI 0), .d (cI 0), .d (cS ([] : List UInt8)), .d (cS ([] : List UInt8)), .d (cI 0), .d (cI 0), .d (cI 0), .d (cI 0), .d (cB false), .d (cI 0), .d (cB false)], .row 57 [.d (slOf 1 rB8 y4.2.b), .d (cB y4.2.bad)], .row 31 [.d (cI y2.1), .d (cI y3.1), .d (cI ((u8shr (nth y4.1 (Int.toNat (0))) 4).toNat : Int)), .d (cS ([] : List UInt8)), .d (cS ([] : List UInt8)), .d (cI 0), .d (cI 0), .d (cI 0), .d (cI 0), .d (cB (((nth y4.1 (Int.toNat (0))) &&& 1) != 0)), .d (cI 0), .d (cB false)]], []⟩) rfl ?_
        refine .q (x := .ref 2 11) (q_fieldRef fo_31_11 rfl) rfl ?_
        refine .u (u_store rfl rfl rfl rfl (Nat.le_of_ble_eq_true rfl) sz_4) rfl ?_
        refine .withSt (st' := ⟨[.row 31 [.d (cI 0), .d (cI 0), .d (cI 0), .d (cS ([] : List UInt8)), .d (cS ([] : List UInt8)), .d (cI 0), .d (cI 0), .d (cI 0), .d (cI 0), .d (cB false), .d (cI 0), .d (cB false)], .row 57 [.d (slOf 1 rB8 y4.2.b), .d (cB y4.2.bad)], .row 31 [.d (cI y2.1), .d (cI y3.1), .d (cI ((u8shr (nth y4.1 (Int.toNat (0))) 4).toNat : Int)), .d (cS ([] : List UInt8)), .d (cS ([] : List UInt8)), .d (cI 0), .d (cI 0), .d (cI 0), .d (cI 0), .d (cB (((nth y4.1 (Int.toNat (0))) &&& 1) != 0)), .d (cI 0), .d (cB (((nth y4.1 (Int.toNat (0))) &&& 2) != 0))]], []⟩) rfl ?_
        refine .nil ?_
        refine .seq ?_
        refine .region ?_
        refine .q (x := .ref 1 0) (q_move rfl) rfl ?_
        obtain ⟨y5, hy5, H⟩ := bind_some' H
        refine .callF en_32 rfl [1] [] (x := .d (cS y5.1)) (st' := ⟨[.row 31 [.d (cI 0), .d (cI 0), .d (cI 0), .d (cS ([] : List UInt8)), .d (cS ([] : List UInt8)), .d (cI 0), .d (cI 0), .d (cI 0), .d (cI 0), .d (cB false), .d (cI 0), .d (cB false)], .row 57 [.d (slOf 1 rB8 y5.2.b), .d (cB y5.2.bad)], .row 31 [.d (cI y2.1), .d (cI y3.1), .d (cI ((u8shr (nth y4.1 (Int.toNat (0))) 4).toNat : Int)), .d (cS ([] : List UInt8)), .d (cS ([] : List UInt8)), .d (cI 0), .d (cI 0), .d (cI 0), .d (cI 0), .d (cB (((nth y4.1 (Int.toNat (0))) &&& 1) != 0)), .d (cI 0), .d (cB (((nth y4.1 (Int.toNat (0))) &&& 2) != 0))]], []⟩) rfl (c_g_packed_reader_number (hy5)) ⟨.rfl' _, trivial⟩ rfl rfl rfl rfl rfl rfl ?_
        refine .withSt (st' := ⟨[.row 31 [.d (cI 0), .d (cI 0), .d (cI 0), .d (cS ([] : List UInt8)), .d (cS ([] : List UInt8)), .d (cI 0), .d (cI 0), .d (cI 0), .d (cI 0), .d (cB false), .d (cI 0), .d (cB false)], .row 57 [.d (slOf 1 rB8 y5.2.b), .d (cB y5.2.bad)], .row 31 [.d (cI y2.1), .d (cI y3.1), .d (cI ((u8shr (nth y4.1 (Int.toNat (0))) 4).toNat : Int)), .d (cS ([] : List UInt8)), .d (cS ([] : List UInt8)), .d (cI 0), .d (cI 0), .d (cI 0), .d (cI 0), .d (cB (((nth y4.1 (Int.toNat (0))) &&& 1) != 0)), .d (cI 0), .d (cB (((nth y4.1 (Int.toNat (0))) &&& 2) != 0))]], []⟩) rfl ?_
        refine .q (x := .ref 2 3) (q_fieldRef fo_31_3 rfl) rfl ?_
        refine .u (u_store rfl rfl rfl rfl (Nat.le_of_ble_eq_true rfl) sz_9) rfl ?_
        refine .withSt (st' := ⟨[.row 31 [.d (cI 0), .d (cI 0), .d (cI 0), .d (cS ([] : List UInt8)), .d (cS ([] : List UInt8)), .d (cI 0), .d (cI 0), .d (cI 0), .d (cI 0), .d (cB false), .d (cI 0), .d (cB false)], .row 57 [.d (slOf 1 rB8 y5.2.b), .d (cB y5.2.bad)], .row 31 [.d (cI y2.1), .d (cI y3.1), .d (cI ((u8shr (nth y4.1 (Int.toNat (0))) 4).toNat : Int)), .d (cS y5.1), .d (cS ([] : List UInt8)), .d (cI 0), .d (cI 0), .d (cI 0), .d (cI 0), .d (cB (((nth y4.1 (Int.toNat (0))) &&& 1) != 0)), .d (cI 0), .d (cB (((nth y4.1 (Int.toNat (0))) &&& 2) != 0))]], []⟩) rfl ?_
        refine .nil ?_
        refine .seq ?_
        refine .region ?_
        refine .q (x := .ref 1 0) (q_move rfl) rfl ?_
        obtain ⟨y6, hy6, H⟩ := bind_some' H
        refine .callF en_32 rfl [1] [] (x := .d (cS y6.1)) (st' := ⟨[.row 31 [.d (cI 0), .d (cI 0), .d (cI 0), .d (cS ([] : List UInt8)), .d (cS ([] : List UInt8)), .d (cI 0), .d (cI 0), .d (cI 0), .d (cI 0), .d (cB false), .d (cI 0), .d (cB false)], .row 57 [.d (slOf 1 rB8 y6.2.b), .d (cB y6.2.bad)], .row 31 [.d (cI y2.1), .d (cI y3.1), .d (cI ((u8shr (nth y4.1 (Int.toNat (0))) 4).toNat : Int)), .d (cS y5.1), .d (cS ([] : List UInt8)), .d (cI 0), .d (cI 0), .d (cI 0), .d (cI 0), .d (cB (((nth y4.1 (Int.toNat (0))) &&& 1) != 0)), .d (cI 0), .d (cB (((nth y4.1 (Int.toNat (0))) &&& 2) != 0))]], []⟩) rfl (c_g_packed_reader_number (hy6)) ⟨.rfl' _, trivial⟩ rfl rfl rfl rfl rfl rfl ?_
        refine .withSt (st' := ⟨[.row 31 [.d (cI 0), .d (cI 0), .d (cI 0), .d (cS ([] : List UInt8)), .d (cS ([] : List UInt8)), .d (cI 0), .d (cI 0), .d (cI 0), .d (cI 0), .d (cB false), .d (cI 0), .d (cB false)], .row 57 [.d (slOf 1 rB8 y6.2.b), .d (cB y6.2.bad)], .row 31 [.d (cI y2.1), .d (cI y3.1), .d (cI ((u8shr (nth y4.1 (Int.toNat (0))) 4).toNat : Int)), .d (cS y5.1), .d (cS ([] : List UInt8)), .d (cI 0), .d (cI 0), .d (cI 0), .d (cI 0), .d (cB (((nth y4.1 (Int.toNat (0))) &&& 1) != 0)), .d (cI 0), .d (cB (((nth y4.1 (Int.toNat (0))) &&& 2) != 0))]], []⟩) rfl ?_
        refine .q (x := .ref 2 4) (q_fieldRef fo_31_4 rfl) rfl ?_
        refine .u (u_store rfl rfl rfl rfl (Nat.le_of_ble_eq_true rfl) sz_9) rfl ?_
        refine .withSt (st' := ⟨[.row 31 [.d (cI 0), .d (cI 0), .d (cI 0), .d (cS ([] : List UInt8)), .d (cS ([] : List UInt8)), .d (cI 0), .d (cI 0), .d (cI 0), .d (cI 0), .d (cB false), .d (cI 0), .d (cB false)], .row 57 [.d (slOf 1 rB8 y6.2.b), .d (cB y6.2.bad)], .row 31 [.d (cI y2.1), .d (cI y3.1), .d (cI ((u8shr (nth y4.1 (Int.toNat (0))) 4).toNat : Int)), .d (cS y5.1), .d (cS y6.1), .d (cI 0), .d (cI 0), .d (cI 0), .d (cI 0), .d (cB (((nth y4.1 (Int.toNat (0))) &&& 1) != 0)), .d (cI 0), .d (cB (((nth y4.1 (Int.toNat (0))) &&& 2) != 0))]], []⟩) rfl ?_
        refine .nil ?_
        refine .seq ?_
        refine .region ?_
        refine .q (x := .ref 1 0) (q_move rfl) rfl ?_
        obtain ⟨y7, hy7, H⟩ := bind_some' H
        refine .callF en_30 rfl [1] [] (x := .d (cI y7.1)) (st' := ⟨[.row 31 [.d (cI 0), .d (cI 0), .d (cI 0), .d (cS ([] : List UInt8)), .d (cS ([] : List UInt8)), .d (cI 0), .d (cI 0), .d (cI 0), .d (cI 0), .d (cB false), .d (cI 0), .d (cB false)], .row 57 [.d (slOf 1 rB8 y7.2.b), .d (cB y7.2.bad)], .row 31 [.d (cI y2.1), .d (cI y3.1), .d (cI ((u8shr (nth y4.1 (Int.toNat (0))) 4).toNat : Int)), .d (cS y5.1), .d (cS y6.1), .d (cI 0), .d (cI 0), .d (cI 0), .d (cI 0), .d (cB (((nth y4.1 (Int.toNat (0))) &&& 1) != 0)), .d (cI 0), .d (cB (((nth y4.1 (Int.toNat (0))) &&& 2) != 0))]], []⟩) rfl (c_g_packed_reader_decimal (hy7)) ⟨.rfl' _, .rfl' _, trivial⟩ rfl rfl rfl rfl rfl rfl ?_
        refine .withSt (st' := ⟨[.row 31 [.d (cI 0), .d (cI 0), .d (cI 0), .d (cS ([] : List UInt8)), .d (cS ([] : List UInt8)), .d (cI 0), .d (cI 0), .d (cI 0), .d (cI 0), .d (cB false), .d (cI 0), .d (cB false)], .row 57 [.d (slOf 1 rB8 y7.2.b), .d (cB y7.2.bad)], .row 31 [.d (cI y2.1), .d (cI y3.1), .d (cI ((u8shr (nth y4.1 (Int.toNat (0))) 4).toNat : Int)), .d (cS y5.1), .d (cS y6.1), .d (cI 0), .d (cI 0), .d (cI 0), .d (cI 0), .d (cB (((nth y4.1 (Int.toNat (0))) &&& 1) != 0)), .d (cI 0), .d (cB (((nth y4.1 (Int.toNat (0))) &&& 2) != 0))]], []⟩) rfl ?_
        refine .q (x := .ref 2 5) (q_fieldRef fo_31_5 rfl) rfl ?_
        refine .u (u_store rfl rfl rfl rfl (Nat.le_of_ble_eq_true rfl) sz_3) rfl ?_
        refine .withSt (st' := ⟨[.row 31 [.d (cI 0), .d (cI 0), .d (cI 0), .d (cS ([] : List UInt8)), .d (cS ([] : List UInt8)), .d (cI 0), .d (cI 0), .d (cI 0), .d (cI 0), .d (cB false), .d (cI 0), .d (cB false)], .row 57 [.d (slOf 1 rB8 y7.2.b), .d (cB y7.2.bad)], .row 31 [.d (cI y2.1), .d (cI y3.1), .d (cI ((u8shr (nth y4.1 (Int.toNat (0))) 4).toNat : Int)), .d (cS y5.1), .d (cS y6.1), .d (cI y7.1), .d (cI 0), .d (cI 0), .d (cI 0), .d (cB (((nth y4.1 (Int.toNat (0))) &&& 1) != 0)), .d (cI 0), .d (cB (((nth y4.1 (Int.toNat (0))) &&& 2) != 0))]], []⟩) rfl ?_
        refine .nil ?_
        refine .seq ?_
        refine .region ?_
        refine .q (x := .ref 1 0) (q_move rfl) rfl ?_
        obtain ⟨y8, hy8, H⟩ := bind_some' H
        refine .callF en_30 rfl [1] [] (x := .d (cI y8.1)) (st' := ⟨[.row 31 [.d (cI 0), .d (cI 0), .d (cI 0), .d (cS ([] : List UInt8)), .d (cS ([] : List UInt8)), .d (cI 0), .d (cI 0), .d (cI 0), .d (cI 0), .d (cB false), .d (cI 0), .d (cB false)], .row 57 [.d (slOf 1 rB8 y8.2.b), .d (cB y8.2.bad)], .row 31 [.d (cI y2.1), .d (cI y3.1), .d (cI ((u8shr (nth y4.1 (Int.toNat (0))) 4).toNat : Int)), .d (cS y5.1), .d (cS y6.1), .d (cI y7.1), .d (cI 0), .d (cI 0), .d (cI 0), .d (cB (((nth y4.1 (Int.toNat (0))) &&& 1) != 0)), .d (cI 0), .d (cB (((nth y4.1 (Int.toNat (0))) &&& 2) != 0))]], []⟩) rfl (c_g_packed_reader_decimal (hy8)) ⟨.rfl' _, .rfl' _, trivial⟩ rfl rfl rfl rfl rfl rfl ?_
        refine .withSt (st' := ⟨[.row 31 [.d (cI 0), .d (cI 0), .d (cI 0), .d (cS ([] : List UInt8)), .d (cS ([] : List UInt8)), .d (cI 0), .d (cI 0), .d (cI 0), .d (cI 0), .d (cB false), .d (cI 0), .d (cB false)], .row 57 [.d (slOf 1 rB8 y8.2.b), .d (cB y8.2.bad)], .row 31 [.d (cI y2.1), .d (cI y3.1), .d (cI ((u8shr (nth y4.1 (Int.toNat (0))) 4).toNat : Int)), .d (cS y5.1), .d (cS y6.1), .d (cI y7.1), .d (cI 0), .d (cI 0), .d (cI 0), .d (cB (((nth y4.1 (Int.toNat (0))) &&& 1) != 0)), .d (cI 0), .d (cB (((nth y4.1 (Int.toNat (0))) &&& 2) != 0))]], []⟩) rfl ?_
        refine .q (x := .ref 2 6) (q_fieldRef fo_31_6 rfl) rfl ?_
        refine .u (u_store rfl rfl rfl rfl (Nat.le_of_ble_eq_true rfl) sz_3) rfl ?_
        refine .withSt (st' := ⟨[.row 31 [.d (cI 0), .d (cI 0), .d (cI 0), .d (cS ([] : List UInt8)), .d (cS ([] : List UInt8)), .d (cI 0), .d (cI 0), .d (cI 0), .d (cI 0), .d (cB false), .d (cI 0), .d (cB false)], .row 57 [.d (slOf 1 rB8 y8.2.b), .d (cB y8.2.bad)], .row 31 [.d (cI y2.1), .d (cI y3.1), .d (cI ((u8shr (nth y4.1 (Int.toNat (0))) 4).toNat : Int)), .d (cS y5.1), .d (cS y6.1), .d (cI y7.1), .d (cI y8.1), .d (cI 0), .d (cI 0), .d (cB (((nth y4.1 (Int.toNat (0))) &&& 1) != 0)), .d (cI 0), .d (cB (((nth y4.1 (Int.toNat (0))) &&& 2) != 0))]], []⟩) rfl ?_
        refine .nil ?_
        refine .seq ?_
        refine .region ?_
        refine .q (x := .ref 1 0) (q_move rfl) rfl ?_
        obtain ⟨y9, hy9, H⟩ := bind_some' H
        refine .callF en_30 rfl [1] [] (x := .d (cI y9.1)) (st' := ⟨[.row 31 [.d (cI 0), .d (cI 0), .d (cI 0), .d (cS ([] : List UInt8)), .d (cS ([] : List UInt8)), .d (cI 0), .d (cI 0), .d (cI 0), .d (cI 0), .d (cB false), .d (cI 0), .d (cB false)], .row 57 [.d (slOf 1 rB8 y9.2.b), .d (cB y9.2.bad)], .row 31 [.d (cI y2.1), .d (cI y3.1), .d (cI ((u8shr (nth y4.1 (Int.toNat (0))) 4).toNat : Int)), .d (cS y5.1), .d (cS y6.1), .d (cI y7.1), .d (cI y8.1), .d (cI 0), .d (cI 0), .d (cB (((nth y4.1 (Int.toNat (0))) &&& 1) != 0)), .d (cI 0), .d (cB (((nth y4.1 (Int.toNat (0))) &&& 2) != 0))]], []⟩) rfl (c_g_packed_reader_decimal (hy9)) ⟨.rfl' _, .rfl' _, trivial⟩ rfl rfl rfl rfl rfl rfl ?_
        refine .withSt (st' := ⟨[.row 31 [.d (cI 0), .d (cI 0), .d (cI 0), .d (cS ([] : List UInt8)), .d (cS ([] : List UInt8)), .d (cI 0), .d (cI 0), .d (cI 0), .d (cI 0), .d (cB false), .d (cI 0), .d (cB false)], .row 57 [.d (slOf 1 rB8 y9.2.b), .d (cB y9.2.bad)], .row 31 [.d (cI y2.1), .d (cI y3.1), .d (cI ((u8shr (nth y4.1 (Int.toNat (0))) 4).toNat : Int)), .d (cS y5.1), .d (cS y6.1), .d (cI y7.1), .d (cI y8.1), .d (cI 0), .d (cI 0), .d (cB (((nth y4.1 (Int.toNat (0))) &&& 1) != 0)), .d (cI 0), .d (cB (((nth y4.1 (Int.toNat (0))) &&& 2) != 0))]], []⟩) rfl ?_
        refine .q (x := .ref 2 7) (q_fieldRef fo_31_7 rfl) rfl ?_
        refine .u (u_store rfl rfl rfl rfl (Nat.le_of_ble_eq_true rfl) sz_3) rfl ?_
        refine .withSt (st' := ⟨[.row 31 [.d (cI 0), .d (cI 0), .d (cI 0), .d (cS ([] : List UInt8)), .d (cS ([] : List UInt8)), .d (cI 0), .d (cI 0), .d (cI 0), .d (cI 0), .d (cB false), .d (cI 0), .d (cB false)], .row 57 [.d (slOf 1 rB8 y9.2.b), .d (cB y9.2.bad)], .row 31 [.d (cI y2.1), .d (cI y3.1), .d (cI ((u8shr (nth y4.1 (Int.toNat (0))) 4).toNat : Int)), .d (cS y5.1), .d (cS y6.1), .d (cI y7.1), .d (cI y8.1), .d (cI y9.1), .d (cI 0), .d (cB (((nth y4.1 (Int.toNat (0))) &&& 1) != 0)), .d (cI 0), .d (cB (((nth y4.1 (Int.toNat (0))) &&& 2) != 0))]], []⟩) rfl ?_
        refine .nil ?_
        refine .seq ?_
        refine .region ?_
        refine .q (x := .ref 1 0) (q_move rfl) rfl ?_
        obtain ⟨y10, hy10, H⟩ := bind_some' H
        refine .callF en_30 rfl [1] [] (x := .d (cI y10.1)) (st' := ⟨[.row 31 [.d (cI 0), .d (cI 0), .d (cI 0), .d (cS ([] : List UInt8)), .d (cS ([] : List UInt8)), .d (cI 0), .d (cI 0), .d (cI 0), .d (cI 0), .d (cB false), .d (cI 0), .d (cB false)], .row 57 [.d (slOf 1 rB8 y10.2.b), .d (cB y10.2.bad)], .row 31 [.d (cI y2.1), .d (cI y3.1), .d (cI ((u8shr (nth y4.1 (Int.toNat (0))) 4).toNat : Int)), .d (cS y5.1), .d (cS y6.1), .d (cI y7.1), .d (cI y8.1), .d (cI y9.1), .d (cI 0), .d (cB (((nth y4.1 (Int.toNat (0))) &&& 1) != 0)), .d (cI 0), .d (cB (((nth y4.1 (Int.toNat (0))) &&& 2) != 0))]], []⟩) rfl (c_g_packed_reader_decimal (hy10)) ⟨.rfl' _, .rfl' _, trivial⟩ rfl rfl rfl rfl rfl rfl ?_
        refine .withSt (st' := ⟨[.row 31 [.d (cI 0), .d (cI 0), .d (cI 0), .d (cS ([] : List UInt8)), .d (cS ([] : List UInt8)), .d (cI 0), .d (cI 0), .d (cI 0), .d (cI 0), .d (cB false), .d (cI 0), .d (cB false)], .row 57 [.d (slOf 1 rB8 y10.2.b), .d (cB y10.2.bad)], .row 31 [.d (cI y2.1), .d (cI y3.1), .d (cI ((u8shr (nth y4.1 (Int.toNat (0))) 4).toNat : Int)), .d (cS y5.1), .d (cS y6.1), .d (cI y7.1), .d (cI y8.1), .d (cI y9.1), .d (cI 0), .d (cB (((nth y4.1 (Int.toNat (0))) &&& 1) != 0)), .d (cI 0), .d (cB (((nth y4.1 (Int.toNat (0))) &&& 2) != 0))]], []⟩) rfl ?_
        refine .q (x := .ref 2 8) (q_fieldRef fo_31_8 rfl) rfl ?_
        refine .u (u_store rfl rfl rfl rfl (Nat.le_of_ble_eq_true rfl) sz_3) rfl ?_
        refine .withSt (st' := ⟨[.row 31 [.d (cI 0), .d (cI 0), .d (cI 0), .d (cS ([] : List UInt8)), .d (cS ([] : List UInt8)), .d (cI 0), .d (cI 0), .d (cI 0), .d (cI 0), .d (cB false), .d (cI 0), .d (cB false)], .row 57 [.d (slOf 1 rB8 y10.2.b), .d (cB y10.2.bad)], .row 31 [.d (cI y2.1), .d (cI y3.1), .d (cI ((u8shr (nth y4.1 (Int.toNat (0))) 4).toNat : Int)), .d (cS y5.1), .d (cS y6.1), .d (cI y7.1), .d (cI y8.1), .d (cI y9.1), .d (cI y10.1), .d (cB (((nth y4.1 (Int.toNat (0))) &&& 1) != 0)), .d (cI 0), .d (cB (((nth y4.1 (Int.toNat (0))) &&& 2) != 0))]], []⟩) rfl ?_
        refine .nil ?_
        refine .seq ?_
        refine .region ?_
        refine .q (x := .ref 1 0) (q_move rfl) rfl ?_
        obtain ⟨y11, hy11, H⟩ := bind_some' H
        refine .callF en_30 rfl [1] [] (x := .d (cI y11.1)) (st' := ⟨[.row 31 [.d (cI 0), .d (cI 0), .d (cI 0), .d (cS ([] : List UInt8)), .d (cS ([] : List UInt8)), .d (cI 0), .d (cI 0), .d (cI 0), .d (cI 0), .d (cB false), .d (cI 0), .d (cB false)], .row 57 [.d (slOf 1 rB8 y11.2.b), .d (cB y11.2.bad)], .row 31 [.d (cI y2.1), .d (cI y3.1), .d (cI ((u8shr (nth y4.1 (Int.toNat (0))) 4).toNat : Int)), .d (cS y5.1), .d (cS y6.1), .d (cI y7.1), .d (cI y8.1), .d (cI y9.1), .d (cI y10.1), .d (cB (((nth y4.1 (Int.toNat (0))) &&& 1) != 0)), .d (cI 0), .d (cB (((nth y4.1 (Int.toNat (0))) &&& 2) != 0))]], []⟩) rfl (c_g_packed_reader_decimal (hy11)) ⟨.rfl' _, .rfl' _, trivial⟩ rfl rfl rfl rfl rfl rfl ?_
        refine .withSt (st' := ⟨[.row 31 [.d (cI 0), .d (cI 0), .d (cI 0), .d (cS ([] : List UInt8)), .d (cS ([] : List UInt8)), .d (cI 0), .d (cI 0), .d (cI 0), .d (cI 0), .d (cB false), .d (cI 0), .d (cB false)], .row 57 [.d (slOf 1 rB8 y11.2.b), .d (cB y11.2.bad)], .row 31 [.d (cI y2.1), .d (cI y3.1), .d (cI ((u8shr (nth y4.1 (Int.toNat (0))) 4).toNat : Int)), .d (cS y5.1), .d (cS y6.1), .d (cI y7.1), .d (cI y8.1), .d (cI y9.1), .d (cI y10.1), .d (cB (((nth y4.1 (Int.toNat (0))) &&& 1) != 0)), .d (cI 0), .d (cB (((nth y4.1 (Int.toNat (0))) &&& 2) != 0))]], []⟩) rfl ?_
        refine .q (x := .ref 2 10) (q_fieldRef fo_31_10 rfl) rfl ?_
        refine .u (u_store rfl rfl rfl rfl (Nat.le_of_ble_eq_true rfl) sz_3) rfl ?_
        refine .withSt (st' := ⟨[.row 31 [.d (cI 0), .d (cI 0), .d (cI 0), .d (cS ([] : List UInt8)), .d (cS ([] : List UInt8)), .d (cI 0), .d (cI 0), .d (cI 0), .d (cI 0), .d (cB false), .d (cI 0), .d (cB false)], .row 57 [.d (slOf 1 rB8 y11.2.b), .d (cB y11.2.bad)], .row 31 [.d (cI y2.1), .d (cI y3.1), .d (cI ((u8shr (nth y4.1 (Int.toNat (0))) 4).toNat : Int)), .d (cS y5.1), .d (cS y6.1), .d (cI y7.1), .d (cI y8.1), .d (cI y9.1), .d (cI y10.1), .d (cB (((nth y4.1 (Int.toNat (0))) &&& 1) != 0)), .d (cI y11.1), .d (cB (((nth y4.1 (Int.toNat (0))) &&& 2) != 0))]], []⟩) rfl ?_
        refine .nil ?_
        refine .seq ?_
        refine .seq ?_
        refine .region ?_
        refine .q (x := .ref 1 0) (q_move rfl) rfl ?_
        refine .q (x := .ref 1 0) (q_nilRef rfl) rfl ?_
        refine .q (x := .ref 1 1) (q_fieldRef fo_57_1 rfl) rfl ?_
        refine .q (x := .d (cB y11.2.bad)) (q_loadO one_4 rfl rfl rfl) rfl ?_
        refine .q (x := .d (cB y11.2.bad)) (q_move rfl) rfl ?_
        refine .guardG (b := (!y11.2.bad)) (x := .d (cU8 (nth y4.1 (Int.toNat (0))))) (env' := [(6, _)]) rfl rfl rfl ⟨.inl rfl, trivial⟩ rfl (fun hg => OpQ.g (q_move rfl)) ?_
        refine .guardG (b := (!y11.2.bad)) (x := .d (cU8 ((nth y4.1 (Int.toNat (0))) &&& 15))) (env' := [(79, _)]) rfl rfl rfl ⟨.inr (.inl rfl), trivial⟩ rfl (fun hg => OpQ.g (q8_and (a := nth y4.1 (Int.toNat (0))) (b := 15) rfl rfl)) ?_
        refine .guardG (b := (!y11.2.bad)) (x := .d (cB (decide (((nth y4.1 (Int.toNat (0))) &&& 15) > 3)))) (env' := [(80, _)]) rfl rfl rfl ⟨.inr (.inl rfl), trivial⟩ rfl (fun hg => OpQ.g (q8_gtr (a := (nth y4.1 (Int.toNat (0))) &&& 15) (b := 3) rfl rfl)) ?_
        refine .q (x := .d (cB (y11.2.bad || (decide (((nth y4.1 (Int.toNat (0))) &&& 15) > 3))))) (q_pickOrB rfl rfl rfl) rfl ?_
        refine .nil ?_
        refine .cond rfl (fun hc => ?_) (fun hc => ?_)
        · replace H := ifT hc H; clear hc
          refine .seq ?_
          refine .region ?_
          refine .q (x := .d (.agg (Record.row (⟨0, 0, 0, ([] : List UInt8), ([] : List UInt8), 0, 0, 0, 0, false, 0, false⟩ : Record)))) (q_buildP pl_31 hi31 hz31 rfl rfl) rfl ?_
          refine .u (u_store rfl rfl rfl rfl (Nat.le_of_ble_eq_true rfl) sz_31) rfl ?_
          refine .withSt (st' := ⟨[.row 31 [.d (cI 0), .d (cI 0), .d (cI 0), .d (cS ([] : List UInt8)), .d (cS ([] : List UInt8)), .d (cI 0), .d (cI 0), .d (cI 0), .d (cI 0), .d (cB false), .d (cI 0), .d (cB false)], .row 57 [.d (slOf 1 rB8 y11.2.b), .d (cB y11.2.bad)], .row 31 [.d (cI y2.1), .d (cI y3.1), .d (cI ((u8shr (nth y4.1 (Int.toNat (0))) 4).toNat : Int)), .d (cS y5.1), .d (cS y6.1), .d (cI y7.1), .d (cI y8.1), .d (cI y9.1), .d (cI y10.1), .d (cB (((nth y4.1 (Int.toNat (0))) &&& 1) != 0)), .d (cI y11.1), .d (cB (((nth y4.1 (Int.toNat (0))) &&& 2) != 0))]], []⟩) rfl ?_
          refine .q (x := .d (cI 1)) (q_assign rfl) rfl ?_
          refine .nil ?_
          refine .retN [.cell 2 31, .tmp 3] [.d (.agg (Record.row (⟨0, 0, 0, ([] : List UInt8), ([] : List UInt8), 0, 0, 0, 0, false, 0, false⟩ : Record))), .d (cI 1)] Tryd.func16 Tryd.results16 ⟨⟨⟨_, _, rfl⟩, q_loadOA one_31 sz_31 rfl rfl (Nat.le_of_ble_eq_true rfl) rfl⟩, rfl, trivial⟩ ?_
          cases H
          exact ⟨_, EVle.tupL (ds := [.agg (Record.row (⟨0, 0, 0, ([] : List UInt8), ([] : List UInt8), 0, 0, 0, 0, false, 0, false⟩ : Record)), cI 1]) ⟨.rfl' _, .rfl' _, trivial⟩, rfl⟩
        · replace H := ifF hc H; clear hc
          refine .skip ?_
          refine .seq ?_
          refine .seq ?_
          refine .region ?_
          refine .q (x := .d (.agg (Record.row (⟨y2.1, y3.1, ((u8shr (nth y4.1 (Int.toNat (0))) 4).toNat : Int), y5.1, y6.1, y7.1, y8.1, y9.1, y10.1, (((nth y4.1 (Int.toNat (0))) &&& 1) != 0), y11.1, (((nth y4.1 (Int.toNat (0))) &&& 2) != 0)⟩ : Record)))) (q_loadOA one_31 sz_31 rfl rfl (Nat.le_of_ble_eq_true rfl) rfl) rfl ?_
          obtain ⟨y12, hy12, H⟩ := bind_some' H
          refine .g (x := .d (.tup [cS y12.1, cI y12.2])) (g_call en_22 rfl rfl (c_f_textual_Encode (hy12))) rfl ?_
          refine .q (x := .d (.tup [cS y12.1, cI y12.2])) (q_move rfl) rfl ?_
          refine .q (x := .d (cS y12.1)) (q_extract rfl rfl) rfl ?_
          refine .q (x := .d (cI y12.2)) (q_extract rfl rfl) rfl ?_
          refine .q (x := .d (cS y12.1)) (q_assign rfl) rfl ?_
          refine .q (x := .d (cI y12.2)) (q_assign rfl) rfl ?_
          refine .nil ?_
          refine .seq ?_
          refine .region ?_
          refine .q (x := .d (cI y12.2)) (q_move rfl) rfl ?_
          refine .q (x := .d (cB (y12.2 != 0))) (q_neq rfl rfl) rfl ?_
          refine .nil ?_
          refine .cond rfl (fun hc => ?_) (fun hc => ?_)
          · replace H := ifT hc H; clear hc
            refine .seq ?_
            refine .region ?_
            refine .q (x := .d (.agg (Record.row (⟨0, 0, 0, ([] : List UInt8), ([] : List UInt8), 0, 0, 0, 0, false, 0, false⟩ : Record)))) (q_buildP pl_31 hi31 hz31 rfl rfl) rfl ?_
            refine .q (x := .d (cI y12.2)) (q_move rfl) rfl ?_
            refine .u (u_store rfl rfl rfl rfl (Nat.le_of_ble_eq_true rfl) sz_31) rfl ?_
            refine .withSt (st' := ⟨[.row 31 [.d (cI 0), .d (cI 0), .d (cI 0), .d (cS ([] : List UInt8)), .d (cS ([] : List UInt8)), .d (cI 0), .d (cI 0), .d (cI 0), .d (cI 0), .d (cB false), .d (cI 0), .d (cB false)], .row 57 [.d (slOf 1 rB8 y11.2.b), .d (cB y11.2.bad)], .row 31 [.d (cI y2.1), .d (cI y3.1), .d (cI ((u8shr (nth y4.1 (Int.toNat (0))) 4).toNat : Int)), .d (cS y5.1), .d (cS y6.1), .d (cI y7.1), .d (cI y8.1), .d (cI y9.1), .d (cI y10.1), .d (cB (((nth y4.1 (Int.toNat (0))) &&& 1) != 0)), .d (cI y11.1), .d (cB (((nth y4.1 (Int.toNat (0))) &&& 2) != 0))]], []⟩) rfl ?_
            refine .q (x := .d (cI y12.2)) (q_assign rfl) rfl ?_
            refine .nil ?_
            refine .retN [.cell 2 31, .tmp 3] [.d (.agg (Record.row (⟨0, 0, 0, ([] : List UInt8), ([] : List UInt8), 0, 0, 0, 0, false, 0, false⟩ : Record))), .d (cI y12.2)] Tryd.func16 Tryd.results16 ⟨⟨⟨_, _, rfl⟩, q_loadOA one_31 sz_31 rfl rfl (Nat.le_of_ble_eq_true rfl) rfl⟩, rfl, trivial⟩ ?_
            cases H
            exact ⟨_, EVle.tupL (ds := [.agg (Record.row (⟨0, 0, 0, ([] : List UInt8), ([] : List UInt8), 0, 0, 0, 0, false, 0, false⟩ : Record)), cI y12.2]) ⟨.rfl' _, .rfl' _, trivial⟩, rfl⟩
          · replace H := ifF hc H; clear hc
            refine .skip ?_
            refine .seq ?_
            refine .region ?_
            refine .q (x := .d (.agg (Record.row (⟨y2.1, y3.1, ((u8shr (nth y4.1 (Int.toNat (0))) 4).toNat : Int), y5.1, y6.1, y7.1, y8.1, y9.1, y10.1, (((nth y4.1 (Int.toNat (0))) &&& 1) != 0), y11.1, (((nth y4.1 (Int.toNat (0))) &&& 2) != 0)⟩ : Record)))) (q_loadOA one_31 sz_31 rfl rfl (Nat.le_of_ble_eq_true rfl) rfl) rfl ?_
            refine .u (u_store rfl rfl rfl rfl (Nat.le_of_ble_eq_true rfl) sz_31) rfl ?_
            refine .withSt (st' := ⟨[.row 31 [.d (cI y2.1), .d (cI y3.1), .d (cI ((u8shr (nth y4.1 (Int.toNat (0))) 4).toNat : Int)), .d (cS y5.1), .d (cS y6.1), .d (cI y7.1), .d (cI y8.1), .d (cI y9.1), .d (cI y10.1), .d (cB (((nth y4.1 (Int.toNat (0))) &&& 1) != 0)), .d (cI y11.1), .d (cB (((nth y4.1 (Int.toNat (0))) &&& 2) != 0))], .row 57 [.d (slOf 1 rB8 y11.2.b), .d (cB y11.2.bad)], .row 31 [.d (cI y2.1), .d (cI y3.1), .d (cI ((u8shr (nth y4.1 (Int.toNat (0))) 4).toNat : Int)), .d (cS y5.1), .d (cS y6.1), .d (cI y7.1), .d (cI y8.1), .d (cI y9.1), .d (cI y10.1), .d (cB (((nth y4.1 (Int.toNat (0))) &&& 1) != 0)), .d (cI y11.1), .d (cB (((nth y4.1 (Int.toNat (0))) &&& 2) != 0))]], []⟩) rfl ?_
            refine .q (x := .d (cI 0)) (q_assign rfl) rfl ?_
            refine .nil ?_
            refine .retN [.cell 2 31, .tmp 3] [.d (.agg (Record.row (⟨y2.1, y3.1, ((u8shr (nth y4.1 (Int.toNat (0))) 4).toNat : Int), y5.1, y6.1, y7.1, y8.1, y9.1, y10.1, (((nth y4.1 (Int.toNat (0))) &&& 1) != 0), y11.1, (((nth y4.1 (Int.toNat (0))) &&& 2) != 0)⟩ : Record))), .d (cI 0)] Tryd.func16 Tryd.results16 ⟨⟨⟨_, _, rfl⟩, q_loadOA one_31 sz_31 rfl rfl (Nat.le_of_ble_eq_true rfl) rfl⟩, rfl, trivial⟩ ?_
            cases H
            exact ⟨_, EVle.tupL (ds := [.agg (Record.row (⟨y2.1, y3.1, ((u8shr (nth y4.1 (Int.toNat (0))) 4).toNat : Int), y5.1, y6.1, y7.1, y8.1, y9.1, y10.1, (((nth y4.1 (Int.toNat (0))) &&& 1) != 0), y11.1, (((nth y4.1 (Int.toNat (0))) &&& 2) != 0)⟩ : Record)), cI 0]) ⟨.rfl' _, .rfl' _, trivial⟩, rfl⟩

set_option maxRecDepth 100000 in
set_option maxHeartbeats 1000000 in
theorem c_f_billingref11_text {v0b : List UInt8} {r : (List UInt8) × Bool} (H : f_billingref11_text v0b = some r) : ACall Tryd.prog 33 [slOf 1 rB8 v0b] (· = .tup [cS r.1, cB r.2]) := by
  obtain ⟨i5, hi5, hz5, hs5, hb5⟩ := in_5
  refine ACall.enter' Tryd.func33 rfl Tryd.ntmps33 rfl fun S hS => ?_
  unfold f_billingref11_text at H
  change ARun _ _ _ _ _ _ [(0, .d (slOf 1 rB8 v0b))] _
  refine .seq ?_
  refine .region ?_
  refine .q (x := .d (cS ([] : List UInt8))) (q_assign rfl) rfl ?_
  refine .q (x := .d (cB false)) (q_assign rfl) rfl ?_
  refine .nil ?_
  refine .seq ?_
  refine .region ?_
  refine .q (x := .d (slOf 1 rB8 v0b)) (q_move rfl) rfl ?_
  obtain ⟨hk1, H⟩ := ck_some H
  refine .q (x := .d (.ro (rB8 (nth v0b (Int.toNat (0)))))) (q_idxL (row := rB8) (l := v0b) (i := 0) Tryd.underlying22 hi5 hs5 rfl rfl rfl hk1) rfl ?_
  refine .q (x := .d (cU8 (nth v0b (Int.toNat (0))))) (q_load one_5 rfl) rfl ?_
  obtain ⟨hk2, H⟩ := ck_some H
  refine .q (x := .d (cU8 ((nth v0b (Int.toNat (0))) / 16))) (q8_quo (a := nth v0b (Int.toNat (0))) (b := 16) rfl rfl hk2) rfl ?_
  refine .q (x := .d (cI (((nth v0b (Int.toNat (0))) / 16).toNat : Int))) (q_conv8i (a := (nth v0b (Int.toNat (0))) / 16) Tryd.underlying5 Tryd.underlying3 rfl) rfl ?_
  refine .q (x := .d (cI (((nth v0b (Int.toNat (0))) / 16).toNat : Int))) (q_assign rfl) rfl ?_
  refine .q (x := .d (cS ([] : List UInt8))) (q_assign rfl) rfl ?_
  refine .nil ?_
  refine .seq ?_
  refine .seq ?_
  refine .region ?_
  refine .q (x := .d (cI 1)) (q_assign rfl) rfl ?_
  refine .nil ?_
  refine .block ?_
  obtain ⟨n1, H⟩ := loop_some H
  refine .loop (ι := Nat × (List UInt8 × Int)) (fun p => [(0, .d (slOf 1 rB8 v0b)), (4, .d (cI (((nth v0b (Int.toNat (0))) / 16).toNat : Int))), (5, .d (cS p.2.1)), (6, .d (cI p.2.2))]) (fun p => ⟨[], []⟩) (fun p => iter (fun s => f_billingref11_text_l1 v0b s.1 s.2) p.1 p.2 = some r) (·.1) (n1, (([] : List UInt8), 1)) H (.cons rfl (.rfl' _) (.cons rfl (.rfl' _) (.cons rfl (.rfl' _) (.cons rfl (.rfl' _) (.nil))))) rfl ?_
  rintro ⟨m1, v5sl1, v6kl1⟩ HI ih1
  obtain ⟨n1, q1, hm1, H, HK1⟩ := iter_succ HI
  clear HI
  replace H : f_billingref11_text_l1 v0b v5sl1 v6kl1 = some q1 := H
  unfold f_billingref11_text_l1 at H
  change ARun _ _ _ _ _ _ [(0, .d (slOf 1 rB8 v0b)), (4, .d (cI (((nth v0b (Int.toNat (0))) / 16).toNat : Int))), (5, .d (cS v5sl1)), (6, .d (cI v6kl1))] ⟨[], []⟩
  refine .seq ?_
  refine .seq ?_
  refine .region ?_
  refine .q (x := .d (cI v6kl1)) (q_move rfl) rfl ?_
  refine .q (x := .d (cB (decide (v6kl1 ≤ 15)))) (q_leq rfl rfl) rfl ?_
  refine .nil ?_
  refine .cond rfl (fun hc => ?_) (fun hc => ?_)
  · replace H := ifT hc H; clear hc
    refine .skip ?_
    refine .seq ?_
    refine .block ?_
    refine .seq ?_
    refine .region ?_
    refine .q (x := .d (slOf 1 rB8 v0b)) (q_move rfl) rfl ?_
    refine .q (x := .d (cI v6kl1)) (q_move rfl) rfl ?_
    obtain ⟨hk3, H⟩ := ck_some H
    refine .q (x := .d (cI (Int.tdiv v6kl1 2))) (q_quoT rfl rfl hk3) rfl ?_
    obtain ⟨hk4, H⟩ := ck_some H
    refine .q (x := .d (.ro (rB8 (nth v0b (Int.toNat (Int.tdiv v6kl1 2)))))) (q_idxL (row := rB8) (l := v0b) (i := Int.tdiv v6kl1 2) Tryd.underlying22 hi5 hs5 rfl rfl rfl hk4) rfl ?_
    refine .q (x := .d (cU8 (nth v0b (Int.toNat (Int.tdiv v6kl1 2))))) (q_load one_5 rfl) rfl ?_
    obtain ⟨hk5, H⟩ := ck_some H
    refine .q (x := .d (cU8 ((nth v0b (Int.toNat (Int.tdiv v6kl1 2))) / 16))) (q8_quo (a := nth v0b (Int.toNat (Int.tdiv v6kl1 2))) (b := 16) rfl rfl hk5) rfl ?_
    refine .q (x := .d (cU8 ((nth v0b (Int.toNat (Int.tdiv v6kl1 2))) / 16))) (q_assign rfl) rfl ?_
    refine .nil ?_
    refine .seqJoin (ι := UInt8) (fun s => [(0, .d (slOf 1 rB8 v0b)), (4, .d (cI (((nth v0b (Int.toNat (0))) / 16).toNat : Int))), (5, .d (cS v5sl1)), (6, .d (cI v6kl1)), (7, .d (cU8 s))]) (fun s => ⟨[], []⟩) (fun s => f_billingref11_text_j1 v0b v5sl1 v6kl1 s = some q1) ?_ ?_
    · rintro v7gj1 H
      replace H : f_billingref11_text_j1 v0b v5sl1 v6kl1 v7gj1 = some q1 := H
      unfold f_billingref11_text_j1 at H
      change ARun _ _ _ _ _ _ [(0, .d (slOf 1 rB8 v0b)), (4, .d (cI (((nth v0b (Int.toNat (0))) / 16).toNat : Int))), (5, .d (cS v5sl1)), (6, .d (cI v6kl1)), (7, .d (cU8 v7gj1))] ⟨[], []⟩
      refine .seq ?_
      refine .seq ?_
      refine .region ?_
      refine .q (x := .d (cI v6kl1)) (q_move rfl) rfl ?_
      refine .q (x := .d (cI (((nth v0b (Int.toNat (0))) / 16).toNat : Int))) (q_move rfl) rfl ?_
      refine .q (x := .d (cB (decide (v6kl1 ≤ (((nth v0b (Int.toNat (0))) / 16).toNat : Int))))) (q_leq rfl rfl) rfl ?_
      refine .q (x := .d (cB (decide (v6kl1 ≤ (((nth v0b (Int.toNat (0))) / 16).toNat : Int))))) (q_move rfl) rfl ?_
      refine .guardG (b := decide (v6kl1 ≤ (((nth v0b (Int.toNat (0))) / 16).toNat : Int))) (x := .d (cU8 v7gj1)) (env' := [(7, _)]) rfl rfl rfl ⟨.inl rfl, trivial⟩ rfl (fun hg => OpQ.g (q_move rfl)) ?_
      refine .guardG (b := decide (v6kl1 ≤ (((nth v0b (Int.toNat (0))) / 16).toNat : Int))) (x := .d (cB (decide (v7gj1 > 9)))) (env' := [(36, _)]) rfl rfl rfl ⟨.inr (.inl rfl), trivial⟩ rfl (fun hg => OpQ.g (q8_gtr (a := v7gj1) (b := 9) rfl rfl)) ?_
      refine .q (x := .d (cB ((decide (v6kl1 ≤ (((nth v0b (Int.toNat (0))) / 16).toNat : Int))) && (decide (v7gj1 > 9))))) (q_pickAndB rfl rfl rfl) rfl ?_
      refine .q (x := .d (cB ((decide (v6kl1 ≤ (((nth v0b (Int.toNat (0))) / 16).toNat : Int))) && (decide (v7gj1 > 9))))) (q_move rfl) rfl ?_
      refine .guardG (b := (!((decide (v6kl1 ≤ (((nth v0b (Int.toNat (0))) / 16).toNat : Int))) && (decide (v7gj1 > 9))))) (x := .d (cI v6kl1)) (env' := [(6, _)]) rfl rfl rfl ⟨.inl rfl, trivial⟩ rfl (fun hg => OpQ.g (q_move rfl)) ?_
      refine .guardG (b := (!((decide (v6kl1 ≤ (((nth v0b (Int.toNat (0))) / 16).toNat : Int))) && (decide (v7gj1 > 9))))) (x := .d (cI (((nth v0b (Int.toNat (0))) / 16).toNat : Int))) (env' := [(4, _)]) rfl rfl rfl ⟨.inl rfl, trivial⟩ rfl (fun hg => OpQ.g (q_move rfl)) ?_
      refine .guardG (b := (!((decide (v6kl1 ≤ (((nth v0b (Int.toNat (0))) / 16).toNat : Int))) && (decide (v7gj1 > 9))))) (x := .d (cB (decide (v6kl1 > (((nth v0b (Int.toNat (0))) / 16).toNat : Int))))) (env' := [(40, _), (41, _)]) rfl rfl rfl ⟨.inr (.inl rfl), ⟨.inr (.inl rfl), trivial⟩⟩ rfl (fun hg => OpQ.g (q_gtr rfl rfl)) ?_
      refine .guardG (b := (!((decide (v6kl1 ≤ (((nth v0b (Int.toNat (0))) / 16).toNat : Int))) && (decide (v7gj1 > 9))))) (x := .d (cB (decide (v6kl1 > (((nth v0b (Int.toNat (0))) / 16).toNat : Int))))) (env' := [(42, _)]) rfl rfl rfl ⟨.inr (.inl rfl), trivial⟩ rfl (fun hg => OpQ.g (q_move rfl)) ?_
      refine .guardG (b := ((!((decide (v6kl1 ≤ (((nth v0b (Int.toNat (0))) / 16).toNat : Int))) && (decide (v7gj1 > 9)))) && (decide (v6kl1 > (((nth v0b (Int.toNat (0))) / 16).toNat : Int))))) (x := .d (cU8 v7gj1)) (env' := [(7, _)]) rfl rfl rfl ⟨.inl rfl, trivial⟩ rfl (fun hg => OpQ.g (q_move rfl)) ?_
      refine .guardG (b := ((!((decide (v6kl1 ≤ (((nth v0b (Int.toNat (0))) / 16).toNat : Int))) && (decide (v7gj1 > 9)))) && (decide (v6kl1 > (((nth v0b (Int.toNat (0))) / 16).toNat : Int))))) (x := .d (cB (v7gj1 != 0))) (env' := [(44, _)]) rfl rfl rfl ⟨.inr (.inl rfl), trivial⟩ rfl (fun hg => OpQ.g (q8_neq (a := v7gj1) (b := 0) rfl rfl)) ?_
      refine .guardG (b := (!((decide (v6kl1 ≤ (((nth v0b (Int.toNat (0))) / 16).toNat : Int))) && (decide (v7gj1 > 9))))) (x := .d (cB ((decide (v6kl1 > (((nth v0b (Int.toNat (0))) / 16).toNat : Int))) && (v7gj1 != 0)))) (env' := [(43, _), (45, _)]) rfl rfl rfl ⟨.inr (.inl rfl), ⟨.inr (.inr ⟨_, _, rfl, rfl⟩), trivial⟩⟩ rfl (fun hg => OpQ.g (q_pickAndB rfl rfl rfl)) ?_
      refine .q (x := .d (cB (((decide (v6kl1 ≤ (((nth v0b (Int.toNat (0))) / 16).toNat : Int))) && (decide (v7gj1 > 9))) || ((decide (v6kl1 > (((nth v0b (Int.toNat (0))) / 16).toNat : Int))) && (v7gj1 != 0))))) (q_pickOrB rfl rfl rfl) rfl ?_
      refine .nil ?_
      refine .cond rfl (fun hc => ?_) (fun hc => ?_)
      · replace H := ifT hc H; clear hc
        refine .seq ?_
        refine .region ?_
        refine .q (x := .d (cS ([] : List UInt8))) (q_assign rfl) rfl ?_
        refine .q (x := .d (cB false)) (q_assign rfl) rfl ?_
        refine .nil ?_
        refine .retN [.tmp 2, .tmp 3] [.d (cS ([] : List UInt8)), .d (cB false)] Tryd.func33 Tryd.results33 ⟨rfl, rfl, trivial⟩ ?_
        cases H
        cases HK1
        exact ⟨_, EVle.tupL (ds := [cS ([] : List UInt8), cB false]) ⟨.rfl' _, .rfl' _, trivial⟩, rfl⟩
      · replace H := ifF hc H; clear hc
        refine .skip ?_
        refine .seq ?_
        refine .region ?_
        refine .q (x := .d (cI v6kl1)) (q_move rfl) rfl ?_
        refine .q (x := .d (cI (((nth v0b (Int.toNat (0))) / 16).toNat : Int))) (q_move rfl) rfl ?_
        refine .q (x := .d (cB (decide (v6kl1 ≤ (((nth v0b (Int.toNat (0))) / 16).toNat : Int))))) (q_leq rfl rfl) rfl ?_
        refine .nil ?_
        refine .cond rfl (fun hc => ?_) (fun hc => ?_)
        · replace H := ifT hc H; clear hc
          refine .region ?_
          refine .q (x := .d (cS v5sl1)) (q_move rfl) rfl ?_
          refine .q (x := .d (cU8 v7gj1)) (q_move rfl) rfl ?_
          refine .q (x := .d (cU8 (48 + v7gj1))) (q8_add (a := 48) (b := v7gj1) rfl rfl) rfl ?_
          refine .g (x := .d (slOf 1 rB8 ([48 + v7gj1] : List UInt8))) (g_buildSlice1 Tryd.underlying22 hi5 hs5 hz5 rfl rfl rfl rfl rfl) rfl ?_
          refine .q (x := .d (cS ([48 + v7gj1] : List UInt8))) (q_bytesStrL (a := ([48 + v7gj1] : List UInt8)) Tryd.underlying22 Tryd.underlying5 Tryd.underlying9 rfl rfl) rfl ?_
          obtain ⟨hk6, H⟩ := ck_some H
          refine .q (x := .d (cS (v5sl1 ++ ([48 + v7gj1] : List UInt8)))) (q_sadd rfl rfl hk6) rfl ?_
          refine .q (x := .d (cS (v5sl1 ++ ([48 + v7gj1] : List UInt8)))) (q_assign rfl) rfl ?_
          refine .nil ?_
          refine .inBlock ?_
          refine .region ?_
          refine .q (x := .d (cI v6kl1)) (q_move rfl) rfl ?_
          obtain ⟨hk7, H⟩ := ck_some H
          refine .q (x := .d (cI (v6kl1 + 1))) (q_addI rfl rfl hk7.1 hk7.2) rfl ?_
          refine .q (x := .d (cI (v6kl1 + 1))) (q_assign rfl) rfl ?_
          refine .nil ?_
          cases H
          exact .sub (.cons rfl (.rfl' _) (.cons rfl (.rfl' _) (.cons rfl (.rfl' _) (.cons rfl (.rfl' _) (.nil))))) (ih1 (n1, (v5sl1 ++ ([48 + v7gj1] : List UInt8), v6kl1 + 1)) HK1 hm1)
        · replace H := ifF hc H; clear hc
          refine .skip ?_
          refine .inBlock ?_
          refine .region ?_
          refine .q (x := .d (cI v6kl1)) (q_move rfl) rfl ?_
          obtain ⟨hk8, H⟩ := ck_some H
          refine .q (x := .d (cI (v6kl1 + 1))) (q_addI rfl rfl hk8.1 hk8.2) rfl ?_
          refine .q (x := .d (cI (v6kl1 + 1))) (q_assign rfl) rfl ?_
          refine .nil ?_
          cases H
          exact .sub (.cons rfl (.rfl' _) (.cons rfl (.rfl' _) (.cons rfl (.rfl' _) (.cons rfl (.rfl' _) (.nil))))) (ih1 (n1, (v5sl1, v6kl1 + 1)) HK1 hm1)
    · intro hj1
      refine .seq ?_
      refine .region ?_
      refine .q (x := .d (cI v6kl1)) (q_move rfl) rfl ?_
      obtain ⟨hk9, H⟩ := ck_some H
      refine .q (x := .d (cI (Int.tmod v6kl1 2))) (q_remT rfl rfl hk9) rfl ?_
      refine .q (x := .d (cB ((Int.tmod v6kl1 2) == 1))) (q_eql rfl rfl) rfl ?_
      refine .nil ?_
      refine .cond rfl (fun hc => ?_) (fun hc => ?_)
      · replace H := ifT hc H; clear hc
        refine .region ?_
        refine .q (x := .d (slOf 1 rB8 v0b)) (q_move rfl) rfl ?_
        refine .q (x := .d (cI v6kl1)) (q_move rfl) rfl ?_
        obtain ⟨hk10, H⟩ := ck_some H
        refine .q (x := .d (cI (Int.tdiv v6kl1 2))) (q_quoT rfl rfl hk10) rfl ?_
        obtain ⟨hk11, H⟩ := ck_some H
        refine .q (x := .d (.ro (rB8 (nth v0b (Int.toNat (Int.tdiv v6kl1 2)))))) (q_idxL (row := rB8) (l := v0b) (i := Int.tdiv v6kl1 2) Tryd.underlying22 hi5 hs5 rfl rfl rfl hk11) rfl ?_
        refine .q (x := .d (cU8 (nth v0b (Int.toNat (Int.tdiv v6kl1 2))))) (q_load one_5 rfl) rfl ?_
        obtain ⟨hk12, H⟩ := ck_some H
        refine .q (x := .d (cU8 ((nth v0b (Int.toNat (Int.tdiv v6kl1 2))) % 16))) (q8_rem (a := nth v0b (Int.toNat (Int.tdiv v6kl1 2))) (b := 16) rfl rfl hk12) rfl ?_
        refine .q (x := .d (cU8 ((nth v0b (Int.toNat (Int.tdiv v6kl1 2))) % 16))) (q_assign rfl) rfl ?_
        refine .nil ?_
        exact .sub (.cons rfl (.rfl' _) (.cons rfl (.rfl' _) (.cons rfl (.rfl' _) (.cons rfl (.rfl' _) (.cons rfl (.rfl' _) (.nil)))))) (hj1 ((nth v0b (Int.toNat (Int.tdiv v6kl1 2))) % 16) H)
      · replace H := ifF hc H; clear hc
        refine .skip ?_
        exact .sub (.cons rfl (.rfl' _) (.cons rfl (.rfl' _) (.cons rfl (.rfl' _) (.cons rfl (.rfl' _) (.cons rfl (.rfl' _) (.nil)))))) (hj1 ((nth v0b (Int.toNat (Int.tdiv v6kl1 2))) / 16) H)
  · replace H := ifF hc H; clear hc
    refine .exit rfl ?_
    refine .seq ?_
    refine .region ?_
    refine .q (x := .d (cS v5sl1)) (q_move rfl) rfl ?_
    refine .q (x := .d (cS v5sl1)) (q_assign rfl) rfl ?_
    refine .q (x := .d (cB true)) (q_assign rfl) rfl ?_
    refine .nil ?_
    refine .retN [.tmp 2, .tmp 3] [.d (cS v5sl1), .d (cB true)] Tryd.func33 Tryd.results33 ⟨rfl, rfl, trivial⟩ ?_
    cases H
    cases HK1
    exact ⟨_, EVle.tupL (ds := [cS v5sl1, cB true]) ⟨.rfl' _, .rfl' _, trivial⟩, rfl⟩

set_option maxRecDepth 100000 in
set_option maxHeartbeats 1000000 in
theorem c_f_billingref11_Decode {v0 : List UInt8} {r : Record × Int} (H : f_billingref11_Decode v0 = some r) : ACall Tryd.prog 17 [slOf 1 rB8 v0] (· = .tup [.agg (Record.row r.1), cI r.2]) := by
  obtain ⟨i3, hi3, hz3, hs3, hb3⟩ := in_3
  obtain ⟨i5, hi5, hz5, hs5, hb5⟩ := in_5
  obtain ⟨i31, hi31, hz31, hs31, hb31⟩ := in_31
  refine ACall.enter' Tryd.func17 rfl Tryd.ntmps17 rfl fun S hS => ?_
  unfold f_billingref11_Decode at H
  change ARun _ _ _ _ _ _ [(0, .d (slOf 1 rB8 v0))] _
  refine .seq ?_
  refine .region ?_
  refine .v (x := .ref 0 0) (v_alloc zr_31 rfl) rfl ?_
  refine .withSt (st' := ⟨[.row 31 [.d (cI 0), .d (cI 0), .d (cI 0), .d (cS ([] : List UInt8)), .d (cS ([] : List UInt8)), .d (cI 0), .d (cI 0), .d (cI 0), .d (cI 0), .d (cB false), .d (cI 0), .d (cB false)]], []⟩) rfl ?_
  refine .q (x := .d (cI 0)) (q_assign rfl) rfl ?_
  refine .nil ?_
  refine .seq ?_
  refine .region ?_
  refine .v (x := .ref 1 0) (v_alloc zr_31 rfl) rfl ?_
  refine .withSt (st' := ⟨[.row 31 [.d (cI 0), .d (cI 0), .d (cI 0), .d (cS ([] : List UInt8)), .d (cS ([] : List UInt8)), .d (cI 0), .d (cI 0), .d (cI 0), .d (cI 0), .d (cB false), .d (cI 0), .d (cB false)], .row 31 [.d (cI 0), .d (cI 0), .d (cI 0), .d (cS ([] : List UInt8)), .d (cS ([] : List UInt8)), .d (cI 0), .d (cI 0), .d (cI 0), .d (cI 0), .d (cB false), .d (cI 0), .d (cB false)]], []⟩) rfl ?_
  refine .nil ?_
  refine .seq ?_
  refine .seq ?_
  refine .region ?_
  refine .q (x := .d (slOf 1 rB8 v0)) (q_move rfl) rfl ?_
  refine .q (x := .d (cI (v0.length : Int))) (q_lenL (l := v0) (row := rB8) Tryd.underlying22 rfl rfl) rfl ?_
  refine .q (x := .d (cB (decide ((v0.length : Int) < 45)))) (q_lss rfl rfl) rfl ?_
  refine .nil ?_
  refine .cond rfl (fun hc => ?_) (fun hc => ?_)
  · replace H := ifT hc H; clear hc
    refine .seq ?_
    refine .region ?_
    refine .q (x := .d (.agg (Record.row (⟨0, 0, 0, ([] : List UInt8), ([] : List UInt8), 0, 0, 0, 0, false, 0, false⟩ : Record)))) (q_loadOA one_31 sz_31 rfl rfl (Nat.le_of_ble_eq_true rfl) rfl) rfl ?_
    refine .u (u_store rfl rfl rfl rfl (Nat.le_of_ble_eq_true rfl) sz_31) rfl ?_
    refine .withSt (st' := ⟨[.row 31 [.d (cI 0), .d (cI 0), .d (cI 0), .d (cS ([] : List UInt8)), .d (cS ([] : List UInt8)), .d (cI 0), .d (cI 0), .d (cI 0), .d (cI 0), .d (cB false), .d (cI 0), .d (cB false)], .row 31 [.d (cI 0), .d (cI 0), .d (cI 0), .d (cS ([] : List UInt8)), .d (cS ([] : List UInt8)), .d (cI 0), .d (cI 0), .d (cI 0), .d (cI 0), .d (cB false), .d (cI 0), .d (cB false)]], []⟩) rfl ?_
    refine .q (x := .d (cI 2)) (q_assign rfl) rfl ?_
    refine .nil ?_
    refine .retN [.cell 2 31, .tmp 3] [.d (.agg (Record.row (⟨0, 0, 0, ([] : List UInt8), ([] : List UInt8), 0, 0, 0, 0, false, 0, false⟩ : Record))), .d (cI 2)] Tryd.func17 Tryd.results17 ⟨⟨⟨_, _, rfl⟩, q_loadOA one_31 sz_31 rfl rfl (Nat.le_of_ble_eq_true rfl) rfl⟩, rfl, trivial⟩ ?_
    cases H
    exact ⟨_, EVle.tupL (ds := [.agg (Record.row (⟨0, 0, 0, ([] : List UInt8), ([] : List UInt8), 0, 0, 0, 0, false, 0, false⟩ : Record)), cI 2]) ⟨.rfl' _, .rfl' _, trivial⟩, rfl⟩
  · replace H := ifF hc H; clear hc
    refine .skip ?_
    refine .seq ?_
    refine .seq ?_
    refine .region ?_
    refine .q (x := .d (slOf 1 rB8 v0)) (q_move rfl) rfl ?_
    refine .q (x := .d (cI (v0.length : Int))) (q_lenL (l := v0) (row := rB8) Tryd.underlying22 rfl rfl) rfl ?_
    refine .q (x := .d (cB (decide ((v0.length : Int) > 45)))) (q_gtr rfl rfl) rfl ?_
    refine .nil ?_
    refine .cond rfl (fun hc => ?_) (fun hc => ?_)
    · replace H := ifT hc H; clear hc
      refine .seq ?_
      refine .region ?_
      refine .q (x := .d (.agg (Record.row (⟨0, 0, 0, ([] : List UInt8), ([] : List UInt8), 0, 0, 0, 0, false, 0, false⟩ : Record)))) (q_loadOA one_31 sz_31 rfl rfl (Nat.le_of_ble_eq_true rfl) rfl) rfl ?_
      refine .u (u_store rfl rfl rfl rfl (Nat.le_of_ble_eq_true rfl) sz_31) rfl ?_
      refine .withSt (st' := ⟨[.row 31 [.d (cI 0), .d (cI 0), .d (cI 0), .d (cS ([] : List UInt8)), .d (cS ([] : List UInt8)), .d (cI 0), .d (cI 0), .d (cI 0), .d (cI 0), .d (cB false), .d (cI 0), .d (cB false)], .row 31 [.d (cI 0), .d (cI 0), .d (cI 0), .d (cS ([] : List UInt8)), .d (cS ([] : List UInt8)), .d (cI 0), .d (cI 0), .d (cI 0), .d (cI 0), .d (cB false), .d (cI 0), .d (cB false)]], []⟩) rfl ?_
      refine .q (x := .d (cI 3)) (q_assign rfl) rfl ?_
      refine .nil ?_
      refine .retN [.cell 2 31, .tmp 3] [.d (.agg (Record.row (⟨0, 0, 0, ([] : List UInt8), ([] : List UInt8), 0, 0, 0, 0, false, 0, false⟩ : Record))), .d (cI 3)] Tryd.func17 Tryd.results17 ⟨⟨⟨_, _, rfl⟩, q_loadOA one_31 sz_31 rfl rfl (Nat.le_of_ble_eq_true rfl) rfl⟩, rfl, trivial⟩ ?_
      cases H
      exact ⟨_, EVle.tupL (ds := [.agg (Record.row (⟨0, 0, 0, ([] : List UInt8), ([] : List UInt8), 0, 0, 0, 0, false, 0, false⟩ : Record)), cI 3]) ⟨.rfl' _, .rfl' _, trivial⟩, rfl⟩
    · replace H := ifF hc H; clear hc
      refine .skip ?_
      refine .seq ?_
      refine .seq ?_
      refine .drawn 7 hMix (by kernel_rfl) ?_
      show DOps _ _ _ _ _ _ _ (_ :: _) _ _ _
      refine .q (x := .d (slOf 1 rB8 v0)) (q_move rfl) rfl ?_
      obtain ⟨hk1, H⟩ := ck_some H
      refine .q (x := .d (slOf 1 rB8 (v0.take (Int.toNat ((44 : Int)))))) (q_slHL (l := v0) (row := rB8) Tryd.underlying22 hi5 hs5 rfl rfl rfl hk1) rfl ?_
      obtain ⟨y1, hy1, H⟩ := bind_some' H
      refine .g (x := .d (cU8 y1)) (g_call en_29 rfl rfl (c_f_billingref11_sum (hy1))) rfl ?_
      refine .q (x := .d (slOf 1 rB8 v0)) (q_move rfl) rfl ?_
      obtain ⟨hk2, H⟩ := ck_some H
      refine .q (x := .d (.ro (rB8 (nth v0 (Int.toNat (44)))))) (q_idxL (row := rB8) (l := v0) (i := 44) Tryd.underlying22 hi5 hs5 rfl rfl rfl hk2) rfl ?_
      refine .q (x := .d (cU8 (nth v0 (Int.toNat (44))))) (q_load one_5 rfl) rfl ?_
      refine .q (x := .d (cB (y1 != (nth v0 (Int.toNat (44)))))) (q8_neq (a := y1) (b := nth v0 (Int.toNat (44))) rfl rfl) rfl ?_
      refine .nil ?_
      show AOps _ _ _ _ _ _ [] _ _ _
      refine .nil ?_
      refine .cond rfl (fun hc => ?_) (fun hc => ?_)
      · replace H := ifT hc H; clear hc
        refine .seq ?_
        refine .region ?_
        refine .q (x := .d (.agg (Record.row (⟨0, 0, 0, ([] : List UInt8), ([] : List UInt8), 0, 0, 0, 0, false, 0, false⟩ : Record)))) (q_loadOA one_31 sz_31 rfl rfl (Nat.le_of_ble_eq_true rfl) rfl) rfl ?_
        refine .u (u_store rfl rfl rfl rfl (Nat.le_of_ble_eq_true rfl) sz_31) rfl ?_
        refine .withSt (st' := ⟨[.row 31 [.d (cI 0), .d (cI 0), .d (cI 0), .d (cS ([] : List UInt8)), .d (cS ([] : List UInt8)), .d (cI 0), .d (cI 0), .d (cI 0), .d (cI 0), .d (cB false), .d (cI 0), .d (cB false)], .row 31 [.d (cI 0), .d (cI 0), .d (cI 0), .d (cS ([] : List UInt8)), .d (cS ([] : List UInt8)), .d (cI 0), .d (cI 0), .d (cI 0), .d (cI 0), .d (cB false), .d (cI 0), .d (cB false)]], []⟩) rfl ?_
        refine .q (x := .d (cI 4)) (q_assign rfl) rfl ?_
        refine .nil ?_
        refine .retN [.cell 2 31, .tmp 3] [.d (.agg (Record.row (⟨0, 0, 0, ([] : List UInt8), ([] : List UInt8), 0, 0, 0, 0, false, 0, false⟩ : Record))), .d (cI 4)] Tryd.func17 Tryd.results17 ⟨⟨⟨_, _, rfl⟩, q_loadOA one_31 sz_31 rfl rfl (Nat.le_of_ble_eq_true rfl) rfl⟩, rfl, trivial⟩ ?_
        cases H
        exact ⟨_, EVle.tupL (ds := [.agg (Record.row (⟨0, 0, 0, ([] : List UInt8), ([] : List UInt8), 0, 0, 0, 0, false, 0, false⟩ : Record)), cI 4]) ⟨.rfl' _, .rfl' _, trivial⟩, rfl⟩
      · replace H := ifF hc H; clear hc
        refine .skip ?_
        refine .seq ?_
        refine .region ?_
        refine .g (x := .d (slOf 1 rI ([0, 1, 23, 29, 36, 41, 42] : List Int))) (g_buildSliceN (n := 7) (rows := ([0, 1, 23, 29, 36, 41, 42] : List Int).map rI) Tryd.underlying61 hi3 hs3 hz3 rfl rfl rfl rfl rfl) rfl ?_
        refine .q (x := .d (slOf 1 rI ([0, 1, 23, 29, 36, 41, 42] : List Int))) (q_assign rfl) rfl ?_
        refine .nil ?_
        refine .seq ?_
        refine .region ?_
        refine .g (x := .d (slOf 1 rI ([1, 6, 29, 36, 41, 42, 44] : List Int))) (g_buildSliceN (n := 7) (rows := ([1, 6, 29, 36, 41, 42, 44] : List Int).map rI) Tryd.underlying61 hi3 hs3 hz3 rfl rfl rfl rfl rfl) rfl ?_
        refine .q (x := .d (slOf 1 rI ([1, 6, 29, 36, 41, 42, 44] : List Int))) (q_assign rfl) rfl ?_
        refine .nil ?_
        refine .seq ?_
        refine .region ?_
        refine .q (x := .d (nilD)) (q_assign rfl) rfl ?_
        refine .nil ?_
        refine .seq ?_
        refine .region ?_
        refine .q (x := .d (slOf 1 rB8 v0)) (q_move rfl) rfl ?_
        obtain ⟨hk3, H⟩ := ck_some H
        refine .q (x := .d (.ro (rB8 (nth v0 (Int.toNat (6)))))) (q_idxL (row := rB8) (l := v0) (i := 6) Tryd.underlying22 hi5 hs5 rfl rfl rfl hk3) rfl ?_
        refine .q (x := .d (cU8 (nth v0 (Int.toNat (6))))) (q_load one_5 rfl) rfl ?_
        obtain ⟨hk4, H⟩ := ck_some H
        refine .q (x := .d (cU8 ((nth v0 (Int.toNat (6))) % 16))) (q8_rem (a := nth v0 (Int.toNat (6))) (b := 16) rfl rfl hk4) rfl ?_
        refine .q (x := .d (cB (decide (((nth v0 (Int.toNat (6))) % 16) ≤ 3)))) (q8_leq (a := (nth v0 (Int.toNat (6))) % 16) (b := 3) rfl rfl) rfl ?_
        refine .q (x := .d (cB (decide (((nth v0 (Int.toNat (6))) % 16) ≤ 3)))) (q_assign rfl) rfl ?_
        refine .nil ?_
        refine .seq ?_
        refine .seq ?_
        refine .region ?_
        refine .q (x := .d (cI 0)) (q_assign rfl) rfl ?_
        refine .nil ?_
        refine .tok (i := 7) (e := 3) (sz := 1) rfl ?_
        refine .withSt (st' := ⟨[.row 31 [.d (cI 0), .d (cI 0), .d (cI 0), .d (cS ([] : List UInt8)), .d (cS ([] : List UInt8)), .d (cI 0), .d (cI 0), .d (cI 0), .d (cI 0), .d (cB false), .d (cI 0), .d (cB false)], .row 31 [.d (cI 0), .d (cI 0), .d (cI 0), .d (cS ([] : List UInt8)), .d (cS ([] : List UInt8)), .d (cI 0), .d (cI 0), .d (cI 0), .d (cI 0), .d (cB false), .d (cI 0), .d (cB false)]], [⟨3, 1, ([] : List Int).length, none⟩]⟩) rfl ?_
        refine .blockJoin2 (ι := List Int × Bool) (fun s => [(0, .d (slOf 1 rB8 v0)), (2, .ref 0 0), (4, .ref 1 0), (7, .tsl 1 (s.1.map rI) 0), (8, .d (cB s.2))]) (fun s => ⟨[.row 31 [.d (cI 0), .d (cI 0), .d (cI 0), .d (cS ([] : List UInt8)), .d (cS ([] : List UInt8)), .d (cI 0), .d (cI 0), .d (cI 0), .d (cI 0), .d (cB false), .d (cI 0), .d (cB false)], .row 31 [.d (cI 0), .d (cI 0), .d (cI 0), .d (cS ([] : List UInt8)), .d (cS ([] : List UInt8)), .d (cI 0), .d (cI 0), .d (cI 0), .d (cI 0), .d (cB false), .d (cI 0), .d (cB false)]], [⟨3, 1, s.1.length, none⟩]⟩) (fun s => f_billingref11_Decode_j1 v0 s.1 s.2 = some r) ?_ ?_
        · rintro ⟨v7j1, v8j1⟩ H
          replace H : f_billingref11_Decode_j1 v0 v7j1 v8j1 = some r := H
          unfold f_billingref11_Decode_j1 at H
          change ARun _ _ _ _ _ _ [(0, .d (slOf 1 rB8 v0)), (2, .ref 0 0), (4, .ref 1 0), (7, .tsl 1 (v7j1.map rI) 0), (8, .d (cB v8j1))] ⟨[.row 31 [.d (cI 0), .d (cI 0), .d (cI 0), .d (cS ([] : List UInt8)), .d (cS ([] : List UInt8)), .d (cI 0), .d (cI 0), .d (cI 0), .d (cI 0), .d (cB false), .d (cI 0), .d (cB false)], .row 31 [.d (cI 0), .d (cI 0), .d (cI 0), .d (cS ([] : List UInt8)), .d (cS ([] : List UInt8)), .d (cI 0), .d (cI 0), .d (cI 0), .d (cI 0), .d (cB false), .d (cI 0), .d (cB false)]], [⟨3, 1, v7j1.length, none⟩]⟩
          refine .seq ?_
          refine .region ?_
          refine .q (x := .d (slOf 1 rB8 v0)) (q_move rfl) rfl ?_
          obtain ⟨hk5, H⟩ := ck_some H
          refine .q (x := .d (slOf 1 rB8 ((v0.take (Int.toNat ((15 : Int)))).drop (Int.toNat ((7 : Int)))))) (q_slLHL (l := v0) (row := rB8) Tryd.underlying22 hi5 hs5 rfl rfl rfl rfl hk5) rfl ?_
          obtain ⟨y2, hy2, H⟩ := bind_some' H
          refine .g (x := .d (.tup [cS y2.1, cB y2.2])) (g_call en_33 rfl rfl (c_f_billingref11_text (hy2))) rfl ?_
          refine .q (x := .d (.tup [cS y2.1, cB y2.2])) (q_move rfl) rfl ?_
          refine .q (x := .d (cS y2.1)) (q_extract rfl rfl) rfl ?_
          refine .q (x := .d (cB y2.2)) (q_extract rfl rfl) rfl ?_
          refine .q (x := .d (cS y2.1)) (q_assign rfl) rfl ?_
          refine .q (x := .d (cB y2.2)) (q_assign rfl) rfl ?_
          refine .nil ?_
          refine .seq ?_
          refine .region ?_
          refine .q (x := .d (slOf 1 rB8 v0)) (q_move rfl) rfl ?_
          obtain ⟨hk6, H⟩ := ck_some H
          refine .q (x := .d (slOf 1 rB8 ((v0.take (Int.toNat ((23 : Int)))).drop (Int.toNat ((15 : Int)))))) (q_slLHL (l := v0) (row := rB8) Tryd.underlying22 hi5 hs5 rfl rfl rfl rfl hk6) rfl ?_
          obtain ⟨y3, hy3, H⟩ := bind_some' H
          refine .g (x := .d (.tup [cS y3.1, cB y3.2])) (g_call en_33 rfl rfl (c_f_billingref11_text (hy3))) rfl ?_
          refine .q (x := .d (.tup [cS y3.1, cB y3.2])) (q_move rfl) rfl ?_
          refine .q (x := .d (cS y3.1)) (q_extract rfl rfl) rfl ?_
          refine .q (x := .d (cB y3.2)) (q_extract rfl rfl) rfl ?_
          refine .q (x := .d (cS y3.1)) (q_assign rfl) rfl ?_
          refine .q (x := .d (cB y3.2)) (q_assign rfl) rfl ?_
          refine .nil ?_
          refine .seq ?_
          refine .seq ?_
          refine .region ?_
          refine .q (x := .d (cB v8j1)) (q_move rfl) rfl ?_
          refine .q (x := .d (cB (!v8j1))) (q_not rfl) rfl ?_
          refine .q (x := .d (cB (!v8j1))) (q_move rfl) rfl ?_
          refine .guardG (b := (!(!v8j1))) (x := .d (cB y2.2)) (env' := [(13, _)]) rfl rfl rfl ⟨.inl rfl, trivial⟩ rfl (fun hg => OpQ.g (q_move rfl)) ?_
          refine .guardG (b := (!(!v8j1))) (x := .d (cB (!y2.2))) (env' := [(85, _)]) rfl rfl rfl ⟨.inr (.inl rfl), trivial⟩ rfl (fun hg => OpQ.g (q_not rfl)) ?_
          refine .q (x := .d (cB ((!v8j1) || (!y2.2)))) (q_pickOrB rfl rfl rfl) rfl ?_
          refine .q (x := .d (cB ((!v8j1) || (!y2.2)))) (q_move rfl) rfl ?_
          refine .guardG (b := (!((!v8j1) || (!y2.2)))) (x := .d (cB y3.2)) (env' := [(15, _)]) rfl rfl rfl ⟨.inl rfl, trivial⟩ rfl (fun hg => OpQ.g (q_move rfl)) ?_
          refine .guardG (b := (!((!v8j1) || (!y2.2)))) (x := .d (cB (!y3.2))) (env' := [(89, _)]) rfl rfl rfl ⟨.inr (.inl rfl), trivial⟩ rfl (fun hg => OpQ.g (q_not rfl)) ?_
          refine .q (x := .d (cB (((!v8j1) || (!y2.2)) || (!y3.2)))) (q_pickOrB rfl rfl rfl) rfl ?_
          refine .nil ?_
          refine .cond rfl (fun hc => ?_) (fun hc => ?_)
          · replace H := ifT hc H; clear hc
            refine .seq ?_
            refine .region ?_
            refine .q (x := .d (.agg (Record.row (⟨0, 0, 0, ([] : List UInt8), ([] : List UInt8), 0, 0, 0, 0, false, 0, false⟩ : Record)))) (q_loadOA one_31 sz_31 rfl rfl (Nat.le_of_ble_eq_true rfl) rfl) rfl ?_
            refine .u (u_store rfl rfl rfl rfl (Nat.le_of_ble_eq_true rfl) sz_31) rfl ?_
            refine .withSt (st' := ⟨[.row 31 [.d (cI 0), .d (cI 0), .d (cI 0), .d (cS ([] : List UInt8)), .d (cS ([] : List UInt8)), .d (cI 0), .d (cI 0), .d (cI 0), .d (cI 0), .d (cB false), .d (cI 0), .d (cB false)], .row 31 [.d (cI 0), .d (cI 0), .d (cI 0), .d (cS ([] : List UInt8)), .d (cS ([] : List UInt8)), .d (cI 0), .d (cI 0), .d (cI 0), .d (cI 0), .d (cB false), .d (cI 0), .d (cB false)]], [⟨3, 1, v7j1.length, none⟩]⟩) rfl ?_
            refine .q (x := .d (cI 1)) (q_assign rfl) rfl ?_
            refine .nil ?_
            refine .retN [.cell 2 31, .tmp 3] [.d (.agg (Record.row (⟨0, 0, 0, ([] : List UInt8), ([] : List UInt8), 0, 0, 0, 0, false, 0, false⟩ : Record))), .d (cI 1)] Tryd.func17 Tryd.results17 ⟨⟨⟨_, _, rfl⟩, q_loadOA one_31 sz_31 rfl rfl (Nat.le_of_ble_eq_true rfl) rfl⟩, rfl, trivial⟩ ?_
            cases H
            exact ⟨_, EVle.tupL (ds := [.agg (Record.row (⟨0, 0, 0, ([] : List UInt8), ([] : List UInt8), 0, 0, 0, 0, false, 0, false⟩ : Record)), cI 1]) ⟨.rfl' _, .rfl' _, trivial⟩, rfl⟩
          · replace H := ifF hc H; clear hc
            refine .skip ?_
            refine .seq ?_
            refine .drawnA 39 16 31 hMix (by kernel_rfl) rfl zr_31 rfl rfl rfl ?_
            show EOps _ _ _ _ _ _ _ _ _ _ (_ :: _) _ _ _
            refine .q (x := .tsl 1 (v7j1.map rI) 0) (q_move rfl) rfl ?_
            obtain ⟨hk7, H⟩ := ck_some H
            refine .q (x := .d (.ro (rI (nth v7j1 (Int.toNat (0)))))) (q_idxL (row := rI) (l := v7j1) (i := 0) Tryd.underlying61 hi3 hs3 rfl rfl rfl hk7) rfl ?_
            refine .q (x := .d (cI (nth v7j1 (Int.toNat (0))))) (q_load one_3 rfl) rfl ?_
            refine .q (x := .tsl 1 (v7j1.map rI) 0) (q_move rfl) rfl ?_
            obtain ⟨hk8, H⟩ := ck_some H
            refine .q (x := .d (.ro (rI (nth v7j1 (Int.toNat (1)))))) (q_idxL (row := rI) (l := v7j1) (i := 1) Tryd.underlying61 hi3 hs3 rfl rfl rfl hk8) rfl ?_
            refine .q (x := .d (cI (nth v7j1 (Int.toNat (1))))) (q_load one_3 rfl) rfl ?_
            refine .q (x := .d (slOf 1 rB8 v0)) (q_move rfl) rfl ?_
            obtain ⟨hk9, H⟩ := ck_some H
            refine .q (x := .d (.ro (rB8 (nth v0 (Int.toNat (6)))))) (q_idxL (row := rB8) (l := v0) (i := 6) Tryd.underlying22 hi5 hs5 rfl rfl rfl hk9) rfl ?_
            refine .q (x := .d (cU8 (nth v0 (Int.toNat (6))))) (q_load one_5 rfl) rfl ?_
            obtain ⟨hk10, H⟩ := ck_some H
            refine .q (x := .d (cU8 ((nth v0 (Int.toNat (6))) / 16))) (q8_quo (a := nth v0 (Int.toNat (6))) (b := 16) rfl rfl hk10) rfl ?_
            refine .q (x := .d (cI (((nth v0 (Int.toNat (6))) / 16).toNat : Int))) (q_conv8i (a := (nth v0 (Int.toNat (6))) / 16) Tryd.underlying5 Tryd.underlying3 rfl) rfl ?_
            refine .q (x := .d (cS y2.1)) (q_move rfl) rfl ?_
            refine .q (x := .d (cS y3.1)) (q_move rfl) rfl ?_
            refine .q (x := .tsl 1 (v7j1.map rI) 0) (q_move rfl) rfl ?_
            obtain ⟨hk11, H⟩ := ck_some H
            refine .q (x := .d (.ro (rI (nth v7j1 (Int.toNat (2)))))) (q_idxL (row := rI) (l := v7j1) (i := 2) Tryd.underlying61 hi3 hs3 rfl rfl rfl hk11) rfl ?_
            refine .q (x := .d (cI (nth v7j1 (Int.toNat (2))))) (q_load one_3 rfl) rfl ?_
            refine .q (x := .tsl 1 (v7j1.map rI) 0) (q_move rfl) rfl ?_
            obtain ⟨hk12, H⟩ := ck_some H
            refine .q (x := .d (.ro (rI (nth v7j1 (Int.toNat (3)))))) (q_idxL (row := rI) (l := v7j1) (i := 3) Tryd.underlying61 hi3 hs3 rfl rfl rfl hk12) rfl ?_
            refine .q (x := .d (cI (nth v7j1 (Int.toNat (3))))) (q_load one_3 rfl) rfl ?_
            refine .q (x := .tsl 1 (v7j1.map rI) 0) (q_move rfl) rfl ?_
            obtain ⟨hk13, H⟩ := ck_some H
            refine .q (x := .d (.ro (rI (nth v7j1 (Int.toNat (4)))))) (q_idxL (row := rI) (l := v7j1) (i := 4) Tryd.underlying61 hi3 hs3 rfl rfl rfl hk13) rfl ?_
            refine .q (x := .d (cI (nth v7j1 (Int.toNat (4))))) (q_load one_3 rfl) rfl ?_
            refine .q (x := .tsl 1 (v7j1.map rI) 0) (q_move rfl) rfl ?_
            obtain ⟨hk14, H⟩ := ck_some H
            refine .q (x := .d (.ro (rI (nth v7j1 (Int.toNat (5)))))) (q_idxL (row := rI) (l := v7j1) (i := 5) Tryd.underlying61 hi3 hs3 rfl rfl rfl hk14) rfl ?_
            refine .q (x := .d (cI (nth v7j1 (Int.toNat (5))))) (q_load one_3 rfl) rfl ?_
            refine .q (x := .tsl 1 (v7j1.map rI) 0) (q_move rfl) rfl ?_
            obtain ⟨hk15, H⟩ := ck_some H
            refine .q (x := .d (.ro (rI (nth v7j1 (Int.toNat (6)))))) (q_idxL (row := rI) (l := v7j1) (i := 6) Tryd.underlying61 hi3 hs3 rfl rfl rfl hk15) rfl ?_
            refine .q (x := .d (cI (nth v7j1 (Int.toNat (6))))) (q_load one_3 rfl) rfl ?_
            refine .q (x := .d (slOf 1 rB8 v0)) (q_move rfl) rfl ?_
            obtain ⟨hk16, H⟩ := ck_some H
            refine .q (x := .d (.ro (rB8 (nth v0 (Int.toNat (6)))))) (q_idxL (row := rB8) (l := v0) (i := 6) Tryd.underlying22 hi5 hs5 rfl rfl rfl hk16) rfl ?_
            refine .q (x := .d (cU8 (nth v0 (Int.toNat (6))))) (q_load one_5 rfl) rfl ?_
            obtain ⟨hk17, H⟩ := ck_some H
            refine .q (x := .d (cU8 ((nth v0 (Int.toNat (6))) % 2))) (q8_rem (a := nth v0 (Int.toNat (6))) (b := 2) rfl rfl hk17) rfl ?_
            refine .q (x := .d (cB (((nth v0 (Int.toNat (6))) % 2) == 1))) (q8_eql (a := (nth v0 (Int.toNat (6))) % 2) (b := 1) rfl rfl) rfl ?_
            refine .q (x := .d (slOf 1 rB8 v0)) (q_move rfl) rfl ?_
            obtain ⟨hk18, H⟩ := ck_some H
            refine .q (x := .d (.ro (rB8 (nth v0 (Int.toNat (6)))))) (q_idxL (row := rB8) (l := v0) (i := 6) Tryd.underlying22 hi5 hs5 rfl rfl rfl hk18) rfl ?_
            refine .q (x := .d (cU8 (nth v0 (Int.toNat (6))))) (q_load one_5 rfl) rfl ?_
            obtain ⟨hk19, H⟩ := ck_some H
            refine .q (x := .d (cU8 ((nth v0 (Int.toNat (6))) % 16))) (q8_rem (a := nth v0 (Int.toNat (6))) (b := 16) rfl rfl hk19) rfl ?_
            refine .q (x := .d (cB (decide (((nth v0 (Int.toNat (6))) % 16) ≥ 2)))) (q8_geq (a := (nth v0 (Int.toNat (6))) % 16) (b := 2) rfl rfl) rfl ?_
            refine .q (x := .d (.agg (Record.row (⟨nth v7j1 (Int.toNat (0)), nth v7j1 (Int.toNat (1)), (((nth v0 (Int.toNat (6))) / 16).toNat : Int), y2.1, y3.1, nth v7j1 (Int.toNat (2)), nth v7j1 (Int.toNat (3)), nth v7j1 (Int.toNat (4)), nth v7j1 (Int.toNat (5)), (((nth v0 (Int.toNat (6))) % 2) == 1), nth v7j1 (Int.toNat (6)), decide (((nth v0 (Int.toNat (6))) % 16) ≥ 2)⟩ : Record)))) (q_buildP pl_31 hi31 hz31 rfl (by kernel_rfl)) rfl ?_
            refine .nil ?_
            refine .withSt (st' := ⟨[.row 31 [.d (cI 0), .d (cI 0), .d (cI 0), .d (cS ([] : List UInt8)), .d (cS ([] : List UInt8)), .d (cI 0), .d (cI 0), .d (cI 0), .d (cI 0), .d (cB false), .d (cI 0), .d (cB false)], .row 31 [.d (cI 0), .d (cI 0), .d (cI 0), .d (cS ([] : List UInt8)), .d (cS ([] : List UInt8)), .d (cI 0), .d (cI 0), .d (cI 0), .d (cI 0), .d (cB false), .d (cI 0), .d (cB false)], .row 31 [.d (cI 0), .d (cI 0), .d (cI 0), .d (cS ([] : List UInt8)), .d (cS ([] : List UInt8)), .d (cI 0), .d (cI 0), .d (cI 0), .d (cI 0), .d (cB false), .d (cI 0), .d (cB false)]], [⟨3, 1, v7j1.length, none⟩]⟩) rfl ?_
            show AOps _ _ _ _ _ _ (_ :: _) _ _ _
            refine .u (u_store rfl rfl rfl rfl (Nat.le_of_ble_eq_true rfl) sz_31) rfl ?_
            refine .withSt (st' := ⟨[.row 31 [.d (cI 0), .d (cI 0), .d (cI 0), .d (cS ([] : List UInt8)), .d (cS ([] : List UInt8)), .d (cI 0), .d (cI 0), .d (cI 0), .d (cI 0), .d (cB false), .d (cI 0), .d (cB false)], .row 31 [.d (cI 0), .d (cI 0), .d (cI 0), .d (cS ([] : List UInt8)), .d (cS ([] : List UInt8)), .d (cI 0), .d (cI 0), .d (cI 0), .d (cI 0), .d (cB false), .d (cI 0), .d (cB false)], .row 31 [.d (cI (nth v7j1 (Int.toNat (0)))), .d (cI (nth v7j1 (Int.toNat (1)))), .d (cI (((nth v0 (Int.toNat (6))) / 16).toNat : Int)), .d (cS y2.1), .d (cS y3.1), .d (cI (nth v7j1 (Int.toNat (2)))), .d (cI (nth v7j1 (Int.toNat (3)))), .d (cI (nth v7j1 (Int.toNat (4)))), .d (cI (nth v7j1 (Int.toNat (5)))), .d (cB (((nth v0 (Int.toNat (6))) % 2) == 1)), .d (cI (nth v7j1 (Int.toNat (6)))), .d (cB (decide (((nth v0 (Int.toNat (6))) % 16) ≥ 2)))]], [⟨3, 1, v7j1.length, none⟩]⟩) rfl ?_
            refine .nil ?_
            refine .seq ?_
            refine .seq ?_
            refine .region ?_
            refine .q (x := .d (.agg (Record.row (⟨nth v7j1 (Int.toNat (0)), nth v7j1 (Int.toNat (1)), (((nth v0 (Int.toNat (6))) / 16).toNat : Int), y2.1, y3.1, nth v7j1 (Int.toNat (2)), nth v7j1 (Int.toNat (3)), nth v7j1 (Int.toNat (4)), nth v7j1 (Int.toNat (5)), (((nth v0 (Int.toNat (6))) % 2) == 1), nth v7j1 (Int.toNat (6)), decide (((nth v0 (Int.toNat (6))) % 16) ≥ 2)⟩ : Record)))) (q_loadOA one_31 sz_31 rfl rfl (Nat.le_of_ble_eq_true rfl) rfl) rfl ?_
            obtain ⟨y4, hy4, H⟩ := bind_some' H
            refine .g (x := .d (cI y4)) (g_call en_27 rfl rfl (c_f_billingref09_Error (hy4))) rfl ?_
            refine .q (x := .d (cI y4)) (q_assign rfl) rfl ?_
            refine .nil ?_
            refine .seq ?_
            refine .region ?_
            refine .q (x := .d (cI y4)) (q_move rfl) rfl ?_
            refine .q (x := .d (cB (y4 != 0))) (q_neq rfl rfl) rfl ?_
            refine .nil ?_
            refine .cond rfl (fun hc => ?_) (fun hc => ?_)
            · replace H := ifT hc H; clear hc
              refine .seq ?_
              refine .region ?_
              refine .q (x := .d (.agg (Record.row (⟨0, 0, 0, ([] : List UInt8), ([] : List UInt8), 0, 0, 0, 0, false, 0, false⟩ : Record)))) (q_loadOA one_31 sz_31 rfl rfl (Nat.le_of_ble_eq_true rfl) rfl) rfl ?_
              refine .q (x := .d (cI y4)) (q_move rfl) rfl ?_
              refine .u (u_store rfl rfl rfl rfl (Nat.le_of_ble_eq_true rfl) sz_31) rfl ?_
              refine .withSt (st' := ⟨[.row 31 [.d (cI 0), .d (cI 0), .d (cI 0), .d (cS ([] : List UInt8)), .d (cS ([] : List UInt8)), .d (cI 0), .d (cI 0), .d (cI 0), .d (cI 0), .d (cB false), .d (cI 0), .d (cB false)], .row 31 [.d (cI 0), .d (cI 0), .d (cI 0), .d (cS ([] : List UInt8)), .d (cS ([] : List UInt8)), .d (cI 0), .d (cI 0), .d (cI 0), .d (cI 0), .d (cB false), .d (cI 0), .d (cB false)], .row 31 [.d (cI (nth v7j1 (Int.toNat (0)))), .d (cI (nth v7j1 (Int.toNat (1)))), .d (cI (((nth v0 (Int.toNat (6))) / 16).toNat : Int)), .d (cS y2.1), .d (cS y3.1), .d (cI (nth v7j1 (Int.toNat (2)))), .d (cI (nth v7j1 (Int.toNat (3)))), .d (cI (nth v7j1 (Int.toNat (4)))), .d (cI (nth v7j1 (Int.toNat (5)))), .d (cB (((nth v0 (Int.toNat (6))) % 2) == 1)), .d (cI (nth v7j1 (Int.toNat (6)))), .d (cB (decide (((nth v0 (Int.toNat (6))) % 16) ≥ 2)))]], [⟨3, 1, v7j1.length, none⟩]⟩) rfl ?_
              refine .q (x := .d (cI y4)) (q_assign rfl) rfl ?_
              refine .nil ?_
              refine .retN [.cell 2 31, .tmp 3] [.d (.agg (Record.row (⟨0, 0, 0, ([] : List UInt8), ([] : List UInt8), 0, 0, 0, 0, false, 0, false⟩ : Record))), .d (cI y4)] Tryd.func17 Tryd.results17 ⟨⟨⟨_, _, rfl⟩, q_loadOA one_31 sz_31 rfl rfl (Nat.le_of_ble_eq_true rfl) rfl⟩, rfl, trivial⟩ ?_
              cases H
              exact ⟨_, EVle.tupL (ds := [.agg (Record.row (⟨0, 0, 0, ([] : List UInt8), ([] : List UInt8), 0, 0, 0, 0, false, 0, false⟩ : Record)), cI y4]) ⟨.rfl' _, .rfl' _, trivial⟩, rfl⟩
            · replace H := ifF hc H; clear hc
              refine .skip ?_
              refine .seq ?_
              refine .region ?_
              refine .q (x := .d (.agg (Record.row (⟨nth v7j1 (Int.toNat (0)), nth v7j1 (Int.toNat (1)), (((nth v0 (Int.toNat (6))) / 16).toNat : Int), y2.1, y3.1, nth v7j1 (Int.toNat (2)), nth v7j1 (Int.toNat (3)), nth v7j1 (Int.toNat (4)), nth v7j1 (Int.toNat (5)), (((nth v0 (Int.toNat (6))) % 2) == 1), nth v7j1 (Int.toNat (6)), decide (((nth v0 (Int.toNat (6))) % 16) ≥ 2)⟩ : Record)))) (q_loadOA one_31 sz_31 rfl rfl (Nat.le_of_ble_eq_true rfl) rfl) rfl ?_
              refine .u (u_store rfl rfl rfl rfl (Nat.le_of_ble_eq_true rfl) sz_31) rfl ?_
              refine .withSt (st' := ⟨[.row 31 [.d (cI (nth v7j1 (Int.toNat (0)))), .d (cI (nth v7j1 (Int.toNat (1)))), .d (cI (((nth v0 (Int.toNat (6))) / 16).toNat : Int)), .d (cS y2.1), .d (cS y3.1), .d (cI (nth v7j1 (Int.toNat (2)))), .d (cI (nth v7j1 (Int.toNat (3)))), .d (cI (nth v7j1 (Int.toNat (4)))), .d (cI (nth v7j1 (Int.toNat (5)))), .d (cB (((nth v0 (Int.toNat (6))) % 2) == 1)), .d (cI (nth v7j1 (Int.toNat (6)))), .d (cB (decide (((nth v0 (Int.toNat (6))) % 16) ≥ 2)))], .row 31 [.d (cI 0), .d (cI 0), .d (cI 0), .d (cS ([] : List UInt8)), .d (cS ([] : List UInt8)), .d (cI 0), .d (cI 0), .d (cI 0), .d (cI 0), .d (cB false), .d (cI 0), .d (cB false)], .row 31 [.d (cI (nth v7j1 (Int.toNat (0)))), .d (cI (nth v7j1 (Int.toNat (1)))), .d (cI (((nth v0 (Int.toNat (6))) / 16).toNat : Int)), .d (cS y2.1), .d (cS y3.1), .d (cI (nth v7j1 (Int.toNat (2)))), .d (cI (nth v7j1 (Int.toNat (3)))), .d (cI (nth v7j1 (Int.toNat (4)))), .d (cI (nth v7j1 (Int.toNat (5)))), .d (cB (((nth v0 (Int.toNat (6))) % 2) == 1)), .d (cI (nth v7j1 (Int.toNat (6)))), .d (cB (decide (((nth v0 (Int.toNat (6))) % 16) ≥ 2)))]], [⟨3, 1, v7j1.length, none⟩]⟩) rfl ?_
              refine .q (x := .d (cI 0)) (q_assign rfl) rfl ?_
              refine .nil ?_
              refine .retN [.cell 2 31, .tmp 3] [.d (.agg (Record.row (⟨nth v7j1 (Int.toNat (0)), nth v7j1 (Int.toNat (1)), (((nth v0 (Int.toNat (6))) / 16).toNat : Int), y2.1, y3.1, nth v7j1 (Int.toNat (2)), nth v7j1 (Int.toNat (3)), nth v7j1 (Int.toNat (4)), nth v7j1 (Int.toNat (5)), (((nth v0 (Int.toNat (6))) % 2) == 1), nth v7j1 (Int.toNat (6)), decide (((nth v0 (Int.toNat (6))) % 16) ≥ 2)⟩ : Record))), .d (cI 0)] Tryd.func17 Tryd.results17 ⟨⟨⟨_, _, rfl⟩, q_loadOA one_31 sz_31 rfl rfl (Nat.le_of_ble_eq_true rfl) rfl⟩, rfl, trivial⟩ ?_
              cases H
              exact ⟨_, EVle.tupL (ds := [.agg (Record.row (⟨nth v7j1 (Int.toNat (0)), nth v7j1 (Int.toNat (1)), (((nth v0 (Int.toNat (6))) / 16).toNat : Int), y2.1, y3.1, nth v7j1 (Int.toNat (2)), nth v7j1 (Int.toNat (3)), nth v7j1 (Int.toNat (4)), nth v7j1 (Int.toNat (5)), (((nth v0 (Int.toNat (6))) % 2) == 1), nth v7j1 (Int.toNat (6)), decide (((nth v0 (Int.toNat (6))) % 16) ≥ 2)⟩ : Record)), cI 0]) ⟨.rfl' _, .rfl' _, trivial⟩, rfl⟩
        · intro hj1 hj1x
          obtain ⟨n1, H⟩ := loop_some H
          refine .withSt (st' := ⟨[.row 31 [.d (cI 0), .d (cI 0), .d (cI 0), .d (cS ([] : List UInt8)), .d (cS ([] : List UInt8)), .d (cI 0), .d (cI 0), .d (cI 0), .d (cI 0), .d (cB false), .d (cI 0), .d (cB false)], .row 31 [.d (cI 0), .d (cI 0), .d (cI 0), .d (cS ([] : List UInt8)), .d (cS ([] : List UInt8)), .d (cI 0), .d (cI 0), .d (cI 0), .d (cI 0), .d (cB false), .d (cI 0), .d (cB false)]], [⟨3, 1, ([] : List Int).length, none⟩]⟩) rfl <| .loop (ι := Nat × (List Int × Bool × Int)) (fun p => [(0, .d (slOf 1 rB8 v0)), (2, .ref 0 0), (4, .ref 1 0), (5, .d (slOf 1 rI ([0, 1, 23, 29, 36, 41, 42] : List Int))), (6, .d (slOf 1 rI ([1, 6, 29, 36, 41, 42, 44] : List Int))), (7, .tsl 1 (p.2.1.map rI) 0), (8, .d (cB p.2.2.1)), (9, .d (cI p.2.2.2))]) (fun p => ⟨[.row 31 [.d (cI 0), .d (cI 0), .d (cI 0), .d (cS ([] : List UInt8)), .d (cS ([] : List UInt8)), .d (cI 0), .d (cI 0), .d (cI 0), .d (cI 0), .d (cB false), .d (cI 0), .d (cB false)], .row 31 [.d (cI 0), .d (cI 0), .d (cI 0), .d (cS ([] : List UInt8)), .d (cS ([] : List UInt8)), .d (cI 0), .d (cI 0), .d (cI 0), .d (cI 0), .d (cB false), .d (cI 0), .d (cB false)]], [⟨3, 1, p.2.1.length, none⟩]⟩) (fun p => iter (fun s => f_billingref11_Decode_l1 v0 s.1 s.2.1 s.2.2) p.1 p.2 = some r) (·.1) (n1, (([] : List Int), decide (((nth v0 (Int.toNat (6))) % 16) ≤ 3), 0)) H (.cons rfl (.rfl' _) (.cons rfl (.rfl' _) (.cons rfl (.rfl' _) (.cons rfl (.rfl' _) (.cons rfl (.rfl' _) (.cons rfl (.rfl' _) (.cons rfl (.rfl' _) (.cons rfl (.rfl' _) (.nil))))))))) rfl ?_
          rintro ⟨m1, v7l1, v8l1, v9l1⟩ HI ih1
          obtain ⟨n1, q1, hm1, H, HK1⟩ := iter_succ HI
          clear HI
          replace H : f_billingref11_Decode_l1 v0 v7l1 v8l1 v9l1 = some q1 := H
          unfold f_billingref11_Decode_l1 at H
          change ARun _ _ _ _ _ _ [(0, .d (slOf 1 rB8 v0)), (2, .ref 0 0), (4, .ref 1 0), (5, .d (slOf 1 rI ([0, 1, 23, 29, 36, 41, 42] : List Int))), (6, .d (slOf 1 rI ([1, 6, 29, 36, 41, 42, 44] : List Int))), (7, .tsl 1 (v7l1.map rI) 0), (8, .d (cB v8l1)), (9, .d (cI v9l1))] ⟨[.row 31 [.d (cI 0), .d (cI 0), .d (cI 0), .d (cS ([] : List UInt8)), .d (cS ([] : List UInt8)), .d (cI 0), .d (cI 0), .d (cI 0), .d (cI 0), .d (cB false), .d (cI 0), .d (cB false)], .row 31 [.d (cI 0), .d (cI 0), .d (cI 0), .d (cS ([] : List UInt8)), .d (cS ([] : List UInt8)), .d (cI 0), .d (cI 0), .d (cI 0), .d (cI 0), .d (cB false), .d (cI 0), .d (cB false)]], [⟨3, 1, v7l1.length, none⟩]⟩
          refine .seq ?_
          refine .seq ?_
          refine .region ?_
          refine .q (x := .d (cI v9l1)) (q_move rfl) rfl ?_
          refine .q (x := .d (slOf 1 rI ([0, 1, 23, 29, 36, 41, 42] : List Int))) (q_move rfl) rfl ?_
          refine .q (x := .d (cI (([0, 1, 23, 29, 36, 41, 42] : List Int).length : Int))) (q_lenL (l := ([0, 1, 23, 29, 36, 41, 42] : List Int)) (row := rI) Tryd.underlying61 rfl rfl) rfl ?_
          refine .q (x := .d (cB (decide (v9l1 < (([0, 1, 23, 29, 36, 41, 42] : List Int).length : Int))))) (q_lss rfl rfl) rfl ?_
          refine .nil ?_
          refine .cond rfl (fun hc => ?_) (fun hc => ?_)
          · replace H := ifT hc H; clear hc
            refine .skip ?_
            refine .seq ?_
            refine .block ?_
            refine .seq ?_
            refine .drawn 16 hMix (by kernel_rfl) ?_
            show DOps _ _ _ _ _ _ _ (_ :: _) _ _ _
            refine .q (x := .d (slOf 1 rB8 v0)) (q_move rfl) rfl ?_
            refine .q (x := .d (slOf 1 rI ([0, 1, 23, 29, 36, 41, 42] : List Int))) (q_move rfl) rfl ?_
            refine .q (x := .d (cI v9l1)) (q_move rfl) rfl ?_
            obtain ⟨hk20, H⟩ := ck_some H
            refine .q (x := .d (.ro (rI (nth ([0, 1, 23, 29, 36, 41, 42] : List Int) (Int.toNat (v9l1)))))) (q_idxL (row := rI) (l := ([0, 1, 23, 29, 36, 41, 42] : List Int)) (i := v9l1) Tryd.underlying61 hi3 hs3 rfl rfl rfl hk20) rfl ?_
            refine .q (x := .d (cI (nth ([0, 1, 23, 29, 36, 41, 42] : List Int) (Int.toNat (v9l1))))) (q_load one_3 rfl) rfl ?_
            refine .q (x := .d (slOf 1 rI ([1, 6, 29, 36, 41, 42, 44] : List Int))) (q_move rfl) rfl ?_
            refine .q (x := .d (cI v9l1)) (q_move rfl) rfl ?_
            obtain ⟨hk21, H⟩ := ck_some H
            refine .q (x := .d (.ro (rI (nth ([1, 6, 29, 36, 41, 42, 44] : List Int) (Int.toNat (v9l1)))))) (q_idxL (row := rI) (l := ([1, 6, 29, 36, 41, 42, 44] : List Int)) (i := v9l1) Tryd.underlying61 hi3 hs3 rfl rfl rfl hk21) rfl ?_
            refine .q (x := .d (cI (nth ([1, 6, 29, 36, 41, 42, 44] : List Int) (Int.toNat (v9l1))))) (q_load one_3 rfl) rfl ?_
            obtain ⟨hk22, H⟩ := ck_some H
            refine .q (x := .d (slOf 1 rB8 ((v0.take (Int.toNat (nth ([1, 6, 29, 36, 41, 42, 44] : List Int) (Int.toNat (v9l1))))).drop (Int.toNat (nth ([0, 1, 23, 29, 36, 41, 42] : List Int) (Int.toNat (v9l1))))))) (q_slLHL (l := v0) (row := rB8) Tryd.underlying22 hi5 hs5 rfl rfl rfl rfl hk22) rfl ?_
            obtain ⟨y5, hy5, H⟩ := bind_some' H
            refine .g (x := .d (.tup [cI y5.1, cI y5.2])) (g_call en_12 rfl rfl (c_f_billingref11_Decimal (hy5))) rfl ?_
            refine .q (x := .d (.tup [cI y5.1, cI y5.2])) (q_move rfl) rfl ?_
            refine .q (x := .d (cI y5.1)) (q_extract rfl rfl) rfl ?_
            refine .q (x := .d (cI y5.2)) (q_extract rfl rfl) rfl ?_
            refine .q (x := .d (cI y5.1)) (q_assign rfl) rfl ?_
            refine .q (x := .d (cI y5.2)) (q_assign rfl) rfl ?_
            refine .nil ?_
            show AOps _ _ _ _ _ _ [] _ _ _
            refine .nil ?_
            refine .seq ?_
            refine .region ?_
            refine .q (x := .tsl 1 (v7l1.map rI) 0) (q_move rfl) rfl ?_
            refine .q (x := .d (cI y5.1)) (q_move rfl) rfl ?_
            refine .g (x := .d (slOf 1 rI ([y5.1] : List Int))) (g_buildSlice1 Tryd.underlying61 hi3 hs3 hz3 rfl rfl rfl rfl rfl) rfl ?_
            obtain ⟨hk23, H⟩ := ck_some H
            refine .v (x := .tsl 1 ((v7l1 ++ ([y5.1] : List Int)).map rI) 0) (v_appendL (l := v7l1) (l' := ([y5.1] : List Int)) (row := rI) Tryd.underlying61 hi3 hz3 hs3 rfl (by rw [hb3]; decide) rfl rfl rfl rfl hk23) rfl ?_
            refine .withSt (st' := ⟨[.row 31 [.d (cI 0), .d (cI 0), .d (cI 0), .d (cS ([] : List UInt8)), .d (cS ([] : List UInt8)), .d (cI 0), .d (cI 0), .d (cI 0), .d (cI 0), .d (cB false), .d (cI 0), .d (cB false)], .row 31 [.d (cI 0), .d (cI 0), .d (cI 0), .d (cS ([] : List UInt8)), .d (cS ([] : List UInt8)), .d (cI 0), .d (cI 0), .d (cI 0), .d (cI 0), .d (cB false), .d (cI 0), .d (cB false)]], [⟨3, 1, (v7l1 ++ ([y5.1] : List Int)).length, none⟩]⟩) rfl ?_
            refine .q (x := .tsl 1 ((v7l1 ++ ([y5.1] : List Int)).map rI) 0) (q_assign rfl) rfl ?_
            refine .nil ?_
            refine .region ?_
            refine .q (x := .d (cB v8l1)) (q_move rfl) rfl ?_
            refine .q (x := .d (cB v8l1)) (q_move rfl) rfl ?_
            refine .guardG (b := v8l1) (x := .d (cI y5.2)) (env' := [(11, _)]) rfl rfl rfl ⟨.inl rfl, trivial⟩ rfl (fun hg => OpQ.g (q_move rfl)) ?_
            refine .guardG (b := v8l1) (x := .d (cB (y5.2 == 0))) (env' := [(67, _)]) rfl rfl rfl ⟨.inr (.inl rfl), trivial⟩ rfl (fun hg => OpQ.g (q_eql rfl rfl)) ?_
            refine .q (x := .d (cB (v8l1 && (y5.2 == 0)))) (q_pickAndB rfl rfl rfl) rfl ?_
            refine .q (x := .d (cB (v8l1 && (y5.2 == 0)))) (q_assign rfl) rfl ?_
            refine .nil ?_
            refine .inBlock ?_
            refine .region ?_
            refine .q (x := .d (cI v9l1)) (q_move rfl) rfl ?_
            obtain ⟨hk24, H⟩ := ck_some H
            refine .q (x := .d (cI (v9l1 + 1))) (q_addI rfl rfl hk24.1 hk24.2) rfl ?_
            refine .q (x := .d (cI (v9l1 + 1))) (q_assign rfl) rfl ?_
            refine .nil ?_
            cases H
            exact .withSt (st' := ⟨[.row 31 [.d (cI 0), .d (cI 0), .d (cI 0), .d (cS ([] : List UInt8)), .d (cS ([] : List UInt8)), .d (cI 0), .d (cI 0), .d (cI 0), .d (cI 0), .d (cB false), .d (cI 0), .d (cB false)], .row 31 [.d (cI 0), .d (cI 0), .d (cI 0), .d (cS ([] : List UInt8)), .d (cS ([] : List UInt8)), .d (cI 0), .d (cI 0), .d (cI 0), .d (cI 0), .d (cB false), .d (cI 0), .d (cB false)]], [⟨3, 1, (v7l1 ++ ([y5.1] : List Int)).length, none⟩]⟩) rfl <| .sub (.cons rfl (.rfl' _) (.cons rfl (.rfl' _) (.cons rfl (.rfl' _) (.cons rfl (.rfl' _) (.cons rfl (.rfl' _) (.cons rfl (.rfl' _) (.cons rfl (.rfl' _) (.cons rfl (.rfl' _) (.nil))))))))) (ih1 (n1, (v7l1 ++ ([y5.1] : List Int), (v8l1 && (y5.2 == 0)), v9l1 + 1)) HK1 hm1)
          · replace H := ifF hc H; clear hc
            refine .exit rfl ?_
            obtain ⟨q0, H9, hq0⟩ := map_some' H; clear H; cases hq0
            cases HK1
            have H := H9
            exact .withSt (st' := ⟨[.row 31 [.d (cI 0), .d (cI 0), .d (cI 0), .d (cS ([] : List UInt8)), .d (cS ([] : List UInt8)), .d (cI 0), .d (cI 0), .d (cI 0), .d (cI 0), .d (cB false), .d (cI 0), .d (cB false)], .row 31 [.d (cI 0), .d (cI 0), .d (cI 0), .d (cS ([] : List UInt8)), .d (cS ([] : List UInt8)), .d (cI 0), .d (cI 0), .d (cI 0), .d (cI 0), .d (cB false), .d (cI 0), .d (cB false)]], [⟨3, 1, v7l1.length, none⟩]⟩) rfl <| .sub (.cons rfl (.rfl' _) (.cons rfl (.rfl' _) (.cons rfl (.rfl' _) (.cons rfl (.rfl' _) (.cons rfl (.rfl' _) (.nil)))))) (hj1x (v7l1, v8l1) H)

set_option maxRecDepth 100000 in
set_option maxHeartbeats 1000000 in
theorem c_f_billinglaw11_PackedDecodes {v0b : List UInt8} {r : Bool} (H : f_billinglaw11_PackedDecodes v0b = some r) : ACall Tryd.prog 5 [slOf 1 rB8 v0b] (· = cB r) := by
  refine ACall.enter' Tryd.func5 rfl Tryd.ntmps5 rfl fun S hS => ?_
  unfold f_billinglaw11_PackedDecodes at H
  change ARun _ _ _ _ _ _ [(0, .d (slOf 1 rB8 v0b))] _
  refine .seq ?_
  refine .region ?_
  refine .q (x := .d (cB false)) (q_assign rfl) rfl ?_
  refine .nil ?_
  refine .seq ?_
  refine .seq ?_
  refine .region ?_
  refine .q (x := .d (slOf 1 rB8 v0b)) (q_move rfl) rfl ?_
  refine .q (x := .d (cI (v0b.length : Int))) (q_lenL (l := v0b) (row := rB8) Tryd.underlying22 rfl rfl) rfl ?_
  refine .q (x := .d (cB (decide ((v0b.length : Int) > 200)))) (q_gtr rfl rfl) rfl ?_
  refine .nil ?_
  refine .cond rfl (fun hc => ?_) (fun hc => ?_)
  · replace H := ifT hc H; clear hc
    refine .seq ?_
    refine .region ?_
    obtain ⟨y1, hy1, H⟩ := bind_some' H
    refine .g (x := .d (cB y1)) (g_call en_8 rfl rfl (c_f_billinglaw11_awake (hy1))) rfl ?_
    refine .q (x := .d (cB y1)) (q_assign rfl) rfl ?_
    refine .nil ?_
    refine .retN [.tmp 2] [.d (cB y1)] Tryd.func5 Tryd.results5 ⟨rfl, trivial⟩ ?_
    cases H
    exact ⟨_, .rfl' _, rfl⟩
  · replace H := ifF hc H; clear hc
    refine .skip ?_
    refine .seq ?_
    refine .region ?_
    refine .q (x := .d (slOf 1 rB8 v0b)) (q_move rfl) rfl ?_
    obtain ⟨y2, hy2, H⟩ := bind_some' H
    refine .g (x := .d (.tup [.agg (Record.row y2.1), cI y2.2])) (g_call en_16 rfl rfl (c_f_packed_Decode (hy2))) rfl ?_
    refine .q (x := .d (.tup [.agg (Record.row y2.1), cI y2.2])) (q_move rfl) rfl ?_
    refine .q (x := .d (.agg (Record.row y2.1))) (q_extract rfl rfl) rfl ?_
    refine .q (x := .d (cI y2.2)) (q_extract rfl rfl) rfl ?_
    refine .v (x := .ref 0 0) (v_alloc zr_31 rfl) rfl ?_
    refine .withSt (st' := ⟨[.row 31 [.d (cI 0), .d (cI 0), .d (cI 0), .d (cS ([] : List UInt8)), .d (cS ([] : List UInt8)), .d (cI 0), .d (cI 0), .d (cI 0), .d (cI 0), .d (cB false), .d (cI 0), .d (cB false)]], []⟩) rfl ?_
    refine .u (u_store rfl rfl rfl rfl (Nat.le_of_ble_eq_true rfl) sz_31) rfl ?_
    refine .withSt (st' := ⟨[.row 31 [.d (cI y2.1.source), .d (cI y2.1.serial), .d (cI y2.1.kind), .d (cS y2.1.a), .d (cS y2.1.b), .d (cI y2.1.start), .d (cI y2.1.units), .d (cI y2.1.call), .d (cI y2.1.part), .d (cB y2.1.last), .d (cI y2.1.trunk), .d (cB y2.1.inbound)]], []⟩) rfl ?_
    refine .q (x := .d (cI y2.2)) (q_assign rfl) rfl ?_
    refine .nil ?_
    refine .seq ?_
    refine .region ?_
    refine .q (x := .d (slOf 1 rB8 v0b)) (q_move rfl) rfl ?_
    obtain ⟨y3, hy3, H⟩ := bind_some' H
    refine .g (x := .d (.tup [.agg (Record.row y3.1), cI y3.2])) (g_call en_17 rfl rfl (c_f_billingref11_Decode (hy3))) rfl ?_
    refine .q (x := .d (.tup [.agg (Record.row y3.1), cI y3.2])) (q_move rfl) rfl ?_
    refine .q (x := .d (.agg (Record.row y3.1))) (q_extract rfl rfl) rfl ?_
    refine .q (x := .d (cI y3.2)) (q_extract rfl rfl) rfl ?_
    refine .v (x := .ref 1 0) (v_alloc zr_31 rfl) rfl ?_
    refine .withSt (st' := ⟨[.row 31 [.d (cI y2.1.source), .d (cI y2.1.serial), .d (cI y2.1.kind), .d (cS y2.1.a), .d (cS y2.1.b), .d (cI y2.1.start), .d (cI y2.1.units), .d (cI y2.1.call), .d (cI y2.1.part), .d (cB y2.1.last), .d (cI y2.1.trunk), .d (cB y2.1.inbound)], .row 31 [.d (cI 0), .d (cI 0), .d (cI 0), .d (cS ([] : List UInt8)), .d (cS ([] : List UInt8)), .d (cI 0), .d (cI 0), .d (cI 0), .d (cI 0), .d (cB false), .d (cI 0), .d (cB false)]], []⟩) rfl ?_
    refine .u (u_store rfl rfl rfl rfl (Nat.le_of_ble_eq_true rfl) sz_31) rfl ?_
    refine .withSt (st' := ⟨[.row 31 [.d (cI y2.1.source), .d (cI y2.1.serial), .d (cI y2.1.kind), .d (cS y2.1.a), .d (cS y2.1.b), .d (cI y2.1.start), .d (cI y2.1.units), .d (cI y2.1.call), .d (cI y2.1.part), .d (cB y2.1.last), .d (cI y2.1.trunk), .d (cB y2.1.inbound)], .row 31 [.d (cI y3.1.source), .d (cI y3.1.serial), .d (cI y3.1.kind), .d (cS y3.1.a), .d (cS y3.1.b), .d (cI y3.1.start), .d (cI y3.1.units), .d (cI y3.1.call), .d (cI y3.1.part), .d (cB y3.1.last), .d (cI y3.1.trunk), .d (cB y3.1.inbound)]], []⟩) rfl ?_
    refine .q (x := .d (cI y3.2)) (q_assign rfl) rfl ?_
    refine .nil ?_
    refine .seq ?_
    refine .region ?_
    refine .q (x := .d (.agg (Record.row y2.1))) (q_loadOA one_31 sz_31 rfl rfl (Nat.le_of_ble_eq_true rfl) rfl) rfl ?_
    refine .q (x := .d (.agg (Record.row y3.1))) (q_loadOA one_31 sz_31 rfl rfl (Nat.le_of_ble_eq_true rfl) rfl) rfl ?_
    refine .q (x := .d (cB (eqVs (Record.vals y2.1) (Record.vals y3.1)))) (q_steql fk_31 rfl rfl (xs := Record.vals y2.1) (ys := Record.vals y3.1) rfl rfl rfl rfl) rfl ?_
    refine .q (x := .d (cB (eqVs (Record.vals y2.1) (Record.vals y3.1)))) (q_move rfl) rfl ?_
    refine .guardG (b := eqVs (Record.vals y2.1) (Record.vals y3.1)) (x := .d (cI y2.2)) (env' := [(4, _)]) rfl rfl rfl ⟨.inl rfl, trivial⟩ rfl (fun hg => OpQ.g (q_move rfl)) ?_
    refine .guardG (b := eqVs (Record.vals y2.1) (Record.vals y3.1)) (x := .d (cI y3.2)) (env' := [(6, _)]) rfl rfl rfl ⟨.inl rfl, trivial⟩ rfl (fun hg => OpQ.g (q_move rfl)) ?_
    refine .guardG (b := eqVs (Record.vals y2.1) (Record.vals y3.1)) (x := .d (cB (y2.2 == y3.2))) (env' := [(25, _), (26, _)]) rfl rfl rfl ⟨.inr (.inl rfl), ⟨.inr (.inl rfl), trivial⟩⟩ rfl (fun hg => OpQ.g (q_eql rfl rfl)) ?_
    refine .q (x := .d (cB ((eqVs (Record.vals y2.1) (Record.vals y3.1)) && (y2.2 == y3.2)))) (q_pickAndB rfl rfl rfl) rfl ?_
    refine .q (x := .d (cB ((eqVs (Record.vals y2.1) (Record.vals y3.1)) && (y2.2 == y3.2)))) (q_move rfl) rfl ?_
    obtain ⟨y4, hy4, H⟩ := bind_some' H
    refine .guardG (b := ((eqVs (Record.vals y2.1) (Record.vals y3.1)) && (y2.2 == y3.2))) (x := .d (cB y4)) (env' := []) rfl rfl rfl trivial rfl (fun hg => (g_call en_8 rfl rfl (c_f_billinglaw11_awake (gcall_some hy4 hg)))) ?_
    refine .q (x := .d (cB (((eqVs (Record.vals y2.1) (Record.vals y3.1)) && (y2.2 == y3.2)) && y4))) (q_pickAndB rfl rfl rfl) rfl ?_
    refine .q (x := .d (cB (((eqVs (Record.vals y2.1) (Record.vals y3.1)) && (y2.2 == y3.2)) && y4))) (q_assign rfl) rfl ?_
    refine .nil ?_
    refine .retN [.tmp 2] [.d (cB (((eqVs (Record.vals y2.1) (Record.vals y3.1)) && (y2.2 == y3.2)) && y4))] Tryd.func5 Tryd.results5 ⟨rfl, trivial⟩ ?_
    cases H
    exact ⟨_, .rfl' _, rfl⟩

set_option maxRecDepth 100000 in
set_option maxHeartbeats 4000000 in
theorem c_f_billinglaw11_PackedBack {v0 : Record} {v1 : List UInt8} {v2 : Billinglaw11Change} {r : Bool} (H : f_billinglaw11_PackedBack v0 v1 v2 = some r) : ACall Tryd.prog 6 [.agg (Record.row v0), slOf 1 rB8 v1, .agg (Billinglaw11Change.row v2)] (· = cB r) := by
  obtain ⟨i5, hi5, hz5, hs5, hb5⟩ := in_5
  refine ACall.enter' Tryd.func6 rfl Tryd.ntmps6 rfl fun S hS => ?_
  unfold f_billinglaw11_PackedBack at H
  change ARun _ _ _ _ _ _ [(0, .d (.agg (Record.row v0))), (1, .d (slOf 1 rB8 v1)), (2, .d (.agg (Billinglaw11Change.row v2)))] _
  refine .seq ?_
  refine .region ?_
  refine .v (x := .ref 0 0) (v_box rfl rfl) rfl ?_
  refine .withSt (st' := ⟨[.row 31 [.d (cI v0.source), .d (cI v0.serial), .d (cI v0.kind), .d (cS v0.a), .d (cS v0.b), .d (cI v0.start), .d (cI v0.units), .d (cI v0.call), .d (cI v0.part), .d (cB v0.last), .d (cI v0.trunk), .d (cB v0.inbound)]], []⟩) rfl ?_
  refine .v (x := .ref 1 0) (v_box rfl rfl) rfl ?_
  refine .withSt (st' := ⟨[.row 31 [.d (cI v0.source), .d (cI v0.serial), .d (cI v0.kind), .d (cS v0.a), .d (cS v0.b), .d (cI v0.start), .d (cI v0.units), .d (cI v0.call), .d (cI v0.part), .d (cB v0.last), .d (cI v0.trunk), .d (cB v0.inbound)], .row 38 [.d (cI v2.at_), .d (cU8 v2.to_)]], []⟩) rfl ?_
  refine .q (x := .d (cB false)) (q_assign rfl) rfl ?_
  refine .nil ?_
  refine .seq ?_
  refine .seq ?_
  refine .region ?_
  refine .q (x := .d (.agg (Record.row v0))) (q_loadOA one_31 sz_31 rfl rfl (Nat.le_of_ble_eq_true rfl) rfl) rfl ?_
  obtain ⟨y1, hy1, H⟩ := bind_some' H
  refine .g (x := .d (cB y1)) (g_call en_13 rfl rfl (c_f_billinglaw11_short (hy1))) rfl ?_
  refine .q (x := .d (cB (!y1))) (q_not rfl) rfl ?_
  refine .q (x := .d (cB (!y1))) (q_move rfl) rfl ?_
  refine .guardG (b := (!(!y1))) (x := .d (slOf 1 rB8 v1)) (env' := [(1, _)]) rfl rfl rfl ⟨.inl rfl, trivial⟩ rfl (fun hg => OpQ.g (q_move rfl)) ?_
  refine .guardG (b := (!(!y1))) (x := .d (cI (v1.length : Int))) (env' := [(22, _)]) rfl rfl rfl ⟨.inr (.inl rfl), trivial⟩ rfl (fun hg => OpQ.g (q_lenL (l := v1) (row := rB8) Tryd.underlying22 rfl rfl)) ?_
  refine .guardG (b := (!(!y1))) (x := .d (cB (decide ((v1.length : Int) > 200)))) (env' := [(23, _)]) rfl rfl rfl ⟨.inr (.inl rfl), trivial⟩ rfl (fun hg => OpQ.g (q_gtr rfl rfl)) ?_
  refine .q (x := .d (cB ((!y1) || (decide ((v1.length : Int) > 200))))) (q_pickOrB rfl rfl rfl) rfl ?_
  refine .nil ?_
  refine .cond rfl (fun hc => ?_) (fun hc => ?_)
  · replace H := ifT hc H; clear hc
    refine .seq ?_
    refine .region ?_
    obtain ⟨y2, hy2, H⟩ := bind_some' H
    refine .g (x := .d (cB y2)) (g_call en_8 rfl rfl (c_f_billinglaw11_awake (hy2))) rfl ?_
    refine .q (x := .d (cB y2)) (q_assign rfl) rfl ?_
    refine .nil ?_
    refine .retN [.tmp 6] [.d (cB y2)] Tryd.func6 Tryd.results6 ⟨rfl, trivial⟩ ?_
    cases H
    exact ⟨_, .rfl' _, rfl⟩
  · replace H := ifF hc H; clear hc
    refine .skip ?_
    refine .seq ?_
    refine .region ?_
    refine .q (x := .d (.agg (Record.row v0))) (q_loadOA one_31 sz_31 rfl rfl (Nat.le_of_ble_eq_true rfl) rfl) rfl ?_
    obtain ⟨y3, hy3, H⟩ := bind_some' H
    refine .g (x := .d (.tup [slOf 1 rB8 y3.1, cI y3.2])) (g_call en_14 rfl rfl (c_f_packed_Encode (hy3))) rfl ?_
    refine .q (x := .d (.tup [slOf 1 rB8 y3.1, cI y3.2])) (q_move rfl) rfl ?_
    refine .q (x := .d (slOf 1 rB8 y3.1)) (q_extract rfl rfl) rfl ?_
    refine .q (x := .d (cI y3.2)) (q_extract rfl rfl) rfl ?_
    refine .q (x := .d (slOf 1 rB8 y3.1)) (q_assign rfl) rfl ?_
    refine .q (x := .d (cI y3.2)) (q_assign rfl) rfl ?_
    refine .nil ?_
    refine .seqJoin (ι := Unit) (fun s => [(1, .d (slOf 1 rB8 v1))]) (fun s => ⟨[.row 31 [.d (cI v0.source), .d (cI v0.serial), .d (cI v0.kind), .d (cS v0.a), .d (cS v0.b), .d (cI v0.start), .d (cI v0.units), .d (cI v0.call), .d (cI v0.part), .d (cB v0.last), .d (cI v0.trunk), .d (cB v0.inbound)], .row 38 [.d (cI v2.at_), .d (cU8 v2.to_)]], []⟩) (fun s => f_billinglaw11_PackedBack_j1 v1 = some r) ?_ ?_
    · rintro _ H
      replace H : f_billinglaw11_PackedBack_j1 v1 = some r := H
      unfold f_billinglaw11_PackedBack_j1 at H
      change ARun _ _ _ _ _ _ [(1, .d (slOf 1 rB8 v1))] ⟨[.row 31 [.d (cI v0.source), .d (cI v0.serial), .d (cI v0.kind), .d (cS v0.a), .d (cS v0.b), .d (cI v0.start), .d (cI v0.units), .d (cI v0.call), .d (cI v0.part), .d (cB v0.last), .d (cI v0.trunk), .d (cB v0.inbound)], .row 38 [.d (cI v2.at_), .d (cU8 v2.to_)]], []⟩
      refine .seq ?_
      refine .region ?_
      refine .q (x := .d (slOf 1 rB8 v1)) (q_move rfl) rfl ?_
      obtain ⟨y4, hy4, H⟩ := bind_some' H
      refine .g (x := .d (.tup [.agg (Record.row y4.1), cI y4.2])) (g_call en_16 rfl rfl (c_f_packed_Decode (hy4))) rfl ?_
      refine .q (x := .d (.tup [.agg (Record.row y4.1), cI y4.2])) (q_move rfl) rfl ?_
      refine .q (x := .d (.agg (Record.row y4.1))) (q_extract rfl rfl) rfl ?_
      refine .q (x := .d (cI y4.2)) (q_extract rfl rfl) rfl ?_
      refine .v (x := .ref 2 0) (v_alloc zr_31 rfl) rfl ?_
      refine .withSt (st' := ⟨[.row 31 [.d (cI v0.source), .d (cI v0.serial), .d (cI v0.kind), .d (cS v0.a), .d (cS v0.b), .d (cI v0.start), .d (cI v0.units), .d (cI v0.call), .d (cI v0.part), .d (cB v0.last), .d (cI v0.trunk), .d (cB v0.inbound)], .row 38 [.d (cI v2.at_), .d (cU8 v2.to_)], .row 31 [.d (cI 0), .d (cI 0), .d (cI 0), .d (cS ([] : List UInt8)), .d (cS ([] : List UInt8)), .d (cI 0), .d (cI 0), .d (cI 0), .d (cI 0), .d (cB false), .d (cI 0), .d (cB false)]], []⟩) rfl ?_
      refine .u (u_store rfl rfl rfl rfl (Nat.le_of_ble_eq_true rfl) sz_31) rfl ?_
      refine .withSt (st' := ⟨[.row 31 [.d (cI v0.source), .d (cI v0.serial), .d (cI v0.kind), .d (cS v0.a), .d (cS v0.b), .d (cI v0.start), .d (cI v0.units), .d (cI v0.call), .d (cI v0.part), .d (cB v0.last), .d (cI v0.trunk), .d (cB v0.inbound)], .row 38 [.d (cI v2.at_), .d (cU8 v2.to_)], .row 31 [.d (cI y4.1.source), .d (cI y4.1.serial), .d (cI y4.1.kind), .d (cS y4.1.a), .d (cS y4.1.b), .d (cI y4.1.start), .d (cI y4.1.units), .d (cI y4.1.call), .d (cI y4.1.part), .d (cB y4.1.last), .d (cI y4.1.trunk), .d (cB y4.1.inbound)]], []⟩) rfl ?_
      refine .q (x := .d (cI y4.2)) (q_assign rfl) rfl ?_
      refine .nil ?_
      refine .seq ?_
      refine .seq ?_
      refine .region ?_
      refine .q (x := .d (cI y4.2)) (q_move rfl) rfl ?_
      refine .q (x := .d (cB (y4.2 != 0))) (q_neq rfl rfl) rfl ?_
      refine .nil ?_
      refine .cond rfl (fun hc => ?_) (fun hc => ?_)
      · replace H := ifT hc H; clear hc
        refine .seq ?_
        refine .region ?_
        obtain ⟨y5, hy5, H⟩ := bind_some' H
        refine .g (x := .d (cB y5)) (g_call en_8 rfl rfl (c_f_billinglaw11_awake (hy5))) rfl ?_
        refine .q (x := .d (cB y5)) (q_assign rfl) rfl ?_
        refine .nil ?_
        refine .retN [.tmp 6] [.d (cB y5)] Tryd.func6 Tryd.results6 ⟨rfl, trivial⟩ ?_
        cases H
        exact ⟨_, .rfl' _, rfl⟩
      · replace H := ifF hc H; clear hc
        refine .skip ?_
        refine .seq ?_
        refine .region ?_
        refine .q (x := .d (.agg (Record.row y4.1))) (q_loadOA one_31 sz_31 rfl rfl (Nat.le_of_ble_eq_true rfl) rfl) rfl ?_
        obtain ⟨y6, hy6, H⟩ := bind_some' H
        refine .g (x := .d (.tup [slOf 1 rB8 y6.1, cI y6.2])) (g_call en_14 rfl rfl (c_f_packed_Encode (hy6))) rfl ?_
        refine .q (x := .d (.tup [slOf 1 rB8 y6.1, cI y6.2])) (q_move rfl) rfl ?_
        refine .q (x := .d (slOf 1 rB8 y6.1)) (q_extract rfl rfl) rfl ?_
        refine .q (x := .d (cI y6.2)) (q_extract rfl rfl) rfl ?_
        refine .q (x := .d (slOf 1 rB8 y6.1)) (q_assign rfl) rfl ?_
        refine .q (x := .d (cI y6.2)) (q_assign rfl) rfl ?_
        refine .nil ?_
        refine .seq ?_
        refine .region ?_
        refine .q (x := .d (cI y6.2)) (q_move rfl) rfl ?_
        refine .q (x := .d (cB (y6.2 == 0))) (q_eql rfl rfl) rfl ?_
        refine .q (x := .d (cB (y6.2 == 0))) (q_move rfl) rfl ?_
        refine .guardG (b := (y6.2 == 0)) (x := .d (slOf 1 rB8 y6.1)) (env' := [(16, _)]) rfl rfl rfl ⟨.inl rfl, trivial⟩ rfl (fun hg => OpQ.g (q_move rfl)) ?_
        refine .guardG (b := (y6.2 == 0)) (x := .d (cS y6.1)) (env' := [(103, _)]) rfl rfl rfl ⟨.inr (.inl rfl), trivial⟩ rfl (fun hg => OpQ.g (q_bytesStrL (a := y6.1) Tryd.underlying22 Tryd.underlying5 Tryd.underlying9 rfl rfl)) ?_
        refine .guardG (b := (y6.2 == 0)) (x := .d (slOf 1 rB8 v1)) (env' := [(1, _)]) rfl rfl rfl ⟨.inl rfl, trivial⟩ rfl (fun hg => OpQ.g (q_move rfl)) ?_
        refine .guardG (b := (y6.2 == 0)) (x := .d (cS v1)) (env' := [(105, _)]) rfl rfl rfl ⟨.inr (.inl rfl), trivial⟩ rfl (fun hg => OpQ.g (q_bytesStrL (a := v1) Tryd.underlying22 Tryd.underlying5 Tryd.underlying9 rfl rfl)) ?_
        refine .guardG (b := (y6.2 == 0)) (x := .d (cB (y6.1 == v1))) (env' := [(104, _), (106, _)]) rfl rfl rfl ⟨.inr (.inl rfl), ⟨.inr (.inl rfl), trivial⟩⟩ rfl (fun hg => OpQ.g (q_seql rfl rfl)) ?_
        refine .q (x := .d (cB ((y6.2 == 0) && (y6.1 == v1)))) (q_pickAndB rfl rfl rfl) rfl ?_
        refine .q (x := .d (cB ((y6.2 == 0) && (y6.1 == v1)))) (q_move rfl) rfl ?_
        obtain ⟨y7, hy7, H⟩ := bind_some' H
        refine .guardG (b := ((y6.2 == 0) && (y6.1 == v1))) (x := .d (cB y7)) (env' := []) rfl rfl rfl trivial rfl (fun hg => (g_call en_8 rfl rfl (c_f_billinglaw11_awake (gcall_some hy7 hg)))) ?_
        refine .q (x := .d (cB (((y6.2 == 0) && (y6.1 == v1)) && y7))) (q_pickAndB rfl rfl rfl) rfl ?_
        refine .q (x := .d (cB (((y6.2 == 0) && (y6.1 == v1)) && y7))) (q_assign rfl) rfl ?_
        refine .nil ?_
        refine .retN [.tmp 6] [.d (cB (((y6.2 == 0) && (y6.1 == v1)) && y7))] Tryd.func6 Tryd.results6 ⟨rfl, trivial⟩ ?_
        cases H
        exact ⟨_, .rfl' _, rfl⟩
    · intro hj1
      refine .seq ?_
      refine .region ?_
      refine .q (x := .d (cI y3.2)) (q_move rfl) rfl ?_
      refine .q (x := .d (cB (y3.2 == 0))) (q_eql rfl rfl) rfl ?_
      refine .nil ?_
      refine .cond rfl (fun hc => ?_) (fun hc => ?_)
      · replace H := ifT hc H; clear hc
        refine .seq ?_
        refine .region ?_
        refine .q (x := .d (slOf 1 rB8 y3.1)) (q_move rfl) rfl ?_
        obtain ⟨y8, hy8, H⟩ := bind_some' H
        refine .g (x := .d (.tup [.agg (Record.row y8.1), cI y8.2])) (g_call en_16 rfl rfl (c_f_packed_Decode (hy8))) rfl ?_
        refine .q (x := .d (.tup [.agg (Record.row y8.1), cI y8.2])) (q_move rfl) rfl ?_
        refine .q (x := .d (.agg (Record.row y8.1))) (q_extract rfl rfl) rfl ?_
        refine .q (x := .d (cI y8.2)) (q_extract rfl rfl) rfl ?_
        refine .v (x := .ref 2 0) (v_alloc zr_31 rfl) rfl ?_
        refine .withSt (st' := ⟨[.row 31 [.d (cI v0.source), .d (cI v0.serial), .d (cI v0.kind), .d (cS v0.a), .d (cS v0.b), .d (cI v0.start), .d (cI v0.units), .d (cI v0.call), .d (cI v0.part), .d (cB v0.last), .d (cI v0.trunk), .d (cB v0.inbound)], .row 38 [.d (cI v2.at_), .d (cU8 v2.to_)], .row 31 [.d (cI 0), .d (cI 0), .d (cI 0), .d (cS ([] : List UInt8)), .d (cS ([] : List UInt8)), .d (cI 0), .d (cI 0), .d (cI 0), .d (cI 0), .d (cB false), .d (cI 0), .d (cB false)]], []⟩) rfl ?_
        refine .u (u_store rfl rfl rfl rfl (Nat.le_of_ble_eq_true rfl) sz_31) rfl ?_
        refine .withSt (st' := ⟨[.row 31 [.d (cI v0.source), .d (cI v0.serial), .d (cI v0.kind), .d (cS v0.a), .d (cS v0.b), .d (cI v0.start), .d (cI v0.units), .d (cI v0.call), .d (cI v0.part), .d (cB v0.last), .d (cI v0.trunk), .d (cB v0.inbound)], .row 38 [.d (cI v2.at_), .d (cU8 v2.to_)], .row 31 [.d (cI y8.1.source), .d (cI y8.1.serial), .d (cI y8.1.kind), .d (cS y8.1.a), .d (cS y8.1.b), .d (cI y8.1.start), .d (cI y8.1.units), .d (cI y8.1.call), .d (cI y8.1.part), .d (cB y8.1.last), .d (cI y8.1.trunk), .d (cB y8.1.inbound)]], []⟩) rfl ?_
        refine .q (x := .d (cI y8.2)) (q_assign rfl) rfl ?_
        refine .nil ?_
        refine .seq ?_
        refine .seq ?_
        refine .region ?_
        refine .q (x := .d (cI y8.2)) (q_move rfl) rfl ?_
        refine .q (x := .d (cB (y8.2 != 0))) (q_neq rfl rfl) rfl ?_
        refine .q (x := .d (cB (y8.2 != 0))) (q_move rfl) rfl ?_
        refine .guardG (b := (!(y8.2 != 0))) (x := .d (.agg (Record.row y8.1))) (env' := [(9, _)]) rfl rfl rfl ⟨.inl rfl, trivial⟩ rfl (fun hg => OpQ.g (q_loadOA one_31 sz_31 rfl rfl (Nat.le_of_ble_eq_true rfl) rfl)) ?_
        refine .guardG (b := (!(y8.2 != 0))) (x := .d (.agg (Record.row v0))) (env' := [(3, _)]) rfl rfl rfl ⟨.inl rfl, trivial⟩ rfl (fun hg => OpQ.g (q_loadOA one_31 sz_31 rfl rfl (Nat.le_of_ble_eq_true rfl) rfl)) ?_
        refine .guardG (b := (!(y8.2 != 0))) (x := .d (cB (!(eqVs (Record.vals y8.1) (Record.vals v0))))) (env' := [(42, _), (43, _)]) rfl rfl rfl ⟨.inr (.inl rfl), ⟨.inr (.inl rfl), trivial⟩⟩ rfl (fun hg => OpQ.g (q_stneq fk_31 rfl rfl (xs := Record.vals y8.1) (ys := Record.vals v0) rfl rfl rfl rfl)) ?_
        refine .q (x := .d (cB ((y8.2 != 0) || (!(eqVs (Record.vals y8.1) (Record.vals v0)))))) (q_pickOrB rfl rfl rfl) rfl ?_
        refine .q (x := .d (cB ((y8.2 != 0) || (!(eqVs (Record.vals y8.1) (Record.vals v0)))))) (q_move rfl) rfl ?_
        refine .guardG (b := (!((y8.2 != 0) || (!(eqVs (Record.vals y8.1) (Record.vals v0)))))) (x := .d (slOf 1 rB8 y3.1)) (env' := [(7, _)]) rfl rfl rfl ⟨.inl rfl, trivial⟩ rfl (fun hg => OpQ.g (q_move rfl)) ?_
        refine .guardG (b := (!((y8.2 != 0) || (!(eqVs (Record.vals y8.1) (Record.vals v0)))))) (x := .d (cI (y3.1.length : Int))) (env' := [(47, _)]) rfl rfl rfl ⟨.inr (.inl rfl), trivial⟩ rfl (fun hg => OpQ.g (q_lenL (l := y3.1) (row := rB8) Tryd.underlying22 rfl rfl)) ?_
        refine .guardG (b := (!((y8.2 != 0) || (!(eqVs (Record.vals y8.1) (Record.vals v0)))))) (x := .d (cB ((y3.1.length : Int) != 45))) (env' := [(48, _)]) rfl rfl rfl ⟨.inr (.inl rfl), trivial⟩ rfl (fun hg => OpQ.g (q_neq rfl rfl)) ?_
        refine .q (x := .d (cB (((y8.2 != 0) || (!(eqVs (Record.vals y8.1) (Record.vals v0)))) || ((y3.1.length : Int) != 45)))) (q_pickOrB rfl rfl rfl) rfl ?_
        refine .nil ?_
        refine .cond rfl (fun hc => ?_) (fun hc => ?_)
        · replace H := ifT hc H; clear hc
          refine .seq ?_
          refine .region ?_
          refine .q (x := .d (cB false)) (q_assign rfl) rfl ?_
          refine .nil ?_
          refine .retN [.tmp 6] [.d (cB false)] Tryd.func6 Tryd.results6 ⟨rfl, trivial⟩ ?_
          cases H
          exact ⟨_, .rfl' _, rfl⟩
        · replace H := ifF hc H; clear hc
          refine .skip ?_
          refine .seq ?_
          refine .drawn 20 hMix (by kernel_rfl) ?_
          show DOps _ _ _ _ _ _ _ (_ :: _) _ _ _
          refine .q (x := .ref 1 0) (q_fieldRef fo_38_0 rfl) rfl ?_
          refine .q (x := .d (cI v2.at_)) (q_loadO one_3 rfl rfl rfl) rfl ?_
          refine .q (x := .d (cB (decide (v2.at_ ≥ 0)))) (q_geq rfl rfl) rfl ?_
          refine .q (x := .d (cB (decide (v2.at_ ≥ 0)))) (q_move rfl) rfl ?_
          refine .guardG (b := decide (v2.at_ ≥ 0)) (x := .ref 1 0) (env' := [(5, _)]) rfl rfl rfl ⟨.inl rfl, trivial⟩ rfl (fun hg => OpQ.g (q_fieldRef fo_38_0 rfl)) ?_
          refine .guardG (b := decide (v2.at_ ≥ 0)) (x := .d (cI v2.at_)) (env' := [(55, _)]) rfl rfl rfl ⟨.inr (.inl rfl), trivial⟩ rfl (fun hg => OpQ.g (q_loadO one_3 rfl rfl rfl)) ?_
          refine .guardG (b := decide (v2.at_ ≥ 0)) (x := .d (slOf 1 rB8 y3.1)) (env' := [(7, _)]) rfl rfl rfl ⟨.inl rfl, trivial⟩ rfl (fun hg => OpQ.g (q_move rfl)) ?_
          refine .guardG (b := decide (v2.at_ ≥ 0)) (x := .d (cI (y3.1.length : Int))) (env' := [(57, _)]) rfl rfl rfl ⟨.inr (.inl rfl), trivial⟩ rfl (fun hg => OpQ.g (q_lenL (l := y3.1) (row := rB8) Tryd.underlying22 rfl rfl)) ?_
          refine .guardG (b := decide (v2.at_ ≥ 0)) (x := .d (cB (decide (v2.at_ < (y3.1.length : Int))))) (env' := [(56, _), (58, _)]) rfl rfl rfl ⟨.inr (.inl rfl), ⟨.inr (.inl rfl), trivial⟩⟩ rfl (fun hg => OpQ.g (q_lss rfl rfl)) ?_
          refine .q (x := .d (cB ((decide (v2.at_ ≥ 0)) && (decide (v2.at_ < (y3.1.length : Int)))))) (q_pickAndB rfl rfl rfl) rfl ?_
          refine .q (x := .d (cB ((decide (v2.at_ ≥ 0)) && (decide (v2.at_ < (y3.1.length : Int)))))) (q_move rfl) rfl ?_
          refine .guardG (b := ((decide (v2.at_ ≥ 0)) && (decide (v2.at_ < (y3.1.length : Int))))) (x := .d (slOf 1 rB8 y3.1)) (env' := [(7, _)]) rfl rfl rfl ⟨.inl rfl, trivial⟩ rfl (fun hg => OpQ.g (q_move rfl)) ?_
          refine .guardG (b := ((decide (v2.at_ ≥ 0)) && (decide (v2.at_ < (y3.1.length : Int))))) (x := .ref 1 0) (env' := [(5, _)]) rfl rfl rfl ⟨.inl rfl, trivial⟩ rfl (fun hg => OpQ.g (q_fieldRef fo_38_0 rfl)) ?_
          refine .guardG (b := ((decide (v2.at_ ≥ 0)) && (decide (v2.at_ < (y3.1.length : Int))))) (x := .d (cI v2.at_)) (env' := [(63, _)]) rfl rfl rfl ⟨.inr (.inl rfl), trivial⟩ rfl (fun hg => OpQ.g (q_loadO one_3 rfl rfl rfl)) ?_
          obtain ⟨hk1, H⟩ := ck_some H
          refine .guardG (b := ((decide (v2.at_ ≥ 0)) && (decide (v2.at_ < (y3.1.length : Int))))) (x := .d (.ro (rB8 (nth y3.1 (Int.toNat (v2.at_)))))) (env' := [(62, _), (64, _)]) rfl rfl rfl ⟨.inr (.inl rfl), ⟨.inr (.inl rfl), trivial⟩⟩ rfl (fun hg => OpQ.g (q_idxL (row := rB8) (l := y3.1) (i := v2.at_) Tryd.underlying22 hi5 hs5 rfl rfl rfl (hk1 hg))) ?_
          refine .guardG (b := ((decide (v2.at_ ≥ 0)) && (decide (v2.at_ < (y3.1.length : Int))))) (x := .d (cU8 (nth y3.1 (Int.toNat (v2.at_))))) (env' := [(65, _)]) rfl rfl rfl ⟨.inr (.inl rfl), trivial⟩ rfl (fun hg => OpQ.g (q_load one_5 rfl)) ?_
          refine .guardG (b := ((decide (v2.at_ ≥ 0)) && (decide (v2.at_ < (y3.1.length : Int))))) (x := .ref 1 1) (env' := [(5, _)]) rfl rfl rfl ⟨.inl rfl, trivial⟩ rfl (fun hg => OpQ.g (q_fieldRef fo_38_1 rfl)) ?_
          refine .guardG (b := ((decide (v2.at_ ≥ 0)) && (decide (v2.at_ < (y3.1.length : Int))))) (x := .d (cU8 v2.to_)) (env' := [(67, _)]) rfl rfl rfl ⟨.inr (.inl rfl), trivial⟩ rfl (fun hg => OpQ.g (q_loadO one_5 rfl rfl rfl)) ?_
          refine .guardG (b := ((decide (v2.at_ ≥ 0)) && (decide (v2.at_ < (y3.1.length : Int))))) (x := .d (cB ((nth y3.1 (Int.toNat (v2.at_))) != v2.to_))) (env' := [(66, _), (68, _)]) rfl rfl rfl ⟨.inr (.inl rfl), ⟨.inr (.inl rfl), trivial⟩⟩ rfl (fun hg => OpQ.g (q8_neq (a := nth y3.1 (Int.toNat (v2.at_))) (b := v2.to_) rfl rfl)) ?_
          refine .q (x := .d (cB (((decide (v2.at_ ≥ 0)) && (decide (v2.at_ < (y3.1.length : Int)))) && ((nth y3.1 (Int.toNat (v2.at_))) != v2.to_)))) (q_pickAndB rfl rfl rfl) rfl ?_
          refine .nil ?_
          show AOps _ _ _ _ _ _ [] _ _ _
          refine .nil ?_
          refine .cond rfl (fun hc => ?_) (fun hc => ?_)
          · replace H := ifT hc H; clear hc
            refine .seq ?_
            refine .region ?_
            refine .v (x := .vc 0 ((([] : List UInt8)).length)) (v_build0V rB8 Tryd.underlying22 hi5 hs5) rfl ?_
            refine .withSt (st' := ⟨[.row 31 [.d (cI v0.source), .d (cI v0.serial), .d (cI v0.kind), .d (cS v0.a), .d (cS v0.b), .d (cI v0.start), .d (cI v0.units), .d (cI v0.call), .d (cI v0.part), .d (cB v0.last), .d (cI v0.trunk), .d (cB v0.inbound)], .row 38 [.d (cI v2.at_), .d (cU8 v2.to_)], .row 31 [.d (cI y8.1.source), .d (cI y8.1.serial), .d (cI y8.1.kind), .d (cS y8.1.a), .d (cS y8.1.b), .d (cI y8.1.start), .d (cI y8.1.units), .d (cI y8.1.call), .d (cI y8.1.part), .d (cB y8.1.last), .d (cI y8.1.trunk), .d (cB y8.1.inbound)]], [⟨5, 1, ((([] : List UInt8)).length), some (([] : List UInt8).map rB8)⟩]⟩) rfl ?_
            refine .q (x := .d (slOf 1 rB8 y3.1)) (q_move rfl) rfl ?_
            obtain ⟨hk2, H⟩ := ck_some H
            refine .v (x := .vc 0 ((([] : List UInt8) ++ y3.1).length)) (v_appendV (l := ([] : List UInt8)) (l' := y3.1) (row := rB8) Tryd.underlying22 hi5 hz5 hs5 rfl (by rw [hb5]; decide) rfl rfl rfl rfl hk2) rfl ?_
            refine .withSt (st' := ⟨[.row 31 [.d (cI v0.source), .d (cI v0.serial), .d (cI v0.kind), .d (cS v0.a), .d (cS v0.b), .d (cI v0.start), .d (cI v0.units), .d (cI v0.call), .d (cI v0.part), .d (cB v0.last), .d (cI v0.trunk), .d (cB v0.inbound)], .row 38 [.d (cI v2.at_), .d (cU8 v2.to_)], .row 31 [.d (cI y8.1.source), .d (cI y8.1.serial), .d (cI y8.1.kind), .d (cS y8.1.a), .d (cS y8.1.b), .d (cI y8.1.start), .d (cI y8.1.units), .d (cI y8.1.call), .d (cI y8.1.part), .d (cB y8.1.last), .d (cI y8.1.trunk), .d (cB y8.1.inbound)]], [⟨5, 1, ((([] : List UInt8) ++ y3.1).length), some ((([] : List UInt8) ++ y3.1).map rB8)⟩]⟩) rfl ?_
            refine .q (x := .vc 0 ((([] : List UInt8) ++ y3.1).length)) (q_assign rfl) rfl ?_
            refine .nil ?_
            refine .seq ?_
            refine .region ?_
            refine .q (x := .vc 0 ((([] : List UInt8) ++ y3.1).length)) (q_move rfl) rfl ?_
            refine .q (x := .ref 1 0) (q_fieldRef fo_38_0 rfl) rfl ?_
            refine .q (x := .d (cI v2.at_)) (q_loadO one_3 rfl rfl rfl) rfl ?_
            refine .q (x := .ref 1 1) (q_fieldRef fo_38_1 rfl) rfl ?_
            refine .q (x := .d (cU8 v2.to_)) (q_loadO one_5 rfl rfl rfl) rfl ?_
            obtain ⟨hk3, H⟩ := ck_some H
            refine .q (x := .vp 0 ((([] : List UInt8) ++ y3.1).length) (Int.toNat (v2.at_)) 0) (q_idxV (l := ([] : List UInt8) ++ y3.1) (row := rB8) (i := v2.at_) Tryd.underlying22 hi5 hs5 rfl rfl rfl hk3) rfl ?_
            obtain ⟨hk4, H⟩ := ck_some H
            refine .u (u_storeV (l := ([] : List UInt8) ++ y3.1) (row := rB8) (a := v2.to_) rfl rfl hk4 rfl rfl sz_5 rfl (Nat.le_of_ble_eq_true rfl) rfl) rfl ?_
            refine .withSt (st' := ⟨[.row 31 [.d (cI v0.source), .d (cI v0.serial), .d (cI v0.kind), .d (cS v0.a), .d (cS v0.b), .d (cI v0.start), .d (cI v0.units), .d (cI v0.call), .d (cI v0.part), .d (cB v0.last), .d (cI v0.trunk), .d (cB v0.inbound)], .row 38 [.d (cI v2.at_), .d (cU8 v2.to_)], .row 31 [.d (cI y8.1.source), .d (cI y8.1.serial), .d (cI y8.1.kind), .d (cS y8.1.a), .d (cS y8.1.b), .d (cI y8.1.start), .d (cI y8.1.units), .d (cI y8.1.call), .d (cI y8.1.part), .d (cB y8.1.last), .d (cI y8.1.trunk), .d (cB y8.1.inbound)]], [⟨5, 1, ((([] : List UInt8) ++ y3.1).length), some (((([] : List UInt8) ++ y3.1).set (Int.toNat (v2.at_)) v2.to_).map rB8)⟩]⟩) rfl ?_
            refine .nil ?_
            refine .seq ?_
            refine .region ?_
            refine .q (x := .vc 0 ((([] : List UInt8) ++ y3.1).length)) (q_move rfl) rfl ?_
            refine .freezeL (l := (([] : List UInt8) ++ y3.1).set (Int.toNat (v2.at_)) v2.to_) (row := rB8) (i := 81) rfl rfl ?_
            refine .withSt (st' := ⟨[.row 31 [.d (cI v0.source), .d (cI v0.serial), .d (cI v0.kind), .d (cS v0.a), .d (cS v0.b), .d (cI v0.start), .d (cI v0.units), .d (cI v0.call), .d (cI v0.part), .d (cB v0.last), .d (cI v0.trunk), .d (cB v0.inbound)], .row 38 [.d (cI v2.at_), .d (cU8 v2.to_)], .row 31 [.d (cI y8.1.source), .d (cI y8.1.serial), .d (cI y8.1.kind), .d (cS y8.1.a), .d (cS y8.1.b), .d (cI y8.1.start), .d (cI y8.1.units), .d (cI y8.1.call), .d (cI y8.1.part), .d (cB y8.1.last), .d (cI y8.1.trunk), .d (cB y8.1.inbound)]], [⟨5, 1, ((([] : List UInt8) ++ y3.1).set (Int.toNat (v2.at_)) v2.to_).length, none⟩]⟩) rfl ?_
            obtain ⟨y9, hy9, H⟩ := bind_some' H
            refine .g (x := .d (.tup [.agg (Record.row y9.1), cI y9.2])) (g_call en_16 rfl rfl (c_f_packed_Decode (hy9))) rfl ?_
            refine .q (x := .d (.tup [.agg (Record.row y9.1), cI y9.2])) (q_move rfl) rfl ?_
            refine .q (x := .d (.agg (Record.row y9.1))) (q_extract rfl rfl) rfl ?_
            refine .q (x := .d (cI y9.2)) (q_extract rfl rfl) rfl ?_
            refine .v (x := .ref 3 0) (v_alloc zr_31 rfl) rfl ?_
            refine .withSt (st' := ⟨[.row 31 [.d (cI v0.source), .d (cI v0.serial), .d (cI v0.kind), .d (cS v0.a), .d (cS v0.b), .d (cI v0.start), .d (cI v0.units), .d (cI v0.call), .d (cI v0.part), .d (cB v0.last), .d (cI v0.trunk), .d (cB v0.inbound)], .row 38 [.d (cI v2.at_), .d (cU8 v2.to_)], .row 31 [.d (cI y8.1.source), .d (cI y8.1.serial), .d (cI y8.1.kind), .d (cS y8.1.a), .d (cS y8.1.b), .d (cI y8.1.start), .d (cI y8.1.units), .d (cI y8.1.call), .d (cI y8.1.part), .d (cB y8.1.last), .d (cI y8.1.trunk), .d (cB y8.1.inbound)], .row 31 [.d (cI 0), .d (cI 0), .d (cI 0), .d (cS ([] : List UInt8)), .d (cS ([] : List UInt8)), .d (cI 0), .d (cI 0), .d (cI 0), .d (cI 0), .d (cB false), .d (cI 0), .d (cB false)]], [⟨5, 1, ((([] : List UInt8) ++ y3.1).set (Int.toNat (v2.at_)) v2.to_).length, none⟩]⟩) rfl ?_
            refine .u (u_store rfl rfl rfl rfl (Nat.le_of_ble_eq_true rfl) sz_31) rfl ?_
            refine .withSt (st' := ⟨[.row 31 [.d (cI v0.source), .d (cI v0.serial), .d (cI v0.kind), .d (cS v0.a), .d (cS v0.b), .d (cI v0.start), .d (cI v0.units), .d (cI v0.call), .d (cI v0.part), .d (cB v0.last), .d (cI v0.trunk), .d (cB v0.inbound)], .row 38 [.d (cI v2.at_), .d (cU8 v2.to_)], .row 31 [.d (cI y8.1.source), .d (cI y8.1.serial), .d (cI y8.1.kind), .d (cS y8.1.a), .d (cS y8.1.b), .d (cI y8.1.start), .d (cI y8.1.units), .d (cI y8.1.call), .d (cI y8.1.part), .d (cB y8.1.last), .d (cI y8.1.trunk), .d (cB y8.1.inbound)], .row 31 [.d (cI y9.1.source), .d (cI y9.1.serial), .d (cI y9.1.kind), .d (cS y9.1.a), .d (cS y9.1.b), .d (cI y9.1.start), .d (cI y9.1.units), .d (cI y9.1.call), .d (cI y9.1.part), .d (cB y9.1.last), .d (cI y9.1.trunk), .d (cB y9.1.inbound)]], [⟨5, 1, ((([] : List UInt8) ++ y3.1).set (Int.toNat (v2.at_)) v2.to_).length, none⟩]⟩) rfl ?_
            refine .q (x := .d (cI y9.2)) (q_assign rfl) rfl ?_
            refine .nil ?_
            refine .seq ?_
            refine .region ?_
            refine .q (x := .d (cI y9.2)) (q_move rfl) rfl ?_
            refine .q (x := .d (cB (y9.2 != 4))) (q_neq rfl rfl) rfl ?_
            refine .nil ?_
            refine .cond rfl (fun hc => ?_) (fun hc => ?_)
            · replace H := ifT hc H; clear hc
              refine .seq ?_
              refine .region ?_
              refine .q (x := .d (cB false)) (q_assign rfl) rfl ?_
              refine .nil ?_
              refine .retN [.tmp 6] [.d (cB false)] Tryd.func6 Tryd.results6 ⟨rfl, trivial⟩ ?_
              cases H
              exact ⟨_, .rfl' _, rfl⟩
            · replace H := ifF hc H; clear hc
              refine .skip ?_
              exact .to 2 0 (env' := [(1, .d (slOf 1 rB8 v1))]) (st' := ⟨[.row 31 [.d (cI v0.source), .d (cI v0.serial), .d (cI v0.kind), .d (cS v0.a), .d (cS v0.b), .d (cI v0.start), .d (cI v0.units), .d (cI v0.call), .d (cI v0.part), .d (cB v0.last), .d (cI v0.trunk), .d (cB v0.inbound)], .row 38 [.d (cI v2.at_), .d (cU8 v2.to_)]], []⟩) (.cons rfl (.rfl' _) (.nil)) rfl rfl rfl rfl rfl (by rw [hS]; exact Nat.le_of_ble_eq_true rfl) (by rw [hS]; exact Nat.le_of_ble_eq_true rfl) <| .sub (.cons rfl (.rfl' _) (.nil)) (hj1 () H)
          · replace H := ifF hc H; clear hc
            refine .skip ?_
            exact .to 2 0 (env' := [(1, .d (slOf 1 rB8 v1))]) (st' := ⟨[.row 31 [.d (cI v0.source), .d (cI v0.serial), .d (cI v0.kind), .d (cS v0.a), .d (cS v0.b), .d (cI v0.start), .d (cI v0.units), .d (cI v0.call), .d (cI v0.part), .d (cB v0.last), .d (cI v0.trunk), .d (cB v0.inbound)], .row 38 [.d (cI v2.at_), .d (cU8 v2.to_)]], []⟩) (.cons rfl (.rfl' _) (.nil)) rfl rfl rfl rfl rfl (by rw [hS]; exact Nat.le_of_ble_eq_true rfl) (by rw [hS]; exact Nat.le_of_ble_eq_true rfl) <| .sub (.cons rfl (.rfl' _) (.nil)) (hj1 () H)
      · replace H := ifF hc H; clear hc
        refine .skip ?_
        exact .sub (.cons rfl (.rfl' _) (.nil)) (hj1 () H)

set_option maxRecDepth 100000 in
set_option maxHeartbeats 1000000 in
theorem c_f_packed_All {v0b : List UInt8} {r : (List Record) × (List Reject) × Int} (H : f_packed_All v0b = some r) : ACall Tryd.prog 18 [slOf 1 rB8 v0b] (· = .tup [slOf 12 Record.row r.1, slOf 4 Reject.row r.2.1, cI r.2.2]) := by
  obtain ⟨i31, hi31, hz31, hs31, hb31⟩ := in_31
  obtain ⟨i57, hi57, hz57, hs57, hb57⟩ := in_57
  obtain ⟨i65, hi65, hz65, hs65, hb65⟩ := in_65
  refine ACall.enter' Tryd.func18 rfl Tryd.ntmps18 rfl fun S hS => ?_
  unfold f_packed_All at H
  change ARun _ _ _ _ _ _ [(0, .d (slOf 1 rB8 v0b))] _
  refine .seq ?_
  refine .region ?_
  refine .q (x := .d (nilD)) (q_assign rfl) rfl ?_
  refine .q (x := .d (nilD)) (q_assign rfl) rfl ?_
  refine .q (x := .d (cI 0)) (q_assign rfl) rfl ?_
  refine .nil ?_
  refine .seq ?_
  refine .seq ?_
  refine .region ?_
  refine .q (x := .d (slOf 1 rB8 v0b)) (q_move rfl) rfl ?_
  refine .q (x := .d (cI (v0b.length : Int))) (q_lenL (l := v0b) (row := rB8) Tryd.underlying22 rfl rfl) rfl ?_
  obtain ⟨hk1, H⟩ := ck_some H
  refine .q (x := .d (cI (Int.tmod (v0b.length : Int) 45))) (q_remT rfl rfl hk1) rfl ?_
  refine .q (x := .d (cB ((Int.tmod (v0b.length : Int) 45) != 0))) (q_neq rfl rfl) rfl ?_
  refine .nil ?_
  refine .cond rfl (fun hc => ?_) (fun hc => ?_)
  · replace H := ifT hc H; clear hc
    refine .seq ?_
    refine .region ?_
    refine .q (x := .d (nilD)) (q_assign rfl) rfl ?_
    refine .q (x := .d (nilD)) (q_assign rfl) rfl ?_
    refine .q (x := .d (cI 2)) (q_assign rfl) rfl ?_
    refine .nil ?_
    refine .retN [.tmp 2, .tmp 3, .tmp 4] [.d (nilD), .d (nilD), .d (cI 2)] Tryd.func18 Tryd.results18 ⟨rfl, rfl, rfl, trivial⟩ ?_
    cases H
    exact ⟨_, EVle.tupL (ds := [slOf 12 Record.row ([] : List Record), slOf 4 Reject.row ([] : List Reject), cI 2]) ⟨.nil 12, .nil 4, .rfl' _, trivial⟩, rfl⟩
  · replace H := ifF hc H; clear hc
    refine .skip ?_
    refine .seq ?_
    refine .seq ?_
    refine .region ?_
    refine .q (x := .d (slOf 1 rB8 v0b)) (q_move rfl) rfl ?_
    refine .q (x := .d (cI (v0b.length : Int))) (q_lenL (l := v0b) (row := rB8) Tryd.underlying22 rfl rfl) rfl ?_
    obtain ⟨hk2, H⟩ := ck_some H
    refine .q (x := .d (cI (Int.tdiv (v0b.length : Int) 45))) (q_quoT rfl rfl hk2) rfl ?_
    refine .q (x := .d (cB (decide ((Int.tdiv (v0b.length : Int) 45) > 4096)))) (q_gtr rfl rfl) rfl ?_
    refine .nil ?_
    refine .cond rfl (fun hc => ?_) (fun hc => ?_)
    · replace H := ifT hc H; clear hc
      refine .seq ?_
      refine .region ?_
      refine .q (x := .d (nilD)) (q_assign rfl) rfl ?_
      refine .q (x := .d (nilD)) (q_assign rfl) rfl ?_
      refine .q (x := .d (cI 5)) (q_assign rfl) rfl ?_
      refine .nil ?_
      refine .retN [.tmp 2, .tmp 3, .tmp 4] [.d (nilD), .d (nilD), .d (cI 5)] Tryd.func18 Tryd.results18 ⟨rfl, rfl, rfl, trivial⟩ ?_
      cases H
      exact ⟨_, EVle.tupL (ds := [slOf 12 Record.row ([] : List Record), slOf 4 Reject.row ([] : List Reject), cI 5]) ⟨.nil 12, .nil 4, .rfl' _, trivial⟩, rfl⟩
    · replace H := ifF hc H; clear hc
      refine .skip ?_
      refine .seq ?_
      refine .region ?_
      refine .q (x := .d (nilD)) (q_assign rfl) rfl ?_
      refine .nil ?_
      refine .seq ?_
      refine .region ?_
      refine .q (x := .d (nilD)) (q_assign rfl) rfl ?_
      refine .nil ?_
      refine .seq ?_
      refine .region ?_
      refine .q (x := .d (slOf 1 rB8 v0b)) (q_move rfl) rfl ?_
      refine .q (x := .d (.agg (PackedReader.row (⟨v0b, false⟩ : PackedReader)))) (q_buildP pl_57 hi57 hz57 rfl rfl) rfl ?_
      refine .v (x := .ref 0 0) (v_box rfl rfl) rfl ?_
      refine .withSt (st' := ⟨[.row 57 [.d (slOf 1 rB8 v0b), .d (cB false)]], []⟩) rfl ?_
      refine .q (x := .ref 0 0) (q_assign rfl) rfl ?_
      refine .nil ?_
      refine .seq ?_
      refine .seq ?_
      refine .region ?_
      refine .q (x := .d (slOf 1 rB8 v0b)) (q_move rfl) rfl ?_
      refine .q (x := .d (cI (v0b.length : Int))) (q_lenL (l := v0b) (row := rB8) Tryd.underlying22 rfl rfl) rfl ?_
      obtain ⟨hk3, H⟩ := ck_some H
      refine .q (x := .d (cI (Int.tdiv (v0b.length : Int) 45))) (q_quoT rfl rfl hk3) rfl ?_
      refine .q (x := .d (cI 0)) (q_move rfl) rfl ?_
      refine .nil ?_
      refine .tok (i := 5) (e := 31) (sz := 12) rfl ?_
      refine .withSt (st' := ⟨[.row 57 [.d (slOf 1 rB8 v0b), .d (cB false)]], [⟨31, 12, ([] : List Record).length, none⟩]⟩) rfl ?_
      refine .tok (i := 6) (e := 65) (sz := 4) rfl ?_
      refine .withSt (st' := ⟨[.row 57 [.d (slOf 1 rB8 v0b), .d (cB false)]], [⟨31, 12, ([] : List Record).length, none⟩, ⟨65, 4, ([] : List Reject).length, none⟩]⟩) rfl ?_
      refine .blockJoin2 (ι := List Record × List Reject × List UInt8 × Bool) (fun s => [(5, .tsl 12 (s.1.map Record.row) 0), (6, .tsl 4 (s.2.1.map Reject.row) 1)]) (fun s => ⟨[.row 57 [.d (slOf 1 rB8 s.2.2.1), .d (cB s.2.2.2)]], [⟨31, 12, s.1.length, none⟩, ⟨65, 4, s.2.1.length, none⟩]⟩) (fun s => f_packed_All_j1 s.1 s.2.1 s.2.2.1 s.2.2.2 = some r) ?_ ?_
      · rintro ⟨v5outj1, v6noj1, o0c0j1, o0c1j1⟩ H
        replace H : f_packed_All_j1 v5outj1 v6noj1 o0c0j1 o0c1j1 = some r := H
        unfold f_packed_All_j1 at H
        change ARun _ _ _ _ _ _ [(5, .tsl 12 (v5outj1.map Record.row) 0), (6, .tsl 4 (v6noj1.map Reject.row) 1)] ⟨[.row 57 [.d (slOf 1 rB8 o0c0j1), .d (cB o0c1j1)]], [⟨31, 12, v5outj1.length, none⟩, ⟨65, 4, v6noj1.length, none⟩]⟩
        refine .seq ?_
        refine .region ?_
        refine .q (x := .tsl 12 (v5outj1.map Record.row) 0) (q_move rfl) rfl ?_
        refine .q (x := .tsl 4 (v6noj1.map Reject.row) 1) (q_move rfl) rfl ?_
        refine .q (x := .tsl 12 (v5outj1.map Record.row) 0) (q_assign rfl) rfl ?_
        refine .q (x := .tsl 4 (v6noj1.map Reject.row) 1) (q_assign rfl) rfl ?_
        refine .q (x := .d (cI 0)) (q_assign rfl) rfl ?_
        refine .nil ?_
        refine .retN [.tmp 2, .tmp 3, .tmp 4] [.tsl 12 (v5outj1.map Record.row) 0, .tsl 4 (v6noj1.map Reject.row) 1, .d (cI 0)] Tryd.func18 Tryd.results18 ⟨rfl, rfl, rfl, trivial⟩ ?_
        cases H
        exact ⟨_, EVle.tupL (ds := [slOf 12 Record.row v5outj1, slOf 4 Reject.row v6noj1, cI 0]) ⟨.tsl _ _ _, .tsl _ _ _, .rfl' _, trivial⟩, rfl⟩
      · intro hj1 hj1x
        obtain ⟨n1, H⟩ := loop_some H
        refine .withSt (st' := ⟨[.row 57 [.d (slOf 1 rB8 v0b), .d (cB false)]], [⟨31, 12, ([] : List Record).length, none⟩, ⟨65, 4, ([] : List Reject).length, none⟩]⟩) rfl <| .loop (ι := Nat × (List Record × List Reject × Int × List UInt8 × Bool)) (fun p => [(5, .tsl 12 (p.2.1.map Record.row) 0), (6, .tsl 4 (p.2.2.1.map Reject.row) 1), (7, .ref 0 0), (24, .d (cI (Int.tdiv (v0b.length : Int) 45))), (25, .d (cI p.2.2.2.1))]) (fun p => ⟨[.row 57 [.d (slOf 1 rB8 p.2.2.2.2.1), .d (cB p.2.2.2.2.2)]], [⟨31, 12, p.2.1.length, none⟩, ⟨65, 4, p.2.2.1.length, none⟩]⟩) (fun p => iter (fun s => f_packed_All_l1 v0b s.1 s.2.1 s.2.2.1 s.2.2.2.1 s.2.2.2.2) p.1 p.2 = some r) (·.1) (n1, (([] : List Record), ([] : List Reject), 0, v0b, false)) H (.cons rfl (.rfl' _) (.cons rfl (.rfl' _) (.cons rfl (.rfl' _) (.cons rfl (.rfl' _) (.cons rfl (.rfl' _) (.nil)))))) rfl ?_
        rintro ⟨m1, v5outl1, v6nol1, v25l1, o0c0l1, o0c1l1⟩ HI ih1
        obtain ⟨n1, q1, hm1, H, HK1⟩ := iter_succ HI
        clear HI
        replace H : f_packed_All_l1 v0b v5outl1 v6nol1 v25l1 o0c0l1 o0c1l1 = some q1 := H
        unfold f_packed_All_l1 at H
        change ARun _ _ _ _ _ _ [(5, .tsl 12 (v5outl1.map Record.row) 0), (6, .tsl 4 (v6nol1.map Reject.row) 1), (7, .ref 0 0), (24, .d (cI (Int.tdiv (v0b.length : Int) 45))), (25, .d (cI v25l1))] ⟨[.row 57 [.d (slOf 1 rB8 o0c0l1), .d (cB o0c1l1)]], [⟨31, 12, v5outl1.length, none⟩, ⟨65, 4, v6nol1.length, none⟩]⟩
        refine .seq ?_
        refine .region ?_
        refine .q (x := .d (cB (decide (v25l1 < (Int.tdiv (v0b.length : Int) 45))))) (q_lss rfl rfl) rfl ?_
        refine .nil ?_
        refine .seq ?_
        refine .cond rfl (fun hc => ?_) (fun hc => ?_)
        · replace H := ifT hc H; clear hc
          refine .skip ?_
          refine .seq ?_
          refine .block ?_
          refine .seq ?_
          refine .region ?_
          refine .q (x := .d (cI v25l1)) (q_move rfl) rfl ?_
          refine .q (x := .d (cI v25l1)) (q_assign rfl) rfl ?_
          refine .nil ?_
          refine .seq ?_
          refine .region ?_
          refine .q (x := .ref 0 0) (q_move rfl) rfl ?_
          obtain ⟨y1, hy1, H⟩ := bind_some' H
          refine .callF en_31 rfl [0] [] (x := .d (slOf 1 rB8 y1.1)) (st' := ⟨[.row 57 [.d (slOf 1 rB8 y1.2.b), .d (cB y1.2.bad)]], [⟨31, 12, v5outl1.length, none⟩, ⟨65, 4, v6nol1.length, none⟩]⟩) rfl (c_g_packed_reader_field (hy1)) ⟨.rfl' _, .rfl' _, trivial⟩ rfl rfl rfl rfl rfl rfl ?_
          refine .withSt (st' := ⟨[.row 57 [.d (slOf 1 rB8 y1.2.b), .d (cB y1.2.bad)]], [⟨31, 12, v5outl1.length, none⟩, ⟨65, 4, v6nol1.length, none⟩]⟩) rfl ?_
          obtain ⟨y2, hy2, H⟩ := bind_some' H
          refine .g (x := .d (.tup [.agg (Record.row y2.1), cI y2.2])) (g_call en_16 rfl rfl (c_f_packed_Decode (hy2))) rfl ?_
          refine .q (x := .d (.tup [.agg (Record.row y2.1), cI y2.2])) (q_move rfl) rfl ?_
          refine .q (x := .d (.agg (Record.row y2.1))) (q_extract rfl rfl) rfl ?_
          refine .q (x := .d (cI y2.2)) (q_extract rfl rfl) rfl ?_
          refine .v (x := .ref 1 0) (v_alloc zr_31 rfl) rfl ?_
          refine .withSt (st' := ⟨[.row 57 [.d (slOf 1 rB8 y1.2.b), .d (cB y1.2.bad)], .row 31 [.d (cI 0), .d (cI 0), .d (cI 0), .d (cS ([] : List UInt8)), .d (cS ([] : List UInt8)), .d (cI 0), .d (cI 0), .d (cI 0), .d (cI 0), .d (cB false), .d (cI 0), .d (cB false)]], [⟨31, 12, v5outl1.length, none⟩, ⟨65, 4, v6nol1.length, none⟩]⟩) rfl ?_
          refine .u (u_store rfl rfl rfl rfl (Nat.le_of_ble_eq_true rfl) sz_31) rfl ?_
          refine .withSt (st' := ⟨[.row 57 [.d (slOf 1 rB8 y1.2.b), .d (cB y1.2.bad)], .row 31 [.d (cI y2.1.source), .d (cI y2.1.serial), .d (cI y2.1.kind), .d (cS y2.1.a), .d (cS y2.1.b), .d (cI y2.1.start), .d (cI y2.1.units), .d (cI y2.1.call), .d (cI y2.1.part), .d (cB y2.1.last), .d (cI y2.1.trunk), .d (cB y2.1.inbound)]], [⟨31, 12, v5outl1.length, none⟩, ⟨65, 4, v6nol1.length, none⟩]⟩) rfl ?_
          refine .q (x := .d (cI y2.2)) (q_assign rfl) rfl ?_
          refine .nil ?_
          refine .seq ?_
          refine .seq ?_
          refine .region ?_
          refine .q (x := .d (cI y2.2)) (q_move rfl) rfl ?_
          refine .q (x := .d (cB (y2.2 != 0))) (q_neq rfl rfl) rfl ?_
          refine .nil ?_
          refine .cond rfl (fun hc => ?_) (fun hc => ?_)
          · replace H := ifT hc H; clear hc
            refine .seq ?_
            refine .region ?_
            refine .q (x := .tsl 4 (v6nol1.map Reject.row) 1) (q_move rfl) rfl ?_
            refine .q (x := .d (cI v25l1)) (q_move rfl) rfl ?_
            refine .q (x := .d (cI y2.2)) (q_move rfl) rfl ?_
            refine .q (x := .d (.agg (Reject.row (⟨0, 0, v25l1, y2.2⟩ : Reject)))) (q_buildP pl_65 hi65 hz65 rfl rfl) rfl ?_
            refine .g (x := .d (slOf 4 Reject.row ([(⟨0, 0, v25l1, y2.2⟩ : Reject)] : List Reject))) (g_buildSlice1 Tryd.underlying41 hi65 hs65 hz65 rfl rfl rfl rfl rfl) rfl ?_
            obtain ⟨hk4, H⟩ := ck_some H
            refine .v (x := .tsl 4 ((v6nol1 ++ ([(⟨0, 0, v25l1, y2.2⟩ : Reject)] : List Reject)).map Reject.row) 1) (v_appendL (l := v6nol1) (l' := ([(⟨0, 0, v25l1, y2.2⟩ : Reject)] : List Reject)) (row := Reject.row) Tryd.underlying41 hi65 hz65 hs65 rfl (by rw [hb65]; decide) rfl rfl rfl rfl hk4) rfl ?_
            refine .withSt (st' := ⟨[.row 57 [.d (slOf 1 rB8 y1.2.b), .d (cB y1.2.bad)], .row 31 [.d (cI y2.1.source), .d (cI y2.1.serial), .d (cI y2.1.kind), .d (cS y2.1.a), .d (cS y2.1.b), .d (cI y2.1.start), .d (cI y2.1.units), .d (cI y2.1.call), .d (cI y2.1.part), .d (cB y2.1.last), .d (cI y2.1.trunk), .d (cB y2.1.inbound)]], [⟨31, 12, v5outl1.length, none⟩, ⟨65, 4, (v6nol1 ++ ([(⟨0, 0, v25l1, y2.2⟩ : Reject)] : List Reject)).length, none⟩]⟩) rfl ?_
            refine .q (x := .tsl 4 ((v6nol1 ++ ([(⟨0, 0, v25l1, y2.2⟩ : Reject)] : List Reject)).map Reject.row) 1) (q_assign rfl) rfl ?_
            refine .nil ?_
            refine .exit rfl ?_
            refine .region ?_
            obtain ⟨hk5, H⟩ := ck_some H
            refine .q (x := .d (cI (v25l1 + 1))) (q_addI rfl rfl hk5.1 hk5.2) rfl ?_
            refine .q (x := .d (cI (v25l1 + 1))) (q_move rfl) rfl ?_
            refine .nil ?_
            cases H
            exact .to 1 2 (env' := [(5, .tsl 12 (v5outl1.map Record.row) 0), (6, .tsl 4 ((v6nol1 ++ ([(⟨0, 0, v25l1, y2.2⟩ : Reject)] : List Reject)).map Reject.row) 1), (7, .ref 0 0), (24, .d (cI (Int.tdiv (v0b.length : Int) 45))), (25, .d (cI (v25l1 + 1)))]) (st' := ⟨[.row 57 [.d (slOf 1 rB8 y1.2.b), .d (cB y1.2.bad)]], [⟨31, 12, v5outl1.length, none⟩, ⟨65, 4, (v6nol1 ++ ([(⟨0, 0, v25l1, y2.2⟩ : Reject)] : List Reject)).length, none⟩]⟩) (.cons rfl (.rfl' _) (.cons rfl (.rfl' _) (.cons rfl (.rfl' _) (.cons rfl (.rfl' _) (.cons rfl (.rfl' _) (.nil)))))) rfl rfl rfl rfl rfl (by rw [hS]; exact Nat.le_of_ble_eq_true rfl) (by rw [hS]; exact Nat.le_of_ble_eq_true rfl) <| .sub (.cons rfl (.rfl' _) (.cons rfl (.rfl' _) (.cons rfl (.rfl' _) (.cons rfl (.rfl' _) (.cons rfl (.rfl' _) (.nil)))))) (ih1 (n1, (v5outl1, v6nol1 ++ ([(⟨0, 0, v25l1, y2.2⟩ : Reject)] : List Reject), v25l1 + 1, y1.2.b, y1.2.bad)) HK1 hm1)
          · replace H := ifF hc H; clear hc
            refine .skip ?_
            refine .region ?_
            refine .q (x := .tsl 12 (v5outl1.map Record.row) 0) (q_move rfl) rfl ?_
            refine .q (x := .d (.agg (Record.row y2.1))) (q_loadOA one_31 sz_31 rfl rfl (Nat.le_of_ble_eq_true rfl) rfl) rfl ?_
            refine .g (x := .d (slOf 12 Record.row ([y2.1] : List Record))) (g_buildSlice1 Tryd.underlying40 hi31 hs31 hz31 rfl rfl rfl rfl rfl) rfl ?_
            obtain ⟨hk6, H⟩ := ck_some H
            refine .v (x := .tsl 12 ((v5outl1 ++ ([y2.1] : List Record)).map Record.row) 0) (v_appendL (l := v5outl1) (l' := ([y2.1] : List Record)) (row := Record.row) Tryd.underlying40 hi31 hz31 hs31 rfl (by rw [hb31]; decide) rfl rfl rfl rfl hk6) rfl ?_
            refine .withSt (st' := ⟨[.row 57 [.d (slOf 1 rB8 y1.2.b), .d (cB y1.2.bad)], .row 31 [.d (cI y2.1.source), .d (cI y2.1.serial), .d (cI y2.1.kind), .d (cS y2.1.a), .d (cS y2.1.b), .d (cI y2.1.start), .d (cI y2.1.units), .d (cI y2.1.call), .d (cI y2.1.part), .d (cB y2.1.last), .d (cI y2.1.trunk), .d (cB y2.1.inbound)]], [⟨31, 12, (v5outl1 ++ ([y2.1] : List Record)).length, none⟩, ⟨65, 4, v6nol1.length, none⟩]⟩) rfl ?_
            refine .q (x := .tsl 12 ((v5outl1 ++ ([y2.1] : List Record)).map Record.row) 0) (q_assign rfl) rfl ?_
            refine .nil ?_
            refine .inBlock ?_
            refine .region ?_
            obtain ⟨hk7, H⟩ := ck_some H
            refine .q (x := .d (cI (v25l1 + 1))) (q_addI rfl rfl hk7.1 hk7.2) rfl ?_
            refine .q (x := .d (cI (v25l1 + 1))) (q_move rfl) rfl ?_
            refine .nil ?_
            cases H
            exact .to 1 2 (env' := [(5, .tsl 12 ((v5outl1 ++ ([y2.1] : List Record)).map Record.row) 0), (6, .tsl 4 (v6nol1.map Reject.row) 1), (7, .ref 0 0), (24, .d (cI (Int.tdiv (v0b.length : Int) 45))), (25, .d (cI (v25l1 + 1)))]) (st' := ⟨[.row 57 [.d (slOf 1 rB8 y1.2.b), .d (cB y1.2.bad)]], [⟨31, 12, (v5outl1 ++ ([y2.1] : List Record)).length, none⟩, ⟨65, 4, v6nol1.length, none⟩]⟩) (.cons rfl (.rfl' _) (.cons rfl (.rfl' _) (.cons rfl (.rfl' _) (.cons rfl (.rfl' _) (.cons rfl (.rfl' _) (.nil)))))) rfl rfl rfl rfl rfl (by rw [hS]; exact Nat.le_of_ble_eq_true rfl) (by rw [hS]; exact Nat.le_of_ble_eq_true rfl) <| .sub (.cons rfl (.rfl' _) (.cons rfl (.rfl' _) (.cons rfl (.rfl' _) (.cons rfl (.rfl' _) (.cons rfl (.rfl' _) (.nil)))))) (ih1 (n1, (v5outl1 ++ ([y2.1] : List Record), v6nol1, v25l1 + 1, y1.2.b, y1.2.bad)) HK1 hm1)
        · replace H := ifF hc H; clear hc
          refine .exit rfl ?_
          obtain ⟨q0, H9, hq0⟩ := map_some' H; clear H; cases hq0
          cases HK1
          have H := H9
          exact .withSt (st' := ⟨[.row 57 [.d (slOf 1 rB8 o0c0l1), .d (cB o0c1l1)]], [⟨31, 12, v5outl1.length, none⟩, ⟨65, 4, v6nol1.length, none⟩]⟩) rfl <| .sub (.cons rfl (.rfl' _) (.cons rfl (.rfl' _) (.nil))) (hj1x (v5outl1, v6nol1, o0c0l1, o0c1l1) H)

set_option maxRecDepth 100000 in
set_option maxHeartbeats 1000000 in
theorem c_f_billingref11_All {v0b : List UInt8} {r : (List Record) × (List Reject) × Int} (H : f_billingref11_All v0b = some r) : ACall Tryd.prog 19 [slOf 1 rB8 v0b] (· = .tup [slOf 12 Record.row r.1, slOf 4 Reject.row r.2.1, cI r.2.2]) := by
  obtain ⟨i5, hi5, hz5, hs5, hb5⟩ := in_5
  obtain ⟨i31, hi31, hz31, hs31, hb31⟩ := in_31
  obtain ⟨i65, hi65, hz65, hs65, hb65⟩ := in_65
  refine ACall.enter' Tryd.func19 rfl Tryd.ntmps19 rfl fun S hS => ?_
  unfold f_billingref11_All at H
  change ARun _ _ _ _ _ _ [(0, .d (slOf 1 rB8 v0b))] _
  refine .seq ?_
  refine .region ?_
  refine .q (x := .d (nilD)) (q_assign rfl) rfl ?_
  refine .q (x := .d (nilD)) (q_assign rfl) rfl ?_
  refine .q (x := .d (cI 0)) (q_assign rfl) rfl ?_
  refine .nil ?_
  refine .seq ?_
  refine .seq ?_
  refine .region ?_
  refine .q (x := .d (slOf 1 rB8 v0b)) (q_move rfl) rfl ?_
  refine .q (x := .d (cI (v0b.length : Int))) (q_lenL (l := v0b) (row := rB8) Tryd.underlying22 rfl rfl) rfl ?_
  obtain ⟨hk1, H⟩ := ck_some H
  refine .q (x := .d (cI (Int.tmod (v0b.length : Int) 45))) (q_remT rfl rfl hk1) rfl ?_
  refine .q (x := .d (cB ((Int.tmod (v0b.length : Int) 45) != 0))) (q_neq rfl rfl) rfl ?_
  refine .nil ?_
  refine .cond rfl (fun hc => ?_) (fun hc => ?_)
  · replace H := ifT hc H; clear hc
    refine .seq ?_
    refine .region ?_
    refine .q (x := .d (nilD)) (q_assign rfl) rfl ?_
    refine .q (x := .d (nilD)) (q_assign rfl) rfl ?_
    refine .q (x := .d (cI 2)) (q_assign rfl) rfl ?_
    refine .nil ?_
    refine .retN [.tmp 2, .tmp 3, .tmp 4] [.d (nilD), .d (nilD), .d (cI 2)] Tryd.func19 Tryd.results19 ⟨rfl, rfl, rfl, trivial⟩ ?_
    cases H
    exact ⟨_, EVle.tupL (ds := [slOf 12 Record.row ([] : List Record), slOf 4 Reject.row ([] : List Reject), cI 2]) ⟨.nil 12, .nil 4, .rfl' _, trivial⟩, rfl⟩
  · replace H := ifF hc H; clear hc
    refine .skip ?_
    refine .seq ?_
    refine .seq ?_
    refine .region ?_
    refine .q (x := .d (slOf 1 rB8 v0b)) (q_move rfl) rfl ?_
    refine .q (x := .d (cI (v0b.length : Int))) (q_lenL (l := v0b) (row := rB8) Tryd.underlying22 rfl rfl) rfl ?_
    obtain ⟨hk2, H⟩ := ck_some H
    refine .q (x := .d (cI (Int.tdiv (v0b.length : Int) 45))) (q_quoT rfl rfl hk2) rfl ?_
    refine .q (x := .d (cB (decide ((Int.tdiv (v0b.length : Int) 45) > 4096)))) (q_gtr rfl rfl) rfl ?_
    refine .nil ?_
    refine .cond rfl (fun hc => ?_) (fun hc => ?_)
    · replace H := ifT hc H; clear hc
      refine .seq ?_
      refine .region ?_
      refine .q (x := .d (nilD)) (q_assign rfl) rfl ?_
      refine .q (x := .d (nilD)) (q_assign rfl) rfl ?_
      refine .q (x := .d (cI 5)) (q_assign rfl) rfl ?_
      refine .nil ?_
      refine .retN [.tmp 2, .tmp 3, .tmp 4] [.d (nilD), .d (nilD), .d (cI 5)] Tryd.func19 Tryd.results19 ⟨rfl, rfl, rfl, trivial⟩ ?_
      cases H
      exact ⟨_, EVle.tupL (ds := [slOf 12 Record.row ([] : List Record), slOf 4 Reject.row ([] : List Reject), cI 5]) ⟨.nil 12, .nil 4, .rfl' _, trivial⟩, rfl⟩
    · replace H := ifF hc H; clear hc
      refine .skip ?_
      refine .seq ?_
      refine .region ?_
      refine .q (x := .d (nilD)) (q_assign rfl) rfl ?_
      refine .nil ?_
      refine .seq ?_
      refine .region ?_
      refine .q (x := .d (nilD)) (q_assign rfl) rfl ?_
      refine .nil ?_
      refine .seq ?_
      refine .seq ?_
      refine .region ?_
      refine .q (x := .d (cI 0)) (q_assign rfl) rfl ?_
      refine .nil ?_
      refine .tok (i := 5) (e := 31) (sz := 12) rfl ?_
      refine .withSt (st' := ⟨[], [⟨31, 12, ([] : List Record).length, none⟩]⟩) rfl ?_
      refine .tok (i := 6) (e := 65) (sz := 4) rfl ?_
      refine .withSt (st' := ⟨[], [⟨31, 12, ([] : List Record).length, none⟩, ⟨65, 4, ([] : List Reject).length, none⟩]⟩) rfl ?_
      refine .blockJoin2 (ι := List Record × List Reject) (fun s => [(5, .tsl 12 (s.1.map Record.row) 0), (6, .tsl 4 (s.2.map Reject.row) 1)]) (fun s => ⟨[], [⟨31, 12, s.1.length, none⟩, ⟨65, 4, s.2.length, none⟩]⟩) (fun s => f_billingref11_All_j1 s.1 s.2 = some r) ?_ ?_
      · rintro ⟨v5outj1, v6noj1⟩ H
        replace H : f_billingref11_All_j1 v5outj1 v6noj1 = some r := H
        unfold f_billingref11_All_j1 at H
        change ARun _ _ _ _ _ _ [(5, .tsl 12 (v5outj1.map Record.row) 0), (6, .tsl 4 (v6noj1.map Reject.row) 1)] ⟨[], [⟨31, 12, v5outj1.length, none⟩, ⟨65, 4, v6noj1.length, none⟩]⟩
        refine .seq ?_
        refine .region ?_
        refine .q (x := .tsl 12 (v5outj1.map Record.row) 0) (q_move rfl) rfl ?_
        refine .q (x := .tsl 4 (v6noj1.map Reject.row) 1) (q_move rfl) rfl ?_
        refine .q (x := .tsl 12 (v5outj1.map Record.row) 0) (q_assign rfl) rfl ?_
        refine .q (x := .tsl 4 (v6noj1.map Reject.row) 1) (q_assign rfl) rfl ?_
        refine .q (x := .d (cI 0)) (q_assign rfl) rfl ?_
        refine .nil ?_
        refine .retN [.tmp 2, .tmp 3, .tmp 4] [.tsl 12 (v5outj1.map Record.row) 0, .tsl 4 (v6noj1.map Reject.row) 1, .d (cI 0)] Tryd.func19 Tryd.results19 ⟨rfl, rfl, rfl, trivial⟩ ?_
        cases H
        exact ⟨_, EVle.tupL (ds := [slOf 12 Record.row v5outj1, slOf 4 Reject.row v6noj1, cI 0]) ⟨.tsl _ _ _, .tsl _ _ _, .rfl' _, trivial⟩, rfl⟩
      · intro hj1 hj1x
        obtain ⟨n1, H⟩ := loop_some H
        refine .withSt (st' := ⟨[], [⟨31, 12, ([] : List Record).length, none⟩, ⟨65, 4, ([] : List Reject).length, none⟩]⟩) rfl <| .loop (ι := Nat × (List Record × List Reject × Int)) (fun p => [(0, .d (slOf 1 rB8 v0b)), (5, .tsl 12 (p.2.1.map Record.row) 0), (6, .tsl 4 (p.2.2.1.map Reject.row) 1), (7, .d (cI p.2.2.2))]) (fun p => ⟨[], [⟨31, 12, p.2.1.length, none⟩, ⟨65, 4, p.2.2.1.length, none⟩]⟩) (fun p => iter (fun s => f_billingref11_All_l1 v0b s.1 s.2.1 s.2.2) p.1 p.2 = some r) (·.1) (n1, (([] : List Record), ([] : List Reject), 0)) H (.cons rfl (.rfl' _) (.cons rfl (.rfl' _) (.cons rfl (.rfl' _) (.cons rfl (.rfl' _) (.nil))))) rfl ?_
        rintro ⟨m1, v5outl1, v6nol1, v7il1⟩ HI ih1
        obtain ⟨n1, q1, hm1, H, HK1⟩ := iter_succ HI
        clear HI
        replace H : f_billingref11_All_l1 v0b v5outl1 v6nol1 v7il1 = some q1 := H
        unfold f_billingref11_All_l1 at H
        change ARun _ _ _ _ _ _ [(0, .d (slOf 1 rB8 v0b)), (5, .tsl 12 (v5outl1.map Record.row) 0), (6, .tsl 4 (v6nol1.map Reject.row) 1), (7, .d (cI v7il1))] ⟨[], [⟨31, 12, v5outl1.length, none⟩, ⟨65, 4, v6nol1.length, none⟩]⟩
        refine .seq ?_
        refine .seq ?_
        refine .region ?_
        refine .q (x := .d (cI v7il1)) (q_move rfl) rfl ?_
        refine .q (x := .d (slOf 1 rB8 v0b)) (q_move rfl) rfl ?_
        refine .q (x := .d (cI (v0b.length : Int))) (q_lenL (l := v0b) (row := rB8) Tryd.underlying22 rfl rfl) rfl ?_
        obtain ⟨hk3, H⟩ := ck_some H
        refine .q (x := .d (cI (Int.tdiv (v0b.length : Int) 45))) (q_quoT rfl rfl hk3) rfl ?_
        refine .q (x := .d (cB (decide (v7il1 < (Int.tdiv (v0b.length : Int) 45))))) (q_lss rfl rfl) rfl ?_
        refine .nil ?_
        refine .cond rfl (fun hc => ?_) (fun hc => ?_)
        · replace H := ifT hc H; clear hc
          refine .skip ?_
          refine .seq ?_
          refine .block ?_
          refine .seq ?_
          refine .region ?_
          refine .q (x := .d (slOf 1 rB8 v0b)) (q_move rfl) rfl ?_
          refine .q (x := .d (cI v7il1)) (q_move rfl) rfl ?_
          obtain ⟨hk4, H⟩ := ck_some H
          refine .q (x := .d (cI (v7il1 * 45))) (q_mulI rfl rfl hk4.1 hk4.2) rfl ?_
          refine .q (x := .d (cI v7il1)) (q_move rfl) rfl ?_
          obtain ⟨hk5, H⟩ := ck_some H
          refine .q (x := .d (cI (v7il1 + 1))) (q_addI rfl rfl hk5.1 hk5.2) rfl ?_
          obtain ⟨hk6, H⟩ := ck_some H
          refine .q (x := .d (cI ((v7il1 + 1) * 45))) (q_mulI rfl rfl hk6.1 hk6.2) rfl ?_
          obtain ⟨hk7, H⟩ := ck_some H
          refine .q (x := .d (slOf 1 rB8 ((v0b.take (Int.toNat ((v7il1 + 1) * 45))).drop (Int.toNat (v7il1 * 45))))) (q_slLHL (l := v0b) (row := rB8) Tryd.underlying22 hi5 hs5 rfl rfl rfl rfl hk7) rfl ?_
          obtain ⟨y1, hy1, H⟩ := bind_some' H
          refine .g (x := .d (.tup [.agg (Record.row y1.1), cI y1.2])) (g_call en_17 rfl rfl (c_f_billingref11_Decode (hy1))) rfl ?_
          refine .q (x := .d (.tup [.agg (Record.row y1.1), cI y1.2])) (q_move rfl) rfl ?_
          refine .q (x := .d (.agg (Record.row y1.1))) (q_extract rfl rfl) rfl ?_
          refine .q (x := .d (cI y1.2)) (q_extract rfl rfl) rfl ?_
          refine .v (x := .ref 0 0) (v_alloc zr_31 rfl) rfl ?_
          refine .withSt (st' := ⟨[.row 31 [.d (cI 0), .d (cI 0), .d (cI 0), .d (cS ([] : List UInt8)), .d (cS ([] : List UInt8)), .d (cI 0), .d (cI 0), .d (cI 0), .d (cI 0), .d (cB false), .d (cI 0), .d (cB false)]], [⟨31, 12, v5outl1.length, none⟩, ⟨65, 4, v6nol1.length, none⟩]⟩) rfl ?_
          refine .u (u_store rfl rfl rfl rfl (Nat.le_of_ble_eq_true rfl) sz_31) rfl ?_
          refine .withSt (st' := ⟨[.row 31 [.d (cI y1.1.source), .d (cI y1.1.serial), .d (cI y1.1.kind), .d (cS y1.1.a), .d (cS y1.1.b), .d (cI y1.1.start), .d (cI y1.1.units), .d (cI y1.1.call), .d (cI y1.1.part), .d (cB y1.1.last), .d (cI y1.1.trunk), .d (cB y1.1.inbound)]], [⟨31, 12, v5outl1.length, none⟩, ⟨65, 4, v6nol1.length, none⟩]⟩) rfl ?_
          refine .q (x := .d (cI y1.2)) (q_assign rfl) rfl ?_
          refine .nil ?_
          refine .seq ?_
          refine .region ?_
          refine .q (x := .d (cI y1.2)) (q_move rfl) rfl ?_
          refine .q (x := .d (cB (y1.2 == 0))) (q_eql rfl rfl) rfl ?_
          refine .nil ?_
          refine .cond rfl (fun hc => ?_) (fun hc => ?_)
          · replace H := ifT hc H; clear hc
            refine .region ?_
            refine .q (x := .tsl 12 (v5outl1.map Record.row) 0) (q_move rfl) rfl ?_
            refine .q (x := .d (.agg (Record.row y1.1))) (q_loadOA one_31 sz_31 rfl rfl (Nat.le_of_ble_eq_true rfl) rfl) rfl ?_
            refine .g (x := .d (slOf 12 Record.row ([y1.1] : List Record))) (g_buildSlice1 Tryd.underlying40 hi31 hs31 hz31 rfl rfl rfl rfl rfl) rfl ?_
            obtain ⟨hk8, H⟩ := ck_some H
            refine .v (x := .tsl 12 ((v5outl1 ++ ([y1.1] : List Record)).map Record.row) 0) (v_appendL (l := v5outl1) (l' := ([y1.1] : List Record)) (row := Record.row) Tryd.underlying40 hi31 hz31 hs31 rfl (by rw [hb31]; decide) rfl rfl rfl rfl hk8) rfl ?_
            refine .withSt (st' := ⟨[.row 31 [.d (cI y1.1.source), .d (cI y1.1.serial), .d (cI y1.1.kind), .d (cS y1.1.a), .d (cS y1.1.b), .d (cI y1.1.start), .d (cI y1.1.units), .d (cI y1.1.call), .d (cI y1.1.part), .d (cB y1.1.last), .d (cI y1.1.trunk), .d (cB y1.1.inbound)]], [⟨31, 12, (v5outl1 ++ ([y1.1] : List Record)).length, none⟩, ⟨65, 4, v6nol1.length, none⟩]⟩) rfl ?_
            refine .q (x := .tsl 12 ((v5outl1 ++ ([y1.1] : List Record)).map Record.row) 0) (q_assign rfl) rfl ?_
            refine .nil ?_
            refine .inBlock ?_
            refine .region ?_
            refine .q (x := .d (cI v7il1)) (q_move rfl) rfl ?_
            obtain ⟨hk9, H⟩ := ck_some H
            refine .q (x := .d (cI (v7il1 + 1))) (q_addI rfl rfl hk9.1 hk9.2) rfl ?_
            refine .q (x := .d (cI (v7il1 + 1))) (q_assign rfl) rfl ?_
            refine .nil ?_
            cases H
            exact .to 0 2 (env' := [(0, .d (slOf 1 rB8 v0b)), (5, .tsl 12 ((v5outl1 ++ ([y1.1] : List Record)).map Record.row) 0), (6, .tsl 4 (v6nol1.map Reject.row) 1), (7, .d (cI (v7il1 + 1)))]) (st' := ⟨[], [⟨31, 12, (v5outl1 ++ ([y1.1] : List Record)).length, none⟩, ⟨65, 4, v6nol1.length, none⟩]⟩) (.cons rfl (.rfl' _) (.cons rfl (.rfl' _) (.cons rfl (.rfl' _) (.cons rfl (.rfl' _) (.nil))))) rfl rfl rfl rfl rfl (by rw [hS]; exact Nat.le_of_ble_eq_true rfl) (by rw [hS]; exact Nat.le_of_ble_eq_true rfl) <| .sub (.cons rfl (.rfl' _) (.cons rfl (.rfl' _) (.cons rfl (.rfl' _) (.cons rfl (.rfl' _) (.nil))))) (ih1 (n1, (v5outl1 ++ ([y1.1] : List Record), v6nol1, v7il1 + 1)) HK1 hm1)
          · replace H := ifF hc H; clear hc
            refine .region ?_
            refine .q (x := .tsl 4 (v6nol1.map Reject.row) 1) (q_move rfl) rfl ?_
            refine .q (x := .d (cI v7il1)) (q_move rfl) rfl ?_
            refine .q (x := .d (cI y1.2)) (q_move rfl) rfl ?_
            refine .q (x := .d (.agg (Reject.row (⟨0, 0, v7il1, y1.2⟩ : Reject)))) (q_buildP pl_65 hi65 hz65 rfl rfl) rfl ?_
            refine .g (x := .d (slOf 4 Reject.row ([(⟨0, 0, v7il1, y1.2⟩ : Reject)] : List Reject))) (g_buildSlice1 Tryd.underlying41 hi65 hs65 hz65 rfl rfl rfl rfl rfl) rfl ?_
            obtain ⟨hk10, H⟩ := ck_some H
            refine .v (x := .tsl 4 ((v6nol1 ++ ([(⟨0, 0, v7il1, y1.2⟩ : Reject)] : List Reject)).map Reject.row) 1) (v_appendL (l := v6nol1) (l' := ([(⟨0, 0, v7il1, y1.2⟩ : Reject)] : List Reject)) (row := Reject.row) Tryd.underlying41 hi65 hz65 hs65 rfl (by rw [hb65]; decide) rfl rfl rfl rfl hk10) rfl ?_
            refine .withSt (st' := ⟨[.row 31 [.d (cI y1.1.source), .d (cI y1.1.serial), .d (cI y1.1.kind), .d (cS y1.1.a), .d (cS y1.1.b), .d (cI y1.1.start), .d (cI y1.1.units), .d (cI y1.1.call), .d (cI y1.1.part), .d (cB y1.1.last), .d (cI y1.1.trunk), .d (cB y1.1.inbound)]], [⟨31, 12, v5outl1.length, none⟩, ⟨65, 4, (v6nol1 ++ ([(⟨0, 0, v7il1, y1.2⟩ : Reject)] : List Reject)).length, none⟩]⟩) rfl ?_
            refine .q (x := .tsl 4 ((v6nol1 ++ ([(⟨0, 0, v7il1, y1.2⟩ : Reject)] : List Reject)).map Reject.row) 1) (q_assign rfl) rfl ?_
            refine .nil ?_
            refine .inBlock ?_
            refine .region ?_
            refine .q (x := .d (cI v7il1)) (q_move rfl) rfl ?_
            obtain ⟨hk11, H⟩ := ck_some H
            refine .q (x := .d (cI (v7il1 + 1))) (q_addI rfl rfl hk11.1 hk11.2) rfl ?_
            refine .q (x := .d (cI (v7il1 + 1))) (q_assign rfl) rfl ?_
            refine .nil ?_
            cases H
            exact .to 0 2 (env' := [(0, .d (slOf 1 rB8 v0b)), (5, .tsl 12 (v5outl1.map Record.row) 0), (6, .tsl 4 ((v6nol1 ++ ([(⟨0, 0, v7il1, y1.2⟩ : Reject)] : List Reject)).map Reject.row) 1), (7, .d (cI (v7il1 + 1)))]) (st' := ⟨[], [⟨31, 12, v5outl1.length, none⟩, ⟨65, 4, (v6nol1 ++ ([(⟨0, 0, v7il1, y1.2⟩ : Reject)] : List Reject)).length, none⟩]⟩) (.cons rfl (.rfl' _) (.cons rfl (.rfl' _) (.cons rfl (.rfl' _) (.cons rfl (.rfl' _) (.nil))))) rfl rfl rfl rfl rfl (by rw [hS]; exact Nat.le_of_ble_eq_true rfl) (by rw [hS]; exact Nat.le_of_ble_eq_true rfl) <| .sub (.cons rfl (.rfl' _) (.cons rfl (.rfl' _) (.cons rfl (.rfl' _) (.cons rfl (.rfl' _) (.nil))))) (ih1 (n1, (v5outl1, v6nol1 ++ ([(⟨0, 0, v7il1, y1.2⟩ : Reject)] : List Reject), v7il1 + 1)) HK1 hm1)
        · replace H := ifF hc H; clear hc
          refine .exit rfl ?_
          obtain ⟨q0, H9, hq0⟩ := map_some' H; clear H; cases hq0
          cases HK1
          have H := H9
          exact .withSt (st' := ⟨[], [⟨31, 12, v5outl1.length, none⟩, ⟨65, 4, v6nol1.length, none⟩]⟩) rfl <| .sub (.cons rfl (.rfl' _) (.cons rfl (.rfl' _) (.nil))) (hj1x (v5outl1, v6nol1) H)

set_option maxRecDepth 100000 in
set_option maxHeartbeats 1000000 in
theorem c_f_billingref09_Same {v0a : List Record} {v1b : List Record} {r : Bool} (H : f_billingref09_Same v0a v1b = some r) : ACall Tryd.prog 20 [slOf 12 Record.row v0a, slOf 12 Record.row v1b] (· = cB r) := by
  obtain ⟨i31, hi31, hz31, hs31, hb31⟩ := in_31
  refine ACall.enter' Tryd.func20 rfl Tryd.ntmps20 rfl fun S hS => ?_
  unfold f_billingref09_Same at H
  change ARun _ _ _ _ _ _ [(0, .d (slOf 12 Record.row v0a)), (1, .d (slOf 12 Record.row v1b))] _
  refine .seq ?_
  refine .region ?_
  refine .q (x := .d (cB false)) (q_assign rfl) rfl ?_
  refine .nil ?_
  refine .seq ?_
  refine .seq ?_
  refine .region ?_
  refine .q (x := .d (slOf 12 Record.row v0a)) (q_move rfl) rfl ?_
  refine .q (x := .d (cI (v0a.length : Int))) (q_lenL (l := v0a) (row := Record.row) Tryd.underlying40 rfl rfl) rfl ?_
  refine .q (x := .d (slOf 12 Record.row v1b)) (q_move rfl) rfl ?_
  refine .q (x := .d (cI (v1b.length : Int))) (q_lenL (l := v1b) (row := Record.row) Tryd.underlying40 rfl rfl) rfl ?_
  refine .q (x := .d (cB ((v0a.length : Int) != (v1b.length : Int)))) (q_neq rfl rfl) rfl ?_
  refine .nil ?_
  refine .cond rfl (fun hc => ?_) (fun hc => ?_)
  · replace H := ifT hc H; clear hc
    refine .seq ?_
    refine .region ?_
    refine .q (x := .d (cB false)) (q_assign rfl) rfl ?_
    refine .nil ?_
    refine .retN [.tmp 4] [.d (cB false)] Tryd.func20 Tryd.results20 ⟨rfl, trivial⟩ ?_
    cases H
    exact ⟨_, .rfl' _, rfl⟩
  · replace H := ifF hc H; clear hc
    refine .skip ?_
    refine .seq ?_
    refine .seq ?_
    refine .region ?_
    refine .q (x := .d (cI 0)) (q_assign rfl) rfl ?_
    refine .nil ?_
    refine .block ?_
    obtain ⟨n1, H⟩ := loop_some H
    refine .loop (ι := Nat × (Int)) (fun p => [(0, .d (slOf 12 Record.row v0a)), (1, .d (slOf 12 Record.row v1b)), (5, .d (cI p.2))]) (fun p => ⟨[], []⟩) (fun p => iter (fun s => f_billingref09_Same_l1 v0a v1b s) p.1 p.2 = some r) (·.1) (n1, 0) H (.cons rfl (.rfl' _) (.cons rfl (.rfl' _) (.cons rfl (.rfl' _) (.nil)))) rfl ?_
    rintro ⟨m1, v5il1⟩ HI ih1
    obtain ⟨n1, q1, hm1, H, HK1⟩ := iter_succ HI
    clear HI
    replace H : f_billingref09_Same_l1 v0a v1b v5il1 = some q1 := H
    unfold f_billingref09_Same_l1 at H
    change ARun _ _ _ _ _ _ [(0, .d (slOf 12 Record.row v0a)), (1, .d (slOf 12 Record.row v1b)), (5, .d (cI v5il1))] ⟨[], []⟩
    refine .seq ?_
    refine .seq ?_
    refine .region ?_
    refine .q (x := .d (cI v5il1)) (q_move rfl) rfl ?_
    refine .q (x := .d (slOf 12 Record.row v0a)) (q_move rfl) rfl ?_
    refine .q (x := .d (cI (v0a.length : Int))) (q_lenL (l := v0a) (row := Record.row) Tryd.underlying40 rfl rfl) rfl ?_
    refine .q (x := .d (cB (decide (v5il1 < (v0a.length : Int))))) (q_lss rfl rfl) rfl ?_
    refine .nil ?_
    refine .cond rfl (fun hc => ?_) (fun hc => ?_)
    · replace H := ifT hc H; clear hc
      refine .skip ?_
      refine .seq ?_
      refine .block ?_
      refine .seq ?_
      refine .drawn 9 hMix (by kernel_rfl) ?_
      show DOps _ _ _ _ _ _ _ (_ :: _) _ _ _
      refine .q (x := .d (slOf 12 Record.row v0a)) (q_move rfl) rfl ?_
      refine .q (x := .d (cI v5il1)) (q_move rfl) rfl ?_
      obtain ⟨hk1, H⟩ := ck_some H
      refine .q (x := .d (.ro (Record.row (nth v0a (Int.toNat (v5il1)))))) (q_idxL (row := Record.row) (l := v0a) (i := v5il1) Tryd.underlying40 hi31 hs31 rfl rfl rfl hk1) rfl ?_
      refine .q (x := .d (.agg (Record.row (nth v0a (Int.toNat (v5il1)))))) (q_loadAll one_31 sz_31 rfl rfl) rfl ?_
      refine .q (x := .d (slOf 12 Record.row v1b)) (q_move rfl) rfl ?_
      refine .q (x := .d (cI v5il1)) (q_move rfl) rfl ?_
      obtain ⟨hk2, H⟩ := ck_some H
      refine .q (x := .d (.ro (Record.row (nth v1b (Int.toNat (v5il1)))))) (q_idxL (row := Record.row) (l := v1b) (i := v5il1) Tryd.underlying40 hi31 hs31 rfl rfl rfl hk2) rfl ?_
      refine .q (x := .d (.agg (Record.row (nth v1b (Int.toNat (v5il1)))))) (q_loadAll one_31 sz_31 rfl rfl) rfl ?_
      refine .q (x := .d (cB (!(eqVs (Record.vals (nth v0a (Int.toNat (v5il1)))) (Record.vals (nth v1b (Int.toNat (v5il1)))))))) (q_stneq fk_31 rfl rfl (xs := Record.vals (nth v0a (Int.toNat (v5il1)))) (ys := Record.vals (nth v1b (Int.toNat (v5il1)))) rfl rfl rfl rfl) rfl ?_
      refine .nil ?_
      show AOps _ _ _ _ _ _ [] _ _ _
      refine .nil ?_
      refine .cond rfl (fun hc => ?_) (fun hc => ?_)
      · replace H := ifT hc H; clear hc
        refine .seq ?_
        refine .region ?_
        refine .q (x := .d (cB false)) (q_assign rfl) rfl ?_
        refine .nil ?_
        refine .retN [.tmp 4] [.d (cB false)] Tryd.func20 Tryd.results20 ⟨rfl, trivial⟩ ?_
        cases H
        cases HK1
        exact ⟨_, .rfl' _, rfl⟩
      · replace H := ifF hc H; clear hc
        refine .skip ?_
        refine .inBlock ?_
        refine .region ?_
        refine .q (x := .d (cI v5il1)) (q_move rfl) rfl ?_
        obtain ⟨hk3, H⟩ := ck_some H
        refine .q (x := .d (cI (v5il1 + 1))) (q_addI rfl rfl hk3.1 hk3.2) rfl ?_
        refine .q (x := .d (cI (v5il1 + 1))) (q_assign rfl) rfl ?_
        refine .nil ?_
        cases H
        exact .sub (.cons rfl (.rfl' _) (.cons rfl (.rfl' _) (.cons rfl (.rfl' _) (.nil)))) (ih1 (n1, (v5il1 + 1)) HK1 hm1)
    · replace H := ifF hc H; clear hc
      refine .exit rfl ?_
      refine .seq ?_
      refine .region ?_
      refine .q (x := .d (cB true)) (q_assign rfl) rfl ?_
      refine .nil ?_
      refine .retN [.tmp 4] [.d (cB true)] Tryd.func20 Tryd.results20 ⟨rfl, trivial⟩ ?_
      cases H
      cases HK1
      exact ⟨_, .rfl' _, rfl⟩

set_option maxRecDepth 100000 in
set_option maxHeartbeats 1000000 in
theorem c_f_billingref09_SameRejects {v0a : List Reject} {v1b : List Reject} {r : Bool} (H : f_billingref09_SameRejects v0a v1b = some r) : ACall Tryd.prog 21 [slOf 4 Reject.row v0a, slOf 4 Reject.row v1b] (· = cB r) := by
  obtain ⟨i65, hi65, hz65, hs65, hb65⟩ := in_65
  refine ACall.enter' Tryd.func21 rfl Tryd.ntmps21 rfl fun S hS => ?_
  unfold f_billingref09_SameRejects at H
  change ARun _ _ _ _ _ _ [(0, .d (slOf 4 Reject.row v0a)), (1, .d (slOf 4 Reject.row v1b))] _
  refine .seq ?_
  refine .region ?_
  refine .q (x := .d (cB false)) (q_assign rfl) rfl ?_
  refine .nil ?_
  refine .seq ?_
  refine .seq ?_
  refine .region ?_
  refine .q (x := .d (slOf 4 Reject.row v0a)) (q_move rfl) rfl ?_
  refine .q (x := .d (cI (v0a.length : Int))) (q_lenL (l := v0a) (row := Reject.row) Tryd.underlying41 rfl rfl) rfl ?_
  refine .q (x := .d (slOf 4 Reject.row v1b)) (q_move rfl) rfl ?_
  refine .q (x := .d (cI (v1b.length : Int))) (q_lenL (l := v1b) (row := Reject.row) Tryd.underlying41 rfl rfl) rfl ?_
  refine .q (x := .d (cB ((v0a.length : Int) != (v1b.length : Int)))) (q_neq rfl rfl) rfl ?_
  refine .nil ?_
  refine .cond rfl (fun hc => ?_) (fun hc => ?_)
  · replace H := ifT hc H; clear hc
    refine .seq ?_
    refine .region ?_
    refine .q (x := .d (cB false)) (q_assign rfl) rfl ?_
    refine .nil ?_
    refine .retN [.tmp 4] [.d (cB false)] Tryd.func21 Tryd.results21 ⟨rfl, trivial⟩ ?_
    cases H
    exact ⟨_, .rfl' _, rfl⟩
  · replace H := ifF hc H; clear hc
    refine .skip ?_
    refine .seq ?_
    refine .seq ?_
    refine .region ?_
    refine .q (x := .d (cI 0)) (q_assign rfl) rfl ?_
    refine .nil ?_
    refine .block ?_
    obtain ⟨n1, H⟩ := loop_some H
    refine .loop (ι := Nat × (Int)) (fun p => [(0, .d (slOf 4 Reject.row v0a)), (1, .d (slOf 4 Reject.row v1b)), (5, .d (cI p.2))]) (fun p => ⟨[], []⟩) (fun p => iter (fun s => f_billingref09_SameRejects_l1 v0a v1b s) p.1 p.2 = some r) (·.1) (n1, 0) H (.cons rfl (.rfl' _) (.cons rfl (.rfl' _) (.cons rfl (.rfl' _) (.nil)))) rfl ?_
    rintro ⟨m1, v5il1⟩ HI ih1
    obtain ⟨n1, q1, hm1, H, HK1⟩ := iter_succ HI
    clear HI
    replace H : f_billingref09_SameRejects_l1 v0a v1b v5il1 = some q1 := H
    unfold f_billingref09_SameRejects_l1 at H
    change ARun _ _ _ _ _ _ [(0, .d (slOf 4 Reject.row v0a)), (1, .d (slOf 4 Reject.row v1b)), (5, .d (cI v5il1))] ⟨[], []⟩
    refine .seq ?_
    refine .seq ?_
    refine .region ?_
    refine .q (x := .d (cI v5il1)) (q_move rfl) rfl ?_
    refine .q (x := .d (slOf 4 Reject.row v0a)) (q_move rfl) rfl ?_
    refine .q (x := .d (cI (v0a.length : Int))) (q_lenL (l := v0a) (row := Reject.row) Tryd.underlying41 rfl rfl) rfl ?_
    refine .q (x := .d (cB (decide (v5il1 < (v0a.length : Int))))) (q_lss rfl rfl) rfl ?_
    refine .nil ?_
    refine .cond rfl (fun hc => ?_) (fun hc => ?_)
    · replace H := ifT hc H; clear hc
      refine .skip ?_
      refine .seq ?_
      refine .block ?_
      refine .seq ?_
      refine .drawn 9 hMix (by kernel_rfl) ?_
      show DOps _ _ _ _ _ _ _ (_ :: _) _ _ _
      refine .q (x := .d (slOf 4 Reject.row v0a)) (q_move rfl) rfl ?_
      refine .q (x := .d (cI v5il1)) (q_move rfl) rfl ?_
      obtain ⟨hk1, H⟩ := ck_some H
      refine .q (x := .d (.ro (Reject.row (nth v0a (Int.toNat (v5il1)))))) (q_idxL (row := Reject.row) (l := v0a) (i := v5il1) Tryd.underlying41 hi65 hs65 rfl rfl rfl hk1) rfl ?_
      refine .q (x := .d (.agg (Reject.row (nth v0a (Int.toNat (v5il1)))))) (q_loadAll one_65 sz_65 rfl rfl) rfl ?_
      refine .q (x := .d (slOf 4 Reject.row v1b)) (q_move rfl) rfl ?_
      refine .q (x := .d (cI v5il1)) (q_move rfl) rfl ?_
      obtain ⟨hk2, H⟩ := ck_some H
      refine .q (x := .d (.ro (Reject.row (nth v1b (Int.toNat (v5il1)))))) (q_idxL (row := Reject.row) (l := v1b) (i := v5il1) Tryd.underlying41 hi65 hs65 rfl rfl rfl hk2) rfl ?_
      refine .q (x := .d (.agg (Reject.row (nth v1b (Int.toNat (v5il1)))))) (q_loadAll one_65 sz_65 rfl rfl) rfl ?_
      refine .q (x := .d (cB (!(eqVs (Reject.vals (nth v0a (Int.toNat (v5il1)))) (Reject.vals (nth v1b (Int.toNat (v5il1)))))))) (q_stneq fk_65 rfl rfl (xs := Reject.vals (nth v0a (Int.toNat (v5il1)))) (ys := Reject.vals (nth v1b (Int.toNat (v5il1)))) rfl rfl rfl rfl) rfl ?_
      refine .nil ?_
      show AOps _ _ _ _ _ _ [] _ _ _
      refine .nil ?_
      refine .cond rfl (fun hc => ?_) (fun hc => ?_)
      · replace H := ifT hc H; clear hc
        refine .seq ?_
        refine .region ?_
        refine .q (x := .d (cB false)) (q_assign rfl) rfl ?_
        refine .nil ?_
        refine .retN [.tmp 4] [.d (cB false)] Tryd.func21 Tryd.results21 ⟨rfl, trivial⟩ ?_
        cases H
        cases HK1
        exact ⟨_, .rfl' _, rfl⟩
      · replace H := ifF hc H; clear hc
        refine .skip ?_
        refine .inBlock ?_
        refine .region ?_
        refine .q (x := .d (cI v5il1)) (q_move rfl) rfl ?_
        obtain ⟨hk3, H⟩ := ck_some H
        refine .q (x := .d (cI (v5il1 + 1))) (q_addI rfl rfl hk3.1 hk3.2) rfl ?_
        refine .q (x := .d (cI (v5il1 + 1))) (q_assign rfl) rfl ?_
        refine .nil ?_
        cases H
        exact .sub (.cons rfl (.rfl' _) (.cons rfl (.rfl' _) (.cons rfl (.rfl' _) (.nil)))) (ih1 (n1, (v5il1 + 1)) HK1 hm1)
    · replace H := ifF hc H; clear hc
      refine .exit rfl ?_
      refine .seq ?_
      refine .region ?_
      refine .q (x := .d (cB true)) (q_assign rfl) rfl ?_
      refine .nil ?_
      refine .retN [.tmp 4] [.d (cB true)] Tryd.func21 Tryd.results21 ⟨rfl, trivial⟩ ?_
      cases H
      cases HK1
      exact ⟨_, .rfl' _, rfl⟩

end Go.Proofs.YtlgoaojmancfpaaDoor
