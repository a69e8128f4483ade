import Derived.Test.YtoknjmclbfgkiaaDoorLW1
import Derived.Test.YtoknjmclbfgkiaaDoorLF
import Derived.Test.YtoknjmclbfgkiaaDoorLX
set_option linter.unusedSimpArgs false
set_option linter.unusedVariables false
namespace Go.Proofs.YtoknjmclbfgkiaaDoor
open Go.RowKit Go.Abs
set_option maxRecDepth 100000 in
set_option maxHeartbeats 1000000 in
theorem c_f_billingref09_Decode {v0line : List UInt8} {r : Record × Int} (H : f_billingref09_Decode v0line = some r) : ACall Tryd.prog 13 [cS v0line] (· = .tup [.agg (Record.row r.1), cI r.2]) := by
  obtain ⟨i23, hi23, hz23, hs23, hb23⟩ := in_23
  refine ACall.enter' Tryd.func13 rfl Tryd.ntmps13 rfl fun S hS => ?_
  unfold f_billingref09_Decode at H
  change ARun _ _ _ _ _ _ [(0, .d (cS v0line))] _
  refine .seq ?_
  refine .region ?_
  refine .v (x := .ref 0 0) (v_alloc zr_23 rfl) rfl ?_
  refine .withSt (st' := ⟨[.row 23 [.d (cI 0), .d (cI 0), .d (cI 0), .d (cS ([] : List UInt8)), .d (cS ([] : List UInt8)), .d (cI 0), .d (cI 0), .d (cI 0), .d (cI 0), .d (cB false), .d (cI 0), .d (cB false)]], []⟩) rfl ?_
  refine .q (x := .d (cI 0)) (q_assign rfl) rfl ?_
  refine .nil ?_
  refine .seq ?_
  refine .region ?_
  refine .q (x := .d (cS v0line)) (q_move rfl) rfl ?_
  obtain ⟨y1, hy1, H⟩ := bind_some' H
  refine .g (x := .d (slOf 1 rS y1)) (g_call en_31 rfl rfl (c_f_billingref09_Words (hy1))) rfl ?_
  obtain ⟨y2, hy2, H⟩ := bind_some' H
  refine .g (x := .d (.tup [.agg (Record.row y2.1), cB y2.2])) (g_call en_30 rfl rfl (c_f_billingref09_parse (hy2))) rfl ?_
  refine .q (x := .d (.tup [.agg (Record.row y2.1), cB y2.2])) (q_move rfl) rfl ?_
  refine .q (x := .d (.agg (Record.row y2.1))) (q_extract rfl rfl) rfl ?_
  refine .q (x := .d (cB y2.2)) (q_extract rfl rfl) rfl ?_
  refine .v (x := .ref 1 0) (v_alloc zr_23 rfl) rfl ?_
  refine .withSt (st' := ⟨[.row 23 [.d (cI 0), .d (cI 0), .d (cI 0), .d (cS ([] : List UInt8)), .d (cS ([] : List UInt8)), .d (cI 0), .d (cI 0), .d (cI 0), .d (cI 0), .d (cB false), .d (cI 0), .d (cB false)], .row 23 [.d (cI 0), .d (cI 0), .d (cI 0), .d (cS ([] : List UInt8)), .d (cS ([] : List UInt8)), .d (cI 0), .d (cI 0), .d (cI 0), .d (cI 0), .d (cB false), .d (cI 0), .d (cB false)]], []⟩) rfl ?_
  refine .u (u_store rfl rfl rfl rfl (Nat.le_of_ble_eq_true rfl) sz_23) rfl ?_
  refine .withSt (st' := ⟨[.row 23 [.d (cI 0), .d (cI 0), .d (cI 0), .d (cS ([] : List UInt8)), .d (cS ([] : List UInt8)), .d (cI 0), .d (cI 0), .d (cI 0), .d (cI 0), .d (cB false), .d (cI 0), .d (cB false)], .row 23 [.d (cI y2.1.source), .d (cI y2.1.serial), .d (cI y2.1.kind), .d (cS y2.1.a), .d (cS y2.1.b), .d (cI y2.1.start), .d (cI y2.1.units), .d (cI y2.1.call), .d (cI y2.1.part), .d (cB y2.1.last), .d (cI y2.1.trunk), .d (cB y2.1.inbound)]], []⟩) rfl ?_
  refine .q (x := .d (cB y2.2)) (q_assign rfl) rfl ?_
  refine .nil ?_
  refine .seq ?_
  refine .seq ?_
  refine .region ?_
  refine .q (x := .d (cB y2.2)) (q_move rfl) rfl ?_
  refine .q (x := .d (cB (!y2.2))) (q_not rfl) rfl ?_
  refine .nil ?_
  refine .cond rfl (fun hc => ?_) (fun hc => ?_)
  · replace H := ifT hc H; clear hc
    refine .seq ?_
    refine .region ?_
    refine .q (x := .d (.agg (Record.row (⟨0, 0, 0, ([] : List UInt8), ([] : List UInt8), 0, 0, 0, 0, false, 0, false⟩ : Record)))) (q_buildP pl_23 hi23 hz23 rfl rfl) rfl ?_
    refine .u (u_store rfl rfl rfl rfl (Nat.le_of_ble_eq_true rfl) sz_23) rfl ?_
    refine .withSt (st' := ⟨[.row 23 [.d (cI 0), .d (cI 0), .d (cI 0), .d (cS ([] : List UInt8)), .d (cS ([] : List UInt8)), .d (cI 0), .d (cI 0), .d (cI 0), .d (cI 0), .d (cB false), .d (cI 0), .d (cB false)], .row 23 [.d (cI y2.1.source), .d (cI y2.1.serial), .d (cI y2.1.kind), .d (cS y2.1.a), .d (cS y2.1.b), .d (cI y2.1.start), .d (cI y2.1.units), .d (cI y2.1.call), .d (cI y2.1.part), .d (cB y2.1.last), .d (cI y2.1.trunk), .d (cB y2.1.inbound)]], []⟩) rfl ?_
    refine .q (x := .d (cI 1)) (q_assign rfl) rfl ?_
    refine .nil ?_
    refine .retN [.cell 2 23, .tmp 3] [.d (.agg (Record.row (⟨0, 0, 0, ([] : List UInt8), ([] : List UInt8), 0, 0, 0, 0, false, 0, false⟩ : Record))), .d (cI 1)] Tryd.func13 Tryd.results13 ⟨⟨⟨_, _, rfl⟩, q_loadOA one_23 sz_23 rfl rfl (Nat.le_of_ble_eq_true rfl) rfl⟩, rfl, trivial⟩ ?_
    cases H
    exact ⟨_, EVle.tupL (ds := [.agg (Record.row (⟨0, 0, 0, ([] : List UInt8), ([] : List UInt8), 0, 0, 0, 0, false, 0, false⟩ : Record)), cI 1]) ⟨.rfl' _, .rfl' _, trivial⟩, rfl⟩
  · replace H := ifF hc H; clear hc
    refine .skip ?_
    refine .seq ?_
    refine .region ?_
    refine .q (x := .d (.agg (Record.row y2.1))) (q_loadOA one_23 sz_23 rfl rfl (Nat.le_of_ble_eq_true rfl) rfl) rfl ?_
    obtain ⟨y3, hy3, H⟩ := bind_some' H
    refine .g (x := .d (.tup [cS y3.1, cI y3.2])) (g_call en_11 rfl rfl (c_f_billingref09_Encode (hy3))) rfl ?_
    refine .q (x := .d (.tup [cS y3.1, cI y3.2])) (q_move rfl) rfl ?_
    refine .q (x := .d (cS y3.1)) (q_extract rfl rfl) rfl ?_
    refine .q (x := .d (cI y3.2)) (q_extract rfl rfl) rfl ?_
    refine .q (x := .d (cS y3.1)) (q_assign rfl) rfl ?_
    refine .q (x := .d (cI y3.2)) (q_assign rfl) rfl ?_
    refine .nil ?_
    refine .seq ?_
    refine .seq ?_
    refine .region ?_
    refine .q (x := .d (cI y3.2)) (q_move rfl) rfl ?_
    refine .q (x := .d (cB (y3.2 != 0))) (q_neq rfl rfl) rfl ?_
    refine .nil ?_
    refine .cond rfl (fun hc => ?_) (fun hc => ?_)
    · replace H := ifT hc H; clear hc
      refine .seq ?_
      refine .region ?_
      refine .q (x := .d (.agg (Record.row (⟨0, 0, 0, ([] : List UInt8), ([] : List UInt8), 0, 0, 0, 0, false, 0, false⟩ : Record)))) (q_buildP pl_23 hi23 hz23 rfl rfl) rfl ?_
      refine .q (x := .d (cI y3.2)) (q_move rfl) rfl ?_
      refine .u (u_store rfl rfl rfl rfl (Nat.le_of_ble_eq_true rfl) sz_23) rfl ?_
      refine .withSt (st' := ⟨[.row 23 [.d (cI 0), .d (cI 0), .d (cI 0), .d (cS ([] : List UInt8)), .d (cS ([] : List UInt8)), .d (cI 0), .d (cI 0), .d (cI 0), .d (cI 0), .d (cB false), .d (cI 0), .d (cB false)], .row 23 [.d (cI y2.1.source), .d (cI y2.1.serial), .d (cI y2.1.kind), .d (cS y2.1.a), .d (cS y2.1.b), .d (cI y2.1.start), .d (cI y2.1.units), .d (cI y2.1.call), .d (cI y2.1.part), .d (cB y2.1.last), .d (cI y2.1.trunk), .d (cB y2.1.inbound)]], []⟩) rfl ?_
      refine .q (x := .d (cI y3.2)) (q_assign rfl) rfl ?_
      refine .nil ?_
      refine .retN [.cell 2 23, .tmp 3] [.d (.agg (Record.row (⟨0, 0, 0, ([] : List UInt8), ([] : List UInt8), 0, 0, 0, 0, false, 0, false⟩ : Record))), .d (cI y3.2)] Tryd.func13 Tryd.results13 ⟨⟨⟨_, _, rfl⟩, q_loadOA one_23 sz_23 rfl rfl (Nat.le_of_ble_eq_true rfl) rfl⟩, rfl, trivial⟩ ?_
      cases H
      exact ⟨_, EVle.tupL (ds := [.agg (Record.row (⟨0, 0, 0, ([] : List UInt8), ([] : List UInt8), 0, 0, 0, 0, false, 0, false⟩ : Record)), cI y3.2]) ⟨.rfl' _, .rfl' _, trivial⟩, rfl⟩
    · replace H := ifF hc H; clear hc
      refine .skip ?_
      refine .seq ?_
      refine .seq ?_
      refine .region ?_
      refine .q (x := .d (cS y3.1)) (q_move rfl) rfl ?_
      refine .q (x := .d (cS v0line)) (q_move rfl) rfl ?_
      refine .q (x := .d (cB (y3.1 != v0line))) (q_sneq rfl rfl) rfl ?_
      refine .nil ?_
      refine .cond rfl (fun hc => ?_) (fun hc => ?_)
      · replace H := ifT hc H; clear hc
        refine .seq ?_
        refine .region ?_
        refine .q (x := .d (.agg (Record.row (⟨0, 0, 0, ([] : List UInt8), ([] : List UInt8), 0, 0, 0, 0, false, 0, false⟩ : Record)))) (q_buildP pl_23 hi23 hz23 rfl rfl) rfl ?_
        refine .u (u_store rfl rfl rfl rfl (Nat.le_of_ble_eq_true rfl) sz_23) rfl ?_
        refine .withSt (st' := ⟨[.row 23 [.d (cI 0), .d (cI 0), .d (cI 0), .d (cS ([] : List UInt8)), .d (cS ([] : List UInt8)), .d (cI 0), .d (cI 0), .d (cI 0), .d (cI 0), .d (cB false), .d (cI 0), .d (cB false)], .row 23 [.d (cI y2.1.source), .d (cI y2.1.serial), .d (cI y2.1.kind), .d (cS y2.1.a), .d (cS y2.1.b), .d (cI y2.1.start), .d (cI y2.1.units), .d (cI y2.1.call), .d (cI y2.1.part), .d (cB y2.1.last), .d (cI y2.1.trunk), .d (cB y2.1.inbound)]], []⟩) rfl ?_
        refine .q (x := .d (cI 1)) (q_assign rfl) rfl ?_
        refine .nil ?_
        refine .retN [.cell 2 23, .tmp 3] [.d (.agg (Record.row (⟨0, 0, 0, ([] : List UInt8), ([] : List UInt8), 0, 0, 0, 0, false, 0, false⟩ : Record))), .d (cI 1)] Tryd.func13 Tryd.results13 ⟨⟨⟨_, _, rfl⟩, q_loadOA one_23 sz_23 rfl rfl (Nat.le_of_ble_eq_true rfl) rfl⟩, rfl, trivial⟩ ?_
        cases H
        exact ⟨_, EVle.tupL (ds := [.agg (Record.row (⟨0, 0, 0, ([] : List UInt8), ([] : List UInt8), 0, 0, 0, 0, false, 0, false⟩ : Record)), cI 1]) ⟨.rfl' _, .rfl' _, trivial⟩, rfl⟩
      · replace H := ifF hc H; clear hc
        refine .skip ?_
        refine .seq ?_
        refine .region ?_
        refine .q (x := .d (.agg (Record.row y2.1))) (q_loadOA one_23 sz_23 rfl rfl (Nat.le_of_ble_eq_true rfl) rfl) rfl ?_
        refine .u (u_store rfl rfl rfl rfl (Nat.le_of_ble_eq_true rfl) sz_23) rfl ?_
        refine .withSt (st' := ⟨[.row 23 [.d (cI y2.1.source), .d (cI y2.1.serial), .d (cI y2.1.kind), .d (cS y2.1.a), .d (cS y2.1.b), .d (cI y2.1.start), .d (cI y2.1.units), .d (cI y2.1.call), .d (cI y2.1.part), .d (cB y2.1.last), .d (cI y2.1.trunk), .d (cB y2.1.inbound)], .row 23 [.d (cI y2.1.source), .d (cI y2.1.serial), .d (cI y2.1.kind), .d (cS y2.1.a), .d (cS y2.1.b), .d (cI y2.1.start), .d (cI y2.1.units), .d (cI y2.1.call), .d (cI y2.1.part), .d (cB y2.1.last), .d (cI y2.1.trunk), .d (cB y2.1.inbound)]], []⟩) rfl ?_
        refine .q (x := .d (cI 0)) (q_assign rfl) rfl ?_
        refine .nil ?_
        refine .retN [.cell 2 23, .tmp 3] [.d (.agg (Record.row y2.1)), .d (cI 0)] Tryd.func13 Tryd.results13 ⟨⟨⟨_, _, rfl⟩, q_loadOA one_23 sz_23 rfl rfl (Nat.le_of_ble_eq_true rfl) rfl⟩, rfl, trivial⟩ ?_
        cases H
        exact ⟨_, EVle.tupL (ds := [.agg (Record.row y2.1), cI 0]) ⟨.rfl' _, .rfl' _, trivial⟩, rfl⟩

set_option maxRecDepth 100000 in
set_option maxHeartbeats 1000000 in
theorem c_f_billinglaw09_TextualDecodes {v0line : List UInt8} {r : Bool} (H : f_billinglaw09_TextualDecodes v0line = some r) : ACall Tryd.prog 4 [cS v0line] (· = cB r) := by
  refine ACall.enter' Tryd.func4 rfl Tryd.ntmps4 rfl fun S hS => ?_
  unfold f_billinglaw09_TextualDecodes at H
  change ARun _ _ _ _ _ _ [(0, .d (cS v0line))] _
  refine .seq ?_
  refine .region ?_
  refine .q (x := .d (cB false)) (q_assign rfl) rfl ?_
  refine .nil ?_
  refine .seq ?_
  refine .seq ?_
  refine .region ?_
  refine .q (x := .d (cS v0line)) (q_move rfl) rfl ?_
  refine .q (x := .d (cI (v0line.length : Int))) (q_lenS Tryd.underlying9 rfl) rfl ?_
  refine .q (x := .d (cB (decide ((v0line.length : Int) > 500)))) (q_gtr rfl rfl) rfl ?_
  refine .nil ?_
  refine .cond rfl (fun hc => ?_) (fun hc => ?_)
  · replace H := ifT hc H; clear hc
    refine .seq ?_
    refine .region ?_
    obtain ⟨y1, hy1, H⟩ := bind_some' H
    refine .g (x := .d (cB y1)) (g_call en_9 rfl rfl (c_f_billinglaw09_awake (hy1))) rfl ?_
    refine .q (x := .d (cB y1)) (q_assign rfl) rfl ?_
    refine .nil ?_
    refine .retN [.tmp 2] [.d (cB y1)] Tryd.func4 Tryd.results4 ⟨rfl, trivial⟩ ?_
    cases H
    exact ⟨_, .rfl' _, rfl⟩
  · replace H := ifF hc H; clear hc
    refine .skip ?_
    refine .seq ?_
    refine .region ?_
    refine .q (x := .d (cS v0line)) (q_move rfl) rfl ?_
    obtain ⟨y2, hy2, H⟩ := bind_some' H
    refine .g (x := .d (.tup [.agg (Record.row y2.1), cI y2.2])) (g_call en_12 rfl rfl (c_f_textual_Decode (hy2))) rfl ?_
    refine .q (x := .d (.tup [.agg (Record.row y2.1), cI y2.2])) (q_move rfl) rfl ?_
    refine .q (x := .d (.agg (Record.row y2.1))) (q_extract rfl rfl) rfl ?_
    refine .q (x := .d (cI y2.2)) (q_extract rfl rfl) rfl ?_
    refine .v (x := .ref 0 0) (v_alloc zr_23 rfl) rfl ?_
    refine .withSt (st' := ⟨[.row 23 [.d (cI 0), .d (cI 0), .d (cI 0), .d (cS ([] : List UInt8)), .d (cS ([] : List UInt8)), .d (cI 0), .d (cI 0), .d (cI 0), .d (cI 0), .d (cB false), .d (cI 0), .d (cB false)]], []⟩) rfl ?_
    refine .u (u_store rfl rfl rfl rfl (Nat.le_of_ble_eq_true rfl) sz_23) rfl ?_
    refine .withSt (st' := ⟨[.row 23 [.d (cI y2.1.source), .d (cI y2.1.serial), .d (cI y2.1.kind), .d (cS y2.1.a), .d (cS y2.1.b), .d (cI y2.1.start), .d (cI y2.1.units), .d (cI y2.1.call), .d (cI y2.1.part), .d (cB y2.1.last), .d (cI y2.1.trunk), .d (cB y2.1.inbound)]], []⟩) rfl ?_
    refine .q (x := .d (cI y2.2)) (q_assign rfl) rfl ?_
    refine .nil ?_
    refine .seq ?_
    refine .region ?_
    refine .q (x := .d (cS v0line)) (q_move rfl) rfl ?_
    obtain ⟨y3, hy3, H⟩ := bind_some' H
    refine .g (x := .d (.tup [.agg (Record.row y3.1), cI y3.2])) (g_call en_13 rfl rfl (c_f_billingref09_Decode (hy3))) rfl ?_
    refine .q (x := .d (.tup [.agg (Record.row y3.1), cI y3.2])) (q_move rfl) rfl ?_
    refine .q (x := .d (.agg (Record.row y3.1))) (q_extract rfl rfl) rfl ?_
    refine .q (x := .d (cI y3.2)) (q_extract rfl rfl) rfl ?_
    refine .v (x := .ref 1 0) (v_alloc zr_23 rfl) rfl ?_
    refine .withSt (st' := ⟨[.row 23 [.d (cI y2.1.source), .d (cI y2.1.serial), .d (cI y2.1.kind), .d (cS y2.1.a), .d (cS y2.1.b), .d (cI y2.1.start), .d (cI y2.1.units), .d (cI y2.1.call), .d (cI y2.1.part), .d (cB y2.1.last), .d (cI y2.1.trunk), .d (cB y2.1.inbound)], .row 23 [.d (cI 0), .d (cI 0), .d (cI 0), .d (cS ([] : List UInt8)), .d (cS ([] : List UInt8)), .d (cI 0), .d (cI 0), .d (cI 0), .d (cI 0), .d (cB false), .d (cI 0), .d (cB false)]], []⟩) rfl ?_
    refine .u (u_store rfl rfl rfl rfl (Nat.le_of_ble_eq_true rfl) sz_23) rfl ?_
    refine .withSt (st' := ⟨[.row 23 [.d (cI y2.1.source), .d (cI y2.1.serial), .d (cI y2.1.kind), .d (cS y2.1.a), .d (cS y2.1.b), .d (cI y2.1.start), .d (cI y2.1.units), .d (cI y2.1.call), .d (cI y2.1.part), .d (cB y2.1.last), .d (cI y2.1.trunk), .d (cB y2.1.inbound)], .row 23 [.d (cI y3.1.source), .d (cI y3.1.serial), .d (cI y3.1.kind), .d (cS y3.1.a), .d (cS y3.1.b), .d (cI y3.1.start), .d (cI y3.1.units), .d (cI y3.1.call), .d (cI y3.1.part), .d (cB y3.1.last), .d (cI y3.1.trunk), .d (cB y3.1.inbound)]], []⟩) rfl ?_
    refine .q (x := .d (cI y3.2)) (q_assign rfl) rfl ?_
    refine .nil ?_
    refine .seq ?_
    refine .region ?_
    refine .q (x := .d (.agg (Record.row y2.1))) (q_loadOA one_23 sz_23 rfl rfl (Nat.le_of_ble_eq_true rfl) rfl) rfl ?_
    refine .q (x := .d (.agg (Record.row y3.1))) (q_loadOA one_23 sz_23 rfl rfl (Nat.le_of_ble_eq_true rfl) rfl) rfl ?_
    refine .q (x := .d (cB (eqVs (Record.vals y2.1) (Record.vals y3.1)))) (q_steql fk_23 rfl rfl (xs := Record.vals y2.1) (ys := Record.vals y3.1) rfl rfl rfl rfl) rfl ?_
    refine .q (x := .d (cB (eqVs (Record.vals y2.1) (Record.vals y3.1)))) (q_move rfl) rfl ?_
    refine .guardG (b := eqVs (Record.vals y2.1) (Record.vals y3.1)) (x := .d (cI y2.2)) (env' := [(4, _)]) rfl rfl rfl ⟨.inl rfl, trivial⟩ rfl (fun hg => OpQ.g (q_move rfl)) ?_
    refine .guardG (b := eqVs (Record.vals y2.1) (Record.vals y3.1)) (x := .d (cI y3.2)) (env' := [(6, _)]) rfl rfl rfl ⟨.inl rfl, trivial⟩ rfl (fun hg => OpQ.g (q_move rfl)) ?_
    refine .guardG (b := eqVs (Record.vals y2.1) (Record.vals y3.1)) (x := .d (cB (y2.2 == y3.2))) (env' := [(25, _), (26, _)]) rfl rfl rfl ⟨.inr (.inl rfl), ⟨.inr (.inl rfl), trivial⟩⟩ rfl (fun hg => OpQ.g (q_eql rfl rfl)) ?_
    refine .q (x := .d (cB ((eqVs (Record.vals y2.1) (Record.vals y3.1)) && (y2.2 == y3.2)))) (q_pickAndB rfl rfl rfl) rfl ?_
    refine .q (x := .d (cB ((eqVs (Record.vals y2.1) (Record.vals y3.1)) && (y2.2 == y3.2)))) (q_move rfl) rfl ?_
    obtain ⟨y4, hy4, H⟩ := bind_some' H
    refine .guardG (b := ((eqVs (Record.vals y2.1) (Record.vals y3.1)) && (y2.2 == y3.2))) (x := .d (cB y4)) (env' := []) rfl rfl rfl trivial rfl (fun hg => (g_call en_9 rfl rfl (c_f_billinglaw09_awake (gcall_some hy4 hg)))) ?_
    refine .q (x := .d (cB (((eqVs (Record.vals y2.1) (Record.vals y3.1)) && (y2.2 == y3.2)) && y4))) (q_pickAndB rfl rfl rfl) rfl ?_
    refine .q (x := .d (cB (((eqVs (Record.vals y2.1) (Record.vals y3.1)) && (y2.2 == y3.2)) && y4))) (q_assign rfl) rfl ?_
    refine .nil ?_
    refine .retN [.tmp 2] [.d (cB (((eqVs (Record.vals y2.1) (Record.vals y3.1)) && (y2.2 == y3.2)) && y4))] Tryd.func4 Tryd.results4 ⟨rfl, trivial⟩ ?_
    cases H
    exact ⟨_, .rfl' _, rfl⟩

set_option maxRecDepth 100000 in
set_option maxHeartbeats 1000000 in
theorem c_f_billinglaw09_TextualBack {v0 : Record} {v1 : Record} {v2 : List UInt8} {r : Bool} (H : f_billinglaw09_TextualBack v0 v1 v2 = some r) : ACall Tryd.prog 5 [.agg (Record.row v0), .agg (Record.row v1), cS v2] (· = cB r) := by
  refine ACall.enter' Tryd.func5 rfl Tryd.ntmps5 rfl fun S hS => ?_
  unfold f_billinglaw09_TextualBack at H
  change ARun _ _ _ _ _ _ [(0, .d (.agg (Record.row v0))), (1, .d (.agg (Record.row v1))), (2, .d (cS v2))] _
  refine .seq ?_
  refine .region ?_
  refine .v (x := .ref 0 0) (v_box rfl rfl) rfl ?_
  refine .withSt (st' := ⟨[.row 23 [.d (cI v0.source), .d (cI v0.serial), .d (cI v0.kind), .d (cS v0.a), .d (cS v0.b), .d (cI v0.start), .d (cI v0.units), .d (cI v0.call), .d (cI v0.part), .d (cB v0.last), .d (cI v0.trunk), .d (cB v0.inbound)]], []⟩) rfl ?_
  refine .v (x := .ref 1 0) (v_box rfl rfl) rfl ?_
  refine .withSt (st' := ⟨[.row 23 [.d (cI v0.source), .d (cI v0.serial), .d (cI v0.kind), .d (cS v0.a), .d (cS v0.b), .d (cI v0.start), .d (cI v0.units), .d (cI v0.call), .d (cI v0.part), .d (cB v0.last), .d (cI v0.trunk), .d (cB v0.inbound)], .row 23 [.d (cI v1.source), .d (cI v1.serial), .d (cI v1.kind), .d (cS v1.a), .d (cS v1.b), .d (cI v1.start), .d (cI v1.units), .d (cI v1.call), .d (cI v1.part), .d (cB v1.last), .d (cI v1.trunk), .d (cB v1.inbound)]], []⟩) rfl ?_
  refine .q (x := .d (cB false)) (q_assign rfl) rfl ?_
  refine .nil ?_
  refine .seq ?_
  refine .seq ?_
  refine .region ?_
  refine .q (x := .d (.agg (Record.row v0))) (q_loadOA one_23 sz_23 rfl rfl (Nat.le_of_ble_eq_true rfl) rfl) rfl ?_
  obtain ⟨y1, hy1, H⟩ := bind_some' H
  refine .g (x := .d (cB y1)) (g_call en_8 rfl rfl (c_f_billinglaw09_short (hy1))) rfl ?_
  refine .q (x := .d (cB (!y1))) (q_not rfl) rfl ?_
  refine .q (x := .d (cB (!y1))) (q_move rfl) rfl ?_
  refine .guardG (b := (!(!y1))) (x := .d (.agg (Record.row v1))) (env' := [(4, _)]) rfl rfl rfl ⟨.inl rfl, trivial⟩ rfl (fun hg => OpQ.g (q_loadOA one_23 sz_23 rfl rfl (Nat.le_of_ble_eq_true rfl) rfl)) ?_
  obtain ⟨y2, hy2, H⟩ := bind_some' H
  refine .guardG (b := (!(!y1))) (x := .d (cB y2)) (env' := [(21, _)]) rfl rfl rfl ⟨.inr (.inl rfl), trivial⟩ rfl (fun hg => (g_call en_8 rfl rfl (c_f_billinglaw09_short (gcall_some hy2 hg)))) ?_
  refine .guardG (b := (!(!y1))) (x := .d (cB (!y2))) (env' := [(22, _)]) rfl rfl rfl ⟨.inr (.inl rfl), trivial⟩ rfl (fun hg => OpQ.g (q_not rfl)) ?_
  refine .q (x := .d (cB ((!y1) || (!y2)))) (q_pickOrB rfl rfl rfl) rfl ?_
  refine .q (x := .d (cB ((!y1) || (!y2)))) (q_move rfl) rfl ?_
  refine .guardG (b := (!((!y1) || (!y2)))) (x := .d (cS v2)) (env' := [(2, _)]) rfl rfl rfl ⟨.inl rfl, trivial⟩ rfl (fun hg => OpQ.g (q_move rfl)) ?_
  refine .guardG (b := (!((!y1) || (!y2)))) (x := .d (cI (v2.length : Int))) (env' := [(26, _)]) rfl rfl rfl ⟨.inr (.inl rfl), trivial⟩ rfl (fun hg => OpQ.g (q_lenS Tryd.underlying9 rfl)) ?_
  refine .guardG (b := (!((!y1) || (!y2)))) (x := .d (cB (decide ((v2.length : Int) > 500)))) (env' := [(27, _)]) rfl rfl rfl ⟨.inr (.inl rfl), trivial⟩ rfl (fun hg => OpQ.g (q_gtr rfl rfl)) ?_
  refine .q (x := .d (cB (((!y1) || (!y2)) || (decide ((v2.length : Int) > 500))))) (q_pickOrB rfl rfl rfl) rfl ?_
  refine .nil ?_
  refine .cond rfl (fun hc => ?_) (fun hc => ?_)
  · replace H := ifT hc H; clear hc
    refine .seq ?_
    refine .region ?_
    obtain ⟨y3, hy3, H⟩ := bind_some' H
    refine .g (x := .d (cB y3)) (g_call en_9 rfl rfl (c_f_billinglaw09_awake (hy3))) rfl ?_
    refine .q (x := .d (cB y3)) (q_assign rfl) rfl ?_
    refine .nil ?_
    refine .retN [.tmp 6] [.d (cB y3)] Tryd.func5 Tryd.results5 ⟨rfl, trivial⟩ ?_
    cases H
    exact ⟨_, .rfl' _, rfl⟩
  · replace H := ifF hc H; clear hc
    refine .skip ?_
    refine .seq ?_
    refine .region ?_
    refine .q (x := .d (.agg (Record.row v0))) (q_loadOA one_23 sz_23 rfl rfl (Nat.le_of_ble_eq_true rfl) rfl) rfl ?_
    obtain ⟨y4, hy4, H⟩ := bind_some' H
    refine .g (x := .d (.tup [cS y4.1, cI y4.2])) (g_call en_10 rfl rfl (c_f_textual_Encode (hy4))) rfl ?_
    refine .q (x := .d (.tup [cS y4.1, cI y4.2])) (q_move rfl) rfl ?_
    refine .q (x := .d (cS y4.1)) (q_extract rfl rfl) rfl ?_
    refine .q (x := .d (cI y4.2)) (q_extract rfl rfl) rfl ?_
    refine .q (x := .d (cS y4.1)) (q_assign rfl) rfl ?_
    refine .q (x := .d (cI y4.2)) (q_assign rfl) rfl ?_
    refine .nil ?_
    refine .seq ?_
    refine .region ?_
    refine .q (x := .d (.agg (Record.row v1))) (q_loadOA one_23 sz_23 rfl rfl (Nat.le_of_ble_eq_true rfl) rfl) rfl ?_
    obtain ⟨y5, hy5, H⟩ := bind_some' H
    refine .g (x := .d (.tup [cS y5.1, cI y5.2])) (g_call en_10 rfl rfl (c_f_textual_Encode (hy5))) rfl ?_
    refine .q (x := .d (.tup [cS y5.1, cI y5.2])) (q_move rfl) rfl ?_
    refine .q (x := .d (cS y5.1)) (q_extract rfl rfl) rfl ?_
    refine .q (x := .d (cI y5.2)) (q_extract rfl rfl) rfl ?_
    refine .q (x := .d (cS y5.1)) (q_assign rfl) rfl ?_
    refine .q (x := .d (cI y5.2)) (q_assign rfl) rfl ?_
    refine .nil ?_
    refine .seqJoin (ι := Unit) (fun s => [(2, .d (cS v2))]) (fun s => ⟨[.row 23 [.d (cI v0.source), .d (cI v0.serial), .d (cI v0.kind), .d (cS v0.a), .d (cS v0.b), .d (cI v0.start), .d (cI v0.units), .d (cI v0.call), .d (cI v0.part), .d (cB v0.last), .d (cI v0.trunk), .d (cB v0.inbound)], .row 23 [.d (cI v1.source), .d (cI v1.serial), .d (cI v1.kind), .d (cS v1.a), .d (cS v1.b), .d (cI v1.start), .d (cI v1.units), .d (cI v1.call), .d (cI v1.part), .d (cB v1.last), .d (cI v1.trunk), .d (cB v1.inbound)]], []⟩) (fun s => f_billinglaw09_TextualBack_j1 v2 = some r) ?_ ?_
    · rintro _ H
      replace H : f_billinglaw09_TextualBack_j1 v2 = some r := H
      unfold f_billinglaw09_TextualBack_j1 at H
      change ARun _ _ _ _ _ _ [(2, .d (cS v2))] ⟨[.row 23 [.d (cI v0.source), .d (cI v0.serial), .d (cI v0.kind), .d (cS v0.a), .d (cS v0.b), .d (cI v0.start), .d (cI v0.units), .d (cI v0.call), .d (cI v0.part), .d (cB v0.last), .d (cI v0.trunk), .d (cB v0.inbound)], .row 23 [.d (cI v1.source), .d (cI v1.serial), .d (cI v1.kind), .d (cS v1.a), .d (cS v1.b), .d (cI v1.start), .d (cI v1.units), .d (cI v1.call), .d (cI v1.part), .d (cB v1.last), .d (cI v1.trunk), .d (cB v1.inbound)]], []⟩
      refine .seq ?_
      refine .region ?_
      refine .q (x := .d (cS v2)) (q_move rfl) rfl ?_
      obtain ⟨y6, hy6, H⟩ := bind_some' H
      refine .g (x := .d (.tup [.agg (Record.row y6.1), cI y6.2])) (g_call en_12 rfl rfl (c_f_textual_Decode (hy6))) rfl ?_
      refine .q (x := .d (.tup [.agg (Record.row y6.1), cI y6.2])) (q_move rfl) rfl ?_
      refine .q (x := .d (.agg (Record.row y6.1))) (q_extract rfl rfl) rfl ?_
      refine .q (x := .d (cI y6.2)) (q_extract rfl rfl) rfl ?_
      refine .v (x := .ref 2 0) (v_alloc zr_23 rfl) rfl ?_
      refine .withSt (st' := ⟨[.row 23 [.d (cI v0.source), .d (cI v0.serial), .d (cI v0.kind), .d (cS v0.a), .d (cS v0.b), .d (cI v0.start), .d (cI v0.units), .d (cI v0.call), .d (cI v0.part), .d (cB v0.last), .d (cI v0.trunk), .d (cB v0.inbound)], .row 23 [.d (cI v1.source), .d (cI v1.serial), .d (cI v1.kind), .d (cS v1.a), .d (cS v1.b), .d (cI v1.start), .d (cI v1.units), .d (cI v1.call), .d (cI v1.part), .d (cB v1.last), .d (cI v1.trunk), .d (cB v1.inbound)], .row 23 [.d (cI 0), .d (cI 0), .d (cI 0), .d (cS ([] : List UInt8)), .d (cS ([] : List UInt8)), .d (cI 0), .d (cI 0), .d (cI 0), .d (cI 0), .d (cB false), .d (cI 0), .d (cB false)]], []⟩) rfl ?_
      refine .u (u_store rfl rfl rfl rfl (Nat.le_of_ble_eq_true rfl) sz_23) rfl ?_
      refine .withSt (st' := ⟨[.row 23 [.d (cI v0.source), .d (cI v0.serial), .d (cI v0.kind), .d (cS v0.a), .d (cS v0.b), .d (cI v0.start), .d (cI v0.units), .d (cI v0.call), .d (cI v0.part), .d (cB v0.last), .d (cI v0.trunk), .d (cB v0.inbound)], .row 23 [.d (cI v1.source), .d (cI v1.serial), .d (cI v1.kind), .d (cS v1.a), .d (cS v1.b), .d (cI v1.start), .d (cI v1.units), .d (cI v1.call), .d (cI v1.part), .d (cB v1.last), .d (cI v1.trunk), .d (cB v1.inbound)], .row 23 [.d (cI y6.1.source), .d (cI y6.1.serial), .d (cI y6.1.kind), .d (cS y6.1.a), .d (cS y6.1.b), .d (cI y6.1.start), .d (cI y6.1.units), .d (cI y6.1.call), .d (cI y6.1.part), .d (cB y6.1.last), .d (cI y6.1.trunk), .d (cB y6.1.inbound)]], []⟩) rfl ?_
      refine .q (x := .d (cI y6.2)) (q_assign rfl) rfl ?_
      refine .nil ?_
      refine .seq ?_
      refine .seq ?_
      refine .region ?_
      refine .q (x := .d (cI y6.2)) (q_move rfl) rfl ?_
      refine .q (x := .d (cB (y6.2 != 0))) (q_neq rfl rfl) rfl ?_
      refine .nil ?_
      refine .cond rfl (fun hc => ?_) (fun hc => ?_)
      · replace H := ifT hc H; clear hc
        refine .seq ?_
        refine .region ?_
        obtain ⟨y7, hy7, H⟩ := bind_some' H
        refine .g (x := .d (cB y7)) (g_call en_9 rfl rfl (c_f_billinglaw09_awake (hy7))) rfl ?_
        refine .q (x := .d (cB y7)) (q_assign rfl) rfl ?_
        refine .nil ?_
        refine .retN [.tmp 6] [.d (cB y7)] Tryd.func5 Tryd.results5 ⟨rfl, trivial⟩ ?_
        cases H
        exact ⟨_, .rfl' _, rfl⟩
      · replace H := ifF hc H; clear hc
        refine .skip ?_
        refine .seq ?_
        refine .region ?_
        refine .q (x := .d (.agg (Record.row y6.1))) (q_loadOA one_23 sz_23 rfl rfl (Nat.le_of_ble_eq_true rfl) rfl) rfl ?_
        obtain ⟨y8, hy8, H⟩ := bind_some' H
        refine .g (x := .d (.tup [cS y8.1, cI y8.2])) (g_call en_10 rfl rfl (c_f_textual_Encode (hy8))) rfl ?_
        refine .q (x := .d (.tup [cS y8.1, cI y8.2])) (q_move rfl) rfl ?_
        refine .q (x := .d (cS y8.1)) (q_extract rfl rfl) rfl ?_
        refine .q (x := .d (cI y8.2)) (q_extract rfl rfl) rfl ?_
        refine .q (x := .d (cS y8.1)) (q_assign rfl) rfl ?_
        refine .q (x := .d (cI y8.2)) (q_assign rfl) rfl ?_
        refine .nil ?_
        refine .seq ?_
        refine .region ?_
        refine .q (x := .d (cI y8.2)) (q_move rfl) rfl ?_
        refine .q (x := .d (cB (y8.2 == 0))) (q_eql rfl rfl) rfl ?_
        refine .q (x := .d (cB (y8.2 == 0))) (q_move rfl) rfl ?_
        refine .guardG (b := (y8.2 == 0)) (x := .d (cS y8.1)) (env' := [(15, _)]) rfl rfl rfl ⟨.inl rfl, trivial⟩ rfl (fun hg => OpQ.g (q_move rfl)) ?_
        refine .guardG (b := (y8.2 == 0)) (x := .d (cS v2)) (env' := [(2, _)]) rfl rfl rfl ⟨.inl rfl, trivial⟩ rfl (fun hg => OpQ.g (q_move rfl)) ?_
        refine .guardG (b := (y8.2 == 0)) (x := .d (cB (y8.1 == v2))) (env' := [(84, _), (85, _)]) rfl rfl rfl ⟨.inr (.inl rfl), ⟨.inr (.inl rfl), trivial⟩⟩ rfl (fun hg => OpQ.g (q_seql rfl rfl)) ?_
        refine .q (x := .d (cB ((y8.2 == 0) && (y8.1 == v2)))) (q_pickAndB rfl rfl rfl) rfl ?_
        refine .q (x := .d (cB ((y8.2 == 0) && (y8.1 == v2)))) (q_move rfl) rfl ?_
        obtain ⟨y9, hy9, H⟩ := bind_some' H
        refine .guardG (b := ((y8.2 == 0) && (y8.1 == v2))) (x := .d (cB y9)) (env' := []) rfl rfl rfl trivial rfl (fun hg => (g_call en_9 rfl rfl (c_f_billinglaw09_awake (gcall_some hy9 hg)))) ?_
        refine .q (x := .d (cB (((y8.2 == 0) && (y8.1 == v2)) && y9))) (q_pickAndB rfl rfl rfl) rfl ?_
        refine .q (x := .d (cB (((y8.2 == 0) && (y8.1 == v2)) && y9))) (q_assign rfl) rfl ?_
        refine .nil ?_
        refine .retN [.tmp 6] [.d (cB (((y8.2 == 0) && (y8.1 == v2)) && y9))] Tryd.func5 Tryd.results5 ⟨rfl, trivial⟩ ?_
        cases H
        exact ⟨_, .rfl' _, rfl⟩
    · intro hj1
      refine .seq ?_
      refine .region ?_
      refine .q (x := .d (cI y4.2)) (q_move rfl) rfl ?_
      refine .q (x := .d (cB (y4.2 == 0))) (q_eql rfl rfl) rfl ?_
      refine .nil ?_
      refine .cond rfl (fun hc => ?_) (fun hc => ?_)
      · replace H := ifT hc H; clear hc
        refine .seq ?_
        refine .region ?_
        refine .q (x := .d (cS y4.1)) (q_move rfl) rfl ?_
        obtain ⟨y10, hy10, H⟩ := bind_some' H
        refine .g (x := .d (.tup [.agg (Record.row y10.1), cI y10.2])) (g_call en_12 rfl rfl (c_f_textual_Decode (hy10))) rfl ?_
        refine .q (x := .d (.tup [.agg (Record.row y10.1), cI y10.2])) (q_move rfl) rfl ?_
        refine .q (x := .d (.agg (Record.row y10.1))) (q_extract rfl rfl) rfl ?_
        refine .q (x := .d (cI y10.2)) (q_extract rfl rfl) rfl ?_
        refine .v (x := .ref 2 0) (v_alloc zr_23 rfl) rfl ?_
        refine .withSt (st' := ⟨[.row 23 [.d (cI v0.source), .d (cI v0.serial), .d (cI v0.kind), .d (cS v0.a), .d (cS v0.b), .d (cI v0.start), .d (cI v0.units), .d (cI v0.call), .d (cI v0.part), .d (cB v0.last), .d (cI v0.trunk), .d (cB v0.inbound)], .row 23 [.d (cI v1.source), .d (cI v1.serial), .d (cI v1.kind), .d (cS v1.a), .d (cS v1.b), .d (cI v1.start), .d (cI v1.units), .d (cI v1.call), .d (cI v1.part), .d (cB v1.last), .d (cI v1.trunk), .d (cB v1.inbound)], .row 23 [.d (cI 0), .d (cI 0), .d (cI 0), .d (cS ([] : List UInt8)), .d (cS ([] : List UInt8)), .d (cI 0), .d (cI 0), .d (cI 0), .d (cI 0), .d (cB false), .d (cI 0), .d (cB false)]], []⟩) rfl ?_
        refine .u (u_store rfl rfl rfl rfl (Nat.le_of_ble_eq_true rfl) sz_23) rfl ?_
        refine .withSt (st' := ⟨[.row 23 [.d (cI v0.source), .d (cI v0.serial), .d (cI v0.kind), .d (cS v0.a), .d (cS v0.b), .d (cI v0.start), .d (cI v0.units), .d (cI v0.call), .d (cI v0.part), .d (cB v0.last), .d (cI v0.trunk), .d (cB v0.inbound)], .row 23 [.d (cI v1.source), .d (cI v1.serial), .d (cI v1.kind), .d (cS v1.a), .d (cS v1.b), .d (cI v1.start), .d (cI v1.units), .d (cI v1.call), .d (cI v1.part), .d (cB v1.last), .d (cI v1.trunk), .d (cB v1.inbound)], .row 23 [.d (cI y10.1.source), .d (cI y10.1.serial), .d (cI y10.1.kind), .d (cS y10.1.a), .d (cS y10.1.b), .d (cI y10.1.start), .d (cI y10.1.units), .d (cI y10.1.call), .d (cI y10.1.part), .d (cB y10.1.last), .d (cI y10.1.trunk), .d (cB y10.1.inbound)]], []⟩) rfl ?_
        refine .q (x := .d (cI y10.2)) (q_assign rfl) rfl ?_
        refine .nil ?_
        refine .seq ?_
        refine .region ?_
        refine .q (x := .d (cI y10.2)) (q_move rfl) rfl ?_
        refine .q (x := .d (cB (y10.2 != 0))) (q_neq rfl rfl) rfl ?_
        refine .q (x := .d (cB (y10.2 != 0))) (q_move rfl) rfl ?_
        refine .guardG (b := (!(y10.2 != 0))) (x := .d (.agg (Record.row y10.1))) (env' := [(11, _)]) rfl rfl rfl ⟨.inl rfl, trivial⟩ rfl (fun hg => OpQ.g (q_loadOA one_23 sz_23 rfl rfl (Nat.le_of_ble_eq_true rfl) rfl)) ?_
        refine .guardG (b := (!(y10.2 != 0))) (x := .d (.agg (Record.row v0))) (env' := [(3, _)]) rfl rfl rfl ⟨.inl rfl, trivial⟩ rfl (fun hg => OpQ.g (q_loadOA one_23 sz_23 rfl rfl (Nat.le_of_ble_eq_true rfl) rfl)) ?_
        refine .guardG (b := (!(y10.2 != 0))) (x := .d (cB (!(eqVs (Record.vals y10.1) (Record.vals v0))))) (env' := [(51, _), (52, _)]) rfl rfl rfl ⟨.inr (.inl rfl), ⟨.inr (.inl rfl), trivial⟩⟩ rfl (fun hg => OpQ.g (q_stneq fk_23 rfl rfl (xs := Record.vals y10.1) (ys := Record.vals v0) rfl rfl rfl rfl)) ?_
        refine .q (x := .d (cB ((y10.2 != 0) || (!(eqVs (Record.vals y10.1) (Record.vals v0)))))) (q_pickOrB rfl rfl rfl) rfl ?_
        refine .q (x := .d (cB ((y10.2 != 0) || (!(eqVs (Record.vals y10.1) (Record.vals v0)))))) (q_move rfl) rfl ?_
        refine .guardG (b := (!((y10.2 != 0) || (!(eqVs (Record.vals y10.1) (Record.vals v0)))))) (x := .d (cI y5.2)) (env' := [(10, _)]) rfl rfl rfl ⟨.inl rfl, trivial⟩ rfl (fun hg => OpQ.g (q_move rfl)) ?_
        refine .guardG (b := (!((y10.2 != 0) || (!(eqVs (Record.vals y10.1) (Record.vals v0)))))) (x := .d (cB (y5.2 == 0))) (env' := [(56, _)]) rfl rfl rfl ⟨.inr (.inl rfl), trivial⟩ rfl (fun hg => OpQ.g (q_eql rfl rfl)) ?_
        refine .guardG (b := (!((y10.2 != 0) || (!(eqVs (Record.vals y10.1) (Record.vals v0)))))) (x := .d (cB (y5.2 == 0))) (env' := [(57, _)]) rfl rfl rfl ⟨.inr (.inl rfl), trivial⟩ rfl (fun hg => OpQ.g (q_move rfl)) ?_
        refine .guardG (b := ((!((y10.2 != 0) || (!(eqVs (Record.vals y10.1) (Record.vals v0))))) && (y5.2 == 0))) (x := .d (cS y4.1)) (env' := [(7, _)]) rfl rfl rfl ⟨.inl rfl, trivial⟩ rfl (fun hg => OpQ.g (q_move rfl)) ?_
        refine .guardG (b := ((!((y10.2 != 0) || (!(eqVs (Record.vals y10.1) (Record.vals v0))))) && (y5.2 == 0))) (x := .d (cS y5.1)) (env' := [(9, _)]) rfl rfl rfl ⟨.inl rfl, trivial⟩ rfl (fun hg => OpQ.g (q_move rfl)) ?_
        refine .guardG (b := ((!((y10.2 != 0) || (!(eqVs (Record.vals y10.1) (Record.vals v0))))) && (y5.2 == 0))) (x := .d (cB (y4.1 == y5.1))) (env' := [(59, _), (60, _)]) rfl rfl rfl ⟨.inr (.inl rfl), ⟨.inr (.inl rfl), trivial⟩⟩ rfl (fun hg => OpQ.g (q_seql rfl rfl)) ?_
        refine .guardG (b := ((!((y10.2 != 0) || (!(eqVs (Record.vals y10.1) (Record.vals v0))))) && (y5.2 == 0))) (x := .d (.agg (Record.row v0))) (env' := [(3, _)]) rfl rfl rfl ⟨.inl rfl, trivial⟩ rfl (fun hg => OpQ.g (q_loadOA one_23 sz_23 rfl rfl (Nat.le_of_ble_eq_true rfl) rfl)) ?_
        refine .guardG (b := ((!((y10.2 != 0) || (!(eqVs (Record.vals y10.1) (Record.vals v0))))) && (y5.2 == 0))) (x := .d (.agg (Record.row v1))) (env' := [(4, _)]) rfl rfl rfl ⟨.inl rfl, trivial⟩ rfl (fun hg => OpQ.g (q_loadOA one_23 sz_23 rfl rfl (Nat.le_of_ble_eq_true rfl) rfl)) ?_
        refine .guardG (b := ((!((y10.2 != 0) || (!(eqVs (Record.vals y10.1) (Record.vals v0))))) && (y5.2 == 0))) (x := .d (cB (eqVs (Record.vals v0) (Record.vals v1)))) (env' := [(62, _), (63, _)]) rfl rfl rfl ⟨.inr (.inl rfl), ⟨.inr (.inl rfl), trivial⟩⟩ rfl (fun hg => OpQ.g (q_steql fk_23 rfl rfl (xs := Record.vals v0) (ys := Record.vals v1) rfl rfl rfl rfl)) ?_
        refine .guardG (b := ((!((y10.2 != 0) || (!(eqVs (Record.vals y10.1) (Record.vals v0))))) && (y5.2 == 0))) (x := .d (cB ((y4.1 == y5.1) != (eqVs (Record.vals v0) (Record.vals v1))))) (env' := [(61, _), (64, _)]) rfl rfl rfl ⟨.inr (.inl rfl), ⟨.inr (.inl rfl), trivial⟩⟩ rfl (fun hg => OpQ.g (q_bneq rfl Tryd.underlying4 rfl)) ?_
        refine .guardG (b := (!((y10.2 != 0) || (!(eqVs (Record.vals y10.1) (Record.vals v0)))))) (x := .d (cB ((y5.2 == 0) && ((y4.1 == y5.1) != (eqVs (Record.vals v0) (Record.vals v1)))))) (env' := [(58, _), (65, _)]) rfl rfl rfl ⟨.inr (.inl rfl), ⟨.inr (.inr ⟨_, _, rfl, rfl⟩), trivial⟩⟩ rfl (fun hg => OpQ.g (q_pickAndB rfl rfl rfl)) ?_
        refine .q (x := .d (cB (((y10.2 != 0) || (!(eqVs (Record.vals y10.1) (Record.vals v0)))) || ((y5.2 == 0) && ((y4.1 == y5.1) != (eqVs (Record.vals v0) (Record.vals v1))))))) (q_pickOrB rfl rfl rfl) rfl ?_
        refine .nil ?_
        refine .cond rfl (fun hc => ?_) (fun hc => ?_)
        · replace H := ifT hc H; clear hc
          refine .seq ?_
          refine .region ?_
          refine .q (x := .d (cB false)) (q_assign rfl) rfl ?_
          refine .nil ?_
          refine .retN [.tmp 6] [.d (cB false)] Tryd.func5 Tryd.results5 ⟨rfl, trivial⟩ ?_
          cases H
          exact ⟨_, .rfl' _, rfl⟩
        · replace H := ifF hc H; clear hc
          refine .skip ?_
          exact .to 2 0 (env' := [(2, .d (cS v2))]) (st' := ⟨[.row 23 [.d (cI v0.source), .d (cI v0.serial), .d (cI v0.kind), .d (cS v0.a), .d (cS v0.b), .d (cI v0.start), .d (cI v0.units), .d (cI v0.call), .d (cI v0.part), .d (cB v0.last), .d (cI v0.trunk), .d (cB v0.inbound)], .row 23 [.d (cI v1.source), .d (cI v1.serial), .d (cI v1.kind), .d (cS v1.a), .d (cS v1.b), .d (cI v1.start), .d (cI v1.units), .d (cI v1.call), .d (cI v1.part), .d (cB v1.last), .d (cI v1.trunk), .d (cB v1.inbound)]], []⟩) (.cons rfl (.rfl' _) (.nil)) rfl rfl rfl rfl rfl (by rw [hS]; exact Nat.le_of_ble_eq_true rfl) (by rw [hS]; exact Nat.le_of_ble_eq_true rfl) <| .sub (.cons rfl (.rfl' _) (.nil)) (hj1 () H)
      · replace H := ifF hc H; clear hc
        refine .skip ?_
        exact .sub (.cons rfl (.rfl' _) (.nil)) (hj1 () H)

set_option maxRecDepth 100000 in
set_option maxHeartbeats 1000000 in
theorem c_f_billingref09_Lines {v0s : List UInt8} {r : (List (List UInt8)) × Int} (H : f_billingref09_Lines v0s = some r) : ACall Tryd.prog 15 [cS v0s] (· = .tup [slOf 1 rS r.1, cI r.2]) := by
  obtain ⟨i9, hi9, hz9, hs9, hb9⟩ := in_9
  refine ACall.enter' Tryd.func15 rfl Tryd.ntmps15 rfl fun S hS => ?_
  unfold f_billingref09_Lines at H
  change ARun _ _ _ _ _ _ [(0, .d (cS v0s))] _
  refine .seq ?_
  refine .region ?_
  refine .q (x := .d (nilD)) (q_assign rfl) rfl ?_
  refine .q (x := .d (cI 0)) (q_assign rfl) rfl ?_
  refine .nil ?_
  refine .seq ?_
  refine .seq ?_
  refine .region ?_
  refine .q (x := .d (cS v0s)) (q_move rfl) rfl ?_
  refine .q (x := .d (cB (v0s != ([] : List UInt8)))) (q_sneq rfl rfl) rfl ?_
  refine .q (x := .d (cB (v0s != ([] : List UInt8)))) (q_move rfl) rfl ?_
  refine .guardG (b := (v0s != ([] : List UInt8))) (x := .d (cS v0s)) (env' := [(0, _)]) rfl rfl rfl ⟨.inl rfl, trivial⟩ rfl (fun hg => OpQ.g (q_move rfl)) ?_
  refine .guardG (b := (v0s != ([] : List UInt8))) (x := .d (cS v0s)) (env' := [(0, _)]) rfl rfl rfl ⟨.inl rfl, trivial⟩ rfl (fun hg => OpQ.g (q_move rfl)) ?_
  refine .guardG (b := (v0s != ([] : List UInt8))) (x := .d (cI (v0s.length : Int))) (env' := [(11, _)]) rfl rfl rfl ⟨.inr (.inl rfl), trivial⟩ rfl (fun hg => OpQ.g (q_lenS Tryd.underlying9 rfl)) ?_
  obtain ⟨hk1, H⟩ := ck_some H
  refine .guardG (b := (v0s != ([] : List UInt8))) (x := .d (cI ((v0s.length : Int) - 1))) (env' := [(12, _)]) rfl rfl rfl ⟨.inr (.inl rfl), trivial⟩ rfl (fun hg => OpQ.g (q_subI rfl rfl (hk1 hg).1 (hk1 hg).2)) ?_
  obtain ⟨hk2, H⟩ := ck_some H
  refine .guardG (b := (v0s != ([] : List UInt8))) (x := .d (cU8 (nth v0s (Int.toNat ((v0s.length : Int) - 1))))) (env' := [(10, _), (13, _)]) rfl rfl rfl ⟨.inr (.inl rfl), ⟨.inr (.inl rfl), trivial⟩⟩ rfl (fun hg => OpQ.g (q_indexL (i := (v0s.length : Int) - 1) Tryd.underlying9 rfl rfl (hk2 hg))) ?_
  refine .guardG (b := (v0s != ([] : List UInt8))) (x := .d (cB ((nth v0s (Int.toNat ((v0s.length : Int) - 1))) != 10))) (env' := [(14, _)]) rfl rfl rfl ⟨.inr (.inl rfl), trivial⟩ rfl (fun hg => OpQ.g (q8_neq (a := nth v0s (Int.toNat ((v0s.length : Int) - 1))) (b := 10) rfl rfl)) ?_
  refine .q (x := .d (cB ((v0s != ([] : List UInt8)) && ((nth v0s (Int.toNat ((v0s.length : Int) - 1))) != 10)))) (q_pickAndB rfl rfl rfl) rfl ?_
  refine .nil ?_
  refine .cond rfl (fun hc => ?_) (fun hc => ?_)
  · replace H := ifT hc H; clear hc
    refine .seq ?_
    refine .region ?_
    refine .q (x := .d (nilD)) (q_assign rfl) rfl ?_
    refine .q (x := .d (cI 1)) (q_assign rfl) rfl ?_
    refine .nil ?_
    refine .retN [.tmp 2, .tmp 3] [.d (nilD), .d (cI 1)] Tryd.func15 Tryd.results15 ⟨rfl, rfl, trivial⟩ ?_
    cases H
    exact ⟨_, EVle.tupL (ds := [slOf 1 rS ([] : List (List UInt8)), cI 1]) ⟨.nil 1, .rfl' _, trivial⟩, rfl⟩
  · replace H := ifF hc H; clear hc
    refine .skip ?_
    refine .seq ?_
    refine .region ?_
    refine .q (x := .d (nilD)) (q_assign rfl) rfl ?_
    refine .nil ?_
    refine .seq ?_
    refine .region ?_
    refine .q (x := .d (cI 0)) (q_assign rfl) rfl ?_
    refine .nil ?_
    refine .seq ?_
    refine .seq ?_
    refine .region ?_
    refine .q (x := .d (cI 0)) (q_assign rfl) rfl ?_
    refine .nil ?_
    refine .tok (i := 4) (e := 9) (sz := 1) rfl ?_
    refine .withSt (st' := ⟨[], [⟨9, 1, ([] : List (List UInt8)).length⟩]⟩) rfl ?_
    refine .blockJoin2 (ι := List (List UInt8)) (fun s => [(4, .tsl 1 (s.map rS) 0)]) (fun s => ⟨[], [⟨9, 1, s.length⟩]⟩) (fun s => f_billingref09_Lines_j1 s = some r) ?_ ?_
    · rintro v4outj1 H
      replace H : f_billingref09_Lines_j1 v4outj1 = some r := H
      unfold f_billingref09_Lines_j1 at H
      change ARun _ _ _ _ _ _ [(4, .tsl 1 (v4outj1.map rS) 0)] ⟨[], [⟨9, 1, v4outj1.length⟩]⟩
      refine .seq ?_
      refine .seq ?_
      refine .region ?_
      refine .q (x := .tsl 1 (v4outj1.map rS) 0) (q_move rfl) rfl ?_
      refine .q (x := .d (cI (v4outj1.length : Int))) (q_lenL (l := v4outj1) (row := rS) Tryd.underlying33 rfl rfl) rfl ?_
      refine .q (x := .d (cB (decide ((v4outj1.length : Int) > 4096)))) (q_gtr rfl rfl) rfl ?_
      refine .nil ?_
      refine .cond rfl (fun hc => ?_) (fun hc => ?_)
      · replace H := ifT hc H; clear hc
        refine .seq ?_
        refine .region ?_
        refine .q (x := .d (nilD)) (q_assign rfl) rfl ?_
        refine .q (x := .d (cI 5)) (q_assign rfl) rfl ?_
        refine .nil ?_
        refine .retN [.tmp 2, .tmp 3] [.d (nilD), .d (cI 5)] Tryd.func15 Tryd.results15 ⟨rfl, rfl, trivial⟩ ?_
        cases H
        exact ⟨_, EVle.tupL (ds := [slOf 1 rS ([] : List (List UInt8)), cI 5]) ⟨.nil 1, .rfl' _, trivial⟩, rfl⟩
      · replace H := ifF hc H; clear hc
        refine .skip ?_
        refine .seq ?_
        refine .region ?_
        refine .q (x := .tsl 1 (v4outj1.map rS) 0) (q_move rfl) rfl ?_
        refine .q (x := .tsl 1 (v4outj1.map rS) 0) (q_assign rfl) rfl ?_
        refine .q (x := .d (cI 0)) (q_assign rfl) rfl ?_
        refine .nil ?_
        refine .retN [.tmp 2, .tmp 3] [.tsl 1 (v4outj1.map rS) 0, .d (cI 0)] Tryd.func15 Tryd.results15 ⟨rfl, rfl, trivial⟩ ?_
        cases H
        exact ⟨_, EVle.tupL (ds := [slOf 1 rS v4outj1, cI 0]) ⟨.tsl _ _ _, .rfl' _, trivial⟩, rfl⟩
    · intro hj1 hj1x
      obtain ⟨n1, H⟩ := loop_some H
      refine .withSt (st' := ⟨[], [⟨9, 1, ([] : List (List UInt8)).length⟩]⟩) rfl <| .loop (ι := Nat × (List (List UInt8) × Int × Int)) (fun p => [(0, .d (cS v0s)), (4, .tsl 1 (p.2.1.map rS) 0), (5, .d (cI p.2.2.1)), (6, .d (cI p.2.2.2))]) (fun p => ⟨[], [⟨9, 1, p.2.1.length⟩]⟩) (fun p => iter (fun s => f_billingref09_Lines_l1 v0s s.1 s.2.1 s.2.2) p.1 p.2 = some r) (·.1) (n1, (([] : List (List UInt8)), 0, 0)) H (.cons rfl (.rfl' _) (.cons rfl (.rfl' _) (.cons rfl (.rfl' _) (.cons rfl (.rfl' _) (.nil))))) rfl ?_
      rintro ⟨m1, v4outl1, v5froml1, v6il1⟩ HI ih1
      obtain ⟨n1, q1, hm1, H, HK1⟩ := iter_succ HI
      clear HI
      replace H : f_billingref09_Lines_l1 v0s v4outl1 v5froml1 v6il1 = some q1 := H
      unfold f_billingref09_Lines_l1 at H
      change ARun _ _ _ _ _ _ [(0, .d (cS v0s)), (4, .tsl 1 (v4outl1.map rS) 0), (5, .d (cI v5froml1)), (6, .d (cI v6il1))] ⟨[], [⟨9, 1, v4outl1.length⟩]⟩
      refine .seq ?_
      refine .seq ?_
      refine .region ?_
      refine .q (x := .d (cI v6il1)) (q_move rfl) rfl ?_
      refine .q (x := .d (cS v0s)) (q_move rfl) rfl ?_
      refine .q (x := .d (cI (v0s.length : Int))) (q_lenS Tryd.underlying9 rfl) rfl ?_
      refine .q (x := .d (cB (decide (v6il1 < (v0s.length : Int))))) (q_lss rfl rfl) rfl ?_
      refine .nil ?_
      refine .cond rfl (fun hc => ?_) (fun hc => ?_)
      · replace H := ifT hc H; clear hc
        refine .skip ?_
        refine .seq ?_
        refine .block ?_
        refine .seq ?_
        refine .region ?_
        refine .q (x := .d (cS v0s)) (q_move rfl) rfl ?_
        refine .q (x := .d (cI v6il1)) (q_move rfl) rfl ?_
        obtain ⟨hk3, H⟩ := ck_some H
        refine .q (x := .d (cU8 (nth v0s (Int.toNat (v6il1))))) (q_indexL (i := v6il1) Tryd.underlying9 rfl rfl hk3) rfl ?_
        refine .q (x := .d (cB ((nth v0s (Int.toNat (v6il1))) == 10))) (q8_eql (a := nth v0s (Int.toNat (v6il1))) (b := 10) rfl rfl) rfl ?_
        refine .nil ?_
        refine .cond rfl (fun hc => ?_) (fun hc => ?_)
        · replace H := ifT hc H; clear hc
          refine .seq ?_
          refine .region ?_
          refine .q (x := .tsl 1 (v4outl1.map rS) 0) (q_move rfl) rfl ?_
          refine .q (x := .d (cS v0s)) (q_move rfl) rfl ?_
          refine .q (x := .d (cI v5froml1)) (q_move rfl) rfl ?_
          refine .q (x := .d (cI v6il1)) (q_move rfl) rfl ?_
          obtain ⟨hk4, H⟩ := ck_some H
          refine .q (x := .d (cS ((v0s.take (Int.toNat (v6il1))).drop (Int.toNat (v5froml1))))) (q_strLHL Tryd.underlying9 rfl rfl rfl hk4) rfl ?_
          refine .g (x := .d (slOf 1 rS ([(v0s.take (Int.toNat (v6il1))).drop (Int.toNat (v5froml1))]))) (g_buildSlice1 Tryd.underlying33 hi9 hs9 hz9 rfl rfl rfl rfl rfl) rfl ?_
          obtain ⟨hk5, H⟩ := ck_some H
          refine .v (x := .tsl 1 ((v4outl1 ++ ([(v0s.take (Int.toNat (v6il1))).drop (Int.toNat (v5froml1))])).map rS) 0) (v_appendL (l := v4outl1) (l' := [(v0s.take (Int.toNat (v6il1))).drop (Int.toNat (v5froml1))]) (row := rS) Tryd.underlying33 hi9 hz9 hs9 rfl (by rw [hb9]; decide) rfl rfl rfl rfl hk5) rfl ?_
          refine .withSt (st' := ⟨[], [⟨9, 1, (v4outl1 ++ ([(v0s.take (Int.toNat (v6il1))).drop (Int.toNat (v5froml1))])).length⟩]⟩) rfl ?_
          refine .q (x := .tsl 1 ((v4outl1 ++ ([(v0s.take (Int.toNat (v6il1))).drop (Int.toNat (v5froml1))])).map rS) 0) (q_assign rfl) rfl ?_
          refine .nil ?_
          refine .region ?_
          refine .q (x := .d (cI v6il1)) (q_move rfl) rfl ?_
          obtain ⟨hk6, H⟩ := ck_some H
          refine .q (x := .d (cI (v6il1 + 1))) (q_addI rfl rfl hk6.1 hk6.2) rfl ?_
          refine .q (x := .d (cI (v6il1 + 1))) (q_assign rfl) rfl ?_
          refine .nil ?_
          refine .inBlock ?_
          refine .region ?_
          refine .q (x := .d (cI v6il1)) (q_move rfl) rfl ?_
          obtain ⟨hk7, H⟩ := ck_some H
          refine .q (x := .d (cI (v6il1 + 1))) (q_addI rfl rfl hk7.1 hk7.2) rfl ?_
          refine .q (x := .d (cI (v6il1 + 1))) (q_assign rfl) rfl ?_
          refine .nil ?_
          cases H
          exact .withSt (st' := ⟨[], [⟨9, 1, (v4outl1 ++ ([(v0s.take (Int.toNat (v6il1))).drop (Int.toNat (v5froml1))])).length⟩]⟩) rfl <| .sub (.cons rfl (.rfl' _) (.cons rfl (.rfl' _) (.cons rfl (.rfl' _) (.cons rfl (.rfl' _) (.nil))))) (ih1 (n1, (v4outl1 ++ ([(v0s.take (Int.toNat (v6il1))).drop (Int.toNat (v5froml1))]), v6il1 + 1, v6il1 + 1)) HK1 hm1)
        · replace H := ifF hc H; clear hc
          refine .skip ?_
          refine .inBlock ?_
          refine .region ?_
          refine .q (x := .d (cI v6il1)) (q_move rfl) rfl ?_
          obtain ⟨hk8, H⟩ := ck_some H
          refine .q (x := .d (cI (v6il1 + 1))) (q_addI rfl rfl hk8.1 hk8.2) rfl ?_
          refine .q (x := .d (cI (v6il1 + 1))) (q_assign rfl) rfl ?_
          refine .nil ?_
          cases H
          exact .sub (.cons rfl (.rfl' _) (.cons rfl (.rfl' _) (.cons rfl (.rfl' _) (.cons rfl (.rfl' _) (.nil))))) (ih1 (n1, (v4outl1, v5froml1, v6il1 + 1)) HK1 hm1)
      · replace H := ifF hc H; clear hc
        refine .exit rfl ?_
        obtain ⟨q0, H9, hq0⟩ := map_some' H; clear H; cases hq0
        cases HK1
        have H := H9
        exact .withSt (st' := ⟨[], [⟨9, 1, v4outl1.length⟩]⟩) rfl <| .sub (.cons rfl (.rfl' _) (.nil)) (hj1x v4outl1 H)

set_option maxRecDepth 100000 in
set_option maxHeartbeats 1000000 in
theorem c_f_textual_All {v0s : List UInt8} {r : (List Record) × (List Reject) × Int} (H : f_textual_All v0s = some r) : ACall Tryd.prog 16 [cS v0s] (· = .tup [slOf 12 Record.row r.1, slOf 4 Reject.row r.2.1, cI r.2.2]) := by
  obtain ⟨i9, hi9, hz9, hs9, hb9⟩ := in_9
  obtain ⟨i23, hi23, hz23, hs23, hb23⟩ := in_23
  obtain ⟨i43, hi43, hz43, hs43, hb43⟩ := in_43
  refine ACall.enter' Tryd.func16 rfl Tryd.ntmps16 rfl fun S hS => ?_
  unfold f_textual_All at H
  change ARun _ _ _ _ _ _ [(0, .d (cS v0s))] _
  refine .seq ?_
  refine .region ?_
  refine .q (x := .d (nilD)) (q_assign rfl) rfl ?_
  refine .q (x := .d (nilD)) (q_assign rfl) rfl ?_
  refine .q (x := .d (cI 0)) (q_assign rfl) rfl ?_
  refine .nil ?_
  refine .seq ?_
  refine .region ?_
  refine .q (x := .d (cS v0s)) (q_move rfl) rfl ?_
  obtain ⟨y1, hy1, H⟩ := bind_some' H
  refine .g (x := .d (.tup [slOf 1 rS y1.1, cI y1.2])) (g_call en_14 rfl rfl (c_f_textual_Lines (hy1))) rfl ?_
  refine .q (x := .d (.tup [slOf 1 rS y1.1, cI y1.2])) (q_move rfl) rfl ?_
  refine .q (x := .d (slOf 1 rS y1.1)) (q_extract rfl rfl) rfl ?_
  refine .q (x := .d (cI y1.2)) (q_extract rfl rfl) rfl ?_
  refine .q (x := .d (slOf 1 rS y1.1)) (q_assign rfl) rfl ?_
  refine .q (x := .d (cI y1.2)) (q_assign rfl) rfl ?_
  refine .nil ?_
  refine .seq ?_
  refine .seq ?_
  refine .region ?_
  refine .q (x := .d (cI y1.2)) (q_move rfl) rfl ?_
  refine .q (x := .d (cB (y1.2 != 0))) (q_neq rfl rfl) rfl ?_
  refine .nil ?_
  refine .cond rfl (fun hc => ?_) (fun hc => ?_)
  · replace H := ifT hc H; clear hc
    refine .seq ?_
    refine .region ?_
    refine .q (x := .d (cI y1.2)) (q_move rfl) rfl ?_
    refine .q (x := .d (nilD)) (q_assign rfl) rfl ?_
    refine .q (x := .d (nilD)) (q_assign rfl) rfl ?_
    refine .q (x := .d (cI y1.2)) (q_assign rfl) rfl ?_
    refine .nil ?_
    refine .retN [.tmp 2, .tmp 3, .tmp 4] [.d (nilD), .d (nilD), .d (cI y1.2)] Tryd.func16 Tryd.results16 ⟨rfl, rfl, rfl, trivial⟩ ?_
    cases H
    exact ⟨_, EVle.tupL (ds := [slOf 12 Record.row ([] : List Record), slOf 4 Reject.row ([] : List Reject), cI y1.2]) ⟨.nil 12, .nil 4, .rfl' _, trivial⟩, rfl⟩
  · replace H := ifF hc H; clear hc
    refine .skip ?_
    refine .seq ?_
    refine .region ?_
    refine .q (x := .d (nilD)) (q_assign rfl) rfl ?_
    refine .nil ?_
    refine .seq ?_
    refine .region ?_
    refine .q (x := .d (nilD)) (q_assign rfl) rfl ?_
    refine .nil ?_
    refine .seq ?_
    refine .seq ?_
    refine .region ?_
    refine .q (x := .d (slOf 1 rS y1.1)) (q_move rfl) rfl ?_
    refine .q (x := .d (cI (y1.1.length : Int))) (q_lenL (l := y1.1) (row := rS) Tryd.underlying33 rfl rfl) rfl ?_
    refine .q (x := .d (cI 0)) (q_move rfl) rfl ?_
    refine .nil ?_
    refine .tok (i := 7) (e := 23) (sz := 12) rfl ?_
    refine .withSt (st' := ⟨[], [⟨23, 12, ([] : List Record).length⟩]⟩) rfl ?_
    refine .tok (i := 8) (e := 43) (sz := 4) rfl ?_
    refine .withSt (st' := ⟨[], [⟨23, 12, ([] : List Record).length⟩, ⟨43, 4, ([] : List Reject).length⟩]⟩) rfl ?_
    refine .blockJoin2 (ι := List Record × List Reject) (fun s => [(7, .tsl 12 (s.1.map Record.row) 0), (8, .tsl 4 (s.2.map Reject.row) 1)]) (fun s => ⟨[], [⟨23, 12, s.1.length⟩, ⟨43, 4, s.2.length⟩]⟩) (fun s => f_textual_All_j1 s.1 s.2 = some r) ?_ ?_
    · rintro ⟨v7outj1, v8noj1⟩ H
      replace H : f_textual_All_j1 v7outj1 v8noj1 = some r := H
      unfold f_textual_All_j1 at H
      change ARun _ _ _ _ _ _ [(7, .tsl 12 (v7outj1.map Record.row) 0), (8, .tsl 4 (v8noj1.map Reject.row) 1)] ⟨[], [⟨23, 12, v7outj1.length⟩, ⟨43, 4, v8noj1.length⟩]⟩
      refine .seq ?_
      refine .region ?_
      refine .q (x := .tsl 12 (v7outj1.map Record.row) 0) (q_move rfl) rfl ?_
      refine .q (x := .tsl 4 (v8noj1.map Reject.row) 1) (q_move rfl) rfl ?_
      refine .q (x := .tsl 12 (v7outj1.map Record.row) 0) (q_assign rfl) rfl ?_
      refine .q (x := .tsl 4 (v8noj1.map Reject.row) 1) (q_assign rfl) rfl ?_
      refine .q (x := .d (cI 0)) (q_assign rfl) rfl ?_
      refine .nil ?_
      refine .retN [.tmp 2, .tmp 3, .tmp 4] [.tsl 12 (v7outj1.map Record.row) 0, .tsl 4 (v8noj1.map Reject.row) 1, .d (cI 0)] Tryd.func16 Tryd.results16 ⟨rfl, rfl, rfl, trivial⟩ ?_
      cases H
      exact ⟨_, EVle.tupL (ds := [slOf 12 Record.row v7outj1, slOf 4 Reject.row v8noj1, cI 0]) ⟨.tsl _ _ _, .tsl _ _ _, .rfl' _, trivial⟩, rfl⟩
    · intro hj1 hj1x
      obtain ⟨n1, H⟩ := loop_some H
      refine .withSt (st' := ⟨[], [⟨23, 12, ([] : List Record).length⟩, ⟨43, 4, ([] : List Reject).length⟩]⟩) rfl <| .loop (ι := Nat × (List Record × List Reject × Int)) (fun p => [(7, .tsl 12 (p.2.1.map Record.row) 0), (8, .tsl 4 (p.2.2.1.map Reject.row) 1), (21, .d (slOf 1 rS y1.1)), (22, .d (cI (y1.1.length : Int))), (23, .d (cI p.2.2.2))]) (fun p => ⟨[], [⟨23, 12, p.2.1.length⟩, ⟨43, 4, p.2.2.1.length⟩]⟩) (fun p => iter (fun s => f_textual_All_l1 y1 s.1 s.2.1 s.2.2) p.1 p.2 = some r) (·.1) (n1, (([] : List Record), ([] : List Reject), 0)) H (.cons rfl (.rfl' _) (.cons rfl (.rfl' _) (.cons rfl (.rfl' _) (.cons rfl (.rfl' _) (.cons rfl (.rfl' _) (.nil)))))) rfl ?_
      rintro ⟨m1, v7outl1, v8nol1, v23l1⟩ HI ih1
      obtain ⟨n1, q1, hm1, H, HK1⟩ := iter_succ HI
      clear HI
      replace H : f_textual_All_l1 y1 v7outl1 v8nol1 v23l1 = some q1 := H
      unfold f_textual_All_l1 at H
      change ARun _ _ _ _ _ _ [(7, .tsl 12 (v7outl1.map Record.row) 0), (8, .tsl 4 (v8nol1.map Reject.row) 1), (21, .d (slOf 1 rS y1.1)), (22, .d (cI (y1.1.length : Int))), (23, .d (cI v23l1))] ⟨[], [⟨23, 12, v7outl1.length⟩, ⟨43, 4, v8nol1.length⟩]⟩
      refine .seq ?_
      refine .region ?_
      refine .q (x := .d (cB (decide (v23l1 < (y1.1.length : Int))))) (q_lss rfl rfl) rfl ?_
      refine .nil ?_
      refine .seq ?_
      refine .cond rfl (fun hc => ?_) (fun hc => ?_)
      · replace H := ifT hc H; clear hc
        refine .skip ?_
        refine .seq ?_
        refine .block ?_
        refine .seq ?_
        refine .region ?_
        refine .q (x := .d (cI v23l1)) (q_move rfl) rfl ?_
        obtain ⟨hk1, H⟩ := ck_some H
        refine .q (x := .d (.ro (rS (nth y1.1 (Int.toNat (v23l1)))))) (q_idxL (row := rS) (l := y1.1) (i := v23l1) Tryd.underlying33 hi9 hs9 rfl rfl rfl hk1) rfl ?_
        refine .q (x := .d (cS (nth y1.1 (Int.toNat (v23l1))))) (q_load one_9 rfl) rfl ?_
        refine .q (x := .d (cI v23l1)) (q_assign rfl) rfl ?_
        refine .q (x := .d (cS (nth y1.1 (Int.toNat (v23l1))))) (q_assign rfl) rfl ?_
        refine .nil ?_
        refine .seq ?_
        refine .region ?_
        refine .q (x := .d (cS (nth y1.1 (Int.toNat (v23l1))))) (q_move rfl) rfl ?_
        obtain ⟨y2, hy2, H⟩ := bind_some' H
        refine .g (x := .d (.tup [.agg (Record.row y2.1), cI y2.2])) (g_call en_12 rfl rfl (c_f_textual_Decode (hy2))) rfl ?_
        refine .q (x := .d (.tup [.agg (Record.row y2.1), cI y2.2])) (q_move rfl) rfl ?_
        refine .q (x := .d (.agg (Record.row y2.1))) (q_extract rfl rfl) rfl ?_
        refine .q (x := .d (cI y2.2)) (q_extract rfl rfl) rfl ?_
        refine .v (x := .ref 0 0) (v_alloc zr_23 rfl) rfl ?_
        refine .withSt (st' := ⟨[.row 23 [.d (cI 0), .d (cI 0), .d (cI 0), .d (cS ([] : List UInt8)), .d (cS ([] : List UInt8)), .d (cI 0), .d (cI 0), .d (cI 0), .d (cI 0), .d (cB false), .d (cI 0), .d (cB false)]], [⟨23, 12, v7outl1.length⟩, ⟨43, 4, v8nol1.length⟩]⟩) rfl ?_
        refine .u (u_store rfl rfl rfl rfl (Nat.le_of_ble_eq_true rfl) sz_23) rfl ?_
        refine .withSt (st' := ⟨[.row 23 [.d (cI y2.1.source), .d (cI y2.1.serial), .d (cI y2.1.kind), .d (cS y2.1.a), .d (cS y2.1.b), .d (cI y2.1.start), .d (cI y2.1.units), .d (cI y2.1.call), .d (cI y2.1.part), .d (cB y2.1.last), .d (cI y2.1.trunk), .d (cB y2.1.inbound)]], [⟨23, 12, v7outl1.length⟩, ⟨43, 4, v8nol1.length⟩]⟩) rfl ?_
        refine .q (x := .d (cI y2.2)) (q_assign rfl) rfl ?_
        refine .nil ?_
        refine .seq ?_
        refine .seq ?_
        refine .region ?_
        refine .q (x := .d (cI y2.2)) (q_move rfl) rfl ?_
        refine .q (x := .d (cB (y2.2 != 0))) (q_neq rfl rfl) rfl ?_
        refine .nil ?_
        refine .cond rfl (fun hc => ?_) (fun hc => ?_)
        · replace H := ifT hc H; clear hc
          refine .seq ?_
          refine .region ?_
          refine .q (x := .tsl 4 (v8nol1.map Reject.row) 1) (q_move rfl) rfl ?_
          refine .q (x := .d (cI v23l1)) (q_move rfl) rfl ?_
          refine .q (x := .d (cI y2.2)) (q_move rfl) rfl ?_
          refine .q (x := .d (.agg (Reject.row (⟨0, 0, v23l1, y2.2⟩ : Reject)))) (q_buildP pl_43 hi43 hz43 rfl rfl) rfl ?_
          refine .g (x := .d (slOf 4 Reject.row ([(⟨0, 0, v23l1, y2.2⟩ : Reject)]))) (g_buildSlice1 Tryd.underlying37 hi43 hs43 hz43 rfl rfl rfl rfl rfl) rfl ?_
          obtain ⟨hk2, H⟩ := ck_some H
          refine .v (x := .tsl 4 ((v8nol1 ++ ([(⟨0, 0, v23l1, y2.2⟩ : Reject)])).map Reject.row) 1) (v_appendL (l := v8nol1) (l' := [(⟨0, 0, v23l1, y2.2⟩ : Reject)]) (row := Reject.row) Tryd.underlying37 hi43 hz43 hs43 rfl (by rw [hb43]; decide) rfl rfl rfl rfl hk2) rfl ?_
          refine .withSt (st' := ⟨[.row 23 [.d (cI y2.1.source), .d (cI y2.1.serial), .d (cI y2.1.kind), .d (cS y2.1.a), .d (cS y2.1.b), .d (cI y2.1.start), .d (cI y2.1.units), .d (cI y2.1.call), .d (cI y2.1.part), .d (cB y2.1.last), .d (cI y2.1.trunk), .d (cB y2.1.inbound)]], [⟨23, 12, v7outl1.length⟩, ⟨43, 4, (v8nol1 ++ ([(⟨0, 0, v23l1, y2.2⟩ : Reject)])).length⟩]⟩) rfl ?_
          refine .q (x := .tsl 4 ((v8nol1 ++ ([(⟨0, 0, v23l1, y2.2⟩ : Reject)])).map Reject.row) 1) (q_assign rfl) rfl ?_
          refine .nil ?_
          refine .exit rfl ?_
          refine .region ?_
          obtain ⟨hk3, H⟩ := ck_some H
          refine .q (x := .d (cI (v23l1 + 1))) (q_addI rfl rfl hk3.1 hk3.2) rfl ?_
          refine .q (x := .d (cI (v23l1 + 1))) (q_move rfl) rfl ?_
          refine .nil ?_
          cases H
          exact .to 0 2 (env' := [(7, .tsl 12 (v7outl1.map Record.row) 0), (8, .tsl 4 ((v8nol1 ++ ([(⟨0, 0, v23l1, y2.2⟩ : Reject)])).map Reject.row) 1), (21, .d (slOf 1 rS y1.1)), (22, .d (cI (y1.1.length : Int))), (23, .d (cI (v23l1 + 1)))]) (st' := ⟨[], [⟨23, 12, v7outl1.length⟩, ⟨43, 4, (v8nol1 ++ ([(⟨0, 0, v23l1, y2.2⟩ : Reject)])).length⟩]⟩) (.cons rfl (.rfl' _) (.cons rfl (.rfl' _) (.cons rfl (.rfl' _) (.cons rfl (.rfl' _) (.cons rfl (.rfl' _) (.nil)))))) rfl rfl rfl rfl rfl (by rw [hS]; exact Nat.le_of_ble_eq_true rfl) (by rw [hS]; exact Nat.le_of_ble_eq_true rfl) <| .sub (.cons rfl (.rfl' _) (.cons rfl (.rfl' _) (.cons rfl (.rfl' _) (.cons rfl (.rfl' _) (.cons rfl (.rfl' _) (.nil)))))) (ih1 (n1, (v7outl1, v8nol1 ++ ([(⟨0, 0, v23l1, y2.2⟩ : Reject)]), v23l1 + 1)) HK1 hm1)
        · replace H := ifF hc H; clear hc
          refine .skip ?_
          refine .region ?_
          refine .q (x := .tsl 12 (v7outl1.map Record.row) 0) (q_move rfl) rfl ?_
          refine .q (x := .d (.agg (Record.row y2.1))) (q_loadOA one_23 sz_23 rfl rfl (Nat.le_of_ble_eq_true rfl) rfl) rfl ?_
          refine .g (x := .d (slOf 12 Record.row ([y2.1]))) (g_buildSlice1 Tryd.underlying36 hi23 hs23 hz23 rfl rfl rfl rfl rfl) rfl ?_
          obtain ⟨hk4, H⟩ := ck_some H
          refine .v (x := .tsl 12 ((v7outl1 ++ ([y2.1])).map Record.row) 0) (v_appendL (l := v7outl1) (l' := [y2.1]) (row := Record.row) Tryd.underlying36 hi23 hz23 hs23 rfl (by rw [hb23]; decide) rfl rfl rfl rfl hk4) rfl ?_
          refine .withSt (st' := ⟨[.row 23 [.d (cI y2.1.source), .d (cI y2.1.serial), .d (cI y2.1.kind), .d (cS y2.1.a), .d (cS y2.1.b), .d (cI y2.1.start), .d (cI y2.1.units), .d (cI y2.1.call), .d (cI y2.1.part), .d (cB y2.1.last), .d (cI y2.1.trunk), .d (cB y2.1.inbound)]], [⟨23, 12, (v7outl1 ++ ([y2.1])).length⟩, ⟨43, 4, v8nol1.length⟩]⟩) rfl ?_
          refine .q (x := .tsl 12 ((v7outl1 ++ ([y2.1])).map Record.row) 0) (q_assign rfl) rfl ?_
          refine .nil ?_
          refine .inBlock ?_
          refine .region ?_
          obtain ⟨hk5, H⟩ := ck_some H
          refine .q (x := .d (cI (v23l1 + 1))) (q_addI rfl rfl hk5.1 hk5.2) rfl ?_
          refine .q (x := .d (cI (v23l1 + 1))) (q_move rfl) rfl ?_
          refine .nil ?_
          cases H
          exact .to 0 2 (env' := [(7, .tsl 12 ((v7outl1 ++ ([y2.1])).map Record.row) 0), (8, .tsl 4 (v8nol1.map Reject.row) 1), (21, .d (slOf 1 rS y1.1)), (22, .d (cI (y1.1.length : Int))), (23, .d (cI (v23l1 + 1)))]) (st' := ⟨[], [⟨23, 12, (v7outl1 ++ ([y2.1])).length⟩, ⟨43, 4, v8nol1.length⟩]⟩) (.cons rfl (.rfl' _) (.cons rfl (.rfl' _) (.cons rfl (.rfl' _) (.cons rfl (.rfl' _) (.cons rfl (.rfl' _) (.nil)))))) rfl rfl rfl rfl rfl (by rw [hS]; exact Nat.le_of_ble_eq_true rfl) (by rw [hS]; exact Nat.le_of_ble_eq_true rfl) <| .sub (.cons rfl (.rfl' _) (.cons rfl (.rfl' _) (.cons rfl (.rfl' _) (.cons rfl (.rfl' _) (.cons rfl (.rfl' _) (.nil)))))) (ih1 (n1, (v7outl1 ++ ([y2.1]), v8nol1, v23l1 + 1)) HK1 hm1)
      · replace H := ifF hc H; clear hc
        refine .exit rfl ?_
        obtain ⟨q0, H9, hq0⟩ := map_some' H; clear H; cases hq0
        cases HK1
        have H := H9
        exact .withSt (st' := ⟨[], [⟨23, 12, v7outl1.length⟩, ⟨43, 4, v8nol1.length⟩]⟩) rfl <| .sub (.cons rfl (.rfl' _) (.cons rfl (.rfl' _) (.nil))) (hj1x (v7outl1, v8nol1) H)

set_option maxRecDepth 100000 in
set_option maxHeartbeats 1000000 in
theorem c_f_billingref09_All {v0s : List UInt8} {r : (List Record) × (List Reject) × Int} (H : f_billingref09_All v0s = some r) : ACall Tryd.prog 17 [cS v0s] (· = .tup [slOf 12 Record.row r.1, slOf 4 Reject.row r.2.1, cI r.2.2]) := by
  obtain ⟨i9, hi9, hz9, hs9, hb9⟩ := in_9
  obtain ⟨i23, hi23, hz23, hs23, hb23⟩ := in_23
  obtain ⟨i43, hi43, hz43, hs43, hb43⟩ := in_43
  refine ACall.enter' Tryd.func17 rfl Tryd.ntmps17 rfl fun S hS => ?_
  unfold f_billingref09_All at H
  change ARun _ _ _ _ _ _ [(0, .d (cS v0s))] _
  refine .seq ?_
  refine .region ?_
  refine .q (x := .d (nilD)) (q_assign rfl) rfl ?_
  refine .q (x := .d (nilD)) (q_assign rfl) rfl ?_
  refine .q (x := .d (cI 0)) (q_assign rfl) rfl ?_
  refine .nil ?_
  refine .seq ?_
  refine .region ?_
  refine .q (x := .d (cS v0s)) (q_move rfl) rfl ?_
  obtain ⟨y1, hy1, H⟩ := bind_some' H
  refine .g (x := .d (.tup [slOf 1 rS y1.1, cI y1.2])) (g_call en_15 rfl rfl (c_f_billingref09_Lines (hy1))) rfl ?_
  refine .q (x := .d (.tup [slOf 1 rS y1.1, cI y1.2])) (q_move rfl) rfl ?_
  refine .q (x := .d (slOf 1 rS y1.1)) (q_extract rfl rfl) rfl ?_
  refine .q (x := .d (cI y1.2)) (q_extract rfl rfl) rfl ?_
  refine .q (x := .d (slOf 1 rS y1.1)) (q_assign rfl) rfl ?_
  refine .q (x := .d (cI y1.2)) (q_assign rfl) rfl ?_
  refine .nil ?_
  refine .seq ?_
  refine .seq ?_
  refine .region ?_
  refine .q (x := .d (cI y1.2)) (q_move rfl) rfl ?_
  refine .q (x := .d (cB (y1.2 != 0))) (q_neq rfl rfl) rfl ?_
  refine .nil ?_
  refine .cond rfl (fun hc => ?_) (fun hc => ?_)
  · replace H := ifT hc H; clear hc
    refine .seq ?_
    refine .region ?_
    refine .q (x := .d (cI y1.2)) (q_move rfl) rfl ?_
    refine .q (x := .d (nilD)) (q_assign rfl) rfl ?_
    refine .q (x := .d (nilD)) (q_assign rfl) rfl ?_
    refine .q (x := .d (cI y1.2)) (q_assign rfl) rfl ?_
    refine .nil ?_
    refine .retN [.tmp 2, .tmp 3, .tmp 4] [.d (nilD), .d (nilD), .d (cI y1.2)] Tryd.func17 Tryd.results17 ⟨rfl, rfl, rfl, trivial⟩ ?_
    cases H
    exact ⟨_, EVle.tupL (ds := [slOf 12 Record.row ([] : List Record), slOf 4 Reject.row ([] : List Reject), cI y1.2]) ⟨.nil 12, .nil 4, .rfl' _, trivial⟩, rfl⟩
  · replace H := ifF hc H; clear hc
    refine .skip ?_
    refine .seq ?_
    refine .region ?_
    refine .q (x := .d (nilD)) (q_assign rfl) rfl ?_
    refine .nil ?_
    refine .seq ?_
    refine .region ?_
    refine .q (x := .d (nilD)) (q_assign rfl) rfl ?_
    refine .nil ?_
    refine .seq ?_
    refine .seq ?_
    refine .region ?_
    refine .q (x := .d (cI 0)) (q_assign rfl) rfl ?_
    refine .nil ?_
    refine .tok (i := 7) (e := 23) (sz := 12) rfl ?_
    refine .withSt (st' := ⟨[], [⟨23, 12, ([] : List Record).length⟩]⟩) rfl ?_
    refine .tok (i := 8) (e := 43) (sz := 4) rfl ?_
    refine .withSt (st' := ⟨[], [⟨23, 12, ([] : List Record).length⟩, ⟨43, 4, ([] : List Reject).length⟩]⟩) rfl ?_
    refine .blockJoin2 (ι := List Record × List Reject) (fun s => [(7, .tsl 12 (s.1.map Record.row) 0), (8, .tsl 4 (s.2.map Reject.row) 1)]) (fun s => ⟨[], [⟨23, 12, s.1.length⟩, ⟨43, 4, s.2.length⟩]⟩) (fun s => f_billingref09_All_j1 s.1 s.2 = some r) ?_ ?_
    · rintro ⟨v7outj1, v8noj1⟩ H
      replace H : f_billingref09_All_j1 v7outj1 v8noj1 = some r := H
      unfold f_billingref09_All_j1 at H
      change ARun _ _ _ _ _ _ [(7, .tsl 12 (v7outj1.map Record.row) 0), (8, .tsl 4 (v8noj1.map Reject.row) 1)] ⟨[], [⟨23, 12, v7outj1.length⟩, ⟨43, 4, v8noj1.length⟩]⟩
      refine .seq ?_
      refine .region ?_
      refine .q (x := .tsl 12 (v7outj1.map Record.row) 0) (q_move rfl) rfl ?_
      refine .q (x := .tsl 4 (v8noj1.map Reject.row) 1) (q_move rfl) rfl ?_
      refine .q (x := .tsl 12 (v7outj1.map Record.row) 0) (q_assign rfl) rfl ?_
      refine .q (x := .tsl 4 (v8noj1.map Reject.row) 1) (q_assign rfl) rfl ?_
      refine .q (x := .d (cI 0)) (q_assign rfl) rfl ?_
      refine .nil ?_
      refine .retN [.tmp 2, .tmp 3, .tmp 4] [.tsl 12 (v7outj1.map Record.row) 0, .tsl 4 (v8noj1.map Reject.row) 1, .d (cI 0)] Tryd.func17 Tryd.results17 ⟨rfl, rfl, rfl, trivial⟩ ?_
      cases H
      exact ⟨_, EVle.tupL (ds := [slOf 12 Record.row v7outj1, slOf 4 Reject.row v8noj1, cI 0]) ⟨.tsl _ _ _, .tsl _ _ _, .rfl' _, trivial⟩, rfl⟩
    · intro hj1 hj1x
      obtain ⟨n1, H⟩ := loop_some H
      refine .withSt (st' := ⟨[], [⟨23, 12, ([] : List Record).length⟩, ⟨43, 4, ([] : List Reject).length⟩]⟩) rfl <| .loop (ι := Nat × (List Record × List Reject × Int)) (fun p => [(5, .d (slOf 1 rS y1.1)), (7, .tsl 12 (p.2.1.map Record.row) 0), (8, .tsl 4 (p.2.2.1.map Reject.row) 1), (9, .d (cI p.2.2.2))]) (fun p => ⟨[], [⟨23, 12, p.2.1.length⟩, ⟨43, 4, p.2.2.1.length⟩]⟩) (fun p => iter (fun s => f_billingref09_All_l1 y1 s.1 s.2.1 s.2.2) p.1 p.2 = some r) (·.1) (n1, (([] : List Record), ([] : List Reject), 0)) H (.cons rfl (.rfl' _) (.cons rfl (.rfl' _) (.cons rfl (.rfl' _) (.cons rfl (.rfl' _) (.nil))))) rfl ?_
      rintro ⟨m1, v7outl1, v8nol1, v9il1⟩ HI ih1
      obtain ⟨n1, q1, hm1, H, HK1⟩ := iter_succ HI
      clear HI
      replace H : f_billingref09_All_l1 y1 v7outl1 v8nol1 v9il1 = some q1 := H
      unfold f_billingref09_All_l1 at H
      change ARun _ _ _ _ _ _ [(5, .d (slOf 1 rS y1.1)), (7, .tsl 12 (v7outl1.map Record.row) 0), (8, .tsl 4 (v8nol1.map Reject.row) 1), (9, .d (cI v9il1))] ⟨[], [⟨23, 12, v7outl1.length⟩, ⟨43, 4, v8nol1.length⟩]⟩
      refine .seq ?_
      refine .seq ?_
      refine .region ?_
      refine .q (x := .d (cI v9il1)) (q_move rfl) rfl ?_
      refine .q (x := .d (slOf 1 rS y1.1)) (q_move rfl) rfl ?_
      refine .q (x := .d (cI (y1.1.length : Int))) (q_lenL (l := y1.1) (row := rS) Tryd.underlying33 rfl rfl) rfl ?_
      refine .q (x := .d (cB (decide (v9il1 < (y1.1.length : Int))))) (q_lss rfl rfl) rfl ?_
      refine .nil ?_
      refine .cond rfl (fun hc => ?_) (fun hc => ?_)
      · replace H := ifT hc H; clear hc
        refine .skip ?_
        refine .seq ?_
        refine .block ?_
        refine .seq ?_
        refine .region ?_
        refine .q (x := .d (slOf 1 rS y1.1)) (q_move rfl) rfl ?_
        refine .q (x := .d (cI v9il1)) (q_move rfl) rfl ?_
        obtain ⟨hk1, H⟩ := ck_some H
        refine .q (x := .d (.ro (rS (nth y1.1 (Int.toNat (v9il1)))))) (q_idxL (row := rS) (l := y1.1) (i := v9il1) Tryd.underlying33 hi9 hs9 rfl rfl rfl hk1) rfl ?_
        refine .q (x := .d (cS (nth y1.1 (Int.toNat (v9il1))))) (q_load one_9 rfl) rfl ?_
        obtain ⟨y2, hy2, H⟩ := bind_some' H
        refine .g (x := .d (.tup [.agg (Record.row y2.1), cI y2.2])) (g_call en_13 rfl rfl (c_f_billingref09_Decode (hy2))) rfl ?_
        refine .q (x := .d (.tup [.agg (Record.row y2.1), cI y2.2])) (q_move rfl) rfl ?_
        refine .q (x := .d (.agg (Record.row y2.1))) (q_extract rfl rfl) rfl ?_
        refine .q (x := .d (cI y2.2)) (q_extract rfl rfl) rfl ?_
        refine .v (x := .ref 0 0) (v_alloc zr_23 rfl) rfl ?_
        refine .withSt (st' := ⟨[.row 23 [.d (cI 0), .d (cI 0), .d (cI 0), .d (cS ([] : List UInt8)), .d (cS ([] : List UInt8)), .d (cI 0), .d (cI 0), .d (cI 0), .d (cI 0), .d (cB false), .d (cI 0), .d (cB false)]], [⟨23, 12, v7outl1.length⟩, ⟨43, 4, v8nol1.length⟩]⟩) rfl ?_
        refine .u (u_store rfl rfl rfl rfl (Nat.le_of_ble_eq_true rfl) sz_23) rfl ?_
        refine .withSt (st' := ⟨[.row 23 [.d (cI y2.1.source), .d (cI y2.1.serial), .d (cI y2.1.kind), .d (cS y2.1.a), .d (cS y2.1.b), .d (cI y2.1.start), .d (cI y2.1.units), .d (cI y2.1.call), .d (cI y2.1.part), .d (cB y2.1.last), .d (cI y2.1.trunk), .d (cB y2.1.inbound)]], [⟨23, 12, v7outl1.length⟩, ⟨43, 4, v8nol1.length⟩]⟩) rfl ?_
        refine .q (x := .d (cI y2.2)) (q_assign rfl) rfl ?_
        refine .nil ?_
        refine .seq ?_
        refine .region ?_
        refine .q (x := .d (cI y2.2)) (q_move rfl) rfl ?_
        refine .q (x := .d (cB (y2.2 == 0))) (q_eql rfl rfl) rfl ?_
        refine .nil ?_
        refine .cond rfl (fun hc => ?_) (fun hc => ?_)
        · replace H := ifT hc H; clear hc
          refine .region ?_
          refine .q (x := .tsl 12 (v7outl1.map Record.row) 0) (q_move rfl) rfl ?_
          refine .q (x := .d (.agg (Record.row y2.1))) (q_loadOA one_23 sz_23 rfl rfl (Nat.le_of_ble_eq_true rfl) rfl) rfl ?_
          refine .g (x := .d (slOf 12 Record.row ([y2.1]))) (g_buildSlice1 Tryd.underlying36 hi23 hs23 hz23 rfl rfl rfl rfl rfl) rfl ?_
          obtain ⟨hk2, H⟩ := ck_some H
          refine .v (x := .tsl 12 ((v7outl1 ++ ([y2.1])).map Record.row) 0) (v_appendL (l := v7outl1) (l' := [y2.1]) (row := Record.row) Tryd.underlying36 hi23 hz23 hs23 rfl (by rw [hb23]; decide) rfl rfl rfl rfl hk2) rfl ?_
          refine .withSt (st' := ⟨[.row 23 [.d (cI y2.1.source), .d (cI y2.1.serial), .d (cI y2.1.kind), .d (cS y2.1.a), .d (cS y2.1.b), .d (cI y2.1.start), .d (cI y2.1.units), .d (cI y2.1.call), .d (cI y2.1.part), .d (cB y2.1.last), .d (cI y2.1.trunk), .d (cB y2.1.inbound)]], [⟨23, 12, (v7outl1 ++ ([y2.1])).length⟩, ⟨43, 4, v8nol1.length⟩]⟩) rfl ?_
          refine .q (x := .tsl 12 ((v7outl1 ++ ([y2.1])).map Record.row) 0) (q_assign rfl) rfl ?_
          refine .nil ?_
          refine .inBlock ?_
          refine .region ?_
          refine .q (x := .d (cI v9il1)) (q_move rfl) rfl ?_
          obtain ⟨hk3, H⟩ := ck_some H
          refine .q (x := .d (cI (v9il1 + 1))) (q_addI rfl rfl hk3.1 hk3.2) rfl ?_
          refine .q (x := .d (cI (v9il1 + 1))) (q_assign rfl) rfl ?_
          refine .nil ?_
          cases H
          exact .to 0 2 (env' := [(5, .d (slOf 1 rS y1.1)), (7, .tsl 12 ((v7outl1 ++ ([y2.1])).map Record.row) 0), (8, .tsl 4 (v8nol1.map Reject.row) 1), (9, .d (cI (v9il1 + 1)))]) (st' := ⟨[], [⟨23, 12, (v7outl1 ++ ([y2.1])).length⟩, ⟨43, 4, v8nol1.length⟩]⟩) (.cons rfl (.rfl' _) (.cons rfl (.rfl' _) (.cons rfl (.rfl' _) (.cons rfl (.rfl' _) (.nil))))) rfl rfl rfl rfl rfl (by rw [hS]; exact Nat.le_of_ble_eq_true rfl) (by rw [hS]; exact Nat.le_of_ble_eq_true rfl) <| .sub (.cons rfl (.rfl' _) (.cons rfl (.rfl' _) (.cons rfl (.rfl' _) (.cons rfl (.rfl' _) (.nil))))) (ih1 (n1, (v7outl1 ++ ([y2.1]), v8nol1, v9il1 + 1)) HK1 hm1)
        · replace H := ifF hc H; clear hc
          refine .region ?_
          refine .q (x := .tsl 4 (v8nol1.map Reject.row) 1) (q_move rfl) rfl ?_
          refine .q (x := .d (cI v9il1)) (q_move rfl) rfl ?_
          refine .q (x := .d (cI y2.2)) (q_move rfl) rfl ?_
          refine .q (x := .d (.agg (Reject.row (⟨0, 0, v9il1, y2.2⟩ : Reject)))) (q_buildP pl_43 hi43 hz43 rfl rfl) rfl ?_
          refine .g (x := .d (slOf 4 Reject.row ([(⟨0, 0, v9il1, y2.2⟩ : Reject)]))) (g_buildSlice1 Tryd.underlying37 hi43 hs43 hz43 rfl rfl rfl rfl rfl) rfl ?_
          obtain ⟨hk4, H⟩ := ck_some H
          refine .v (x := .tsl 4 ((v8nol1 ++ ([(⟨0, 0, v9il1, y2.2⟩ : Reject)])).map Reject.row) 1) (v_appendL (l := v8nol1) (l' := [(⟨0, 0, v9il1, y2.2⟩ : Reject)]) (row := Reject.row) Tryd.underlying37 hi43 hz43 hs43 rfl (by rw [hb43]; decide) rfl rfl rfl rfl hk4) rfl ?_
          refine .withSt (st' := ⟨[.row 23 [.d (cI y2.1.source), .d (cI y2.1.serial), .d (cI y2.1.kind), .d (cS y2.1.a), .d (cS y2.1.b), .d (cI y2.1.start), .d (cI y2.1.units), .d (cI y2.1.call), .d (cI y2.1.part), .d (cB y2.1.last), .d (cI y2.1.trunk), .d (cB y2.1.inbound)]], [⟨23, 12, v7outl1.length⟩, ⟨43, 4, (v8nol1 ++ ([(⟨0, 0, v9il1, y2.2⟩ : Reject)])).length⟩]⟩) rfl ?_
          refine .q (x := .tsl 4 ((v8nol1 ++ ([(⟨0, 0, v9il1, y2.2⟩ : Reject)])).map Reject.row) 1) (q_assign rfl) rfl ?_
          refine .nil ?_
          refine .inBlock ?_
          refine .region ?_
          refine .q (x := .d (cI v9il1)) (q_move rfl) rfl ?_
          obtain ⟨hk5, H⟩ := ck_some H
          refine .q (x := .d (cI (v9il1 + 1))) (q_addI rfl rfl hk5.1 hk5.2) rfl ?_
          refine .q (x := .d (cI (v9il1 + 1))) (q_assign rfl) rfl ?_
          refine .nil ?_
          cases H
          exact .to 0 2 (env' := [(5, .d (slOf 1 rS y1.1)), (7, .tsl 12 (v7outl1.map Record.row) 0), (8, .tsl 4 ((v8nol1 ++ ([(⟨0, 0, v9il1, y2.2⟩ : Reject)])).map Reject.row) 1), (9, .d (cI (v9il1 + 1)))]) (st' := ⟨[], [⟨23, 12, v7outl1.length⟩, ⟨43, 4, (v8nol1 ++ ([(⟨0, 0, v9il1, y2.2⟩ : Reject)])).length⟩]⟩) (.cons rfl (.rfl' _) (.cons rfl (.rfl' _) (.cons rfl (.rfl' _) (.cons rfl (.rfl' _) (.nil))))) rfl rfl rfl rfl rfl (by rw [hS]; exact Nat.le_of_ble_eq_true rfl) (by rw [hS]; exact Nat.le_of_ble_eq_true rfl) <| .sub (.cons rfl (.rfl' _) (.cons rfl (.rfl' _) (.cons rfl (.rfl' _) (.cons rfl (.rfl' _) (.nil))))) (ih1 (n1, (v7outl1, v8nol1 ++ ([(⟨0, 0, v9il1, y2.2⟩ : Reject)]), v9il1 + 1)) HK1 hm1)
      · replace H := ifF hc H; clear hc
        refine .exit rfl ?_
        obtain ⟨q0, H9, hq0⟩ := map_some' H; clear H; cases hq0
        cases HK1
        have H := H9
        exact .withSt (st' := ⟨[], [⟨23, 12, v7outl1.length⟩, ⟨43, 4, v8nol1.length⟩]⟩) rfl <| .sub (.cons rfl (.rfl' _) (.cons rfl (.rfl' _) (.nil))) (hj1x (v7outl1, v8nol1) H)

set_option maxRecDepth 100000 in
set_option maxHeartbeats 1000000 in
theorem c_f_billingref09_Same {v0a : List Record} {v1b : List Record} {r : Bool} (H : f_billingref09_Same v0a v1b = some r) : ACall Tryd.prog 18 [slOf 12 Record.row v0a, slOf 12 Record.row v1b] (· = cB r) := by
  obtain ⟨i23, hi23, hz23, hs23, hb23⟩ := in_23
  refine ACall.enter' Tryd.func18 rfl Tryd.ntmps18 rfl fun S hS => ?_
  unfold f_billingref09_Same at H
  change ARun _ _ _ _ _ _ [(0, .d (slOf 12 Record.row v0a)), (1, .d (slOf 12 Record.row v1b))] _
  refine .seq ?_
  refine .region ?_
  refine .q (x := .d (cB false)) (q_assign rfl) rfl ?_
  refine .nil ?_
  refine .seq ?_
  refine .seq ?_
  refine .region ?_
  refine .q (x := .d (slOf 12 Record.row v0a)) (q_move rfl) rfl ?_
  refine .q (x := .d (cI (v0a.length : Int))) (q_lenL (l := v0a) (row := Record.row) Tryd.underlying36 rfl rfl) rfl ?_
  refine .q (x := .d (slOf 12 Record.row v1b)) (q_move rfl) rfl ?_
  refine .q (x := .d (cI (v1b.length : Int))) (q_lenL (l := v1b) (row := Record.row) Tryd.underlying36 rfl rfl) rfl ?_
  refine .q (x := .d (cB ((v0a.length : Int) != (v1b.length : Int)))) (q_neq rfl rfl) rfl ?_
  refine .nil ?_
  refine .cond rfl (fun hc => ?_) (fun hc => ?_)
  · replace H := ifT hc H; clear hc
    refine .seq ?_
    refine .region ?_
    refine .q (x := .d (cB false)) (q_assign rfl) rfl ?_
    refine .nil ?_
    refine .retN [.tmp 4] [.d (cB false)] Tryd.func18 Tryd.results18 ⟨rfl, trivial⟩ ?_
    cases H
    exact ⟨_, .rfl' _, rfl⟩
  · replace H := ifF hc H; clear hc
    refine .skip ?_
    refine .seq ?_
    refine .seq ?_
    refine .region ?_
    refine .q (x := .d (cI 0)) (q_assign rfl) rfl ?_
    refine .nil ?_
    refine .block ?_
    obtain ⟨n1, H⟩ := loop_some H
    refine .loop (ι := Nat × (Int)) (fun p => [(0, .d (slOf 12 Record.row v0a)), (1, .d (slOf 12 Record.row v1b)), (5, .d (cI p.2))]) (fun p => ⟨[], []⟩) (fun p => iter (fun s => f_billingref09_Same_l1 v0a v1b s) p.1 p.2 = some r) (·.1) (n1, 0) H (.cons rfl (.rfl' _) (.cons rfl (.rfl' _) (.cons rfl (.rfl' _) (.nil)))) rfl ?_
    rintro ⟨m1, v5il1⟩ HI ih1
    obtain ⟨n1, q1, hm1, H, HK1⟩ := iter_succ HI
    clear HI
    replace H : f_billingref09_Same_l1 v0a v1b v5il1 = some q1 := H
    unfold f_billingref09_Same_l1 at H
    change ARun _ _ _ _ _ _ [(0, .d (slOf 12 Record.row v0a)), (1, .d (slOf 12 Record.row v1b)), (5, .d (cI v5il1))] ⟨[], []⟩
    refine .seq ?_
    refine .seq ?_
    refine .region ?_
    refine .q (x := .d (cI v5il1)) (q_move rfl) rfl ?_
    refine .q (x := .d (slOf 12 Record.row v0a)) (q_move rfl) rfl ?_
    refine .q (x := .d (cI (v0a.length : Int))) (q_lenL (l := v0a) (row := Record.row) Tryd.underlying36 rfl rfl) rfl ?_
    refine .q (x := .d (cB (decide (v5il1 < (v0a.length : Int))))) (q_lss rfl rfl) rfl ?_
    refine .nil ?_
    refine .cond rfl (fun hc => ?_) (fun hc => ?_)
    · replace H := ifT hc H; clear hc
      refine .skip ?_
      refine .seq ?_
      refine .block ?_
      refine .seq ?_
      refine .drawn 9 hMix (by kernel_rfl) ?_
      show DOps _ _ _ _ _ _ _ (_ :: _) _ _ _
      refine .q (x := .d (slOf 12 Record.row v0a)) (q_move rfl) rfl ?_
      refine .q (x := .d (cI v5il1)) (q_move rfl) rfl ?_
      obtain ⟨hk1, H⟩ := ck_some H
      refine .q (x := .d (.ro (Record.row (nth v0a (Int.toNat (v5il1)))))) (q_idxL (row := Record.row) (l := v0a) (i := v5il1) Tryd.underlying36 hi23 hs23 rfl rfl rfl hk1) rfl ?_
      refine .q (x := .d (.agg (Record.row (nth v0a (Int.toNat (v5il1)))))) (q_loadAll one_23 sz_23 rfl rfl) rfl ?_
      refine .q (x := .d (slOf 12 Record.row v1b)) (q_move rfl) rfl ?_
      refine .q (x := .d (cI v5il1)) (q_move rfl) rfl ?_
      obtain ⟨hk2, H⟩ := ck_some H
      refine .q (x := .d (.ro (Record.row (nth v1b (Int.toNat (v5il1)))))) (q_idxL (row := Record.row) (l := v1b) (i := v5il1) Tryd.underlying36 hi23 hs23 rfl rfl rfl hk2) rfl ?_
      refine .q (x := .d (.agg (Record.row (nth v1b (Int.toNat (v5il1)))))) (q_loadAll one_23 sz_23 rfl rfl) rfl ?_
      refine .q (x := .d (cB (!(eqVs (Record.vals (nth v0a (Int.toNat (v5il1)))) (Record.vals (nth v1b (Int.toNat (v5il1)))))))) (q_stneq fk_23 rfl rfl (xs := Record.vals (nth v0a (Int.toNat (v5il1)))) (ys := Record.vals (nth v1b (Int.toNat (v5il1)))) rfl rfl rfl rfl) rfl ?_
      refine .nil ?_
      show AOps _ _ _ _ _ _ [] _ _ _
      refine .nil ?_
      refine .cond rfl (fun hc => ?_) (fun hc => ?_)
      · replace H := ifT hc H; clear hc
        refine .seq ?_
        refine .region ?_
        refine .q (x := .d (cB false)) (q_assign rfl) rfl ?_
        refine .nil ?_
        refine .retN [.tmp 4] [.d (cB false)] Tryd.func18 Tryd.results18 ⟨rfl, trivial⟩ ?_
        cases H
        cases HK1
        exact ⟨_, .rfl' _, rfl⟩
      · replace H := ifF hc H; clear hc
        refine .skip ?_
        refine .inBlock ?_
        refine .region ?_
        refine .q (x := .d (cI v5il1)) (q_move rfl) rfl ?_
        obtain ⟨hk3, H⟩ := ck_some H
        refine .q (x := .d (cI (v5il1 + 1))) (q_addI rfl rfl hk3.1 hk3.2) rfl ?_
        refine .q (x := .d (cI (v5il1 + 1))) (q_assign rfl) rfl ?_
        refine .nil ?_
        cases H
        exact .sub (.cons rfl (.rfl' _) (.cons rfl (.rfl' _) (.cons rfl (.rfl' _) (.nil)))) (ih1 (n1, (v5il1 + 1)) HK1 hm1)
    · replace H := ifF hc H; clear hc
      refine .exit rfl ?_
      refine .seq ?_
      refine .region ?_
      refine .q (x := .d (cB true)) (q_assign rfl) rfl ?_
      refine .nil ?_
      refine .retN [.tmp 4] [.d (cB true)] Tryd.func18 Tryd.results18 ⟨rfl, trivial⟩ ?_
      cases H
      cases HK1
      exact ⟨_, .rfl' _, rfl⟩

set_option maxRecDepth 100000 in
set_option maxHeartbeats 1000000 in
theorem c_f_billingref09_SameRejects {v0a : List Reject} {v1b : List Reject} {r : Bool} (H : f_billingref09_SameRejects v0a v1b = some r) : ACall Tryd.prog 19 [slOf 4 Reject.row v0a, slOf 4 Reject.row v1b] (· = cB r) := by
  obtain ⟨i43, hi43, hz43, hs43, hb43⟩ := in_43
  refine ACall.enter' Tryd.func19 rfl Tryd.ntmps19 rfl fun S hS => ?_
  unfold f_billingref09_SameRejects at H
  change ARun _ _ _ _ _ _ [(0, .d (slOf 4 Reject.row v0a)), (1, .d (slOf 4 Reject.row v1b))] _
  refine .seq ?_
  refine .region ?_
  refine .q (x := .d (cB false)) (q_assign rfl) rfl ?_
  refine .nil ?_
  refine .seq ?_
  refine .seq ?_
  refine .region ?_
  refine .q (x := .d (slOf 4 Reject.row v0a)) (q_move rfl) rfl ?_
  refine .q (x := .d (cI (v0a.length : Int))) (q_lenL (l := v0a) (row := Reject.row) Tryd.underlying37 rfl rfl) rfl ?_
  refine .q (x := .d (slOf 4 Reject.row v1b)) (q_move rfl) rfl ?_
  refine .q (x := .d (cI (v1b.length : Int))) (q_lenL (l := v1b) (row := Reject.row) Tryd.underlying37 rfl rfl) rfl ?_
  refine .q (x := .d (cB ((v0a.length : Int) != (v1b.length : Int)))) (q_neq rfl rfl) rfl ?_
  refine .nil ?_
  refine .cond rfl (fun hc => ?_) (fun hc => ?_)
  · replace H := ifT hc H; clear hc
    refine .seq ?_
    refine .region ?_
    refine .q (x := .d (cB false)) (q_assign rfl) rfl ?_
    refine .nil ?_
    refine .retN [.tmp 4] [.d (cB false)] Tryd.func19 Tryd.results19 ⟨rfl, trivial⟩ ?_
    cases H
    exact ⟨_, .rfl' _, rfl⟩
  · replace H := ifF hc H; clear hc
    refine .skip ?_
    refine .seq ?_
    refine .seq ?_
    refine .region ?_
    refine .q (x := .d (cI 0)) (q_assign rfl) rfl ?_
    refine .nil ?_
    refine .block ?_
    obtain ⟨n1, H⟩ := loop_some H
    refine .loop (ι := Nat × (Int)) (fun p => [(0, .d (slOf 4 Reject.row v0a)), (1, .d (slOf 4 Reject.row v1b)), (5, .d (cI p.2))]) (fun p => ⟨[], []⟩) (fun p => iter (fun s => f_billingref09_SameRejects_l1 v0a v1b s) p.1 p.2 = some r) (·.1) (n1, 0) H (.cons rfl (.rfl' _) (.cons rfl (.rfl' _) (.cons rfl (.rfl' _) (.nil)))) rfl ?_
    rintro ⟨m1, v5il1⟩ HI ih1
    obtain ⟨n1, q1, hm1, H, HK1⟩ := iter_succ HI
    clear HI
    replace H : f_billingref09_SameRejects_l1 v0a v1b v5il1 = some q1 := H
    unfold f_billingref09_SameRejects_l1 at H
    change ARun _ _ _ _ _ _ [(0, .d (slOf 4 Reject.row v0a)), (1, .d (slOf 4 Reject.row v1b)), (5, .d (cI v5il1))] ⟨[], []⟩
    refine .seq ?_
    refine .seq ?_
    refine .region ?_
    refine .q (x := .d (cI v5il1)) (q_move rfl) rfl ?_
    refine .q (x := .d (slOf 4 Reject.row v0a)) (q_move rfl) rfl ?_
    refine .q (x := .d (cI (v0a.length : Int))) (q_lenL (l := v0a) (row := Reject.row) Tryd.underlying37 rfl rfl) rfl ?_
    refine .q (x := .d (cB (decide (v5il1 < (v0a.length : Int))))) (q_lss rfl rfl) rfl ?_
    refine .nil ?_
    refine .cond rfl (fun hc => ?_) (fun hc => ?_)
    · replace H := ifT hc H; clear hc
      refine .skip ?_
      refine .seq ?_
      refine .block ?_
      refine .seq ?_
      refine .drawn 9 hMix (by kernel_rfl) ?_
      show DOps _ _ _ _ _ _ _ (_ :: _) _ _ _
      refine .q (x := .d (slOf 4 Reject.row v0a)) (q_move rfl) rfl ?_
      refine .q (x := .d (cI v5il1)) (q_move rfl) rfl ?_
      obtain ⟨hk1, H⟩ := ck_some H
      refine .q (x := .d (.ro (Reject.row (nth v0a (Int.toNat (v5il1)))))) (q_idxL (row := Reject.row) (l := v0a) (i := v5il1) Tryd.underlying37 hi43 hs43 rfl rfl rfl hk1) rfl ?_
      refine .q (x := .d (.agg (Reject.row (nth v0a (Int.toNat (v5il1)))))) (q_loadAll one_43 sz_43 rfl rfl) rfl ?_
      refine .q (x := .d (slOf 4 Reject.row v1b)) (q_move rfl) rfl ?_
      refine .q (x := .d (cI v5il1)) (q_move rfl) rfl ?_
      obtain ⟨hk2, H⟩ := ck_some H
      refine .q (x := .d (.ro (Reject.row (nth v1b (Int.toNat (v5il1)))))) (q_idxL (row := Reject.row) (l := v1b) (i := v5il1) Tryd.underlying37 hi43 hs43 rfl rfl rfl hk2) rfl ?_
      refine .q (x := .d (.agg (Reject.row (nth v1b (Int.toNat (v5il1)))))) (q_loadAll one_43 sz_43 rfl rfl) rfl ?_
      refine .q (x := .d (cB (!(eqVs (Reject.vals (nth v0a (Int.toNat (v5il1)))) (Reject.vals (nth v1b (Int.toNat (v5il1)))))))) (q_stneq fk_43 rfl rfl (xs := Reject.vals (nth v0a (Int.toNat (v5il1)))) (ys := Reject.vals (nth v1b (Int.toNat (v5il1)))) rfl rfl rfl rfl) rfl ?_
      refine .nil ?_
      show AOps _ _ _ _ _ _ [] _ _ _
      refine .nil ?_
      refine .cond rfl (fun hc => ?_) (fun hc => ?_)
      · replace H := ifT hc H; clear hc
        refine .seq ?_
        refine .region ?_
        refine .q (x := .d (cB false)) (q_assign rfl) rfl ?_
        refine .nil ?_
        refine .retN [.tmp 4] [.d (cB false)] Tryd.func19 Tryd.results19 ⟨rfl, trivial⟩ ?_
        cases H
        cases HK1
        exact ⟨_, .rfl' _, rfl⟩
      · replace H := ifF hc H; clear hc
        refine .skip ?_
        refine .inBlock ?_
        refine .region ?_
        refine .q (x := .d (cI v5il1)) (q_move rfl) rfl ?_
        obtain ⟨hk3, H⟩ := ck_some H
        refine .q (x := .d (cI (v5il1 + 1))) (q_addI rfl rfl hk3.1 hk3.2) rfl ?_
        refine .q (x := .d (cI (v5il1 + 1))) (q_assign rfl) rfl ?_
        refine .nil ?_
        cases H
        exact .sub (.cons rfl (.rfl' _) (.cons rfl (.rfl' _) (.cons rfl (.rfl' _) (.nil)))) (ih1 (n1, (v5il1 + 1)) HK1 hm1)
    · replace H := ifF hc H; clear hc
      refine .exit rfl ?_
      refine .seq ?_
      refine .region ?_
      refine .q (x := .d (cB true)) (q_assign rfl) rfl ?_
      refine .nil ?_
      refine .retN [.tmp 4] [.d (cB true)] Tryd.func19 Tryd.results19 ⟨rfl, trivial⟩ ?_
      cases H
      cases HK1
      exact ⟨_, .rfl' _, rfl⟩

set_option maxRecDepth 100000 in
set_option maxHeartbeats 1000000 in
theorem c_f_billinglaw09_TextualTexts {v0 : List UInt8} {r : Bool} (H : f_billinglaw09_TextualTexts v0 = some r) : ACall Tryd.prog 6 [cS v0] (· = cB r) := by
  obtain ⟨i9, hi9, hz9, hs9, hb9⟩ := in_9
  refine ACall.enter' Tryd.func6 rfl Tryd.ntmps6 rfl fun S hS => ?_
  unfold f_billinglaw09_TextualTexts at H
  change ARun _ _ _ _ _ _ [(0, .d (cS v0))] _
  refine .seq ?_
  refine .region ?_
  refine .q (x := .d (cB false)) (q_assign rfl) rfl ?_
  refine .nil ?_
  refine .seq ?_
  refine .seq ?_
  refine .region ?_
  refine .q (x := .d (cS v0)) (q_move rfl) rfl ?_
  refine .q (x := .d (cI (v0.length : Int))) (q_lenS Tryd.underlying9 rfl) rfl ?_
  refine .q (x := .d (cB (decide ((v0.length : Int) > 3000)))) (q_gtr rfl rfl) rfl ?_
  refine .nil ?_
  refine .cond rfl (fun hc => ?_) (fun hc => ?_)
  · replace H := ifT hc H; clear hc
    refine .seq ?_
    refine .region ?_
    obtain ⟨y1, hy1, H⟩ := bind_some' H
    refine .g (x := .d (cB y1)) (g_call en_9 rfl rfl (c_f_billinglaw09_awake (hy1))) rfl ?_
    refine .q (x := .d (cB y1)) (q_assign rfl) rfl ?_
    refine .nil ?_
    refine .retN [.tmp 2] [.d (cB y1)] Tryd.func6 Tryd.results6 ⟨rfl, trivial⟩ ?_
    cases H
    exact ⟨_, .rfl' _, rfl⟩
  · replace H := ifF hc H; clear hc
    refine .skip ?_
    refine .seq ?_
    refine .region ?_
    refine .q (x := .d (cS v0)) (q_move rfl) rfl ?_
    obtain ⟨y2, hy2, H⟩ := bind_some' H
    refine .g (x := .d (.tup [slOf 1 rS y2.1, cI y2.2])) (g_call en_14 rfl rfl (c_f_textual_Lines (hy2))) rfl ?_
    refine .q (x := .d (.tup [slOf 1 rS y2.1, cI y2.2])) (q_move rfl) rfl ?_
    refine .q (x := .d (slOf 1 rS y2.1)) (q_extract rfl rfl) rfl ?_
    refine .q (x := .d (cI y2.2)) (q_extract rfl rfl) rfl ?_
    refine .q (x := .d (slOf 1 rS y2.1)) (q_assign rfl) rfl ?_
    refine .q (x := .d (cI y2.2)) (q_assign rfl) rfl ?_
    refine .nil ?_
    refine .seq ?_
    refine .region ?_
    refine .q (x := .d (cS v0)) (q_move rfl) rfl ?_
    obtain ⟨y3, hy3, H⟩ := bind_some' H
    refine .g (x := .d (.tup [slOf 1 rS y3.1, cI y3.2])) (g_call en_15 rfl rfl (c_f_billingref09_Lines (hy3))) rfl ?_
    refine .q (x := .d (.tup [slOf 1 rS y3.1, cI y3.2])) (q_move rfl) rfl ?_
    refine .q (x := .d (slOf 1 rS y3.1)) (q_extract rfl rfl) rfl ?_
    refine .q (x := .d (cI y3.2)) (q_extract rfl rfl) rfl ?_
    refine .q (x := .d (slOf 1 rS y3.1)) (q_assign rfl) rfl ?_
    refine .q (x := .d (cI y3.2)) (q_assign rfl) rfl ?_
    refine .nil ?_
    refine .seq ?_
    refine .seq ?_
    refine .region ?_
    refine .q (x := .d (cI y2.2)) (q_move rfl) rfl ?_
    refine .q (x := .d (cI y3.2)) (q_move rfl) rfl ?_
    refine .q (x := .d (cB (y2.2 != y3.2))) (q_neq rfl rfl) rfl ?_
    refine .q (x := .d (cB (y2.2 != y3.2))) (q_move rfl) rfl ?_
    refine .guardG (b := (!(y2.2 != y3.2))) (x := .d (slOf 1 rS y2.1)) (env' := [(3, _)]) rfl rfl rfl ⟨.inl rfl, trivial⟩ rfl (fun hg => OpQ.g (q_move rfl)) ?_
    refine .guardG (b := (!(y2.2 != y3.2))) (x := .d (cI (y2.1.length : Int))) (env' := [(32, _)]) rfl rfl rfl ⟨.inr (.inl rfl), trivial⟩ rfl (fun hg => OpQ.g (q_lenL (l := y2.1) (row := rS) Tryd.underlying33 rfl rfl)) ?_
    refine .guardG (b := (!(y2.2 != y3.2))) (x := .d (slOf 1 rS y3.1)) (env' := [(5, _)]) rfl rfl rfl ⟨.inl rfl, trivial⟩ rfl (fun hg => OpQ.g (q_move rfl)) ?_
    refine .guardG (b := (!(y2.2 != y3.2))) (x := .d (cI (y3.1.length : Int))) (env' := [(34, _)]) rfl rfl rfl ⟨.inr (.inl rfl), trivial⟩ rfl (fun hg => OpQ.g (q_lenL (l := y3.1) (row := rS) Tryd.underlying33 rfl rfl)) ?_
    refine .guardG (b := (!(y2.2 != y3.2))) (x := .d (cB ((y2.1.length : Int) != (y3.1.length : Int)))) (env' := [(33, _), (35, _)]) rfl rfl rfl ⟨.inr (.inl rfl), ⟨.inr (.inl rfl), trivial⟩⟩ rfl (fun hg => OpQ.g (q_neq rfl rfl)) ?_
    refine .q (x := .d (cB ((y2.2 != y3.2) || ((y2.1.length : Int) != (y3.1.length : Int))))) (q_pickOrB rfl rfl rfl) rfl ?_
    refine .nil ?_
    refine .cond rfl (fun hc => ?_) (fun hc => ?_)
    · replace H := ifT hc H; clear hc
      refine .seq ?_
      refine .region ?_
      refine .q (x := .d (cB false)) (q_assign rfl) rfl ?_
      refine .nil ?_
      refine .retN [.tmp 2] [.d (cB false)] Tryd.func6 Tryd.results6 ⟨rfl, trivial⟩ ?_
      cases H
      exact ⟨_, .rfl' _, rfl⟩
    · replace H := ifF hc H; clear hc
      refine .skip ?_
      refine .seq ?_
      refine .seq ?_
      refine .region ?_
      refine .q (x := .d (cI 0)) (q_assign rfl) rfl ?_
      refine .nil ?_
      refine .blockJoin2 (ι := Unit) (fun s => [(0, .d (cS v0))]) (fun s => ⟨[], []⟩) (fun s => f_billinglaw09_TextualTexts_j1 v0 = some r) ?_ ?_
      · rintro _ H
        replace H : f_billinglaw09_TextualTexts_j1 v0 = some r := H
        unfold f_billinglaw09_TextualTexts_j1 at H
        change ARun _ _ _ _ _ _ [(0, .d (cS v0))] ⟨[], []⟩
        refine .seq ?_
        refine .region ?_
        refine .q (x := .d (cS v0)) (q_move rfl) rfl ?_
        obtain ⟨y4, hy4, H⟩ := bind_some' H
        refine .g (x := .d (.tup [slOf 12 Record.row y4.1, slOf 4 Reject.row y4.2.1, cI y4.2.2])) (g_call en_16 rfl rfl (c_f_textual_All (hy4))) rfl ?_
        refine .q (x := .d (.tup [slOf 12 Record.row y4.1, slOf 4 Reject.row y4.2.1, cI y4.2.2])) (q_move rfl) rfl ?_
        refine .q (x := .d (slOf 12 Record.row y4.1)) (q_extract rfl rfl) rfl ?_
        refine .q (x := .d (slOf 4 Reject.row y4.2.1)) (q_extract rfl rfl) rfl ?_
        refine .q (x := .d (cI y4.2.2)) (q_extract rfl rfl) rfl ?_
        refine .q (x := .d (slOf 12 Record.row y4.1)) (q_assign rfl) rfl ?_
        refine .q (x := .d (slOf 4 Reject.row y4.2.1)) (q_assign rfl) rfl ?_
        refine .q (x := .d (cI y4.2.2)) (q_assign rfl) rfl ?_
        refine .nil ?_
        refine .seq ?_
        refine .region ?_
        refine .q (x := .d (cS v0)) (q_move rfl) rfl ?_
        obtain ⟨y5, hy5, H⟩ := bind_some' H
        refine .g (x := .d (.tup [slOf 12 Record.row y5.1, slOf 4 Reject.row y5.2.1, cI y5.2.2])) (g_call en_17 rfl rfl (c_f_billingref09_All (hy5))) rfl ?_
        refine .q (x := .d (.tup [slOf 12 Record.row y5.1, slOf 4 Reject.row y5.2.1, cI y5.2.2])) (q_move rfl) rfl ?_
        refine .q (x := .d (slOf 12 Record.row y5.1)) (q_extract rfl rfl) rfl ?_
        refine .q (x := .d (slOf 4 Reject.row y5.2.1)) (q_extract rfl rfl) rfl ?_
        refine .q (x := .d (cI y5.2.2)) (q_extract rfl rfl) rfl ?_
        refine .q (x := .d (slOf 12 Record.row y5.1)) (q_assign rfl) rfl ?_
        refine .q (x := .d (slOf 4 Reject.row y5.2.1)) (q_assign rfl) rfl ?_
        refine .q (x := .d (cI y5.2.2)) (q_assign rfl) rfl ?_
        refine .nil ?_
        refine .seq ?_
        refine .region ?_
        refine .q (x := .d (slOf 12 Record.row y4.1)) (q_move rfl) rfl ?_
        refine .q (x := .d (slOf 12 Record.row y5.1)) (q_move rfl) rfl ?_
        obtain ⟨y6, hy6, H⟩ := bind_some' H
        refine .g (x := .d (cB y6)) (g_call en_18 rfl rfl (c_f_billingref09_Same (hy6))) rfl ?_
        refine .q (x := .d (cB y6)) (q_move rfl) rfl ?_
        refine .guardG (b := y6) (x := .d (slOf 4 Reject.row y4.2.1)) (env' := [(9, _)]) rfl rfl rfl ⟨.inl rfl, trivial⟩ rfl (fun hg => OpQ.g (q_move rfl)) ?_
        refine .guardG (b := y6) (x := .d (slOf 4 Reject.row y5.2.1)) (env' := [(12, _)]) rfl rfl rfl ⟨.inl rfl, trivial⟩ rfl (fun hg => OpQ.g (q_move rfl)) ?_
        obtain ⟨y7, hy7, H⟩ := bind_some' H
        refine .guardG (b := y6) (x := .d (cB y7)) (env' := [(69, _), (70, _)]) rfl rfl rfl ⟨.inr (.inl rfl), ⟨.inr (.inl rfl), trivial⟩⟩ rfl (fun hg => (g_call en_19 rfl rfl (c_f_billingref09_SameRejects (gcall_some hy7 hg)))) ?_
        refine .q (x := .d (cB (y6 && y7))) (q_pickAndB rfl rfl rfl) rfl ?_
        refine .q (x := .d (cB (y6 && y7))) (q_move rfl) rfl ?_
        refine .guardG (b := (y6 && y7)) (x := .d (cI y4.2.2)) (env' := [(10, _)]) rfl rfl rfl ⟨.inl rfl, trivial⟩ rfl (fun hg => OpQ.g (q_move rfl)) ?_
        refine .guardG (b := (y6 && y7)) (x := .d (cI y5.2.2)) (env' := [(13, _)]) rfl rfl rfl ⟨.inl rfl, trivial⟩ rfl (fun hg => OpQ.g (q_move rfl)) ?_
        refine .guardG (b := (y6 && y7)) (x := .d (cB (y4.2.2 == y5.2.2))) (env' := [(74, _), (75, _)]) rfl rfl rfl ⟨.inr (.inl rfl), ⟨.inr (.inl rfl), trivial⟩⟩ rfl (fun hg => OpQ.g (q_eql rfl rfl)) ?_
        refine .q (x := .d (cB ((y6 && y7) && (y4.2.2 == y5.2.2)))) (q_pickAndB rfl rfl rfl) rfl ?_
        refine .q (x := .d (cB ((y6 && y7) && (y4.2.2 == y5.2.2)))) (q_move rfl) rfl ?_
        obtain ⟨y8, hy8, H⟩ := bind_some' H
        refine .guardG (b := ((y6 && y7) && (y4.2.2 == y5.2.2))) (x := .d (cB y8)) (env' := []) rfl rfl rfl trivial rfl (fun hg => (g_call en_9 rfl rfl (c_f_billinglaw09_awake (gcall_some hy8 hg)))) ?_
        refine .q (x := .d (cB (((y6 && y7) && (y4.2.2 == y5.2.2)) && y8))) (q_pickAndB rfl rfl rfl) rfl ?_
        refine .q (x := .d (cB (((y6 && y7) && (y4.2.2 == y5.2.2)) && y8))) (q_assign rfl) rfl ?_
        refine .nil ?_
        refine .retN [.tmp 2] [.d (cB (((y6 && y7) && (y4.2.2 == y5.2.2)) && y8))] Tryd.func6 Tryd.results6 ⟨rfl, trivial⟩ ?_
        cases H
        exact ⟨_, .rfl' _, rfl⟩
      · intro hj1 hj1x
        obtain ⟨n1, H⟩ := loop_some H
        refine .loop (ι := Nat × (Int)) (fun p => [(0, .d (cS v0)), (3, .d (slOf 1 rS y2.1)), (5, .d (slOf 1 rS y3.1)), (7, .d (cI p.2))]) (fun p => ⟨[], []⟩) (fun p => iter (fun s => f_billinglaw09_TextualTexts_l1 v0 y2 y3 s) p.1 p.2 = some r) (·.1) (n1, 0) H (.cons rfl (.rfl' _) (.cons rfl (.rfl' _) (.cons rfl (.rfl' _) (.cons rfl (.rfl' _) (.nil))))) rfl ?_
        rintro ⟨m1, v7l1⟩ HI ih1
        obtain ⟨n1, q1, hm1, H, HK1⟩ := iter_succ HI
        clear HI
        replace H : f_billinglaw09_TextualTexts_l1 v0 y2 y3 v7l1 = some q1 := H
        unfold f_billinglaw09_TextualTexts_l1 at H
        change ARun _ _ _ _ _ _ [(0, .d (cS v0)), (3, .d (slOf 1 rS y2.1)), (5, .d (slOf 1 rS y3.1)), (7, .d (cI v7l1))] ⟨[], []⟩
        refine .seq ?_
        refine .seq ?_
        refine .region ?_
        refine .q (x := .d (cI v7l1)) (q_move rfl) rfl ?_
        refine .q (x := .d (slOf 1 rS y2.1)) (q_move rfl) rfl ?_
        refine .q (x := .d (cI (y2.1.length : Int))) (q_lenL (l := y2.1) (row := rS) Tryd.underlying33 rfl rfl) rfl ?_
        refine .q (x := .d (cB (decide (v7l1 < (y2.1.length : Int))))) (q_lss rfl rfl) rfl ?_
        refine .nil ?_
        refine .cond rfl (fun hc => ?_) (fun hc => ?_)
        · replace H := ifT hc H; clear hc
          refine .skip ?_
          refine .seq ?_
          refine .block ?_
          refine .seq ?_
          refine .drawn 9 hMix (by kernel_rfl) ?_
          show DOps _ _ _ _ _ _ _ (_ :: _) _ _ _
          refine .q (x := .d (slOf 1 rS y2.1)) (q_move rfl) rfl ?_
          refine .q (x := .d (cI v7l1)) (q_move rfl) rfl ?_
          obtain ⟨hk1, H⟩ := ck_some H
          refine .q (x := .d (.ro (rS (nth y2.1 (Int.toNat (v7l1)))))) (q_idxL (row := rS) (l := y2.1) (i := v7l1) Tryd.underlying33 hi9 hs9 rfl rfl rfl hk1) rfl ?_
          refine .q (x := .d (cS (nth y2.1 (Int.toNat (v7l1))))) (q_load one_9 rfl) rfl ?_
          refine .q (x := .d (slOf 1 rS y3.1)) (q_move rfl) rfl ?_
          refine .q (x := .d (cI v7l1)) (q_move rfl) rfl ?_
          obtain ⟨hk2, H⟩ := ck_some H
          refine .q (x := .d (.ro (rS (nth y3.1 (Int.toNat (v7l1)))))) (q_idxL (row := rS) (l := y3.1) (i := v7l1) Tryd.underlying33 hi9 hs9 rfl rfl rfl hk2) rfl ?_
          refine .q (x := .d (cS (nth y3.1 (Int.toNat (v7l1))))) (q_load one_9 rfl) rfl ?_
          refine .q (x := .d (cB ((nth y2.1 (Int.toNat (v7l1))) != (nth y3.1 (Int.toNat (v7l1)))))) (q_sneq rfl rfl) rfl ?_
          refine .nil ?_
          show AOps _ _ _ _ _ _ [] _ _ _
          refine .nil ?_
          refine .cond rfl (fun hc => ?_) (fun hc => ?_)
          · replace H := ifT hc H; clear hc
            refine .seq ?_
            refine .region ?_
            refine .q (x := .d (cB false)) (q_assign rfl) rfl ?_
            refine .nil ?_
            refine .retN [.tmp 2] [.d (cB false)] Tryd.func6 Tryd.results6 ⟨rfl, trivial⟩ ?_
            cases H
            cases HK1
            exact ⟨_, .rfl' _, rfl⟩
          · replace H := ifF hc H; clear hc
            refine .skip ?_
            refine .inBlock ?_
            refine .region ?_
            refine .q (x := .d (cI v7l1)) (q_move rfl) rfl ?_
            obtain ⟨hk3, H⟩ := ck_some H
            refine .q (x := .d (cI (v7l1 + 1))) (q_addI rfl rfl hk3.1 hk3.2) rfl ?_
            refine .q (x := .d (cI (v7l1 + 1))) (q_assign rfl) rfl ?_
            refine .nil ?_
            cases H
            exact .sub (.cons rfl (.rfl' _) (.cons rfl (.rfl' _) (.cons rfl (.rfl' _) (.cons rfl (.rfl' _) (.nil))))) (ih1 (n1, (v7l1 + 1)) HK1 hm1)
        · replace H := ifF hc H; clear hc
          refine .exit rfl ?_
          obtain ⟨q0, H9, hq0⟩ := map_some' H; clear H; cases hq0
          cases HK1
          have H := H9
          exact .sub (.cons rfl (.rfl' _) (.nil)) (hj1x () H)

set_option maxRecDepth 100000 in
set_option maxHeartbeats 1000000 in
theorem c_f_billinglaw09_TextualAll {v0 : List Record} {v1 : List (List UInt8)} {r : Bool} (H : f_billinglaw09_TextualAll v0 v1 = some r) : ACall Tryd.prog 7 [slOf 12 Record.row v0, slOf 1 rS v1] (· = cB r) := by
  obtain ⟨i9, hi9, hz9, hs9, hb9⟩ := in_9
  obtain ⟨i23, hi23, hz23, hs23, hb23⟩ := in_23
  obtain ⟨i43, hi43, hz43, hs43, hb43⟩ := in_43
  refine ACall.enter' Tryd.func7 rfl Tryd.ntmps7 rfl fun S hS => ?_
  unfold f_billinglaw09_TextualAll at H
  change ARun _ _ _ _ _ _ [(0, .d (slOf 12 Record.row v0)), (1, .d (slOf 1 rS v1))] _
  refine .seq ?_
  refine .region ?_
  refine .q (x := .d (cB false)) (q_assign rfl) rfl ?_
  refine .nil ?_
  refine .seq ?_
  refine .seq ?_
  refine .region ?_
  refine .q (x := .d (slOf 12 Record.row v0)) (q_move rfl) rfl ?_
  refine .q (x := .d (cI (v0.length : Int))) (q_lenL (l := v0) (row := Record.row) Tryd.underlying36 rfl rfl) rfl ?_
  refine .q (x := .d (cB (decide ((v0.length : Int) > 30)))) (q_gtr rfl rfl) rfl ?_
  refine .q (x := .d (cB (decide ((v0.length : Int) > 30)))) (q_move rfl) rfl ?_
  refine .guardG (b := (!(decide ((v0.length : Int) > 30)))) (x := .d (slOf 1 rS v1)) (env' := [(1, _)]) rfl rfl rfl ⟨.inl rfl, trivial⟩ rfl (fun hg => OpQ.g (q_move rfl)) ?_
  refine .guardG (b := (!(decide ((v0.length : Int) > 30)))) (x := .d (cI (v1.length : Int))) (env' := [(24, _)]) rfl rfl rfl ⟨.inr (.inl rfl), trivial⟩ rfl (fun hg => OpQ.g (q_lenL (l := v1) (row := rS) Tryd.underlying33 rfl rfl)) ?_
  refine .guardG (b := (!(decide ((v0.length : Int) > 30)))) (x := .d (cB (decide ((v1.length : Int) > 30)))) (env' := [(25, _)]) rfl rfl rfl ⟨.inr (.inl rfl), trivial⟩ rfl (fun hg => OpQ.g (q_gtr rfl rfl)) ?_
  refine .q (x := .d (cB ((decide ((v0.length : Int) > 30)) || (decide ((v1.length : Int) > 30))))) (q_pickOrB rfl rfl rfl) rfl ?_
  refine .nil ?_
  refine .cond rfl (fun hc => ?_) (fun hc => ?_)
  · replace H := ifT hc H; clear hc
    refine .seq ?_
    refine .region ?_
    obtain ⟨y1, hy1, H⟩ := bind_some' H
    refine .g (x := .d (cB y1)) (g_call en_9 rfl rfl (c_f_billinglaw09_awake (hy1))) rfl ?_
    refine .q (x := .d (cB y1)) (q_assign rfl) rfl ?_
    refine .nil ?_
    refine .retN [.tmp 4] [.d (cB y1)] Tryd.func7 Tryd.results7 ⟨rfl, trivial⟩ ?_
    cases H
    exact ⟨_, .rfl' _, rfl⟩
  · replace H := ifF hc H; clear hc
    refine .skip ?_
    refine .seq ?_
    refine .region ?_
    refine .q (x := .d (cS ([] : List UInt8))) (q_assign rfl) rfl ?_
    refine .q (x := .d (cI 0)) (q_assign rfl) rfl ?_
    refine .nil ?_
    refine .seq ?_
    refine .region ?_
    refine .q (x := .d (nilD)) (q_assign rfl) rfl ?_
    refine .nil ?_
    refine .seq ?_
    refine .seq ?_
    refine .region ?_
    refine .q (x := .d (cI 0)) (q_assign rfl) rfl ?_
    refine .nil ?_
    refine .tok (i := 7) (e := 23) (sz := 12) rfl ?_
    refine .withSt (st' := ⟨[], [⟨23, 12, ([] : List Record).length⟩]⟩) rfl ?_
    refine .blockJoin2 (ι := List UInt8 × List Record) (fun s => [(1, .d (slOf 1 rS v1)), (5, .d (cS s.1)), (6, .d (cI 0)), (7, .tsl 12 (s.2.map Record.row) 0)]) (fun s => ⟨[], [⟨23, 12, s.2.length⟩]⟩) (fun s => f_billinglaw09_TextualAll_j1 v1 s.1 s.2 = some r) ?_ ?_
    · rintro ⟨v5j1, v7j1⟩ H
      replace H : f_billinglaw09_TextualAll_j1 v1 v5j1 v7j1 = some r := H
      unfold f_billinglaw09_TextualAll_j1 at H
      change ARun _ _ _ _ _ _ [(1, .d (slOf 1 rS v1)), (5, .d (cS v5j1)), (6, .d (cI 0)), (7, .tsl 12 (v7j1.map Record.row) 0)] ⟨[], [⟨23, 12, v7j1.length⟩]⟩
      refine .seq ?_
      refine .seq ?_
      refine .region ?_
      refine .q (x := .d (cI 0)) (q_assign rfl) rfl ?_
      refine .nil ?_
      refine .blockJoin2 (ι := List UInt8 × Int) (fun s => [(5, .d (cS s.1)), (6, .d (cI s.2)), (7, .tsl 12 (v7j1.map Record.row) 0)]) (fun s => ⟨[], [⟨23, 12, v7j1.length⟩]⟩) (fun s => f_billinglaw09_TextualAll_j2 v7j1 s.1 s.2 = some r) ?_ ?_
      · rintro ⟨v5j2, v6j2⟩ H
        replace H : f_billinglaw09_TextualAll_j2 v7j1 v5j2 v6j2 = some r := H
        unfold f_billinglaw09_TextualAll_j2 at H
        change ARun _ _ _ _ _ _ [(5, .d (cS v5j2)), (6, .d (cI v6j2)), (7, .tsl 12 (v7j1.map Record.row) 0)] ⟨[], [⟨23, 12, v7j1.length⟩]⟩
        refine .seq ?_
        refine .region ?_
        refine .q (x := .d (cS v5j2)) (q_move rfl) rfl ?_
        obtain ⟨y2, hy2, H⟩ := bind_some' H
        refine .g (x := .d (.tup [slOf 12 Record.row y2.1, slOf 4 Reject.row y2.2.1, cI y2.2.2])) (g_call en_16 rfl rfl (c_f_textual_All (hy2))) rfl ?_
        refine .q (x := .d (.tup [slOf 12 Record.row y2.1, slOf 4 Reject.row y2.2.1, cI y2.2.2])) (q_move rfl) rfl ?_
        refine .q (x := .d (slOf 12 Record.row y2.1)) (q_extract rfl rfl) rfl ?_
        refine .q (x := .d (slOf 4 Reject.row y2.2.1)) (q_extract rfl rfl) rfl ?_
        refine .q (x := .d (cI y2.2.2)) (q_extract rfl rfl) rfl ?_
        refine .q (x := .d (slOf 12 Record.row y2.1)) (q_assign rfl) rfl ?_
        refine .q (x := .d (slOf 4 Reject.row y2.2.1)) (q_assign rfl) rfl ?_
        refine .q (x := .d (cI y2.2.2)) (q_assign rfl) rfl ?_
        refine .nil ?_
        refine .seq ?_
        refine .seq ?_
        refine .region ?_
        refine .q (x := .d (cI y2.2.2)) (q_move rfl) rfl ?_
        refine .q (x := .d (cB (y2.2.2 != 0))) (q_neq rfl rfl) rfl ?_
        refine .q (x := .d (cB (y2.2.2 != 0))) (q_move rfl) rfl ?_
        refine .guardG (b := (!(y2.2.2 != 0))) (x := .d (slOf 12 Record.row y2.1)) (env' := [(16, _)]) rfl rfl rfl ⟨.inl rfl, trivial⟩ rfl (fun hg => OpQ.g (q_move rfl)) ?_
        refine .guardG (b := (!(y2.2.2 != 0))) (x := .tsl 12 (v7j1.map Record.row) 0) (env' := [(7, _)]) rfl rfl rfl ⟨.inl rfl, trivial⟩ rfl (fun hg => OpQ.g (q_move rfl)) ?_
        obtain ⟨y3, hy3, H⟩ := bind_some' H
        refine .guardG (b := (!(y2.2.2 != 0))) (x := .d (cB y3)) (env' := [(120, _), (121, _)]) rfl rfl rfl ⟨.inr (.inl rfl), ⟨.inr (.inl rfl), trivial⟩⟩ rfl (fun hg => (g_call en_18 rfl rfl (c_f_billingref09_Same (gcall_some hy3 hg)))) ?_
        refine .guardG (b := (!(y2.2.2 != 0))) (x := .d (cB (!y3))) (env' := [(122, _)]) rfl rfl rfl ⟨.inr (.inl rfl), trivial⟩ rfl (fun hg => OpQ.g (q_not rfl)) ?_
        refine .q (x := .d (cB ((y2.2.2 != 0) || (!y3)))) (q_pickOrB rfl rfl rfl) rfl ?_
        refine .q (x := .d (cB ((y2.2.2 != 0) || (!y3)))) (q_move rfl) rfl ?_
        refine .guardG (b := (!((y2.2.2 != 0) || (!y3)))) (x := .d (slOf 4 Reject.row y2.2.1)) (env' := [(17, _)]) rfl rfl rfl ⟨.inl rfl, trivial⟩ rfl (fun hg => OpQ.g (q_move rfl)) ?_
        refine .guardG (b := (!((y2.2.2 != 0) || (!y3)))) (x := .d (cI (y2.2.1.length : Int))) (env' := [(126, _)]) rfl rfl rfl ⟨.inr (.inl rfl), trivial⟩ rfl (fun hg => OpQ.g (q_lenL (l := y2.2.1) (row := Reject.row) Tryd.underlying37 rfl rfl)) ?_
        refine .guardG (b := (!((y2.2.2 != 0) || (!y3)))) (x := .d (cI v6j2)) (env' := [(6, _)]) rfl rfl rfl ⟨.inl rfl, trivial⟩ rfl (fun hg => OpQ.g (q_move rfl)) ?_
        refine .guardG (b := (!((y2.2.2 != 0) || (!y3)))) (x := .d (cB ((y2.2.1.length : Int) != v6j2))) (env' := [(127, _), (128, _)]) rfl rfl rfl ⟨.inr (.inl rfl), ⟨.inr (.inl rfl), trivial⟩⟩ rfl (fun hg => OpQ.g (q_neq rfl rfl)) ?_
        refine .q (x := .d (cB (((y2.2.2 != 0) || (!y3)) || ((y2.2.1.length : Int) != v6j2)))) (q_pickOrB rfl rfl rfl) rfl ?_
        refine .nil ?_
        refine .cond rfl (fun hc => ?_) (fun hc => ?_)
        · replace H := ifT hc H; clear hc
          refine .seq ?_
          refine .region ?_
          refine .q (x := .d (cB false)) (q_assign rfl) rfl ?_
          refine .nil ?_
          refine .retN [.tmp 4] [.d (cB false)] Tryd.func7 Tryd.results7 ⟨rfl, trivial⟩ ?_
          cases H
          exact ⟨_, .rfl' _, rfl⟩
        · replace H := ifF hc H; clear hc
          refine .skip ?_
          refine .seq ?_
          refine .seq ?_
          refine .region ?_
          refine .q (x := .d (cI 0)) (q_assign rfl) rfl ?_
          refine .nil ?_
          refine .block ?_
          obtain ⟨n1, H⟩ := loop_some H
          refine .loop (ι := Nat × (Int)) (fun p => [(6, .d (cI v6j2)), (7, .tsl 12 (v7j1.map Record.row) 0), (17, .d (slOf 4 Reject.row y2.2.1)), (19, .d (cI p.2))]) (fun p => ⟨[], [⟨23, 12, v7j1.length⟩]⟩) (fun p => iter (fun s => f_billinglaw09_TextualAll_l1 v7j1 v6j2 y2 s) p.1 p.2 = some r) (·.1) (n1, 0) H (.cons rfl (.rfl' _) (.cons rfl (.rfl' _) (.cons rfl (.rfl' _) (.cons rfl (.rfl' _) (.nil))))) rfl ?_
          rintro ⟨m1, v19l1⟩ HI ih1
          obtain ⟨n1, q1, hm1, H, HK1⟩ := iter_succ HI
          clear HI
          replace H : f_billinglaw09_TextualAll_l1 v7j1 v6j2 y2 v19l1 = some q1 := H
          unfold f_billinglaw09_TextualAll_l1 at H
          change ARun _ _ _ _ _ _ [(6, .d (cI v6j2)), (7, .tsl 12 (v7j1.map Record.row) 0), (17, .d (slOf 4 Reject.row y2.2.1)), (19, .d (cI v19l1))] ⟨[], [⟨23, 12, v7j1.length⟩]⟩
          refine .seq ?_
          refine .seq ?_
          refine .region ?_
          refine .q (x := .d (cI v19l1)) (q_move rfl) rfl ?_
          refine .q (x := .d (cI v6j2)) (q_move rfl) rfl ?_
          refine .q (x := .d (cB (decide (v19l1 < v6j2)))) (q_lss rfl rfl) rfl ?_
          refine .nil ?_
          refine .cond rfl (fun hc => ?_) (fun hc => ?_)
          · replace H := ifT hc H; clear hc
            refine .skip ?_
            refine .seq ?_
            refine .block ?_
            refine .seq ?_
            refine .region ?_
            refine .q (x := .d (slOf 4 Reject.row y2.2.1)) (q_move rfl) rfl ?_
            refine .q (x := .d (cI v19l1)) (q_move rfl) rfl ?_
            obtain ⟨hk1, H⟩ := ck_some H
            refine .q (x := .d (.ro (Reject.row (nth y2.2.1 (Int.toNat (v19l1)))))) (q_idxL (row := Reject.row) (l := y2.2.1) (i := v19l1) Tryd.underlying37 hi43 hs43 rfl rfl rfl hk1) rfl ?_
            refine .q (x := .d (.ro ((Reject.row (nth y2.2.1 (Int.toNat (v19l1)))).drop 2))) (q_fieldRo fo_43_2 rfl) rfl ?_
            refine .q (x := .d (cI ((nth y2.2.1 (Int.toNat (v19l1))).index))) (q_load one_3 rfl) rfl ?_
            refine .q (x := .tsl 12 (v7j1.map Record.row) 0) (q_move rfl) rfl ?_
            refine .q (x := .d (cI (v7j1.length : Int))) (q_lenL (l := v7j1) (row := Record.row) Tryd.underlying36 rfl rfl) rfl ?_
            refine .q (x := .d (cI v19l1)) (q_move rfl) rfl ?_
            obtain ⟨hk2, H⟩ := ck_some H
            refine .q (x := .d (cI ((v7j1.length : Int) + v19l1))) (q_addI rfl rfl hk2.1 hk2.2) rfl ?_
            refine .q (x := .d (cB (((nth y2.2.1 (Int.toNat (v19l1))).index) != ((v7j1.length : Int) + v19l1)))) (q_neq rfl rfl) rfl ?_
            refine .q (x := .d (cB (((nth y2.2.1 (Int.toNat (v19l1))).index) != ((v7j1.length : Int) + v19l1)))) (q_move rfl) rfl ?_
            refine .guardG (b := (!(((nth y2.2.1 (Int.toNat (v19l1))).index) != ((v7j1.length : Int) + v19l1)))) (x := .d (slOf 4 Reject.row y2.2.1)) (env' := [(17, _)]) rfl rfl rfl ⟨.inl rfl, trivial⟩ rfl (fun hg => OpQ.g (q_move rfl)) ?_
            refine .guardG (b := (!(((nth y2.2.1 (Int.toNat (v19l1))).index) != ((v7j1.length : Int) + v19l1)))) (x := .d (cI v19l1)) (env' := [(19, _)]) rfl rfl rfl ⟨.inl rfl, trivial⟩ rfl (fun hg => OpQ.g (q_move rfl)) ?_
            obtain ⟨hk3, H⟩ := ck_some H
            refine .guardG (b := (!(((nth y2.2.1 (Int.toNat (v19l1))).index) != ((v7j1.length : Int) + v19l1)))) (x := .d (.ro (Reject.row (nth y2.2.1 (Int.toNat (v19l1)))))) (env' := [(147, _), (148, _)]) rfl rfl rfl ⟨.inr (.inl rfl), ⟨.inr (.inl rfl), trivial⟩⟩ rfl (fun hg => OpQ.g (q_idxL (row := Reject.row) (l := y2.2.1) (i := v19l1) Tryd.underlying37 hi43 hs43 rfl rfl rfl (hk3 hg))) ?_
            refine .guardG (b := (!(((nth y2.2.1 (Int.toNat (v19l1))).index) != ((v7j1.length : Int) + v19l1)))) (x := .d (.ro ((Reject.row (nth y2.2.1 (Int.toNat (v19l1)))).drop 3))) (env' := [(149, _)]) rfl rfl rfl ⟨.inr (.inl rfl), trivial⟩ rfl (fun hg => OpQ.g (q_fieldRo fo_43_3 rfl)) ?_
            refine .guardG (b := (!(((nth y2.2.1 (Int.toNat (v19l1))).index) != ((v7j1.length : Int) + v19l1)))) (x := .d (cI ((nth y2.2.1 (Int.toNat (v19l1))).err))) (env' := [(150, _)]) rfl rfl rfl ⟨.inr (.inl rfl), trivial⟩ rfl (fun hg => OpQ.g (q_load one_26 rfl)) ?_
            refine .guardG (b := (!(((nth y2.2.1 (Int.toNat (v19l1))).index) != ((v7j1.length : Int) + v19l1)))) (x := .d (cB (((nth y2.2.1 (Int.toNat (v19l1))).err) == 0))) (env' := [(151, _)]) rfl rfl rfl ⟨.inr (.inl rfl), trivial⟩ rfl (fun hg => OpQ.g (q_eql rfl rfl)) ?_
            refine .q (x := .d (cB ((((nth y2.2.1 (Int.toNat (v19l1))).index) != ((v7j1.length : Int) + v19l1)) || (((nth y2.2.1 (Int.toNat (v19l1))).err) == 0)))) (q_pickOrB rfl rfl rfl) rfl ?_
            refine .q (x := .d (cB ((((nth y2.2.1 (Int.toNat (v19l1))).index) != ((v7j1.length : Int) + v19l1)) || (((nth y2.2.1 (Int.toNat (v19l1))).err) == 0)))) (q_move rfl) rfl ?_
            refine .guardG (b := (!((((nth y2.2.1 (Int.toNat (v19l1))).index) != ((v7j1.length : Int) + v19l1)) || (((nth y2.2.1 (Int.toNat (v19l1))).err) == 0)))) (x := .d (slOf 4 Reject.row y2.2.1)) (env' := [(17, _)]) rfl rfl rfl ⟨.inl rfl, trivial⟩ rfl (fun hg => OpQ.g (q_move rfl)) ?_
            refine .guardG (b := (!((((nth y2.2.1 (Int.toNat (v19l1))).index) != ((v7j1.length : Int) + v19l1)) || (((nth y2.2.1 (Int.toNat (v19l1))).err) == 0)))) (x := .d (cI v19l1)) (env' := [(19, _)]) rfl rfl rfl ⟨.inl rfl, trivial⟩ rfl (fun hg => OpQ.g (q_move rfl)) ?_
            obtain ⟨hk4, H⟩ := ck_some H
            refine .guardG (b := (!((((nth y2.2.1 (Int.toNat (v19l1))).index) != ((v7j1.length : Int) + v19l1)) || (((nth y2.2.1 (Int.toNat (v19l1))).err) == 0)))) (x := .d (.ro (Reject.row (nth y2.2.1 (Int.toNat (v19l1)))))) (env' := [(155, _), (156, _)]) rfl rfl rfl ⟨.inr (.inl rfl), ⟨.inr (.inl rfl), trivial⟩⟩ rfl (fun hg => OpQ.g (q_idxL (row := Reject.row) (l := y2.2.1) (i := v19l1) Tryd.underlying37 hi43 hs43 rfl rfl rfl (hk4 hg))) ?_
            refine .guardG (b := (!((((nth y2.2.1 (Int.toNat (v19l1))).index) != ((v7j1.length : Int) + v19l1)) || (((nth y2.2.1 (Int.toNat (v19l1))).err) == 0)))) (x := .d (.ro (Reject.row (nth y2.2.1 (Int.toNat (v19l1)))))) (env' := [(157, _)]) rfl rfl rfl ⟨.inr (.inl rfl), trivial⟩ rfl (fun hg => OpQ.g (q_fieldRo fo_43_0 rfl)) ?_
            refine .guardG (b := (!((((nth y2.2.1 (Int.toNat (v19l1))).index) != ((v7j1.length : Int) + v19l1)) || (((nth y2.2.1 (Int.toNat (v19l1))).err) == 0)))) (x := .d (cI ((nth y2.2.1 (Int.toNat (v19l1))).source))) (env' := [(158, _)]) rfl rfl rfl ⟨.inr (.inl rfl), trivial⟩ rfl (fun hg => OpQ.g (q_load one_3 rfl)) ?_
            refine .guardG (b := (!((((nth y2.2.1 (Int.toNat (v19l1))).index) != ((v7j1.length : Int) + v19l1)) || (((nth y2.2.1 (Int.toNat (v19l1))).err) == 0)))) (x := .d (cB (((nth y2.2.1 (Int.toNat (v19l1))).source) != 0))) (env' := [(159, _)]) rfl rfl rfl ⟨.inr (.inl rfl), trivial⟩ rfl (fun hg => OpQ.g (q_neq rfl rfl)) ?_
            refine .q (x := .d (cB (((((nth y2.2.1 (Int.toNat (v19l1))).index) != ((v7j1.length : Int) + v19l1)) || (((nth y2.2.1 (Int.toNat (v19l1))).err) == 0)) || (((nth y2.2.1 (Int.toNat (v19l1))).source) != 0)))) (q_pickOrB rfl rfl rfl) rfl ?_
            refine .q (x := .d (cB (((((nth y2.2.1 (Int.toNat (v19l1))).index) != ((v7j1.length : Int) + v19l1)) || (((nth y2.2.1 (Int.toNat (v19l1))).err) == 0)) || (((nth y2.2.1 (Int.toNat (v19l1))).source) != 0)))) (q_move rfl) rfl ?_
            refine .guardG (b := (!(((((nth y2.2.1 (Int.toNat (v19l1))).index) != ((v7j1.length : Int) + v19l1)) || (((nth y2.2.1 (Int.toNat (v19l1))).err) == 0)) || (((nth y2.2.1 (Int.toNat (v19l1))).source) != 0)))) (x := .d (slOf 4 Reject.row y2.2.1)) (env' := [(17, _)]) rfl rfl rfl ⟨.inl rfl, trivial⟩ rfl (fun hg => OpQ.g (q_move rfl)) ?_
            refine .guardG (b := (!(((((nth y2.2.1 (Int.toNat (v19l1))).index) != ((v7j1.length : Int) + v19l1)) || (((nth y2.2.1 (Int.toNat (v19l1))).err) == 0)) || (((nth y2.2.1 (Int.toNat (v19l1))).source) != 0)))) (x := .d (cI v19l1)) (env' := [(19, _)]) rfl rfl rfl ⟨.inl rfl, trivial⟩ rfl (fun hg => OpQ.g (q_move rfl)) ?_
            obtain ⟨hk5, H⟩ := ck_some H
            refine .guardG (b := (!(((((nth y2.2.1 (Int.toNat (v19l1))).index) != ((v7j1.length : Int) + v19l1)) || (((nth y2.2.1 (Int.toNat (v19l1))).err) == 0)) || (((nth y2.2.1 (Int.toNat (v19l1))).source) != 0)))) (x := .d (.ro (Reject.row (nth y2.2.1 (Int.toNat (v19l1)))))) (env' := [(163, _), (164, _)]) rfl rfl rfl ⟨.inr (.inl rfl), ⟨.inr (.inl rfl), trivial⟩⟩ rfl (fun hg => OpQ.g (q_idxL (row := Reject.row) (l := y2.2.1) (i := v19l1) Tryd.underlying37 hi43 hs43 rfl rfl rfl (hk5 hg))) ?_
            refine .guardG (b := (!(((((nth y2.2.1 (Int.toNat (v19l1))).index) != ((v7j1.length : Int) + v19l1)) || (((nth y2.2.1 (Int.toNat (v19l1))).err) == 0)) || (((nth y2.2.1 (Int.toNat (v19l1))).source) != 0)))) (x := .d (.ro ((Reject.row (nth y2.2.1 (Int.toNat (v19l1)))).drop 1))) (env' := [(165, _)]) rfl rfl rfl ⟨.inr (.inl rfl), trivial⟩ rfl (fun hg => OpQ.g (q_fieldRo fo_43_1 rfl)) ?_
            refine .guardG (b := (!(((((nth y2.2.1 (Int.toNat (v19l1))).index) != ((v7j1.length : Int) + v19l1)) || (((nth y2.2.1 (Int.toNat (v19l1))).err) == 0)) || (((nth y2.2.1 (Int.toNat (v19l1))).source) != 0)))) (x := .d (cI ((nth y2.2.1 (Int.toNat (v19l1))).serial))) (env' := [(166, _)]) rfl rfl rfl ⟨.inr (.inl rfl), trivial⟩ rfl (fun hg => OpQ.g (q_load one_3 rfl)) ?_
            refine .guardG (b := (!(((((nth y2.2.1 (Int.toNat (v19l1))).index) != ((v7j1.length : Int) + v19l1)) || (((nth y2.2.1 (Int.toNat (v19l1))).err) == 0)) || (((nth y2.2.1 (Int.toNat (v19l1))).source) != 0)))) (x := .d (cB (((nth y2.2.1 (Int.toNat (v19l1))).serial) != 0))) (env' := [(167, _)]) rfl rfl rfl ⟨.inr (.inl rfl), trivial⟩ rfl (fun hg => OpQ.g (q_neq rfl rfl)) ?_
            refine .q (x := .d (cB ((((((nth y2.2.1 (Int.toNat (v19l1))).index) != ((v7j1.length : Int) + v19l1)) || (((nth y2.2.1 (Int.toNat (v19l1))).err) == 0)) || (((nth y2.2.1 (Int.toNat (v19l1))).source) != 0)) || (((nth y2.2.1 (Int.toNat (v19l1))).serial) != 0)))) (q_pickOrB rfl rfl rfl) rfl ?_
            refine .nil ?_
            refine .cond rfl (fun hc => ?_) (fun hc => ?_)
            · replace H := ifT hc H; clear hc
              refine .seq ?_
              refine .region ?_
              refine .q (x := .d (cB false)) (q_assign rfl) rfl ?_
              refine .nil ?_
              refine .retN [.tmp 4] [.d (cB false)] Tryd.func7 Tryd.results7 ⟨rfl, trivial⟩ ?_
              cases H
              cases HK1
              exact ⟨_, .rfl' _, rfl⟩
            · replace H := ifF hc H; clear hc
              refine .skip ?_
              refine .inBlock ?_
              refine .region ?_
              refine .q (x := .d (cI v19l1)) (q_move rfl) rfl ?_
              obtain ⟨hk6, H⟩ := ck_some H
              refine .q (x := .d (cI (v19l1 + 1))) (q_addI rfl rfl hk6.1 hk6.2) rfl ?_
              refine .q (x := .d (cI (v19l1 + 1))) (q_assign rfl) rfl ?_
              refine .nil ?_
              cases H
              exact .sub (.cons rfl (.rfl' _) (.cons rfl (.rfl' _) (.cons rfl (.rfl' _) (.cons rfl (.rfl' _) (.nil))))) (ih1 (n1, (v19l1 + 1)) HK1 hm1)
          · replace H := ifF hc H; clear hc
            refine .exit rfl ?_
            refine .seq ?_
            refine .region ?_
            obtain ⟨y4, hy4, H⟩ := bind_some' H
            refine .g (x := .d (cB y4)) (g_call en_9 rfl rfl (c_f_billinglaw09_awake (hy4))) rfl ?_
            refine .q (x := .d (cB y4)) (q_assign rfl) rfl ?_
            refine .nil ?_
            refine .retN [.tmp 4] [.d (cB y4)] Tryd.func7 Tryd.results7 ⟨rfl, trivial⟩ ?_
            cases H
            cases HK1
            exact ⟨_, .rfl' _, rfl⟩
      · intro hj2 hj2x
        obtain ⟨n2, H⟩ := loop_some H
        refine .loop (ι := Nat × (List UInt8 × Int × Int)) (fun p => [(1, .d (slOf 1 rS v1)), (5, .d (cS p.2.1)), (6, .d (cI p.2.2.1)), (7, .tsl 12 (v7j1.map Record.row) 0), (11, .d (cI p.2.2.2))]) (fun p => ⟨[], [⟨23, 12, v7j1.length⟩]⟩) (fun p => iter (fun s => f_billinglaw09_TextualAll_l2 v1 v7j1 s.1 s.2.1 s.2.2) p.1 p.2 = some r) (·.1) (n2, (v5j1, 0, 0)) H (.cons rfl (.rfl' _) (.cons rfl (.rfl' _) (.cons rfl (.rfl' _) (.cons rfl (.rfl' _) (.cons rfl (.rfl' _) (.nil)))))) rfl ?_
        rintro ⟨m1, v5l2, v6l2, v11l2⟩ HI ih1
        obtain ⟨n1, q1, hm1, H, HK1⟩ := iter_succ HI
        clear HI
        replace H : f_billinglaw09_TextualAll_l2 v1 v7j1 v5l2 v6l2 v11l2 = some q1 := H
        unfold f_billinglaw09_TextualAll_l2 at H
        change ARun _ _ _ _ _ _ [(1, .d (slOf 1 rS v1)), (5, .d (cS v5l2)), (6, .d (cI v6l2)), (7, .tsl 12 (v7j1.map Record.row) 0), (11, .d (cI v11l2))] ⟨[], [⟨23, 12, v7j1.length⟩]⟩
        refine .seq ?_
        refine .seq ?_
        refine .region ?_
        refine .q (x := .d (cI v11l2)) (q_move rfl) rfl ?_
        refine .q (x := .d (slOf 1 rS v1)) (q_move rfl) rfl ?_
        refine .q (x := .d (cI (v1.length : Int))) (q_lenL (l := v1) (row := rS) Tryd.underlying33 rfl rfl) rfl ?_
        refine .q (x := .d (cB (decide (v11l2 < (v1.length : Int))))) (q_lss rfl rfl) rfl ?_
        refine .nil ?_
        refine .cond rfl (fun hc => ?_) (fun hc => ?_)
        · replace H := ifT hc H; clear hc
          refine .skip ?_
          refine .seq ?_
          refine .block ?_
          refine .seq ?_
          refine .seq ?_
          refine .region ?_
          refine .q (x := .d (slOf 1 rS v1)) (q_move rfl) rfl ?_
          refine .q (x := .d (cI v11l2)) (q_move rfl) rfl ?_
          obtain ⟨hk7, H⟩ := ck_some H
          refine .q (x := .d (.ro (rS (nth v1 (Int.toNat (v11l2)))))) (q_idxL (row := rS) (l := v1) (i := v11l2) Tryd.underlying33 hi9 hs9 rfl rfl rfl hk7) rfl ?_
          refine .q (x := .d (cS (nth v1 (Int.toNat (v11l2))))) (q_load one_9 rfl) rfl ?_
          refine .q (x := .d (cI ((nth v1 (Int.toNat (v11l2))).length : Int))) (q_lenS Tryd.underlying9 rfl) rfl ?_
          refine .q (x := .d (cB (decide (((nth v1 (Int.toNat (v11l2))).length : Int) > 200)))) (q_gtr rfl rfl) rfl ?_
          refine .nil ?_
          refine .cond rfl (fun hc => ?_) (fun hc => ?_)
          · replace H := ifT hc H; clear hc
            refine .seq ?_
            refine .region ?_
            obtain ⟨y5, hy5, H⟩ := bind_some' H
            refine .g (x := .d (cB y5)) (g_call en_9 rfl rfl (c_f_billinglaw09_awake (hy5))) rfl ?_
            refine .q (x := .d (cB y5)) (q_assign rfl) rfl ?_
            refine .nil ?_
            refine .retN [.tmp 4] [.d (cB y5)] Tryd.func7 Tryd.results7 ⟨rfl, trivial⟩ ?_
            cases H
            cases HK1
            exact ⟨_, .rfl' _, rfl⟩
          · replace H := ifF hc H; clear hc
            refine .skip ?_
            refine .seq ?_
            refine .region ?_
            refine .q (x := .d (slOf 1 rS v1)) (q_move rfl) rfl ?_
            refine .q (x := .d (cI v11l2)) (q_move rfl) rfl ?_
            obtain ⟨hk8, H⟩ := ck_some H
            refine .q (x := .d (.ro (rS (nth v1 (Int.toNat (v11l2)))))) (q_idxL (row := rS) (l := v1) (i := v11l2) Tryd.underlying33 hi9 hs9 rfl rfl rfl hk8) rfl ?_
            refine .q (x := .d (cS (nth v1 (Int.toNat (v11l2))))) (q_load one_9 rfl) rfl ?_
            obtain ⟨hk9, H⟩ := ck_some H
            refine .q (x := .d (cS ((nth v1 (Int.toNat (v11l2))) ++ ([10] : List UInt8)))) (q_sadd rfl rfl hk9) rfl ?_
            obtain ⟨y6, hy6, H⟩ := bind_some' H
            refine .g (x := .d (.tup [slOf 1 rS y6.1, cI y6.2])) (g_call en_14 rfl rfl (c_f_textual_Lines (hy6))) rfl ?_
            refine .q (x := .d (.tup [slOf 1 rS y6.1, cI y6.2])) (q_move rfl) rfl ?_
            refine .q (x := .d (slOf 1 rS y6.1)) (q_extract rfl rfl) rfl ?_
            refine .q (x := .d (cI y6.2)) (q_extract rfl rfl) rfl ?_
            refine .q (x := .d (slOf 1 rS y6.1)) (q_assign rfl) rfl ?_
            refine .q (x := .d (cI y6.2)) (q_assign rfl) rfl ?_
            refine .nil ?_
            refine .seq ?_
            refine .seq ?_
            refine .region ?_
            refine .q (x := .d (cI y6.2)) (q_move rfl) rfl ?_
            refine .q (x := .d (cB (y6.2 != 0))) (q_neq rfl rfl) rfl ?_
            refine .q (x := .d (cB (y6.2 != 0))) (q_move rfl) rfl ?_
            refine .guardG (b := (!(y6.2 != 0))) (x := .d (slOf 1 rS y6.1)) (env' := [(12, _)]) rfl rfl rfl ⟨.inl rfl, trivial⟩ rfl (fun hg => OpQ.g (q_move rfl)) ?_
            refine .guardG (b := (!(y6.2 != 0))) (x := .d (cI (y6.1.length : Int))) (env' := [(88, _)]) rfl rfl rfl ⟨.inr (.inl rfl), trivial⟩ rfl (fun hg => OpQ.g (q_lenL (l := y6.1) (row := rS) Tryd.underlying33 rfl rfl)) ?_
            refine .guardG (b := (!(y6.2 != 0))) (x := .d (cB ((y6.1.length : Int) != 1))) (env' := [(89, _)]) rfl rfl rfl ⟨.inr (.inl rfl), trivial⟩ rfl (fun hg => OpQ.g (q_neq rfl rfl)) ?_
            refine .q (x := .d (cB ((y6.2 != 0) || ((y6.1.length : Int) != 1)))) (q_pickOrB rfl rfl rfl) rfl ?_
            refine .nil ?_
            refine .cond rfl (fun hc => ?_) (fun hc => ?_)
            · replace H := ifT hc H; clear hc
              refine .exit rfl ?_
              refine .region ?_
              refine .q (x := .d (cI v11l2)) (q_move rfl) rfl ?_
              obtain ⟨hk10, H⟩ := ck_some H
              refine .q (x := .d (cI (v11l2 + 1))) (q_addI rfl rfl hk10.1 hk10.2) rfl ?_
              refine .q (x := .d (cI (v11l2 + 1))) (q_assign rfl) rfl ?_
              refine .nil ?_
              cases H
              exact .sub (.cons rfl (.rfl' _) (.cons rfl (.rfl' _) (.cons rfl (.rfl' _) (.cons rfl (.rfl' _) (.cons rfl (.rfl' _) (.nil)))))) (ih1 (n1, (v5l2, v6l2, v11l2 + 1)) HK1 hm1)
            · replace H := ifF hc H; clear hc
              refine .skip ?_
              refine .seq ?_
              refine .region ?_
              refine .q (x := .d (slOf 1 rS v1)) (q_move rfl) rfl ?_
              refine .q (x := .d (cI v11l2)) (q_move rfl) rfl ?_
              obtain ⟨hk11, H⟩ := ck_some H
              refine .q (x := .d (.ro (rS (nth v1 (Int.toNat (v11l2)))))) (q_idxL (row := rS) (l := v1) (i := v11l2) Tryd.underlying33 hi9 hs9 rfl rfl rfl hk11) rfl ?_
              refine .q (x := .d (cS (nth v1 (Int.toNat (v11l2))))) (q_load one_9 rfl) rfl ?_
              obtain ⟨y7, hy7, H⟩ := bind_some' H
              refine .g (x := .d (.tup [.agg (Record.row y7.1), cI y7.2])) (g_call en_12 rfl rfl (c_f_textual_Decode (hy7))) rfl ?_
              refine .q (x := .d (.tup [.agg (Record.row y7.1), cI y7.2])) (q_move rfl) rfl ?_
              refine .q (x := .d (.agg (Record.row y7.1))) (q_extract rfl rfl) rfl ?_
              refine .q (x := .d (cI y7.2)) (q_extract rfl rfl) rfl ?_
              refine .v (x := .ref 0 0) (v_alloc zr_23 rfl) rfl ?_
              refine .withSt (st' := ⟨[.row 23 [.d (cI 0), .d (cI 0), .d (cI 0), .d (cS ([] : List UInt8)), .d (cS ([] : List UInt8)), .d (cI 0), .d (cI 0), .d (cI 0), .d (cI 0), .d (cB false), .d (cI 0), .d (cB false)]], [⟨23, 12, v7j1.length⟩]⟩) rfl ?_
              refine .u (u_store rfl rfl rfl rfl (Nat.le_of_ble_eq_true rfl) sz_23) rfl ?_
              refine .withSt (st' := ⟨[.row 23 [.d (cI y7.1.source), .d (cI y7.1.serial), .d (cI y7.1.kind), .d (cS y7.1.a), .d (cS y7.1.b), .d (cI y7.1.start), .d (cI y7.1.units), .d (cI y7.1.call), .d (cI y7.1.part), .d (cB y7.1.last), .d (cI y7.1.trunk), .d (cB y7.1.inbound)]], [⟨23, 12, v7j1.length⟩]⟩) rfl ?_
              refine .q (x := .d (cI y7.2)) (q_assign rfl) rfl ?_
              refine .nil ?_
              refine .seq ?_
              refine .region ?_
              refine .q (x := .d (cI y7.2)) (q_move rfl) rfl ?_
              refine .q (x := .d (cB (y7.2 != 0))) (q_neq rfl rfl) rfl ?_
              refine .nil ?_
              refine .cond rfl (fun hc => ?_) (fun hc => ?_)
              · replace H := ifT hc H; clear hc
                refine .seq ?_
                refine .region ?_
                refine .q (x := .d (cS v5l2)) (q_move rfl) rfl ?_
                refine .q (x := .d (slOf 1 rS v1)) (q_move rfl) rfl ?_
                refine .q (x := .d (cI v11l2)) (q_move rfl) rfl ?_
                obtain ⟨hk12, H⟩ := ck_some H
                refine .q (x := .d (.ro (rS (nth v1 (Int.toNat (v11l2)))))) (q_idxL (row := rS) (l := v1) (i := v11l2) Tryd.underlying33 hi9 hs9 rfl rfl rfl hk12) rfl ?_
                refine .q (x := .d (cS (nth v1 (Int.toNat (v11l2))))) (q_load one_9 rfl) rfl ?_
                obtain ⟨hk13, H⟩ := ck_some H
                refine .q (x := .d (cS (v5l2 ++ (nth v1 (Int.toNat (v11l2)))))) (q_sadd rfl rfl hk13) rfl ?_
                obtain ⟨hk14, H⟩ := ck_some H
                refine .q (x := .d (cS ((v5l2 ++ (nth v1 (Int.toNat (v11l2)))) ++ ([10] : List UInt8)))) (q_sadd rfl rfl hk14) rfl ?_
                refine .q (x := .d (cS ((v5l2 ++ (nth v1 (Int.toNat (v11l2)))) ++ ([10] : List UInt8)))) (q_assign rfl) rfl ?_
                refine .nil ?_
                refine .region ?_
                refine .q (x := .d (cI v6l2)) (q_move rfl) rfl ?_
                obtain ⟨hk15, H⟩ := ck_some H
                refine .q (x := .d (cI (v6l2 + 1))) (q_addI rfl rfl hk15.1 hk15.2) rfl ?_
                refine .q (x := .d (cI (v6l2 + 1))) (q_assign rfl) rfl ?_
                refine .nil ?_
                refine .inBlock ?_
                refine .region ?_
                refine .q (x := .d (cI v11l2)) (q_move rfl) rfl ?_
                obtain ⟨hk16, H⟩ := ck_some H
                refine .q (x := .d (cI (v11l2 + 1))) (q_addI rfl rfl hk16.1 hk16.2) rfl ?_
                refine .q (x := .d (cI (v11l2 + 1))) (q_assign rfl) rfl ?_
                refine .nil ?_
                cases H
                exact .to 0 1 (env' := [(1, .d (slOf 1 rS v1)), (5, .d (cS ((v5l2 ++ (nth v1 (Int.toNat (v11l2)))) ++ ([10] : List UInt8)))), (6, .d (cI (v6l2 + 1))), (7, .tsl 12 (v7j1.map Record.row) 0), (11, .d (cI (v11l2 + 1)))]) (st' := ⟨[], [⟨23, 12, v7j1.length⟩]⟩) (.cons rfl (.rfl' _) (.cons rfl (.rfl' _) (.cons rfl (.rfl' _) (.cons rfl (.rfl' _) (.cons rfl (.rfl' _) (.nil)))))) rfl rfl rfl rfl rfl (by rw [hS]; exact Nat.le_of_ble_eq_true rfl) (by rw [hS]; exact Nat.le_of_ble_eq_true rfl) <| .sub (.cons rfl (.rfl' _) (.cons rfl (.rfl' _) (.cons rfl (.rfl' _) (.cons rfl (.rfl' _) (.cons rfl (.rfl' _) (.nil)))))) (ih1 (n1, ((v5l2 ++ (nth v1 (Int.toNat (v11l2)))) ++ ([10] : List UInt8), v6l2 + 1, v11l2 + 1)) HK1 hm1)
              · replace H := ifF hc H; clear hc
                refine .skip ?_
                refine .inBlock ?_
                refine .region ?_
                refine .q (x := .d (cI v11l2)) (q_move rfl) rfl ?_
                obtain ⟨hk17, H⟩ := ck_some H
                refine .q (x := .d (cI (v11l2 + 1))) (q_addI rfl rfl hk17.1 hk17.2) rfl ?_
                refine .q (x := .d (cI (v11l2 + 1))) (q_assign rfl) rfl ?_
                refine .nil ?_
                cases H
                exact .to 0 1 (env' := [(1, .d (slOf 1 rS v1)), (5, .d (cS v5l2)), (6, .d (cI v6l2)), (7, .tsl 12 (v7j1.map Record.row) 0), (11, .d (cI (v11l2 + 1)))]) (st' := ⟨[], [⟨23, 12, v7j1.length⟩]⟩) (.cons rfl (.rfl' _) (.cons rfl (.rfl' _) (.cons rfl (.rfl' _) (.cons rfl (.rfl' _) (.cons rfl (.rfl' _) (.nil)))))) rfl rfl rfl rfl rfl (by rw [hS]; exact Nat.le_of_ble_eq_true rfl) (by rw [hS]; exact Nat.le_of_ble_eq_true rfl) <| .sub (.cons rfl (.rfl' _) (.cons rfl (.rfl' _) (.cons rfl (.rfl' _) (.cons rfl (.rfl' _) (.cons rfl (.rfl' _) (.nil)))))) (ih1 (n1, (v5l2, v6l2, v11l2 + 1)) HK1 hm1)
        · replace H := ifF hc H; clear hc
          refine .exit rfl ?_
          obtain ⟨q0, H9, hq0⟩ := map_some' H; clear H; cases hq0
          cases HK1
          have H := H9
          exact .sub (.cons rfl (.rfl' _) (.cons rfl (.rfl' _) (.cons rfl (.rfl' _) (.nil)))) (hj2x (v5l2, v6l2) H)
    · intro hj1 hj1x
      obtain ⟨n3, H⟩ := loop_some H
      refine .withSt (st' := ⟨[], [⟨23, 12, ([] : List Record).length⟩]⟩) rfl <| .loop (ι := Nat × (List UInt8 × List Record × Int)) (fun p => [(0, .d (slOf 12 Record.row v0)), (1, .d (slOf 1 rS v1)), (5, .d (cS p.2.1)), (6, .d (cI 0)), (7, .tsl 12 (p.2.2.1.map Record.row) 0), (8, .d (cI p.2.2.2))]) (fun p => ⟨[], [⟨23, 12, p.2.2.1.length⟩]⟩) (fun p => iter (fun s => f_billinglaw09_TextualAll_l3 v0 v1 s.1 s.2.1 s.2.2) p.1 p.2 = some r) (·.1) (n3, (([] : List UInt8), ([] : List Record), 0)) H (.cons rfl (.rfl' _) (.cons rfl (.rfl' _) (.cons rfl (.rfl' _) (.cons rfl (.rfl' _) (.cons rfl (.rfl' _) (.cons rfl (.rfl' _) (.nil))))))) rfl ?_
      rintro ⟨m1, v5l3, v7l3, v8l3⟩ HI ih1
      obtain ⟨n1, q1, hm1, H, HK1⟩ := iter_succ HI
      clear HI
      replace H : f_billinglaw09_TextualAll_l3 v0 v1 v5l3 v7l3 v8l3 = some q1 := H
      unfold f_billinglaw09_TextualAll_l3 at H
      change ARun _ _ _ _ _ _ [(0, .d (slOf 12 Record.row v0)), (1, .d (slOf 1 rS v1)), (5, .d (cS v5l3)), (6, .d (cI 0)), (7, .tsl 12 (v7l3.map Record.row) 0), (8, .d (cI v8l3))] ⟨[], [⟨23, 12, v7l3.length⟩]⟩
      refine .seq ?_
      refine .seq ?_
      refine .region ?_
      refine .q (x := .d (cI v8l3)) (q_move rfl) rfl ?_
      refine .q (x := .d (slOf 12 Record.row v0)) (q_move rfl) rfl ?_
      refine .q (x := .d (cI (v0.length : Int))) (q_lenL (l := v0) (row := Record.row) Tryd.underlying36 rfl rfl) rfl ?_
      refine .q (x := .d (cB (decide (v8l3 < (v0.length : Int))))) (q_lss rfl rfl) rfl ?_
      refine .nil ?_
      refine .cond rfl (fun hc => ?_) (fun hc => ?_)
      · replace H := ifT hc H; clear hc
        refine .skip ?_
        refine .seq ?_
        refine .block ?_
        refine .seq ?_
        refine .seq ?_
        refine .region ?_
        refine .q (x := .d (slOf 12 Record.row v0)) (q_move rfl) rfl ?_
        refine .q (x := .d (cI v8l3)) (q_move rfl) rfl ?_
        obtain ⟨hk18, H⟩ := ck_some H
        refine .q (x := .d (.ro (Record.row (nth v0 (Int.toNat (v8l3)))))) (q_idxL (row := Record.row) (l := v0) (i := v8l3) Tryd.underlying36 hi23 hs23 rfl rfl rfl hk18) rfl ?_
        refine .q (x := .d (.agg (Record.row (nth v0 (Int.toNat (v8l3)))))) (q_loadAll one_23 sz_23 rfl rfl) rfl ?_
        obtain ⟨y8, hy8, H⟩ := bind_some' H
        refine .g (x := .d (cB y8)) (g_call en_8 rfl rfl (c_f_billinglaw09_short (hy8))) rfl ?_
        refine .q (x := .d (cB (!y8))) (q_not rfl) rfl ?_
        refine .nil ?_
        refine .cond rfl (fun hc => ?_) (fun hc => ?_)
        · replace H := ifT hc H; clear hc
          refine .seq ?_
          refine .region ?_
          obtain ⟨y9, hy9, H⟩ := bind_some' H
          refine .g (x := .d (cB y9)) (g_call en_9 rfl rfl (c_f_billinglaw09_awake (hy9))) rfl ?_
          refine .q (x := .d (cB y9)) (q_assign rfl) rfl ?_
          refine .nil ?_
          refine .retN [.tmp 4] [.d (cB y9)] Tryd.func7 Tryd.results7 ⟨rfl, trivial⟩ ?_
          cases H
          cases HK1
          exact ⟨_, .rfl' _, rfl⟩
        · replace H := ifF hc H; clear hc
          refine .skip ?_
          refine .seq ?_
          refine .region ?_
          refine .q (x := .d (slOf 12 Record.row v0)) (q_move rfl) rfl ?_
          refine .q (x := .d (cI v8l3)) (q_move rfl) rfl ?_
          obtain ⟨hk19, H⟩ := ck_some H
          refine .q (x := .d (.ro (Record.row (nth v0 (Int.toNat (v8l3)))))) (q_idxL (row := Record.row) (l := v0) (i := v8l3) Tryd.underlying36 hi23 hs23 rfl rfl rfl hk19) rfl ?_
          refine .q (x := .d (.agg (Record.row (nth v0 (Int.toNat (v8l3)))))) (q_loadAll one_23 sz_23 rfl rfl) rfl ?_
          obtain ⟨y10, hy10, H⟩ := bind_some' H
          refine .g (x := .d (.tup [cS y10.1, cI y10.2])) (g_call en_10 rfl rfl (c_f_textual_Encode (hy10))) rfl ?_
          refine .q (x := .d (.tup [cS y10.1, cI y10.2])) (q_move rfl) rfl ?_
          refine .q (x := .d (cS y10.1)) (q_extract rfl rfl) rfl ?_
          refine .q (x := .d (cI y10.2)) (q_extract rfl rfl) rfl ?_
          refine .q (x := .d (cS y10.1)) (q_assign rfl) rfl ?_
          refine .q (x := .d (cI y10.2)) (q_assign rfl) rfl ?_
          refine .nil ?_
          refine .seq ?_
          refine .region ?_
          refine .q (x := .d (cI y10.2)) (q_move rfl) rfl ?_
          refine .q (x := .d (cB (y10.2 == 0))) (q_eql rfl rfl) rfl ?_
          refine .nil ?_
          refine .cond rfl (fun hc => ?_) (fun hc => ?_)
          · replace H := ifT hc H; clear hc
            refine .seq ?_
            refine .region ?_
            refine .q (x := .d (cS v5l3)) (q_move rfl) rfl ?_
            refine .q (x := .d (cS y10.1)) (q_move rfl) rfl ?_
            obtain ⟨hk20, H⟩ := ck_some H
            refine .q (x := .d (cS (v5l3 ++ y10.1))) (q_sadd rfl rfl hk20) rfl ?_
            obtain ⟨hk21, H⟩ := ck_some H
            refine .q (x := .d (cS ((v5l3 ++ y10.1) ++ ([10] : List UInt8)))) (q_sadd rfl rfl hk21) rfl ?_
            refine .q (x := .d (cS ((v5l3 ++ y10.1) ++ ([10] : List UInt8)))) (q_assign rfl) rfl ?_
            refine .nil ?_
            refine .region ?_
            refine .q (x := .tsl 12 (v7l3.map Record.row) 0) (q_move rfl) rfl ?_
            refine .q (x := .d (slOf 12 Record.row v0)) (q_move rfl) rfl ?_
            refine .q (x := .d (cI v8l3)) (q_move rfl) rfl ?_
            obtain ⟨hk22, H⟩ := ck_some H
            refine .q (x := .d (.ro (Record.row (nth v0 (Int.toNat (v8l3)))))) (q_idxL (row := Record.row) (l := v0) (i := v8l3) Tryd.underlying36 hi23 hs23 rfl rfl rfl hk22) rfl ?_
            refine .q (x := .d (.agg (Record.row (nth v0 (Int.toNat (v8l3)))))) (q_loadAll one_23 sz_23 rfl rfl) rfl ?_
            refine .g (x := .d (slOf 12 Record.row ([nth v0 (Int.toNat (v8l3))]))) (g_buildSlice1 Tryd.underlying36 hi23 hs23 hz23 rfl rfl rfl rfl rfl) rfl ?_
            obtain ⟨hk23, H⟩ := ck_some H
            refine .v (x := .tsl 12 ((v7l3 ++ ([nth v0 (Int.toNat (v8l3))])).map Record.row) 0) (v_appendL (l := v7l3) (l' := [nth v0 (Int.toNat (v8l3))]) (row := Record.row) Tryd.underlying36 hi23 hz23 hs23 rfl (by rw [hb23]; decide) rfl rfl rfl rfl hk23) rfl ?_
            refine .withSt (st' := ⟨[], [⟨23, 12, (v7l3 ++ ([nth v0 (Int.toNat (v8l3))])).length⟩]⟩) rfl ?_
            refine .q (x := .tsl 12 ((v7l3 ++ ([nth v0 (Int.toNat (v8l3))])).map Record.row) 0) (q_assign rfl) rfl ?_
            refine .nil ?_
            refine .inBlock ?_
            refine .region ?_
            refine .q (x := .d (cI v8l3)) (q_move rfl) rfl ?_
            obtain ⟨hk24, H⟩ := ck_some H
            refine .q (x := .d (cI (v8l3 + 1))) (q_addI rfl rfl hk24.1 hk24.2) rfl ?_
            refine .q (x := .d (cI (v8l3 + 1))) (q_assign rfl) rfl ?_
            refine .nil ?_
            cases H
            exact .withSt (st' := ⟨[], [⟨23, 12, (v7l3 ++ ([nth v0 (Int.toNat (v8l3))])).length⟩]⟩) rfl <| .sub (.cons rfl (.rfl' _) (.cons rfl (.rfl' _) (.cons rfl (.rfl' _) (.cons rfl (.rfl' _) (.cons rfl (.rfl' _) (.cons rfl (.rfl' _) (.nil))))))) (ih1 (n1, ((v5l3 ++ y10.1) ++ ([10] : List UInt8), v7l3 ++ ([nth v0 (Int.toNat (v8l3))]), v8l3 + 1)) HK1 hm1)
          · replace H := ifF hc H; clear hc
            refine .skip ?_
            refine .inBlock ?_
            refine .region ?_
            refine .q (x := .d (cI v8l3)) (q_move rfl) rfl ?_
            obtain ⟨hk25, H⟩ := ck_some H
            refine .q (x := .d (cI (v8l3 + 1))) (q_addI rfl rfl hk25.1 hk25.2) rfl ?_
            refine .q (x := .d (cI (v8l3 + 1))) (q_assign rfl) rfl ?_
            refine .nil ?_
            cases H
            exact .sub (.cons rfl (.rfl' _) (.cons rfl (.rfl' _) (.cons rfl (.rfl' _) (.cons rfl (.rfl' _) (.cons rfl (.rfl' _) (.cons rfl (.rfl' _) (.nil))))))) (ih1 (n1, (v5l3, v7l3, v8l3 + 1)) HK1 hm1)
      · replace H := ifF hc H; clear hc
        refine .exit rfl ?_
        obtain ⟨q0, H9, hq0⟩ := map_some' H; clear H; cases hq0
        cases HK1
        have H := H9
        exact .withSt (st' := ⟨[], [⟨23, 12, v7l3.length⟩]⟩) rfl <| .sub (.cons rfl (.rfl' _) (.cons rfl (.rfl' _) (.cons rfl (.rfl' _) (.cons rfl (.rfl' _) (.nil))))) (hj1x (v5l3, v7l3) H)

end Go.Proofs.YtoknjmclbfgkiaaDoor
