import Derived.Test.YtalecnjpdjdlgaaDoorLTys
import Derived.Test.YtalecnjpdjdlgaaDoorLF
import Derived.Test.YtalecnjpdjdlgaaDoorLX
set_option linter.unusedSimpArgs false
set_option linter.unusedVariables false
namespace Go.Proofs.YtalecnjpdjdlgaaDoor
open Go.RowKit Go.Abs
set_option maxRecDepth 100000 in
set_option maxHeartbeats 1000000 in
theorem c_f_billinglaw13_short {v0r : Record} {r : Bool} (H : f_billinglaw13_short v0r = some r) : ACall Tryd.prog 8 [.agg (Record.row v0r)] (· = cB r) := by
  refine ACall.enter' Tryd.func8 rfl Tryd.ntmps8 rfl fun S hS => ?_
  unfold f_billinglaw13_short at H
  change ARun _ _ _ _ _ _ [(0, .d (.agg (Record.row v0r)))] _
  refine .seq ?_
  refine .region ?_
  refine .v (x := .ref 0 0) (v_box rfl rfl) rfl ?_
  refine .withSt (st' := ⟨[.row 23 [.d (cI v0r.source), .d (cI v0r.serial), .d (cI v0r.kind), .d (cS v0r.a), .d (cS v0r.b), .d (cI v0r.start), .d (cI v0r.units), .d (cI v0r.call), .d (cI v0r.part), .d (cB v0r.last), .d (cI v0r.trunk), .d (cB v0r.inbound)]], []⟩) rfl ?_
  refine .q (x := .d (cB false)) (q_assign rfl) rfl ?_
  refine .nil ?_
  refine .seq ?_
  refine .region ?_
  refine .q (x := .ref 0 3) (q_fieldRef fo_23_3 rfl) rfl ?_
  refine .q (x := .d (cS v0r.a)) (q_loadO one_9 rfl rfl rfl) rfl ?_
  refine .q (x := .d (cI (v0r.a.length : Int))) (q_lenS Tryd.underlying9 rfl) rfl ?_
  refine .q (x := .d (cB (decide ((v0r.a.length : Int) ≤ 200)))) (q_leq rfl rfl) rfl ?_
  refine .q (x := .d (cB (decide ((v0r.a.length : Int) ≤ 200)))) (q_move rfl) rfl ?_
  refine .guardG (b := decide ((v0r.a.length : Int) ≤ 200)) (x := .ref 0 4) (env' := [(1, _)]) rfl rfl rfl ⟨.inl rfl, trivial⟩ rfl (fun hg => OpQ.g (q_fieldRef fo_23_4 rfl)) ?_
  refine .guardG (b := decide ((v0r.a.length : Int) ≤ 200)) (x := .d (cS v0r.b)) (env' := [(8, _)]) rfl rfl rfl ⟨.inr (.inl rfl), trivial⟩ rfl (fun hg => OpQ.g (q_loadO one_9 rfl rfl rfl)) ?_
  refine .guardG (b := decide ((v0r.a.length : Int) ≤ 200)) (x := .d (cI (v0r.b.length : Int))) (env' := [(9, _)]) rfl rfl rfl ⟨.inr (.inl rfl), trivial⟩ rfl (fun hg => OpQ.g (q_lenS Tryd.underlying9 rfl)) ?_
  refine .guardG (b := decide ((v0r.a.length : Int) ≤ 200)) (x := .d (cB (decide ((v0r.b.length : Int) ≤ 200)))) (env' := [(10, _)]) rfl rfl rfl ⟨.inr (.inl rfl), trivial⟩ rfl (fun hg => OpQ.g (q_leq rfl rfl)) ?_
  refine .q (x := .d (cB ((decide ((v0r.a.length : Int) ≤ 200)) && (decide ((v0r.b.length : Int) ≤ 200))))) (q_pickAndB rfl rfl rfl) rfl ?_
  refine .q (x := .d (cB ((decide ((v0r.a.length : Int) ≤ 200)) && (decide ((v0r.b.length : Int) ≤ 200))))) (q_assign rfl) rfl ?_
  refine .nil ?_
  refine .retN [.tmp 2] [.d (cB ((decide ((v0r.a.length : Int) ≤ 200)) && (decide ((v0r.b.length : Int) ≤ 200))))] Tryd.func8 Tryd.results8 ⟨rfl, trivial⟩ ?_
  cases H
  exact ⟨_, .rfl' _, rfl⟩

set_option maxRecDepth 100000 in
set_option maxHeartbeats 1000000 in
theorem c_f_textual_within {v0n : Int} {v1lo : Int} {v2hi : Int} {r : Bool} (H : f_textual_within v0n v1lo v2hi = some r) : ACall Tryd.prog 32 [cI v0n, cI v1lo, cI v2hi] (· = cB r) := by
  refine ACall.enter' Tryd.func32 rfl Tryd.ntmps32 rfl fun S hS => ?_
  unfold f_textual_within at H
  change ARun _ _ _ _ _ _ [(0, .d (cI v0n)), (1, .d (cI v1lo)), (2, .d (cI v2hi))] _
  refine .seq ?_
  refine .region ?_
  refine .q (x := .d (cB false)) (q_assign rfl) rfl ?_
  refine .nil ?_
  refine .seq ?_
  refine .region ?_
  refine .q (x := .d (cI v0n)) (q_move rfl) rfl ?_
  refine .q (x := .d (cI v1lo)) (q_move rfl) rfl ?_
  refine .q (x := .d (cB (decide (v0n ≥ v1lo)))) (q_geq rfl rfl) rfl ?_
  refine .q (x := .d (cB (decide (v0n ≥ v1lo)))) (q_move rfl) rfl ?_
  refine .guardG (b := decide (v0n ≥ v1lo)) (x := .d (cI v0n)) (env' := [(0, _)]) rfl rfl rfl ⟨.inl rfl, trivial⟩ rfl (fun hg => OpQ.g (q_move rfl)) ?_
  refine .guardG (b := decide (v0n ≥ v1lo)) (x := .d (cI v2hi)) (env' := [(2, _)]) rfl rfl rfl ⟨.inl rfl, trivial⟩ rfl (fun hg => OpQ.g (q_move rfl)) ?_
  refine .guardG (b := decide (v0n ≥ v1lo)) (x := .d (cB (decide (v0n ≤ v2hi)))) (env' := [(11, _), (12, _)]) rfl rfl rfl ⟨.inr (.inl rfl), ⟨.inr (.inl rfl), trivial⟩⟩ rfl (fun hg => OpQ.g (q_leq rfl rfl)) ?_
  refine .q (x := .d (cB ((decide (v0n ≥ v1lo)) && (decide (v0n ≤ v2hi))))) (q_pickAndB rfl rfl rfl) rfl ?_
  refine .q (x := .d (cB ((decide (v0n ≥ v1lo)) && (decide (v0n ≤ v2hi))))) (q_assign rfl) rfl ?_
  refine .nil ?_
  refine .retN [.tmp 6] [.d (cB ((decide (v0n ≥ v1lo)) && (decide (v0n ≤ v2hi))))] Tryd.func32 Tryd.results32 ⟨rfl, trivial⟩ ?_
  cases H
  exact ⟨_, .rfl' _, rfl⟩

set_option maxRecDepth 100000 in
set_option maxHeartbeats 1000000 in
theorem c_f_digits_digit {v0c : UInt8} {r : Bool} (H : f_digits_digit v0c = some r) : ACall Tryd.prog 38 [cU8 v0c] (· = cB r) := by
  refine ACall.enter' Tryd.func38 rfl Tryd.ntmps38 rfl fun S hS => ?_
  unfold f_digits_digit at H
  change ARun _ _ _ _ _ _ [(0, .d (cU8 v0c))] _
  refine .seq ?_
  refine .region ?_
  refine .q (x := .d (cB false)) (q_assign rfl) rfl ?_
  refine .nil ?_
  refine .seq ?_
  refine .region ?_
  refine .q (x := .d (cU8 v0c)) (q_move rfl) rfl ?_
  refine .q (x := .d (cB (decide (v0c ≥ 48)))) (q8_geq (a := v0c) (b := 48) rfl rfl) rfl ?_
  refine .q (x := .d (cB (decide (v0c ≥ 48)))) (q_move rfl) rfl ?_
  refine .guardG (b := decide (v0c ≥ 48)) (x := .d (cU8 v0c)) (env' := [(0, _)]) rfl rfl rfl ⟨.inl rfl, trivial⟩ rfl (fun hg => OpQ.g (q_move rfl)) ?_
  refine .guardG (b := decide (v0c ≥ 48)) (x := .d (cB (decide (v0c ≤ 57)))) (env' := [(6, _)]) rfl rfl rfl ⟨.inr (.inl rfl), trivial⟩ rfl (fun hg => OpQ.g (q8_leq (a := v0c) (b := 57) rfl rfl)) ?_
  refine .q (x := .d (cB ((decide (v0c ≥ 48)) && (decide (v0c ≤ 57))))) (q_pickAndB rfl rfl rfl) rfl ?_
  refine .q (x := .d (cB ((decide (v0c ≥ 48)) && (decide (v0c ≤ 57))))) (q_assign rfl) rfl ?_
  refine .nil ?_
  refine .retN [.tmp 2] [.d (cB ((decide (v0c ≥ 48)) && (decide (v0c ≤ 57))))] Tryd.func38 Tryd.results38 ⟨rfl, trivial⟩ ?_
  cases H
  exact ⟨_, .rfl' _, rfl⟩

set_option maxRecDepth 100000 in
set_option maxHeartbeats 1000000 in
theorem c_f_digits_Valid {v0s : List UInt8} {r : Bool} (H : f_digits_Valid v0s = some r) : ACall Tryd.prog 33 [cS v0s] (· = cB r) := by
  refine ACall.enter' Tryd.func33 rfl Tryd.ntmps33 rfl fun S hS => ?_
  unfold f_digits_Valid at H
  change ARun _ _ _ _ _ _ [(0, .d (cS v0s))] _
  refine .seq ?_
  refine .region ?_
  refine .q (x := .d (cB false)) (q_assign rfl) rfl ?_
  refine .nil ?_
  refine .seq ?_
  refine .seq ?_
  refine .region ?_
  refine .q (x := .d (cS v0s)) (q_move rfl) rfl ?_
  refine .q (x := .d (cI (v0s.length : Int))) (q_lenS Tryd.underlying9 rfl) rfl ?_
  refine .q (x := .d (cI 0)) (q_move rfl) rfl ?_
  refine .nil ?_
  refine .blockJoin2 (ι := Unit) (fun s => [(0, .d (cS v0s))]) (fun s => ⟨[], []⟩) (fun s => f_digits_Valid_j1 v0s = some r) ?_ ?_
  · rintro _ H
    replace H : f_digits_Valid_j1 v0s = some r := H
    unfold f_digits_Valid_j1 at H
    change ARun _ _ _ _ _ _ [(0, .d (cS v0s))] ⟨[], []⟩
    refine .seq ?_
    refine .region ?_
    refine .q (x := .d (cS v0s)) (q_move rfl) rfl ?_
    refine .q (x := .d (cI (v0s.length : Int))) (q_lenS Tryd.underlying9 rfl) rfl ?_
    refine .q (x := .d (cB (decide ((v0s.length : Int) ≥ 1)))) (q_geq rfl rfl) rfl ?_
    refine .q (x := .d (cB (decide ((v0s.length : Int) ≥ 1)))) (q_move rfl) rfl ?_
    refine .guardG (b := decide ((v0s.length : Int) ≥ 1)) (x := .d (cS v0s)) (env' := [(0, _)]) rfl rfl rfl ⟨.inl rfl, trivial⟩ rfl (fun hg => OpQ.g (q_move rfl)) ?_
    refine .guardG (b := decide ((v0s.length : Int) ≥ 1)) (x := .d (cI (v0s.length : Int))) (env' := [(19, _)]) rfl rfl rfl ⟨.inr (.inl rfl), trivial⟩ rfl (fun hg => OpQ.g (q_lenS Tryd.underlying9 rfl)) ?_
    refine .guardG (b := decide ((v0s.length : Int) ≥ 1)) (x := .d (cB (decide ((v0s.length : Int) ≤ 15)))) (env' := [(20, _)]) rfl rfl rfl ⟨.inr (.inl rfl), trivial⟩ rfl (fun hg => OpQ.g (q_leq rfl rfl)) ?_
    refine .q (x := .d (cB ((decide ((v0s.length : Int) ≥ 1)) && (decide ((v0s.length : Int) ≤ 15))))) (q_pickAndB rfl rfl rfl) rfl ?_
    refine .q (x := .d (cB ((decide ((v0s.length : Int) ≥ 1)) && (decide ((v0s.length : Int) ≤ 15))))) (q_assign rfl) rfl ?_
    refine .nil ?_
    refine .retN [.tmp 2] [.d (cB ((decide ((v0s.length : Int) ≥ 1)) && (decide ((v0s.length : Int) ≤ 15))))] Tryd.func33 Tryd.results33 ⟨rfl, trivial⟩ ?_
    cases H
    exact ⟨_, .rfl' _, rfl⟩
  · intro hj1 hj1x
    obtain ⟨n1, H⟩ := loop_some H
    refine .loop (ι := Nat × (Int)) (fun p => [(0, .d (cS v0s)), (5, .d (cI (v0s.length : Int))), (6, .d (cI p.2))]) (fun p => ⟨[], []⟩) (fun p => iter (fun s => f_digits_Valid_l1 v0s s) p.1 p.2 = some r) (·.1) (n1, 0) H (.cons rfl (.rfl' _) (.cons rfl (.rfl' _) (.cons rfl (.rfl' _) (.nil)))) rfl ?_
    rintro ⟨m1, v6l1⟩ HI ih1
    obtain ⟨n1, q1, hm1, H, HK1⟩ := iter_succ HI
    clear HI
    replace H : f_digits_Valid_l1 v0s v6l1 = some q1 := H
    unfold f_digits_Valid_l1 at H
    change ARun _ _ _ _ _ _ [(0, .d (cS v0s)), (5, .d (cI (v0s.length : Int))), (6, .d (cI v6l1))] ⟨[], []⟩
    refine .seq ?_
    refine .region ?_
    refine .q (x := .d (cB (decide (v6l1 < (v0s.length : Int))))) (q_lss rfl rfl) rfl ?_
    refine .nil ?_
    refine .seq ?_
    refine .cond rfl (fun hc => ?_) (fun hc => ?_)
    · replace H := ifT hc H; clear hc
      refine .skip ?_
      refine .seq ?_
      refine .block ?_
      refine .seq ?_
      refine .region ?_
      refine .q (x := .d (cI v6l1)) (q_move rfl) rfl ?_
      refine .q (x := .d (cI v6l1)) (q_assign rfl) rfl ?_
      refine .nil ?_
      refine .seq ?_
      refine .region ?_
      refine .q (x := .d (cS v0s)) (q_move rfl) rfl ?_
      refine .q (x := .d (cI v6l1)) (q_move rfl) rfl ?_
      obtain ⟨hk1, H⟩ := ck_some H
      refine .q (x := .d (cU8 (nth v0s (Int.toNat (v6l1))))) (q_indexL (i := v6l1) Tryd.underlying9 rfl rfl hk1) rfl ?_
      obtain ⟨y1, hy1, H⟩ := bind_some' H
      refine .g (x := .d (cB y1)) (g_call en_38 rfl rfl (c_f_digits_digit (hy1))) rfl ?_
      refine .q (x := .d (cB (!y1))) (q_not rfl) rfl ?_
      refine .nil ?_
      refine .cond rfl (fun hc => ?_) (fun hc => ?_)
      · replace H := ifT hc H; clear hc
        refine .seq ?_
        refine .region ?_
        refine .q (x := .d (cB false)) (q_assign rfl) rfl ?_
        refine .nil ?_
        refine .retN [.tmp 2] [.d (cB false)] Tryd.func33 Tryd.results33 ⟨rfl, trivial⟩ ?_
        cases H
        cases HK1
        exact ⟨_, .rfl' _, rfl⟩
      · replace H := ifF hc H; clear hc
        refine .skip ?_
        refine .inBlock ?_
        refine .region ?_
        obtain ⟨hk2, H⟩ := ck_some H
        refine .q (x := .d (cI (v6l1 + 1))) (q_addI rfl rfl hk2.1 hk2.2) rfl ?_
        refine .q (x := .d (cI (v6l1 + 1))) (q_move rfl) rfl ?_
        refine .nil ?_
        cases H
        exact .sub (.cons rfl (.rfl' _) (.cons rfl (.rfl' _) (.cons rfl (.rfl' _) (.nil)))) (ih1 (n1, (v6l1 + 1)) HK1 hm1)
    · replace H := ifF hc H; clear hc
      refine .exit rfl ?_
      obtain ⟨q0, H9, hq0⟩ := map_some' H; clear H; cases hq0
      cases HK1
      have H := H9
      exact .sub (.cons rfl (.rfl' _) (.nil)) (hj1x () H)

set_option maxRecDepth 100000 in
set_option maxHeartbeats 1000000 in
theorem c_f_textual_check {v0 : Record} {r : Int} (H : f_textual_check v0 = some r) : ACall Tryd.prog 27 [.agg (Record.row v0)] (· = cI r) := by
  refine ACall.enter' Tryd.func27 rfl Tryd.ntmps27 rfl fun S hS => ?_
  unfold f_textual_check at H
  change ARun _ _ _ _ _ _ [(0, .d (.agg (Record.row v0)))] _
  refine .seq ?_
  refine .region ?_
  refine .v (x := .ref 0 0) (v_box rfl rfl) rfl ?_
  refine .withSt (st' := ⟨[.row 23 [.d (cI v0.source), .d (cI v0.serial), .d (cI v0.kind), .d (cS v0.a), .d (cS v0.b), .d (cI v0.start), .d (cI v0.units), .d (cI v0.call), .d (cI v0.part), .d (cB v0.last), .d (cI v0.trunk), .d (cB v0.inbound)]], []⟩) rfl ?_
  refine .q (x := .d (cI 0)) (q_assign rfl) rfl ?_
  refine .nil ?_
  refine .seq ?_
  refine .region ?_
  refine .q (x := .ref 0 2) (q_fieldRef fo_23_2 rfl) rfl ?_
  refine .q (x := .d (cI v0.kind)) (q_loadO one_3 rfl rfl rfl) rfl ?_
  refine .q (x := .d (cB (v0.kind == 3))) (q_eql rfl rfl) rfl ?_
  refine .q (x := .d (cB (v0.kind == 3))) (q_move rfl) rfl ?_
  refine .guardG (b := (!(v0.kind == 3))) (x := .ref 0 2) (env' := [(1, _)]) rfl rfl rfl ⟨.inl rfl, trivial⟩ rfl (fun hg => OpQ.g (q_fieldRef fo_23_2 rfl)) ?_
  refine .guardG (b := (!(v0.kind == 3))) (x := .d (cI v0.kind)) (env' := [(9, _)]) rfl rfl rfl ⟨.inr (.inl rfl), trivial⟩ rfl (fun hg => OpQ.g (q_loadO one_3 rfl rfl rfl)) ?_
  refine .guardG (b := (!(v0.kind == 3))) (x := .d (cB (v0.kind == 4))) (env' := [(10, _)]) rfl rfl rfl ⟨.inr (.inl rfl), trivial⟩ rfl (fun hg => OpQ.g (q_eql rfl rfl)) ?_
  refine .q (x := .d (cB ((v0.kind == 3) || (v0.kind == 4)))) (q_pickOrB rfl rfl rfl) rfl ?_
  refine .q (x := .d (cB ((v0.kind == 3) || (v0.kind == 4)))) (q_assign rfl) rfl ?_
  refine .nil ?_
  refine .seq ?_
  refine .region ?_
  refine .q (x := .d (cI 1099511627776)) (q_assign rfl) rfl ?_
  refine .nil ?_
  refine .seqJoin (ι := Int) (fun s => [(1, .ref 0 0), (3, .d (cB ((v0.kind == 3) || (v0.kind == 4)))), (4, .d (cI s))]) (fun s => ⟨[.row 23 [.d (cI v0.source), .d (cI v0.serial), .d (cI v0.kind), .d (cS v0.a), .d (cS v0.b), .d (cI v0.start), .d (cI v0.units), .d (cI v0.call), .d (cI v0.part), .d (cB v0.last), .d (cI v0.trunk), .d (cB v0.inbound)]], []⟩) (fun s => f_textual_check_j1 v0 s = some r) ?_ ?_
  · rintro v4j1 H
    replace H : f_textual_check_j1 v0 v4j1 = some r := H
    unfold f_textual_check_j1 at H
    change ARun _ _ _ _ _ _ [(1, .ref 0 0), (3, .d (cB ((v0.kind == 3) || (v0.kind == 4)))), (4, .d (cI v4j1))] ⟨[.row 23 [.d (cI v0.source), .d (cI v0.serial), .d (cI v0.kind), .d (cS v0.a), .d (cS v0.b), .d (cI v0.start), .d (cI v0.units), .d (cI v0.call), .d (cI v0.part), .d (cB v0.last), .d (cI v0.trunk), .d (cB v0.inbound)]], []⟩
    refine .seq ?_
    refine .block ?_
    refine .seq ?_
    refine .region ?_
    refine .q (x := .ref 0 0) (q_fieldRef fo_23_0 rfl) rfl ?_
    refine .q (x := .d (cI v0.source)) (q_loadO one_3 rfl rfl rfl) rfl ?_
    obtain ⟨y1, hy1, H⟩ := bind_some' H
    refine .g (x := .d (cB y1)) (g_call en_32 rfl rfl (c_f_textual_within (hy1))) rfl ?_
    refine .q (x := .d (cB (!y1))) (q_not rfl) rfl ?_
    refine .q (x := .d (cB (!y1))) (q_move rfl) rfl ?_
    refine .guardG (b := (!(!y1))) (x := .ref 0 1) (env' := [(1, _)]) rfl rfl rfl ⟨.inl rfl, trivial⟩ rfl (fun hg => OpQ.g (q_fieldRef fo_23_1 rfl)) ?_
    refine .guardG (b := (!(!y1))) (x := .d (cI v0.serial)) (env' := [(22, _)]) rfl rfl rfl ⟨.inr (.inl rfl), trivial⟩ rfl (fun hg => OpQ.g (q_loadO one_3 rfl rfl rfl)) ?_
    obtain ⟨y2, hy2, H⟩ := bind_some' H
    refine .guardG (b := (!(!y1))) (x := .d (cB y2)) (env' := [(23, _)]) rfl rfl rfl ⟨.inr (.inl rfl), trivial⟩ rfl (fun hg => (g_call en_32 rfl rfl (c_f_textual_within (gcall_some hy2 hg)))) ?_
    refine .guardG (b := (!(!y1))) (x := .d (cB (!y2))) (env' := [(24, _)]) rfl rfl rfl ⟨.inr (.inl rfl), trivial⟩ rfl (fun hg => OpQ.g (q_not rfl)) ?_
    refine .q (x := .d (cB ((!y1) || (!y2)))) (q_pickOrB rfl rfl rfl) rfl ?_
    refine .q (x := .d (cB ((!y1) || (!y2)))) (q_assign rfl) rfl ?_
    refine .nil ?_
    refine .cond rfl (fun hc => ?_) (fun hc => ?_)
    · replace H := ifT hc H; clear hc
      refine .seq ?_
      refine .region ?_
      refine .q (x := .d (cI 6)) (q_assign rfl) rfl ?_
      refine .nil ?_
      refine .retN [.tmp 2] [.d (cI 6)] Tryd.func27 Tryd.results27 ⟨rfl, trivial⟩ ?_
      cases H
      exact ⟨_, .rfl' _, rfl⟩
    · replace H := ifF hc H; clear hc
      refine .seq ?_
      refine .region ?_
      refine .q (x := .ref 0 2) (q_fieldRef fo_23_2 rfl) rfl ?_
      refine .q (x := .d (cI v0.kind)) (q_loadO one_3 rfl rfl rfl) rfl ?_
      obtain ⟨y3, hy3, H⟩ := bind_some' H
      refine .g (x := .d (cB y3)) (g_call en_32 rfl rfl (c_f_textual_within (hy3))) rfl ?_
      refine .q (x := .d (cB (!y3))) (q_not rfl) rfl ?_
      refine .q (x := .d (cB (!y3))) (q_assign rfl) rfl ?_
      refine .nil ?_
      refine .cond rfl (fun hc => ?_) (fun hc => ?_)
      · replace H := ifT hc H; clear hc
        refine .seq ?_
        refine .region ?_
        refine .q (x := .d (cI 7)) (q_assign rfl) rfl ?_
        refine .nil ?_
        refine .retN [.tmp 2] [.d (cI 7)] Tryd.func27 Tryd.results27 ⟨rfl, trivial⟩ ?_
        cases H
        exact ⟨_, .rfl' _, rfl⟩
      · replace H := ifF hc H; clear hc
        refine .seq ?_
        refine .region ?_
        refine .q (x := .ref 0 3) (q_fieldRef fo_23_3 rfl) rfl ?_
        refine .q (x := .d (cS v0.a)) (q_loadO one_9 rfl rfl rfl) rfl ?_
        obtain ⟨y4, hy4, H⟩ := bind_some' H
        refine .g (x := .d (cB y4)) (g_call en_33 rfl rfl (c_f_digits_Valid (hy4))) rfl ?_
        refine .q (x := .d (cB (!y4))) (q_not rfl) rfl ?_
        refine .q (x := .d (cB (!y4))) (q_move rfl) rfl ?_
        refine .guardG (b := (!(!y4))) (x := .ref 0 4) (env' := [(1, _)]) rfl rfl rfl ⟨.inl rfl, trivial⟩ rfl (fun hg => OpQ.g (q_fieldRef fo_23_4 rfl)) ?_
        refine .guardG (b := (!(!y4))) (x := .d (cS v0.b)) (env' := [(38, _)]) rfl rfl rfl ⟨.inr (.inl rfl), trivial⟩ rfl (fun hg => OpQ.g (q_loadO one_9 rfl rfl rfl)) ?_
        obtain ⟨y5, hy5, H⟩ := bind_some' H
        refine .guardG (b := (!(!y4))) (x := .d (cB y5)) (env' := [(39, _)]) rfl rfl rfl ⟨.inr (.inl rfl), trivial⟩ rfl (fun hg => (g_call en_33 rfl rfl (c_f_digits_Valid (gcall_some hy5 hg)))) ?_
        refine .guardG (b := (!(!y4))) (x := .d (cB (!y5))) (env' := [(40, _)]) rfl rfl rfl ⟨.inr (.inl rfl), trivial⟩ rfl (fun hg => OpQ.g (q_not rfl)) ?_
        refine .guardG (b := (!(!y4))) (x := .d (cB (!y5))) (env' := [(41, _)]) rfl rfl rfl ⟨.inr (.inl rfl), trivial⟩ rfl (fun hg => OpQ.g (q_move rfl)) ?_
        refine .guardG (b := ((!(!y4)) && (!y5))) (x := .d (cB ((v0.kind == 3) || (v0.kind == 4)))) (env' := [(3, _)]) rfl rfl rfl ⟨.inl rfl, trivial⟩ rfl (fun hg => OpQ.g (q_move rfl)) ?_
        refine .guardG (b := ((!(!y4)) && (!y5))) (x := .d (cB ((v0.kind == 3) || (v0.kind == 4)))) (env' := [(43, _)]) rfl rfl rfl ⟨.inr (.inl rfl), trivial⟩ rfl (fun hg => OpQ.g (q_move rfl)) ?_
        refine .guardG (b := (((!(!y4)) && (!y5)) && ((v0.kind == 3) || (v0.kind == 4)))) (x := .ref 0 4) (env' := [(1, _)]) rfl rfl rfl ⟨.inl rfl, trivial⟩ rfl (fun hg => OpQ.g (q_fieldRef fo_23_4 rfl)) ?_
        refine .guardG (b := (((!(!y4)) && (!y5)) && ((v0.kind == 3) || (v0.kind == 4)))) (x := .d (cS v0.b)) (env' := [(45, _)]) rfl rfl rfl ⟨.inr (.inl rfl), trivial⟩ rfl (fun hg => OpQ.g (q_loadO one_9 rfl rfl rfl)) ?_
        refine .guardG (b := (((!(!y4)) && (!y5)) && ((v0.kind == 3) || (v0.kind == 4)))) (x := .d (cB (v0.b == ([] : List UInt8)))) (env' := [(46, _)]) rfl rfl rfl ⟨.inr (.inl rfl), trivial⟩ rfl (fun hg => OpQ.g (q_seql rfl rfl)) ?_
        refine .guardG (b := ((!(!y4)) && (!y5))) (x := .d (cB (((v0.kind == 3) || (v0.kind == 4)) && (v0.b == ([] : List UInt8))))) (env' := [(44, _), (47, _)]) rfl rfl rfl ⟨.inr (.inl rfl), ⟨.inr (.inr ⟨_, _, rfl, rfl⟩), trivial⟩⟩ rfl (fun hg => OpQ.g (q_pickAndB rfl rfl rfl)) ?_
        refine .guardG (b := ((!(!y4)) && (!y5))) (x := .d (cB (!(((v0.kind == 3) || (v0.kind == 4)) && (v0.b == ([] : List UInt8)))))) (env' := [(48, _)]) rfl rfl rfl ⟨.inr (.inl rfl), trivial⟩ rfl (fun hg => OpQ.g (q_not rfl)) ?_
        refine .guardG (b := (!(!y4))) (x := .d (cB ((!y5) && (!(((v0.kind == 3) || (v0.kind == 4)) && (v0.b == ([] : List UInt8))))))) (env' := [(42, _), (49, _)]) rfl rfl rfl ⟨.inr (.inl rfl), ⟨.inr (.inr ⟨_, _, rfl, rfl⟩), trivial⟩⟩ rfl (fun hg => OpQ.g (q_pickAndB rfl rfl rfl)) ?_
        refine .q (x := .d (cB ((!y4) || ((!y5) && (!(((v0.kind == 3) || (v0.kind == 4)) && (v0.b == ([] : List UInt8)))))))) (q_pickOrB rfl rfl rfl) rfl ?_
        refine .q (x := .d (cB ((!y4) || ((!y5) && (!(((v0.kind == 3) || (v0.kind == 4)) && (v0.b == ([] : List UInt8)))))))) (q_assign rfl) rfl ?_
        refine .nil ?_
        refine .cond rfl (fun hc => ?_) (fun hc => ?_)
        · replace H := ifT hc H; clear hc
          refine .seq ?_
          refine .region ?_
          refine .q (x := .d (cI 12)) (q_assign rfl) rfl ?_
          refine .nil ?_
          refine .retN [.tmp 2] [.d (cI 12)] Tryd.func27 Tryd.results27 ⟨rfl, trivial⟩ ?_
          cases H
          exact ⟨_, .rfl' _, rfl⟩
        · replace H := ifF hc H; clear hc
          refine .seq ?_
          refine .region ?_
          refine .q (x := .ref 0 5) (q_fieldRef fo_23_5 rfl) rfl ?_
          refine .q (x := .d (cI v0.start)) (q_loadO one_3 rfl rfl rfl) rfl ?_
          obtain ⟨y6, hy6, H⟩ := bind_some' H
          refine .g (x := .d (cB y6)) (g_call en_32 rfl rfl (c_f_textual_within (hy6))) rfl ?_
          refine .q (x := .d (cB (!y6))) (q_not rfl) rfl ?_
          refine .q (x := .d (cB (!y6))) (q_assign rfl) rfl ?_
          refine .nil ?_
          refine .cond rfl (fun hc => ?_) (fun hc => ?_)
          · replace H := ifT hc H; clear hc
            refine .seq ?_
            refine .region ?_
            refine .q (x := .d (cI 15)) (q_assign rfl) rfl ?_
            refine .nil ?_
            refine .retN [.tmp 2] [.d (cI 15)] Tryd.func27 Tryd.results27 ⟨rfl, trivial⟩ ?_
            cases H
            exact ⟨_, .rfl' _, rfl⟩
          · replace H := ifF hc H; clear hc
            refine .seq ?_
            refine .region ?_
            refine .q (x := .ref 0 6) (q_fieldRef fo_23_6 rfl) rfl ?_
            refine .q (x := .d (cI v0.units)) (q_loadO one_3 rfl rfl rfl) rfl ?_
            refine .q (x := .d (cI v4j1)) (q_move rfl) rfl ?_
            obtain ⟨y7, hy7, H⟩ := bind_some' H
            refine .g (x := .d (cB y7)) (g_call en_32 rfl rfl (c_f_textual_within (hy7))) rfl ?_
            refine .q (x := .d (cB (!y7))) (q_not rfl) rfl ?_
            refine .q (x := .d (cB (!y7))) (q_assign rfl) rfl ?_
            refine .nil ?_
            refine .cond rfl (fun hc => ?_) (fun hc => ?_)
            · replace H := ifT hc H; clear hc
              refine .seq ?_
              refine .region ?_
              refine .q (x := .d (cI 6)) (q_assign rfl) rfl ?_
              refine .nil ?_
              refine .retN [.tmp 2] [.d (cI 6)] Tryd.func27 Tryd.results27 ⟨rfl, trivial⟩ ?_
              cases H
              exact ⟨_, .rfl' _, rfl⟩
            · replace H := ifF hc H; clear hc
              refine .seq ?_
              refine .region ?_
              refine .q (x := .ref 0 2) (q_fieldRef fo_23_2 rfl) rfl ?_
              refine .q (x := .d (cI v0.kind)) (q_loadO one_3 rfl rfl rfl) rfl ?_
              refine .q (x := .d (cB (v0.kind == 1))) (q_eql rfl rfl) rfl ?_
              refine .q (x := .d (cB (v0.kind == 1))) (q_move rfl) rfl ?_
              refine .guardG (b := (v0.kind == 1)) (x := .ref 0 5) (env' := [(1, _)]) rfl rfl rfl ⟨.inl rfl, trivial⟩ rfl (fun hg => OpQ.g (q_fieldRef fo_23_5 rfl)) ?_
              refine .guardG (b := (v0.kind == 1)) (x := .d (cI v0.start)) (env' := [(68, _)]) rfl rfl rfl ⟨.inr (.inl rfl), trivial⟩ rfl (fun hg => OpQ.g (q_loadO one_3 rfl rfl rfl)) ?_
              refine .guardG (b := (v0.kind == 1)) (x := .ref 0 6) (env' := [(1, _)]) rfl rfl rfl ⟨.inl rfl, trivial⟩ rfl (fun hg => OpQ.g (q_fieldRef fo_23_6 rfl)) ?_
              refine .guardG (b := (v0.kind == 1)) (x := .d (cI v0.units)) (env' := [(70, _)]) rfl rfl rfl ⟨.inr (.inl rfl), trivial⟩ rfl (fun hg => OpQ.g (q_loadO one_3 rfl rfl rfl)) ?_
              obtain ⟨hk1, H⟩ := ck_some H
              refine .guardG (b := (v0.kind == 1)) (x := .d (cI (v0.start + v0.units))) (env' := [(69, _), (71, _)]) rfl rfl rfl ⟨.inr (.inl rfl), ⟨.inr (.inl rfl), trivial⟩⟩ rfl (fun hg => OpQ.g (q_addI rfl rfl (hk1 hg).1 (hk1 hg).2)) ?_
              refine .guardG (b := (v0.kind == 1)) (x := .d (cB (decide ((v0.start + v0.units) > 12622780800)))) (env' := [(72, _)]) rfl rfl rfl ⟨.inr (.inl rfl), trivial⟩ rfl (fun hg => OpQ.g (q_gtr rfl rfl)) ?_
              refine .q (x := .d (cB ((v0.kind == 1) && (decide ((v0.start + v0.units) > 12622780800))))) (q_pickAndB rfl rfl rfl) rfl ?_
              refine .q (x := .d (cB ((v0.kind == 1) && (decide ((v0.start + v0.units) > 12622780800))))) (q_assign rfl) rfl ?_
              refine .nil ?_
              refine .cond rfl (fun hc => ?_) (fun hc => ?_)
              · replace H := ifT hc H; clear hc
                refine .seq ?_
                refine .region ?_
                refine .q (x := .d (cI 15)) (q_assign rfl) rfl ?_
                refine .nil ?_
                refine .retN [.tmp 2] [.d (cI 15)] Tryd.func27 Tryd.results27 ⟨rfl, trivial⟩ ?_
                cases H
                exact ⟨_, .rfl' _, rfl⟩
              · replace H := ifF hc H; clear hc
                refine .seq ?_
                refine .region ?_
                refine .q (x := .ref 0 7) (q_fieldRef fo_23_7 rfl) rfl ?_
                refine .q (x := .d (cI v0.call)) (q_loadO one_3 rfl rfl rfl) rfl ?_
                obtain ⟨y8, hy8, H⟩ := bind_some' H
                refine .g (x := .d (cB y8)) (g_call en_32 rfl rfl (c_f_textual_within (hy8))) rfl ?_
                refine .q (x := .d (cB (!y8))) (q_not rfl) rfl ?_
                refine .q (x := .d (cB (!y8))) (q_move rfl) rfl ?_
                refine .guardG (b := (!(!y8))) (x := .ref 0 8) (env' := [(1, _)]) rfl rfl rfl ⟨.inl rfl, trivial⟩ rfl (fun hg => OpQ.g (q_fieldRef fo_23_8 rfl)) ?_
                refine .guardG (b := (!(!y8))) (x := .d (cI v0.part)) (env' := [(81, _)]) rfl rfl rfl ⟨.inr (.inl rfl), trivial⟩ rfl (fun hg => OpQ.g (q_loadO one_3 rfl rfl rfl)) ?_
                obtain ⟨y9, hy9, H⟩ := bind_some' H
                refine .guardG (b := (!(!y8))) (x := .d (cB y9)) (env' := [(82, _)]) rfl rfl rfl ⟨.inr (.inl rfl), trivial⟩ rfl (fun hg => (g_call en_32 rfl rfl (c_f_textual_within (gcall_some hy9 hg)))) ?_
                refine .guardG (b := (!(!y8))) (x := .d (cB (!y9))) (env' := [(83, _)]) rfl rfl rfl ⟨.inr (.inl rfl), trivial⟩ rfl (fun hg => OpQ.g (q_not rfl)) ?_
                refine .q (x := .d (cB ((!y8) || (!y9)))) (q_pickOrB rfl rfl rfl) rfl ?_
                refine .q (x := .d (cB ((!y8) || (!y9)))) (q_assign rfl) rfl ?_
                refine .nil ?_
                refine .cond rfl (fun hc => ?_) (fun hc => ?_)
                · replace H := ifT hc H; clear hc
                  refine .seq ?_
                  refine .region ?_
                  refine .q (x := .d (cI 6)) (q_assign rfl) rfl ?_
                  refine .nil ?_
                  refine .retN [.tmp 2] [.d (cI 6)] Tryd.func27 Tryd.results27 ⟨rfl, trivial⟩ ?_
                  cases H
                  exact ⟨_, .rfl' _, rfl⟩
                · replace H := ifF hc H; clear hc
                  refine .seq ?_
                  refine .region ?_
                  refine .q (x := .ref 0 8) (q_fieldRef fo_23_8 rfl) rfl ?_
                  refine .q (x := .d (cI v0.part)) (q_loadO one_3 rfl rfl rfl) rfl ?_
                  refine .q (x := .d (cB (v0.part == 0))) (q_eql rfl rfl) rfl ?_
                  refine .q (x := .ref 0 7) (q_fieldRef fo_23_7 rfl) rfl ?_
                  refine .q (x := .d (cI v0.call)) (q_loadO one_3 rfl rfl rfl) rfl ?_
                  refine .q (x := .d (cB (v0.call == 0))) (q_eql rfl rfl) rfl ?_
                  refine .q (x := .d (cB ((v0.part == 0) != (v0.call == 0)))) (q_bneq rfl Tryd.underlying4 rfl) rfl ?_
                  refine .q (x := .d (cB ((v0.part == 0) != (v0.call == 0)))) (q_move rfl) rfl ?_
                  refine .guardG (b := (!((v0.part == 0) != (v0.call == 0)))) (x := .ref 0 9) (env' := [(1, _)]) rfl rfl rfl ⟨.inl rfl, trivial⟩ rfl (fun hg => OpQ.g (q_fieldRef fo_23_9 rfl)) ?_
                  refine .guardG (b := (!((v0.part == 0) != (v0.call == 0)))) (x := .d (cB v0.last)) (env' := [(95, _)]) rfl rfl rfl ⟨.inr (.inl rfl), trivial⟩ rfl (fun hg => OpQ.g (q_loadO one_4 rfl rfl rfl)) ?_
                  refine .guardG (b := (!((v0.part == 0) != (v0.call == 0)))) (x := .d (cB v0.last)) (env' := [(96, _)]) rfl rfl rfl ⟨.inr (.inl rfl), trivial⟩ rfl (fun hg => OpQ.g (q_move rfl)) ?_
                  refine .guardG (b := ((!((v0.part == 0) != (v0.call == 0))) && v0.last)) (x := .ref 0 8) (env' := [(1, _)]) rfl rfl rfl ⟨.inl rfl, trivial⟩ rfl (fun hg => OpQ.g (q_fieldRef fo_23_8 rfl)) ?_
                  refine .guardG (b := ((!((v0.part == 0) != (v0.call == 0))) && v0.last)) (x := .d (cI v0.part)) (env' := [(98, _)]) rfl rfl rfl ⟨.inr (.inl rfl), trivial⟩ rfl (fun hg => OpQ.g (q_loadO one_3 rfl rfl rfl)) ?_
                  refine .guardG (b := ((!((v0.part == 0) != (v0.call == 0))) && v0.last)) (x := .d (cB (v0.part == 0))) (env' := [(99, _)]) rfl rfl rfl ⟨.inr (.inl rfl), trivial⟩ rfl (fun hg => OpQ.g (q_eql rfl rfl)) ?_
                  refine .guardG (b := (!((v0.part == 0) != (v0.call == 0)))) (x := .d (cB (v0.last && (v0.part == 0)))) (env' := [(97, _), (100, _)]) rfl rfl rfl ⟨.inr (.inl rfl), ⟨.inr (.inr ⟨_, _, rfl, rfl⟩), trivial⟩⟩ rfl (fun hg => OpQ.g (q_pickAndB rfl rfl rfl)) ?_
                  refine .q (x := .d (cB (((v0.part == 0) != (v0.call == 0)) || (v0.last && (v0.part == 0))))) (q_pickOrB rfl rfl rfl) rfl ?_
                  refine .q (x := .d (cB (((v0.part == 0) != (v0.call == 0)) || (v0.last && (v0.part == 0))))) (q_assign rfl) rfl ?_
                  refine .nil ?_
                  refine .cond rfl (fun hc => ?_) (fun hc => ?_)
                  · replace H := ifT hc H; clear hc
                    refine .seq ?_
                    refine .region ?_
                    refine .q (x := .d (cI 8)) (q_assign rfl) rfl ?_
                    refine .nil ?_
                    refine .retN [.tmp 2] [.d (cI 8)] Tryd.func27 Tryd.results27 ⟨rfl, trivial⟩ ?_
                    cases H
                    exact ⟨_, .rfl' _, rfl⟩
                  · replace H := ifF hc H; clear hc
                    refine .seq ?_
                    refine .region ?_
                    refine .q (x := .ref 0 10) (q_fieldRef fo_23_10 rfl) rfl ?_
                    refine .q (x := .d (cI v0.trunk)) (q_loadO one_3 rfl rfl rfl) rfl ?_
                    obtain ⟨y10, hy10, H⟩ := bind_some' H
                    refine .g (x := .d (cB y10)) (g_call en_32 rfl rfl (c_f_textual_within (hy10))) rfl ?_
                    refine .q (x := .d (cB (!y10))) (q_not rfl) rfl ?_
                    refine .q (x := .d (cB (!y10))) (q_assign rfl) rfl ?_
                    refine .nil ?_
                    refine .cond rfl (fun hc => ?_) (fun hc => ?_)
                    · replace H := ifT hc H; clear hc
                      refine .seq ?_
                      refine .region ?_
                      refine .q (x := .d (cI 6)) (q_assign rfl) rfl ?_
                      refine .nil ?_
                      refine .retN [.tmp 2] [.d (cI 6)] Tryd.func27 Tryd.results27 ⟨rfl, trivial⟩ ?_
                      cases H
                      exact ⟨_, .rfl' _, rfl⟩
                    · replace H := ifF hc H; clear hc
                      refine .seq ?_
                      refine .region ?_
                      refine .q (x := .ref 0 11) (q_fieldRef fo_23_11 rfl) rfl ?_
                      refine .q (x := .d (cB v0.inbound)) (q_loadO one_4 rfl rfl rfl) rfl ?_
                      refine .q (x := .d (cB v0.inbound)) (q_move rfl) rfl ?_
                      refine .guardG (b := v0.inbound) (x := .ref 0 10) (env' := [(1, _)]) rfl rfl rfl ⟨.inl rfl, trivial⟩ rfl (fun hg => OpQ.g (q_fieldRef fo_23_10 rfl)) ?_
                      refine .guardG (b := v0.inbound) (x := .d (cI v0.trunk)) (env' := [(112, _)]) rfl rfl rfl ⟨.inr (.inl rfl), trivial⟩ rfl (fun hg => OpQ.g (q_loadO one_3 rfl rfl rfl)) ?_
                      refine .guardG (b := v0.inbound) (x := .d (cB (v0.trunk == 0))) (env' := [(113, _)]) rfl rfl rfl ⟨.inr (.inl rfl), trivial⟩ rfl (fun hg => OpQ.g (q_eql rfl rfl)) ?_
                      refine .q (x := .d (cB (v0.inbound && (v0.trunk == 0)))) (q_pickAndB rfl rfl rfl) rfl ?_
                      refine .q (x := .d (cB (v0.inbound && (v0.trunk == 0)))) (q_assign rfl) rfl ?_
                      refine .nil ?_
                      refine .cond rfl (fun hc => ?_) (fun hc => ?_)
                      · replace H := ifT hc H; clear hc
                        refine .seq ?_
                        refine .region ?_
                        refine .q (x := .d (cI 8)) (q_assign rfl) rfl ?_
                        refine .nil ?_
                        refine .retN [.tmp 2] [.d (cI 8)] Tryd.func27 Tryd.results27 ⟨rfl, trivial⟩ ?_
                        cases H
                        exact ⟨_, .rfl' _, rfl⟩
                      · replace H := ifF hc H; clear hc
                        refine .skip ?_
                        refine .inBlock ?_
                        refine .seq ?_
                        refine .region ?_
                        refine .q (x := .d (cI 0)) (q_assign rfl) rfl ?_
                        refine .nil ?_
                        refine .retN [.tmp 2] [.d (cI 0)] Tryd.func27 Tryd.results27 ⟨rfl, trivial⟩ ?_
                        cases H
                        exact ⟨_, .rfl' _, rfl⟩
  · intro hj1
    refine .seq ?_
    refine .region ?_
    refine .q (x := .ref 0 2) (q_fieldRef fo_23_2 rfl) rfl ?_
    refine .q (x := .d (cI v0.kind)) (q_loadO one_3 rfl rfl rfl) rfl ?_
    refine .q (x := .d (cB (v0.kind == 1))) (q_eql rfl rfl) rfl ?_
    refine .nil ?_
    refine .cond rfl (fun hc => ?_) (fun hc => ?_)
    · replace H := ifT hc H; clear hc
      refine .region ?_
      refine .q (x := .d (cI 604800)) (q_assign rfl) rfl ?_
      refine .nil ?_
      exact .sub (.cons rfl (.rfl' _) (.cons rfl (.rfl' _) (.cons rfl (.rfl' _) (.nil)))) (hj1 604800 H)
    · replace H := ifF hc H; clear hc
      refine .skip ?_
      exact .sub (.cons rfl (.rfl' _) (.cons rfl (.rfl' _) (.cons rfl (.rfl' _) (.nil)))) (hj1 1099511627776 H)

set_option maxRecDepth 100000 in
set_option maxHeartbeats 1000000 in
theorem c_f_textual_Encode {v0 : Record} {r : (List UInt8) × Int} (H : f_textual_Encode v0 = some r) : ACall Tryd.prog 23 [.agg (Record.row v0)] (· = .tup [cS r.1, cI r.2]) := by
  obtain ⟨i9, hi9, hz9, hs9, hb9⟩ := in_9
  refine ACall.enter' Tryd.func23 rfl Tryd.ntmps23 rfl fun S hS => ?_
  unfold f_textual_Encode at H
  change ARun _ _ _ _ _ _ [(0, .d (.agg (Record.row v0)))] _
  refine .seq ?_
  refine .region ?_
  refine .v (x := .ref 0 0) (v_box rfl rfl) rfl ?_
  refine .withSt (st' := ⟨[.row 23 [.d (cI v0.source), .d (cI v0.serial), .d (cI v0.kind), .d (cS v0.a), .d (cS v0.b), .d (cI v0.start), .d (cI v0.units), .d (cI v0.call), .d (cI v0.part), .d (cB v0.last), .d (cI v0.trunk), .d (cB v0.inbound)]], []⟩) rfl ?_
  refine .q (x := .d (cS ([] : List UInt8))) (q_assign rfl) rfl ?_
  refine .q (x := .d (cI 0)) (q_assign rfl) rfl ?_
  refine .nil ?_
  refine .seq ?_
  refine .seq ?_
  refine .region ?_
  refine .q (x := .d (.agg (Record.row v0))) (q_loadOA one_23 sz_23 rfl rfl (Nat.le_of_ble_eq_true rfl) rfl) rfl ?_
  obtain ⟨y1, hy1, H⟩ := bind_some' H
  refine .g (x := .d (cI y1)) (g_call en_27 rfl rfl (c_f_textual_check (hy1))) rfl ?_
  refine .q (x := .d (cI y1)) (q_assign rfl) rfl ?_
  refine .nil ?_
  refine .seq ?_
  refine .region ?_
  refine .q (x := .d (cI y1)) (q_move rfl) rfl ?_
  refine .q (x := .d (cB (y1 != 0))) (q_neq rfl rfl) rfl ?_
  refine .nil ?_
  refine .cond rfl (fun hc => ?_) (fun hc => ?_)
  · replace H := ifT hc H; clear hc
    refine .seq ?_
    refine .region ?_
    refine .q (x := .d (cI y1)) (q_move rfl) rfl ?_
    refine .q (x := .d (cS ([] : List UInt8))) (q_assign rfl) rfl ?_
    refine .q (x := .d (cI y1)) (q_assign rfl) rfl ?_
    refine .nil ?_
    refine .retN [.tmp 2, .tmp 3] [.d (cS ([] : List UInt8)), .d (cI y1)] Tryd.func23 Tryd.results23 ⟨rfl, rfl, trivial⟩ ?_
    cases H
    exact ⟨_, EVle.tupL (ds := [cS ([] : List UInt8), cI y1]) ⟨.rfl' _, .rfl' _, trivial⟩, rfl⟩
  · replace H := ifF hc H; clear hc
    refine .skip ?_
    refine .seq ?_
    refine .region ?_
    refine .q (x := .d (.ex (.func (.func 28) #[] #[]))) (q_assign rfl) rfl ?_
    refine .nil ?_
    refine .seq ?_
    refine .region ?_
    refine .q (x := .ref 0 4) (q_fieldRef fo_23_4 rfl) rfl ?_
    refine .q (x := .d (cS v0.b)) (q_loadO one_9 rfl rfl rfl) rfl ?_
    refine .q (x := .d (cS v0.b)) (q_assign rfl) rfl ?_
    refine .nil ?_
    refine .seqJoin (ι := List UInt8) (fun s => [(1, .ref 0 0), (5, .d (.ex (.func (.func 28) #[] #[]))), (6, .d (cS s))]) (fun s => ⟨[.row 23 [.d (cI v0.source), .d (cI v0.serial), .d (cI v0.kind), .d (cS v0.a), .d (cS v0.b), .d (cI v0.start), .d (cI v0.units), .d (cI v0.call), .d (cI v0.part), .d (cB v0.last), .d (cI v0.trunk), .d (cB v0.inbound)]], []⟩) (fun s => f_textual_Encode_j1 v0 s = some r) ?_ ?_
    · rintro v6j1 H
      replace H : f_textual_Encode_j1 v0 v6j1 = some r := H
      unfold f_textual_Encode_j1 at H
      change ARun _ _ _ _ _ _ [(1, .ref 0 0), (5, .d (.ex (.func (.func 28) #[] #[]))), (6, .d (cS v6j1))] ⟨[.row 23 [.d (cI v0.source), .d (cI v0.serial), .d (cI v0.kind), .d (cS v0.a), .d (cS v0.b), .d (cI v0.start), .d (cI v0.units), .d (cI v0.call), .d (cI v0.part), .d (cB v0.last), .d (cI v0.trunk), .d (cB v0.inbound)]], []⟩
      refine .seq ?_
      refine .drawn 25 hMix (by kernel_rfl) ?_
      show DOps _ _ _ _ _ _ _ (_ :: _) _ _ _
      refine .q (x := .ref 0 2) (q_fieldRef fo_23_2 rfl) rfl ?_
      refine .q (x := .d (cI v0.kind)) (q_loadO one_3 rfl rfl rfl) rfl ?_
      obtain ⟨hk1, H⟩ := ck_some H
      refine .q (x := .d (cI (v0.kind - 1))) (q_subI rfl rfl hk1.1 hk1.2) rfl ?_
      refine .q (x := .ref 0 2) (q_fieldRef fo_23_2 rfl) rfl ?_
      refine .q (x := .d (cI v0.kind)) (q_loadO one_3 rfl rfl rfl) rfl ?_
      obtain ⟨hk2, H⟩ := ck_some H
      refine .q (x := .d (cS ((([118, 116, 100, 99] : List UInt8).take (Int.toNat (v0.kind))).drop (Int.toNat (v0.kind - 1))))) (q_strLHL Tryd.underlying9 rfl rfl rfl hk2) rfl ?_
      refine .q (x := .d (.ex (.func (.func 28) #[] #[]))) (q_move rfl) rfl ?_
      refine .q (x := .ref 0 0) (q_fieldRef fo_23_0 rfl) rfl ?_
      refine .q (x := .d (cI v0.source)) (q_loadO one_3 rfl rfl rfl) rfl ?_
      obtain ⟨y2, hy2, H⟩ := bind_some' H
      refine .g (x := .d (cS y2)) (g_callF en_28 rfl rfl rfl (c_x_Itoa (hy2))) rfl ?_
      refine .q (x := .d (.ex (.func (.func 28) #[] #[]))) (q_move rfl) rfl ?_
      refine .q (x := .ref 0 1) (q_fieldRef fo_23_1 rfl) rfl ?_
      refine .q (x := .d (cI v0.serial)) (q_loadO one_3 rfl rfl rfl) rfl ?_
      obtain ⟨y3, hy3, H⟩ := bind_some' H
      refine .g (x := .d (cS y3)) (g_callF en_28 rfl rfl rfl (c_x_Itoa (hy3))) rfl ?_
      refine .q (x := .ref 0 3) (q_fieldRef fo_23_3 rfl) rfl ?_
      refine .q (x := .d (cS v0.a)) (q_loadO one_9 rfl rfl rfl) rfl ?_
      refine .q (x := .d (cS v6j1)) (q_move rfl) rfl ?_
      refine .q (x := .d (.ex (.func (.func 28) #[] #[]))) (q_move rfl) rfl ?_
      refine .q (x := .ref 0 5) (q_fieldRef fo_23_5 rfl) rfl ?_
      refine .q (x := .d (cI v0.start)) (q_loadO one_3 rfl rfl rfl) rfl ?_
      obtain ⟨y4, hy4, H⟩ := bind_some' H
      refine .g (x := .d (cS y4)) (g_callF en_28 rfl rfl rfl (c_x_Itoa (hy4))) rfl ?_
      refine .q (x := .d (.ex (.func (.func 28) #[] #[]))) (q_move rfl) rfl ?_
      refine .q (x := .ref 0 6) (q_fieldRef fo_23_6 rfl) rfl ?_
      refine .q (x := .d (cI v0.units)) (q_loadO one_3 rfl rfl rfl) rfl ?_
      obtain ⟨y5, hy5, H⟩ := bind_some' H
      refine .g (x := .d (cS y5)) (g_callF en_28 rfl rfl rfl (c_x_Itoa (hy5))) rfl ?_
      refine .nil ?_
      show AOps _ _ _ _ _ _ (_ :: _) _ _ _
      refine .v (x := .tsl 1 (([(([118, 116, 100, 99] : List UInt8).take (Int.toNat (v0.kind))).drop (Int.toNat (v0.kind - 1)), y2, y3, v0.a, v6j1, y4, y5] : List (List UInt8)).map rS) 0) (v_buildSliceT (n := 7) Tryd.underlying48 hi9 hs9 hz9 rfl rfl rfl rfl rfl) rfl ?_
      refine .withSt (st' := ⟨[.row 23 [.d (cI v0.source), .d (cI v0.serial), .d (cI v0.kind), .d (cS v0.a), .d (cS v0.b), .d (cI v0.start), .d (cI v0.units), .d (cI v0.call), .d (cI v0.part), .d (cB v0.last), .d (cI v0.trunk), .d (cB v0.inbound)]], [⟨9, 1, ([(([118, 116, 100, 99] : List UInt8).take (Int.toNat (v0.kind))).drop (Int.toNat (v0.kind - 1)), y2, y3, v0.a, v6j1, y4, y5] : List (List UInt8)).length⟩]⟩) rfl ?_
      refine .q (x := .tsl 1 (([(([118, 116, 100, 99] : List UInt8).take (Int.toNat (v0.kind))).drop (Int.toNat (v0.kind - 1)), y2, y3, v0.a, v6j1, y4, y5] : List (List UInt8)).map rS) 0) (q_assign rfl) rfl ?_
      refine .nil ?_
      refine .seqJoin (ι := List (List UInt8)) (fun s => [(1, .ref 0 0), (5, .d (.ex (.func (.func 28) #[] #[]))), (7, .tsl 1 (s.map rS) 0)]) (fun s => ⟨[.row 23 [.d (cI v0.source), .d (cI v0.serial), .d (cI v0.kind), .d (cS v0.a), .d (cS v0.b), .d (cI v0.start), .d (cI v0.units), .d (cI v0.call), .d (cI v0.part), .d (cB v0.last), .d (cI v0.trunk), .d (cB v0.inbound)]], [⟨9, 1, s.length⟩]⟩) (fun s => f_textual_Encode_j2 v0 s = some r) ?_ ?_
      · rintro v7j2 H
        replace H : f_textual_Encode_j2 v0 v7j2 = some r := H
        unfold f_textual_Encode_j2 at H
        change ARun _ _ _ _ _ _ [(1, .ref 0 0), (5, .d (.ex (.func (.func 28) #[] #[]))), (7, .tsl 1 (v7j2.map rS) 0)] ⟨[.row 23 [.d (cI v0.source), .d (cI v0.serial), .d (cI v0.kind), .d (cS v0.a), .d (cS v0.b), .d (cI v0.start), .d (cI v0.units), .d (cI v0.call), .d (cI v0.part), .d (cB v0.last), .d (cI v0.trunk), .d (cB v0.inbound)]], [⟨9, 1, v7j2.length⟩]⟩
        refine .seqJoin (ι := List (List UInt8)) (fun s => [(7, .tsl 1 (s.map rS) 0)]) (fun s => ⟨[.row 23 [.d (cI v0.source), .d (cI v0.serial), .d (cI v0.kind), .d (cS v0.a), .d (cS v0.b), .d (cI v0.start), .d (cI v0.units), .d (cI v0.call), .d (cI v0.part), .d (cB v0.last), .d (cI v0.trunk), .d (cB v0.inbound)]], [⟨9, 1, s.length⟩]⟩) (fun s => f_textual_Encode_j3 s = some r) ?_ ?_
        · rintro v7j3 H
          replace H : f_textual_Encode_j3 v7j3 = some r := H
          unfold f_textual_Encode_j3 at H
          change ARun _ _ _ _ _ _ [(7, .tsl 1 (v7j3.map rS) 0)] ⟨[.row 23 [.d (cI v0.source), .d (cI v0.serial), .d (cI v0.kind), .d (cS v0.a), .d (cS v0.b), .d (cI v0.start), .d (cI v0.units), .d (cI v0.call), .d (cI v0.part), .d (cB v0.last), .d (cI v0.trunk), .d (cB v0.inbound)]], [⟨9, 1, v7j3.length⟩]⟩
          refine .seq ?_
          refine .region ?_
          refine .q (x := .tsl 1 (v7j3.map rS) 0) (q_move rfl) rfl ?_
          obtain ⟨y6, hy6, H⟩ := bind_some' H
          refine .g (x := .d (cS y6)) (g_call en_29 rfl rfl (c_x_Join (hy6))) rfl ?_
          refine .q (x := .d (cS y6)) (q_assign rfl) rfl ?_
          refine .q (x := .d (cI 0)) (q_assign rfl) rfl ?_
          refine .nil ?_
          refine .retN [.tmp 2, .tmp 3] [.d (cS y6), .d (cI 0)] Tryd.func23 Tryd.results23 ⟨rfl, rfl, trivial⟩ ?_
          cases H
          exact ⟨_, EVle.tupL (ds := [cS y6, cI 0]) ⟨.rfl' _, .rfl' _, trivial⟩, rfl⟩
        · intro hj3
          refine .seq ?_
          refine .region ?_
          refine .q (x := .ref 0 10) (q_fieldRef fo_23_10 rfl) rfl ?_
          refine .q (x := .d (cI v0.trunk)) (q_loadO one_3 rfl rfl rfl) rfl ?_
          refine .q (x := .d (cB (v0.trunk != 0))) (q_neq rfl rfl) rfl ?_
          refine .nil ?_
          refine .cond rfl (fun hc => ?_) (fun hc => ?_)
          · replace H := ifT hc H; clear hc
            refine .seq ?_
            refine .region ?_
            refine .q (x := .d (cS ([111, 117, 116] : List UInt8))) (q_assign rfl) rfl ?_
            refine .nil ?_
            refine .seqJoin (ι := List UInt8) (fun s => [(1, .ref 0 0), (5, .d (.ex (.func (.func 28) #[] #[]))), (7, .tsl 1 (v7j2.map rS) 0), (8, .d (cS s))]) (fun s => ⟨[.row 23 [.d (cI v0.source), .d (cI v0.serial), .d (cI v0.kind), .d (cS v0.a), .d (cS v0.b), .d (cI v0.start), .d (cI v0.units), .d (cI v0.call), .d (cI v0.part), .d (cB v0.last), .d (cI v0.trunk), .d (cB v0.inbound)]], [⟨9, 1, v7j2.length⟩]⟩) (fun s => f_textual_Encode_j4 v0 v7j2 s = some r) ?_ ?_
            · rintro v8j4 H
              replace H : f_textual_Encode_j4 v0 v7j2 v8j4 = some r := H
              unfold f_textual_Encode_j4 at H
              change ARun _ _ _ _ _ _ [(1, .ref 0 0), (5, .d (.ex (.func (.func 28) #[] #[]))), (7, .tsl 1 (v7j2.map rS) 0), (8, .d (cS v8j4))] ⟨[.row 23 [.d (cI v0.source), .d (cI v0.serial), .d (cI v0.kind), .d (cS v0.a), .d (cS v0.b), .d (cI v0.start), .d (cI v0.units), .d (cI v0.call), .d (cI v0.part), .d (cB v0.last), .d (cI v0.trunk), .d (cB v0.inbound)]], [⟨9, 1, v7j2.length⟩]⟩
              refine .region ?_
              refine .q (x := .tsl 1 (v7j2.map rS) 0) (q_move rfl) rfl ?_
              refine .q (x := .d (cS v8j4)) (q_move rfl) rfl ?_
              refine .q (x := .d (.ex (.func (.func 28) #[] #[]))) (q_move rfl) rfl ?_
              refine .q (x := .ref 0 10) (q_fieldRef fo_23_10 rfl) rfl ?_
              refine .q (x := .d (cI v0.trunk)) (q_loadO one_3 rfl rfl rfl) rfl ?_
              obtain ⟨y7, hy7, H⟩ := bind_some' H
              refine .g (x := .d (cS y7)) (g_callF en_28 rfl rfl rfl (c_x_Itoa (hy7))) rfl ?_
              refine .g (x := .d (slOf 1 rS ([v8j4, y7]))) (g_buildSliceN (n := 2) (rows := ([v8j4, y7] : List (List UInt8)).map rS) Tryd.underlying48 hi9 hs9 hz9 rfl rfl rfl rfl rfl) rfl ?_
              obtain ⟨hk3, H⟩ := ck_some H
              refine .v (x := .tsl 1 ((v7j2 ++ ([v8j4, y7])).map rS) 0) (v_appendL (l := v7j2) (l' := [v8j4, y7]) (row := rS) Tryd.underlying48 hi9 hz9 hs9 rfl (by rw [hb9]; decide) rfl rfl rfl rfl hk3) rfl ?_
              refine .withSt (st' := ⟨[.row 23 [.d (cI v0.source), .d (cI v0.serial), .d (cI v0.kind), .d (cS v0.a), .d (cS v0.b), .d (cI v0.start), .d (cI v0.units), .d (cI v0.call), .d (cI v0.part), .d (cB v0.last), .d (cI v0.trunk), .d (cB v0.inbound)]], [⟨9, 1, (v7j2 ++ ([v8j4, y7])).length⟩]⟩) rfl ?_
              refine .q (x := .tsl 1 ((v7j2 ++ ([v8j4, y7])).map rS) 0) (q_assign rfl) rfl ?_
              refine .nil ?_
              exact .withSt (st' := ⟨[.row 23 [.d (cI v0.source), .d (cI v0.serial), .d (cI v0.kind), .d (cS v0.a), .d (cS v0.b), .d (cI v0.start), .d (cI v0.units), .d (cI v0.call), .d (cI v0.part), .d (cB v0.last), .d (cI v0.trunk), .d (cB v0.inbound)]], [⟨9, 1, (v7j2 ++ ([v8j4, y7])).length⟩]⟩) rfl <| .sub (.cons rfl (.rfl' _) (.nil)) (hj3 (v7j2 ++ ([v8j4, y7])) H)
            · intro hj4
              refine .seq ?_
              refine .region ?_
              refine .q (x := .ref 0 11) (q_fieldRef fo_23_11 rfl) rfl ?_
              refine .q (x := .d (cB v0.inbound)) (q_loadO one_4 rfl rfl rfl) rfl ?_
              refine .nil ?_
              refine .cond rfl (fun hc => ?_) (fun hc => ?_)
              · replace H := ifT hc H; clear hc
                refine .region ?_
                refine .q (x := .d (cS ([105, 110] : List UInt8))) (q_assign rfl) rfl ?_
                refine .nil ?_
                exact .sub (.cons rfl (.rfl' _) (.cons rfl (.rfl' _) (.cons rfl (.rfl' _) (.cons rfl (.rfl' _) (.nil))))) (hj4 ([105, 110] : List UInt8) H)
              · replace H := ifF hc H; clear hc
                refine .skip ?_
                exact .sub (.cons rfl (.rfl' _) (.cons rfl (.rfl' _) (.cons rfl (.rfl' _) (.cons rfl (.rfl' _) (.nil))))) (hj4 ([111, 117, 116] : List UInt8) H)
          · replace H := ifF hc H; clear hc
            refine .skip ?_
            exact .withSt (st' := ⟨[.row 23 [.d (cI v0.source), .d (cI v0.serial), .d (cI v0.kind), .d (cS v0.a), .d (cS v0.b), .d (cI v0.start), .d (cI v0.units), .d (cI v0.call), .d (cI v0.part), .d (cB v0.last), .d (cI v0.trunk), .d (cB v0.inbound)]], [⟨9, 1, v7j2.length⟩]⟩) rfl <| .sub (.cons rfl (.rfl' _) (.nil)) (hj3 v7j2 H)
      · intro hj2
        refine .seq ?_
        refine .region ?_
        refine .q (x := .ref 0 8) (q_fieldRef fo_23_8 rfl) rfl ?_
        refine .q (x := .d (cI v0.part)) (q_loadO one_3 rfl rfl rfl) rfl ?_
        refine .q (x := .d (cB (v0.part != 0))) (q_neq rfl rfl) rfl ?_
        refine .nil ?_
        refine .cond rfl (fun hc => ?_) (fun hc => ?_)
        · replace H := ifT hc H; clear hc
          refine .seq ?_
          refine .drawn 10 hMix (by kernel_rfl) ?_
          show DOps _ _ _ _ _ _ _ (_ :: _) _ _ _
          refine .q (x := .tsl 1 (([(([118, 116, 100, 99] : List UInt8).take (Int.toNat (v0.kind))).drop (Int.toNat (v0.kind - 1)), y2, y3, v0.a, v6j1, y4, y5] : List (List UInt8)).map rS) 0) (q_move rfl) rfl ?_
          refine .q (x := .d (.ex (.func (.func 28) #[] #[]))) (q_move rfl) rfl ?_
          refine .q (x := .ref 0 7) (q_fieldRef fo_23_7 rfl) rfl ?_
          refine .q (x := .d (cI v0.call)) (q_loadO one_3 rfl rfl rfl) rfl ?_
          obtain ⟨y8, hy8, H⟩ := bind_some' H
          refine .g (x := .d (cS y8)) (g_callF en_28 rfl rfl rfl (c_x_Itoa (hy8))) rfl ?_
          refine .q (x := .d (.ex (.func (.func 28) #[] #[]))) (q_move rfl) rfl ?_
          refine .q (x := .ref 0 8) (q_fieldRef fo_23_8 rfl) rfl ?_
          refine .q (x := .d (cI v0.part)) (q_loadO one_3 rfl rfl rfl) rfl ?_
          obtain ⟨y9, hy9, H⟩ := bind_some' H
          refine .g (x := .d (cS y9)) (g_callF en_28 rfl rfl rfl (c_x_Itoa (hy9))) rfl ?_
          refine .g (x := .d (slOf 1 rS ([([112, 97, 114, 116] : List UInt8), y8, y9]))) (g_buildSliceN (n := 3) (rows := ([([112, 97, 114, 116] : List UInt8), y8, y9] : List (List UInt8)).map rS) Tryd.underlying48 hi9 hs9 hz9 rfl rfl rfl rfl rfl) rfl ?_
          refine .nil ?_
          show AOps _ _ _ _ _ _ (_ :: _) _ _ _
          obtain ⟨hk4, H⟩ := ck_some H
          refine .v (x := .tsl 1 ((([(([118, 116, 100, 99] : List UInt8).take (Int.toNat (v0.kind))).drop (Int.toNat (v0.kind - 1)), y2, y3, v0.a, v6j1, y4, y5] : List (List UInt8)) ++ ([([112, 97, 114, 116] : List UInt8), y8, y9])).map rS) 0) (v_appendL (l := ([(([118, 116, 100, 99] : List UInt8).take (Int.toNat (v0.kind))).drop (Int.toNat (v0.kind - 1)), y2, y3, v0.a, v6j1, y4, y5] : List (List UInt8))) (l' := [([112, 97, 114, 116] : List UInt8), y8, y9]) (row := rS) Tryd.underlying48 hi9 hz9 hs9 rfl (by rw [hb9]; decide) rfl rfl rfl rfl hk4) rfl ?_
          refine .withSt (st' := ⟨[.row 23 [.d (cI v0.source), .d (cI v0.serial), .d (cI v0.kind), .d (cS v0.a), .d (cS v0.b), .d (cI v0.start), .d (cI v0.units), .d (cI v0.call), .d (cI v0.part), .d (cB v0.last), .d (cI v0.trunk), .d (cB v0.inbound)]], [⟨9, 1, (([(([118, 116, 100, 99] : List UInt8).take (Int.toNat (v0.kind))).drop (Int.toNat (v0.kind - 1)), y2, y3, v0.a, v6j1, y4, y5] : List (List UInt8)) ++ ([([112, 97, 114, 116] : List UInt8), y8, y9])).length⟩]⟩) rfl ?_
          refine .q (x := .tsl 1 ((([(([118, 116, 100, 99] : List UInt8).take (Int.toNat (v0.kind))).drop (Int.toNat (v0.kind - 1)), y2, y3, v0.a, v6j1, y4, y5] : List (List UInt8)) ++ ([([112, 97, 114, 116] : List UInt8), y8, y9])).map rS) 0) (q_assign rfl) rfl ?_
          refine .nil ?_
          refine .seq ?_
          refine .region ?_
          refine .q (x := .ref 0 9) (q_fieldRef fo_23_9 rfl) rfl ?_
          refine .q (x := .d (cB v0.last)) (q_loadO one_4 rfl rfl rfl) rfl ?_
          refine .nil ?_
          refine .cond rfl (fun hc => ?_) (fun hc => ?_)
          · replace H := ifT hc H; clear hc
            refine .region ?_
            refine .q (x := .tsl 1 ((([(([118, 116, 100, 99] : List UInt8).take (Int.toNat (v0.kind))).drop (Int.toNat (v0.kind - 1)), y2, y3, v0.a, v6j1, y4, y5] : List (List UInt8)) ++ ([([112, 97, 114, 116] : List UInt8), y8, y9])).map rS) 0) (q_move rfl) rfl ?_
            refine .g (x := .d (slOf 1 rS ([([108, 97, 115, 116] : List UInt8)]))) (g_buildSlice1 Tryd.underlying48 hi9 hs9 hz9 rfl rfl rfl rfl rfl) rfl ?_
            obtain ⟨hk5, H⟩ := ck_some H
            refine .v (x := .tsl 1 (((([(([118, 116, 100, 99] : List UInt8).take (Int.toNat (v0.kind))).drop (Int.toNat (v0.kind - 1)), y2, y3, v0.a, v6j1, y4, y5] : List (List UInt8)) ++ ([([112, 97, 114, 116] : List UInt8), y8, y9])) ++ ([([108, 97, 115, 116] : List UInt8)])).map rS) 0) (v_appendL (l := ([(([118, 116, 100, 99] : List UInt8).take (Int.toNat (v0.kind))).drop (Int.toNat (v0.kind - 1)), y2, y3, v0.a, v6j1, y4, y5] : List (List UInt8)) ++ ([([112, 97, 114, 116] : List UInt8), y8, y9])) (l' := [([108, 97, 115, 116] : List UInt8)]) (row := rS) Tryd.underlying48 hi9 hz9 hs9 rfl (by rw [hb9]; decide) rfl rfl rfl rfl hk5) rfl ?_
            refine .withSt (st' := ⟨[.row 23 [.d (cI v0.source), .d (cI v0.serial), .d (cI v0.kind), .d (cS v0.a), .d (cS v0.b), .d (cI v0.start), .d (cI v0.units), .d (cI v0.call), .d (cI v0.part), .d (cB v0.last), .d (cI v0.trunk), .d (cB v0.inbound)]], [⟨9, 1, ((([(([118, 116, 100, 99] : List UInt8).take (Int.toNat (v0.kind))).drop (Int.toNat (v0.kind - 1)), y2, y3, v0.a, v6j1, y4, y5] : List (List UInt8)) ++ ([([112, 97, 114, 116] : List UInt8), y8, y9])) ++ ([([108, 97, 115, 116] : List UInt8)])).length⟩]⟩) rfl ?_
            refine .q (x := .tsl 1 (((([(([118, 116, 100, 99] : List UInt8).take (Int.toNat (v0.kind))).drop (Int.toNat (v0.kind - 1)), y2, y3, v0.a, v6j1, y4, y5] : List (List UInt8)) ++ ([([112, 97, 114, 116] : List UInt8), y8, y9])) ++ ([([108, 97, 115, 116] : List UInt8)])).map rS) 0) (q_assign rfl) rfl ?_
            refine .nil ?_
            exact .withSt (st' := ⟨[.row 23 [.d (cI v0.source), .d (cI v0.serial), .d (cI v0.kind), .d (cS v0.a), .d (cS v0.b), .d (cI v0.start), .d (cI v0.units), .d (cI v0.call), .d (cI v0.part), .d (cB v0.last), .d (cI v0.trunk), .d (cB v0.inbound)]], [⟨9, 1, ((([(([118, 116, 100, 99] : List UInt8).take (Int.toNat (v0.kind))).drop (Int.toNat (v0.kind - 1)), y2, y3, v0.a, v6j1, y4, y5] : List (List UInt8)) ++ ([([112, 97, 114, 116] : List UInt8), y8, y9])) ++ ([([108, 97, 115, 116] : List UInt8)])).length⟩]⟩) rfl <| .sub (.cons rfl (.rfl' _) (.cons rfl (.rfl' _) (.cons rfl (.rfl' _) (.nil)))) (hj2 ((([(([118, 116, 100, 99] : List UInt8).take (Int.toNat (v0.kind))).drop (Int.toNat (v0.kind - 1)), y2, y3, v0.a, v6j1, y4, y5] : List (List UInt8)) ++ ([([112, 97, 114, 116] : List UInt8), y8, y9])) ++ ([([108, 97, 115, 116] : List UInt8)])) H)
          · replace H := ifF hc H; clear hc
            refine .skip ?_
            exact .withSt (st' := ⟨[.row 23 [.d (cI v0.source), .d (cI v0.serial), .d (cI v0.kind), .d (cS v0.a), .d (cS v0.b), .d (cI v0.start), .d (cI v0.units), .d (cI v0.call), .d (cI v0.part), .d (cB v0.last), .d (cI v0.trunk), .d (cB v0.inbound)]], [⟨9, 1, (([(([118, 116, 100, 99] : List UInt8).take (Int.toNat (v0.kind))).drop (Int.toNat (v0.kind - 1)), y2, y3, v0.a, v6j1, y4, y5] : List (List UInt8)) ++ ([([112, 97, 114, 116] : List UInt8), y8, y9])).length⟩]⟩) rfl <| .sub (.cons rfl (.rfl' _) (.cons rfl (.rfl' _) (.cons rfl (.rfl' _) (.nil)))) (hj2 (([(([118, 116, 100, 99] : List UInt8).take (Int.toNat (v0.kind))).drop (Int.toNat (v0.kind - 1)), y2, y3, v0.a, v6j1, y4, y5] : List (List UInt8)) ++ ([([112, 97, 114, 116] : List UInt8), y8, y9])) H)
        · replace H := ifF hc H; clear hc
          refine .skip ?_
          exact .withSt (st' := ⟨[.row 23 [.d (cI v0.source), .d (cI v0.serial), .d (cI v0.kind), .d (cS v0.a), .d (cS v0.b), .d (cI v0.start), .d (cI v0.units), .d (cI v0.call), .d (cI v0.part), .d (cB v0.last), .d (cI v0.trunk), .d (cB v0.inbound)]], [⟨9, 1, ([(([118, 116, 100, 99] : List UInt8).take (Int.toNat (v0.kind))).drop (Int.toNat (v0.kind - 1)), y2, y3, v0.a, v6j1, y4, y5] : List (List UInt8)).length⟩]⟩) rfl <| .sub (.cons rfl (.rfl' _) (.cons rfl (.rfl' _) (.cons rfl (.rfl' _) (.nil)))) (hj2 ([(([118, 116, 100, 99] : List UInt8).take (Int.toNat (v0.kind))).drop (Int.toNat (v0.kind - 1)), y2, y3, v0.a, v6j1, y4, y5] : List (List UInt8)) H)
    · intro hj1
      refine .seq ?_
      refine .region ?_
      refine .q (x := .d (cS v0.b)) (q_move rfl) rfl ?_
      refine .q (x := .d (cB (v0.b == ([] : List UInt8)))) (q_seql rfl rfl) rfl ?_
      refine .nil ?_
      refine .cond rfl (fun hc => ?_) (fun hc => ?_)
      · replace H := ifT hc H; clear hc
        refine .region ?_
        refine .q (x := .d (cS ([45] : List UInt8))) (q_assign rfl) rfl ?_
        refine .nil ?_
        exact .sub (.cons rfl (.rfl' _) (.cons rfl (.rfl' _) (.cons rfl (.rfl' _) (.nil)))) (hj1 ([45] : List UInt8) H)
      · replace H := ifF hc H; clear hc
        refine .skip ?_
        exact .sub (.cons rfl (.rfl' _) (.cons rfl (.rfl' _) (.cons rfl (.rfl' _) (.nil)))) (hj1 v0.b H)

set_option maxRecDepth 100000 in
set_option maxHeartbeats 1000000 in
theorem c_f_validate_Check {v0r : Record} {r : Int} (H : f_validate_Check v0r = some r) : ACall Tryd.prog 10 [.agg (Record.row v0r)] (· = cI r) := by
  refine ACall.enter' Tryd.func10 rfl Tryd.ntmps10 rfl fun S hS => ?_
  unfold f_validate_Check at H
  change ARun _ _ _ _ _ _ [(0, .d (.agg (Record.row v0r)))] _
  refine .seq ?_
  refine .region ?_
  refine .v (x := .ref 0 0) (v_box rfl rfl) rfl ?_
  refine .withSt (st' := ⟨[.row 23 [.d (cI v0r.source), .d (cI v0r.serial), .d (cI v0r.kind), .d (cS v0r.a), .d (cS v0r.b), .d (cI v0r.start), .d (cI v0r.units), .d (cI v0r.call), .d (cI v0r.part), .d (cB v0r.last), .d (cI v0r.trunk), .d (cB v0r.inbound)]], []⟩) rfl ?_
  refine .q (x := .d (cI 0)) (q_assign rfl) rfl ?_
  refine .nil ?_
  refine .seq ?_
  refine .region ?_
  refine .q (x := .d (.agg (Record.row v0r))) (q_loadOA one_23 sz_23 rfl rfl (Nat.le_of_ble_eq_true rfl) rfl) rfl ?_
  obtain ⟨y1, hy1, H⟩ := bind_some' H
  refine .g (x := .d (.tup [cS y1.1, cI y1.2])) (g_call en_23 rfl rfl (c_f_textual_Encode (hy1))) rfl ?_
  refine .q (x := .d (.tup [cS y1.1, cI y1.2])) (q_move rfl) rfl ?_
  refine .q (x := .d (cS y1.1)) (q_extract rfl rfl) rfl ?_
  refine .q (x := .d (cI y1.2)) (q_extract rfl rfl) rfl ?_
  refine .q (x := .d (cS y1.1)) (q_assign rfl) rfl ?_
  refine .q (x := .d (cI y1.2)) (q_assign rfl) rfl ?_
  refine .nil ?_
  refine .seq ?_
  refine .region ?_
  refine .q (x := .d (cI y1.2)) (q_move rfl) rfl ?_
  refine .q (x := .d (cI y1.2)) (q_assign rfl) rfl ?_
  refine .nil ?_
  refine .retN [.tmp 2] [.d (cI y1.2)] Tryd.func10 Tryd.results10 ⟨rfl, trivial⟩ ?_
  cases H
  exact ⟨_, .rfl' _, rfl⟩

set_option maxRecDepth 100000 in
set_option maxHeartbeats 1000000 in
theorem c_f_validate_Window {v0r : Record} {v1w : Window} {r : Int} (H : f_validate_Window v0r v1w = some r) : ACall Tryd.prog 12 [.agg (Record.row v0r), .agg (Window.row v1w)] (· = cI r) := by
  refine ACall.enter' Tryd.func12 rfl Tryd.ntmps12 rfl fun S hS => ?_
  unfold f_validate_Window at H
  change ARun _ _ _ _ _ _ [(0, .d (.agg (Record.row v0r))), (1, .d (.agg (Window.row v1w)))] _
  refine .seq ?_
  refine .region ?_
  refine .v (x := .ref 0 0) (v_box rfl rfl) rfl ?_
  refine .withSt (st' := ⟨[.row 23 [.d (cI v0r.source), .d (cI v0r.serial), .d (cI v0r.kind), .d (cS v0r.a), .d (cS v0r.b), .d (cI v0r.start), .d (cI v0r.units), .d (cI v0r.call), .d (cI v0r.part), .d (cB v0r.last), .d (cI v0r.trunk), .d (cB v0r.inbound)]], []⟩) rfl ?_
  refine .v (x := .ref 1 0) (v_box rfl rfl) rfl ?_
  refine .withSt (st' := ⟨[.row 23 [.d (cI v0r.source), .d (cI v0r.serial), .d (cI v0r.kind), .d (cS v0r.a), .d (cS v0r.b), .d (cI v0r.start), .d (cI v0r.units), .d (cI v0r.call), .d (cI v0r.part), .d (cB v0r.last), .d (cI v0r.trunk), .d (cB v0r.inbound)], .row 25 [.d (cI v1w.earliest), .d (cI v1w.latest)]], []⟩) rfl ?_
  refine .q (x := .d (cI 0)) (q_assign rfl) rfl ?_
  refine .nil ?_
  refine .seq ?_
  refine .seq ?_
  refine .region ?_
  refine .q (x := .ref 0 5) (q_fieldRef fo_23_5 rfl) rfl ?_
  refine .q (x := .d (cI v0r.start)) (q_loadO one_3 rfl rfl rfl) rfl ?_
  refine .q (x := .ref 1 0) (q_fieldRef fo_25_0 rfl) rfl ?_
  refine .q (x := .d (cI v1w.earliest)) (q_loadO one_3 rfl rfl rfl) rfl ?_
  refine .q (x := .d (cB (decide (v0r.start < v1w.earliest)))) (q_lss rfl rfl) rfl ?_
  refine .q (x := .d (cB (decide (v0r.start < v1w.earliest)))) (q_move rfl) rfl ?_
  refine .guardG (b := (!(decide (v0r.start < v1w.earliest)))) (x := .ref 0 5) (env' := [(2, _)]) rfl rfl rfl ⟨.inl rfl, trivial⟩ rfl (fun hg => OpQ.g (q_fieldRef fo_23_5 rfl)) ?_
  refine .guardG (b := (!(decide (v0r.start < v1w.earliest)))) (x := .d (cI v0r.start)) (env' := [(11, _)]) rfl rfl rfl ⟨.inr (.inl rfl), trivial⟩ rfl (fun hg => OpQ.g (q_loadO one_3 rfl rfl rfl)) ?_
  refine .guardG (b := (!(decide (v0r.start < v1w.earliest)))) (x := .ref 1 1) (env' := [(3, _)]) rfl rfl rfl ⟨.inl rfl, trivial⟩ rfl (fun hg => OpQ.g (q_fieldRef fo_25_1 rfl)) ?_
  refine .guardG (b := (!(decide (v0r.start < v1w.earliest)))) (x := .d (cI v1w.latest)) (env' := [(13, _)]) rfl rfl rfl ⟨.inr (.inl rfl), trivial⟩ rfl (fun hg => OpQ.g (q_loadO one_3 rfl rfl rfl)) ?_
  refine .guardG (b := (!(decide (v0r.start < v1w.earliest)))) (x := .d (cB (decide (v0r.start > v1w.latest)))) (env' := [(12, _), (14, _)]) rfl rfl rfl ⟨.inr (.inl rfl), ⟨.inr (.inl rfl), trivial⟩⟩ rfl (fun hg => OpQ.g (q_gtr rfl rfl)) ?_
  refine .q (x := .d (cB ((decide (v0r.start < v1w.earliest)) || (decide (v0r.start > v1w.latest))))) (q_pickOrB rfl rfl rfl) rfl ?_
  refine .nil ?_
  refine .cond rfl (fun hc => ?_) (fun hc => ?_)
  · replace H := ifT hc H; clear hc
    refine .seq ?_
    refine .region ?_
    refine .q (x := .d (cI 15)) (q_assign rfl) rfl ?_
    refine .nil ?_
    refine .retN [.tmp 4] [.d (cI 15)] Tryd.func12 Tryd.results12 ⟨rfl, trivial⟩ ?_
    cases H
    exact ⟨_, .rfl' _, rfl⟩
  · replace H := ifF hc H; clear hc
    refine .skip ?_
    refine .seq ?_
    refine .region ?_
    refine .q (x := .d (cI 0)) (q_assign rfl) rfl ?_
    refine .nil ?_
    refine .retN [.tmp 4] [.d (cI 0)] Tryd.func12 Tryd.results12 ⟨rfl, trivial⟩ ?_
    cases H
    exact ⟨_, .rfl' _, rfl⟩

set_option maxRecDepth 100000 in
set_option maxHeartbeats 1000000 in
theorem c_f_validate_All {v0records : List Record} {v1w : Window} {r : (List Record) × (List Reject)} (H : f_validate_All v0records v1w = some r) : ACall Tryd.prog 15 [slOf 12 Record.row v0records, .agg (Window.row v1w)] (· = .tup [slOf 12 Record.row r.1, slOf 4 Reject.row r.2]) := by
  obtain ⟨i23, hi23, hz23, hs23, hb23⟩ := in_23
  obtain ⟨i44, hi44, hz44, hs44, hb44⟩ := in_44
  refine ACall.enter' Tryd.func15 rfl Tryd.ntmps15 rfl fun S hS => ?_
  unfold f_validate_All at H
  change ARun _ _ _ _ _ _ [(0, .d (slOf 12 Record.row v0records)), (1, .d (.agg (Window.row v1w)))] _
  refine .seq ?_
  refine .region ?_
  refine .v (x := .ref 0 0) (v_box rfl rfl) rfl ?_
  refine .withSt (st' := ⟨[.row 25 [.d (cI v1w.earliest), .d (cI v1w.latest)]], []⟩) rfl ?_
  refine .q (x := .d (nilD)) (q_assign rfl) rfl ?_
  refine .q (x := .d (nilD)) (q_assign rfl) rfl ?_
  refine .nil ?_
  refine .seq ?_
  refine .region ?_
  refine .q (x := .d (nilD)) (q_assign rfl) rfl ?_
  refine .nil ?_
  refine .seq ?_
  refine .region ?_
  refine .q (x := .d (nilD)) (q_assign rfl) rfl ?_
  refine .nil ?_
  refine .seq ?_
  refine .seq ?_
  refine .region ?_
  refine .q (x := .d (slOf 12 Record.row v0records)) (q_move rfl) rfl ?_
  refine .q (x := .d (cI (v0records.length : Int))) (q_lenL (l := v0records) (row := Record.row) Tryd.underlying32 rfl rfl) rfl ?_
  refine .q (x := .d (cI 0)) (q_move rfl) rfl ?_
  refine .nil ?_
  refine .block ?_
  refine .tok (i := 6) (e := 23) (sz := 12) rfl ?_
  refine .withSt (st' := ⟨[.row 25 [.d (cI v1w.earliest), .d (cI v1w.latest)]], [⟨23, 12, ([] : List Record).length⟩]⟩) rfl ?_
  refine .tok (i := 7) (e := 44) (sz := 4) rfl ?_
  refine .withSt (st' := ⟨[.row 25 [.d (cI v1w.earliest), .d (cI v1w.latest)]], [⟨23, 12, ([] : List Record).length⟩, ⟨44, 4, ([] : List Reject).length⟩]⟩) rfl ?_
  obtain ⟨n1, H⟩ := loop_some H
  refine .withSt (st' := ⟨[.row 25 [.d (cI v1w.earliest), .d (cI v1w.latest)]], [⟨23, 12, ([] : List Record).length⟩, ⟨44, 4, ([] : List Reject).length⟩]⟩) rfl <| .loop (ι := Nat × (List Record × List Reject × Int)) (fun p => [(0, .d (slOf 12 Record.row v0records)), (3, .ref 0 0), (6, .tsl 12 (p.2.1.map Record.row) 0), (7, .tsl 4 (p.2.2.1.map Reject.row) 1), (12, .d (cI (v0records.length : Int))), (13, .d (cI p.2.2.2))]) (fun p => ⟨[.row 25 [.d (cI v1w.earliest), .d (cI v1w.latest)]], [⟨23, 12, p.2.1.length⟩, ⟨44, 4, p.2.2.1.length⟩]⟩) (fun p => iter (fun s => f_validate_All_l1 v0records v1w s.1 s.2.1 s.2.2) p.1 p.2 = some r) (·.1) (n1, (([] : List Record), ([] : List Reject), 0)) H (.cons rfl (.rfl' _) (.cons rfl (.rfl' _) (.cons rfl (.rfl' _) (.cons rfl (.rfl' _) (.cons rfl (.rfl' _) (.cons rfl (.rfl' _) (.nil))))))) rfl ?_
  rintro ⟨m1, v6outl1, v7nol1, v13l1⟩ HI ih1
  obtain ⟨n1, q1, hm1, H, HK1⟩ := iter_succ HI
  clear HI
  replace H : f_validate_All_l1 v0records v1w v6outl1 v7nol1 v13l1 = some q1 := H
  unfold f_validate_All_l1 at H
  change ARun _ _ _ _ _ _ [(0, .d (slOf 12 Record.row v0records)), (3, .ref 0 0), (6, .tsl 12 (v6outl1.map Record.row) 0), (7, .tsl 4 (v7nol1.map Reject.row) 1), (12, .d (cI (v0records.length : Int))), (13, .d (cI v13l1))] ⟨[.row 25 [.d (cI v1w.earliest), .d (cI v1w.latest)]], [⟨23, 12, v6outl1.length⟩, ⟨44, 4, v7nol1.length⟩]⟩
  refine .seq ?_
  refine .region ?_
  refine .q (x := .d (cB (decide (v13l1 < (v0records.length : Int))))) (q_lss rfl rfl) rfl ?_
  refine .nil ?_
  refine .seq ?_
  refine .cond rfl (fun hc => ?_) (fun hc => ?_)
  · replace H := ifT hc H; clear hc
    refine .skip ?_
    refine .seq ?_
    refine .block ?_
    refine .seq ?_
    refine .region ?_
    refine .q (x := .d (cI v13l1)) (q_move rfl) rfl ?_
    refine .q (x := .d (cI v13l1)) (q_assign rfl) rfl ?_
    refine .nil ?_
    refine .seq ?_
    refine .region ?_
    refine .q (x := .d (slOf 12 Record.row v0records)) (q_move rfl) rfl ?_
    refine .q (x := .d (cI v13l1)) (q_move rfl) rfl ?_
    obtain ⟨hk1, H⟩ := ck_some H
    refine .q (x := .d (.ro (Record.row (nth v0records (Int.toNat (v13l1)))))) (q_idxL (row := Record.row) (l := v0records) (i := v13l1) Tryd.underlying32 hi23 hs23 rfl rfl rfl hk1) rfl ?_
    refine .q (x := .d (.agg (Record.row (nth v0records (Int.toNat (v13l1)))))) (q_loadAll one_23 sz_23 rfl rfl) rfl ?_
    refine .v (x := .ref 1 0) (v_alloc zr_23 rfl) rfl ?_
    refine .withSt (st' := ⟨[.row 25 [.d (cI v1w.earliest), .d (cI v1w.latest)], .row 23 [.d (cI 0), .d (cI 0), .d (cI 0), .d (cS ([] : List UInt8)), .d (cS ([] : List UInt8)), .d (cI 0), .d (cI 0), .d (cI 0), .d (cI 0), .d (cB false), .d (cI 0), .d (cB false)]], [⟨23, 12, v6outl1.length⟩, ⟨44, 4, v7nol1.length⟩]⟩) rfl ?_
    refine .u (u_store rfl rfl rfl rfl (Nat.le_of_ble_eq_true rfl) sz_23) rfl ?_
    refine .withSt (st' := ⟨[.row 25 [.d (cI v1w.earliest), .d (cI v1w.latest)], .row 23 [.d (cI ((nth v0records (Int.toNat (v13l1))).source)), .d (cI ((nth v0records (Int.toNat (v13l1))).serial)), .d (cI ((nth v0records (Int.toNat (v13l1))).kind)), .d (cS ((nth v0records (Int.toNat (v13l1))).a)), .d (cS ((nth v0records (Int.toNat (v13l1))).b)), .d (cI ((nth v0records (Int.toNat (v13l1))).start)), .d (cI ((nth v0records (Int.toNat (v13l1))).units)), .d (cI ((nth v0records (Int.toNat (v13l1))).call)), .d (cI ((nth v0records (Int.toNat (v13l1))).part)), .d (cB ((nth v0records (Int.toNat (v13l1))).last)), .d (cI ((nth v0records (Int.toNat (v13l1))).trunk)), .d (cB ((nth v0records (Int.toNat (v13l1))).inbound))]], [⟨23, 12, v6outl1.length⟩, ⟨44, 4, v7nol1.length⟩]⟩) rfl ?_
    refine .nil ?_
    refine .seq ?_
    refine .region ?_
    refine .q (x := .d (.agg (Record.row (nth v0records (Int.toNat (v13l1)))))) (q_loadOA one_23 sz_23 rfl rfl (Nat.le_of_ble_eq_true rfl) rfl) rfl ?_
    obtain ⟨y1, hy1, H⟩ := bind_some' H
    refine .g (x := .d (cI y1)) (g_call en_10 rfl rfl (c_f_validate_Check (hy1))) rfl ?_
    refine .q (x := .d (cI y1)) (q_assign rfl) rfl ?_
    refine .nil ?_
    refine .seqJoin (ι := Int) (fun s => [(0, .d (slOf 12 Record.row v0records)), (3, .ref 0 0), (6, .tsl 12 (v6outl1.map Record.row) 0), (7, .tsl 4 (v7nol1.map Reject.row) 1), (8, .d (cI v13l1)), (9, .ref 1 0), (10, .d (cI s)), (12, .d (cI (v0records.length : Int))), (13, .d (cI v13l1))]) (fun s => ⟨[.row 25 [.d (cI v1w.earliest), .d (cI v1w.latest)], .row 23 [.d (cI ((nth v0records (Int.toNat (v13l1))).source)), .d (cI ((nth v0records (Int.toNat (v13l1))).serial)), .d (cI ((nth v0records (Int.toNat (v13l1))).kind)), .d (cS ((nth v0records (Int.toNat (v13l1))).a)), .d (cS ((nth v0records (Int.toNat (v13l1))).b)), .d (cI ((nth v0records (Int.toNat (v13l1))).start)), .d (cI ((nth v0records (Int.toNat (v13l1))).units)), .d (cI ((nth v0records (Int.toNat (v13l1))).call)), .d (cI ((nth v0records (Int.toNat (v13l1))).part)), .d (cB ((nth v0records (Int.toNat (v13l1))).last)), .d (cI ((nth v0records (Int.toNat (v13l1))).trunk)), .d (cB ((nth v0records (Int.toNat (v13l1))).inbound))]], [⟨23, 12, v6outl1.length⟩, ⟨44, 4, v7nol1.length⟩]⟩) (fun s => f_validate_All_j1 v0records v6outl1 v7nol1 v13l1 s = some q1) ?_ ?_
    · rintro v10ej1 H
      replace H : f_validate_All_j1 v0records v6outl1 v7nol1 v13l1 v10ej1 = some q1 := H
      unfold f_validate_All_j1 at H
      change ARun _ _ _ _ _ _ [(0, .d (slOf 12 Record.row v0records)), (3, .ref 0 0), (6, .tsl 12 (v6outl1.map Record.row) 0), (7, .tsl 4 (v7nol1.map Reject.row) 1), (8, .d (cI v13l1)), (9, .ref 1 0), (10, .d (cI v10ej1)), (12, .d (cI (v0records.length : Int))), (13, .d (cI v13l1))] ⟨[.row 25 [.d (cI v1w.earliest), .d (cI v1w.latest)], .row 23 [.d (cI ((nth v0records (Int.toNat (v13l1))).source)), .d (cI ((nth v0records (Int.toNat (v13l1))).serial)), .d (cI ((nth v0records (Int.toNat (v13l1))).kind)), .d (cS ((nth v0records (Int.toNat (v13l1))).a)), .d (cS ((nth v0records (Int.toNat (v13l1))).b)), .d (cI ((nth v0records (Int.toNat (v13l1))).start)), .d (cI ((nth v0records (Int.toNat (v13l1))).units)), .d (cI ((nth v0records (Int.toNat (v13l1))).call)), .d (cI ((nth v0records (Int.toNat (v13l1))).part)), .d (cB ((nth v0records (Int.toNat (v13l1))).last)), .d (cI ((nth v0records (Int.toNat (v13l1))).trunk)), .d (cB ((nth v0records (Int.toNat (v13l1))).inbound))]], [⟨23, 12, v6outl1.length⟩, ⟨44, 4, v7nol1.length⟩]⟩
      refine .seq ?_
      refine .seq ?_
      refine .region ?_
      refine .q (x := .d (cI v10ej1)) (q_move rfl) rfl ?_
      refine .q (x := .d (cB (v10ej1 != 0))) (q_neq rfl rfl) rfl ?_
      refine .nil ?_
      refine .cond rfl (fun hc => ?_) (fun hc => ?_)
      · replace H := ifT hc H; clear hc
        refine .seq ?_
        refine .region ?_
        refine .q (x := .tsl 4 (v7nol1.map Reject.row) 1) (q_move rfl) rfl ?_
        refine .q (x := .ref 1 0) (q_fieldRef fo_23_0 rfl) rfl ?_
        refine .q (x := .d (cI ((nth v0records (Int.toNat (v13l1))).source))) (q_loadO one_3 rfl rfl rfl) rfl ?_
        refine .q (x := .ref 1 1) (q_fieldRef fo_23_1 rfl) rfl ?_
        refine .q (x := .d (cI ((nth v0records (Int.toNat (v13l1))).serial))) (q_loadO one_3 rfl rfl rfl) rfl ?_
        refine .q (x := .d (cI v13l1)) (q_move rfl) rfl ?_
        refine .q (x := .d (cI v10ej1)) (q_move rfl) rfl ?_
        refine .q (x := .d (.agg (Reject.row (⟨(nth v0records (Int.toNat (v13l1))).source, (nth v0records (Int.toNat (v13l1))).serial, v13l1, v10ej1⟩ : Reject)))) (q_buildP pl_44 hi44 hz44 rfl rfl) rfl ?_
        refine .g (x := .d (slOf 4 Reject.row ([(⟨(nth v0records (Int.toNat (v13l1))).source, (nth v0records (Int.toNat (v13l1))).serial, v13l1, v10ej1⟩ : Reject)]))) (g_buildSlice1 Tryd.underlying34 hi44 hs44 hz44 rfl rfl rfl rfl rfl) rfl ?_
        obtain ⟨hk2, H⟩ := ck_some H
        refine .v (x := .tsl 4 ((v7nol1 ++ ([(⟨(nth v0records (Int.toNat (v13l1))).source, (nth v0records (Int.toNat (v13l1))).serial, v13l1, v10ej1⟩ : Reject)])).map Reject.row) 1) (v_appendL (l := v7nol1) (l' := [(⟨(nth v0records (Int.toNat (v13l1))).source, (nth v0records (Int.toNat (v13l1))).serial, v13l1, v10ej1⟩ : Reject)]) (row := Reject.row) Tryd.underlying34 hi44 hz44 hs44 rfl (by rw [hb44]; decide) rfl rfl rfl rfl hk2) rfl ?_
        refine .withSt (st' := ⟨[.row 25 [.d (cI v1w.earliest), .d (cI v1w.latest)], .row 23 [.d (cI ((nth v0records (Int.toNat (v13l1))).source)), .d (cI ((nth v0records (Int.toNat (v13l1))).serial)), .d (cI ((nth v0records (Int.toNat (v13l1))).kind)), .d (cS ((nth v0records (Int.toNat (v13l1))).a)), .d (cS ((nth v0records (Int.toNat (v13l1))).b)), .d (cI ((nth v0records (Int.toNat (v13l1))).start)), .d (cI ((nth v0records (Int.toNat (v13l1))).units)), .d (cI ((nth v0records (Int.toNat (v13l1))).call)), .d (cI ((nth v0records (Int.toNat (v13l1))).part)), .d (cB ((nth v0records (Int.toNat (v13l1))).last)), .d (cI ((nth v0records (Int.toNat (v13l1))).trunk)), .d (cB ((nth v0records (Int.toNat (v13l1))).inbound))]], [⟨23, 12, v6outl1.length⟩, ⟨44, 4, (v7nol1 ++ ([(⟨(nth v0records (Int.toNat (v13l1))).source, (nth v0records (Int.toNat (v13l1))).serial, v13l1, v10ej1⟩ : Reject)])).length⟩]⟩) rfl ?_
        refine .q (x := .tsl 4 ((v7nol1 ++ ([(⟨(nth v0records (Int.toNat (v13l1))).source, (nth v0records (Int.toNat (v13l1))).serial, v13l1, v10ej1⟩ : Reject)])).map Reject.row) 1) (q_assign rfl) rfl ?_
        refine .nil ?_
        refine .exit rfl ?_
        refine .region ?_
        obtain ⟨hk3, H⟩ := ck_some H
        refine .q (x := .d (cI (v13l1 + 1))) (q_addI rfl rfl hk3.1 hk3.2) rfl ?_
        refine .q (x := .d (cI (v13l1 + 1))) (q_move rfl) rfl ?_
        refine .nil ?_
        cases H
        exact .to 1 2 (env' := [(0, .d (slOf 12 Record.row v0records)), (3, .ref 0 0), (6, .tsl 12 (v6outl1.map Record.row) 0), (7, .tsl 4 ((v7nol1 ++ ([(⟨(nth v0records (Int.toNat (v13l1))).source, (nth v0records (Int.toNat (v13l1))).serial, v13l1, v10ej1⟩ : Reject)])).map Reject.row) 1), (12, .d (cI (v0records.length : Int))), (13, .d (cI (v13l1 + 1)))]) (st' := ⟨[.row 25 [.d (cI v1w.earliest), .d (cI v1w.latest)]], [⟨23, 12, v6outl1.length⟩, ⟨44, 4, (v7nol1 ++ ([(⟨(nth v0records (Int.toNat (v13l1))).source, (nth v0records (Int.toNat (v13l1))).serial, v13l1, v10ej1⟩ : Reject)])).length⟩]⟩) (.cons rfl (.rfl' _) (.cons rfl (.rfl' _) (.cons rfl (.rfl' _) (.cons rfl (.rfl' _) (.cons rfl (.rfl' _) (.cons rfl (.rfl' _) (.nil))))))) rfl rfl rfl rfl rfl (by rw [hS]; exact Nat.zero_le _) (by rw [hS]; exact Nat.zero_le _) <| .sub (.cons rfl (.rfl' _) (.cons rfl (.rfl' _) (.cons rfl (.rfl' _) (.cons rfl (.rfl' _) (.cons rfl (.rfl' _) (.cons rfl (.rfl' _) (.nil))))))) (ih1 (n1, (v6outl1, v7nol1 ++ ([(⟨(nth v0records (Int.toNat (v13l1))).source, (nth v0records (Int.toNat (v13l1))).serial, v13l1, v10ej1⟩ : Reject)]), v13l1 + 1)) HK1 hm1)
      · replace H := ifF hc H; clear hc
        refine .skip ?_
        refine .region ?_
        refine .q (x := .tsl 12 (v6outl1.map Record.row) 0) (q_move rfl) rfl ?_
        refine .q (x := .d (.agg (Record.row (nth v0records (Int.toNat (v13l1)))))) (q_loadOA one_23 sz_23 rfl rfl (Nat.le_of_ble_eq_true rfl) rfl) rfl ?_
        refine .g (x := .d (slOf 12 Record.row ([nth v0records (Int.toNat (v13l1))]))) (g_buildSlice1 Tryd.underlying32 hi23 hs23 hz23 rfl rfl rfl rfl rfl) rfl ?_
        obtain ⟨hk4, H⟩ := ck_some H
        refine .v (x := .tsl 12 ((v6outl1 ++ ([nth v0records (Int.toNat (v13l1))])).map Record.row) 0) (v_appendL (l := v6outl1) (l' := [nth v0records (Int.toNat (v13l1))]) (row := Record.row) Tryd.underlying32 hi23 hz23 hs23 rfl (by rw [hb23]; decide) rfl rfl rfl rfl hk4) rfl ?_
        refine .withSt (st' := ⟨[.row 25 [.d (cI v1w.earliest), .d (cI v1w.latest)], .row 23 [.d (cI ((nth v0records (Int.toNat (v13l1))).source)), .d (cI ((nth v0records (Int.toNat (v13l1))).serial)), .d (cI ((nth v0records (Int.toNat (v13l1))).kind)), .d (cS ((nth v0records (Int.toNat (v13l1))).a)), .d (cS ((nth v0records (Int.toNat (v13l1))).b)), .d (cI ((nth v0records (Int.toNat (v13l1))).start)), .d (cI ((nth v0records (Int.toNat (v13l1))).units)), .d (cI ((nth v0records (Int.toNat (v13l1))).call)), .d (cI ((nth v0records (Int.toNat (v13l1))).part)), .d (cB ((nth v0records (Int.toNat (v13l1))).last)), .d (cI ((nth v0records (Int.toNat (v13l1))).trunk)), .d (cB ((nth v0records (Int.toNat (v13l1))).inbound))]], [⟨23, 12, (v6outl1 ++ ([nth v0records (Int.toNat (v13l1))])).length⟩, ⟨44, 4, v7nol1.length⟩]⟩) rfl ?_
        refine .q (x := .tsl 12 ((v6outl1 ++ ([nth v0records (Int.toNat (v13l1))])).map Record.row) 0) (q_assign rfl) rfl ?_
        refine .nil ?_
        refine .inBlock ?_
        refine .region ?_
        obtain ⟨hk5, H⟩ := ck_some H
        refine .q (x := .d (cI (v13l1 + 1))) (q_addI rfl rfl hk5.1 hk5.2) rfl ?_
        refine .q (x := .d (cI (v13l1 + 1))) (q_move rfl) rfl ?_
        refine .nil ?_
        cases H
        exact .to 1 2 (env' := [(0, .d (slOf 12 Record.row v0records)), (3, .ref 0 0), (6, .tsl 12 ((v6outl1 ++ ([nth v0records (Int.toNat (v13l1))])).map Record.row) 0), (7, .tsl 4 (v7nol1.map Reject.row) 1), (12, .d (cI (v0records.length : Int))), (13, .d (cI (v13l1 + 1)))]) (st' := ⟨[.row 25 [.d (cI v1w.earliest), .d (cI v1w.latest)]], [⟨23, 12, (v6outl1 ++ ([nth v0records (Int.toNat (v13l1))])).length⟩, ⟨44, 4, v7nol1.length⟩]⟩) (.cons rfl (.rfl' _) (.cons rfl (.rfl' _) (.cons rfl (.rfl' _) (.cons rfl (.rfl' _) (.cons rfl (.rfl' _) (.cons rfl (.rfl' _) (.nil))))))) rfl rfl rfl rfl rfl (by rw [hS]; exact Nat.zero_le _) (by rw [hS]; exact Nat.zero_le _) <| .sub (.cons rfl (.rfl' _) (.cons rfl (.rfl' _) (.cons rfl (.rfl' _) (.cons rfl (.rfl' _) (.cons rfl (.rfl' _) (.cons rfl (.rfl' _) (.nil))))))) (ih1 (n1, (v6outl1 ++ ([nth v0records (Int.toNat (v13l1))]), v7nol1, v13l1 + 1)) HK1 hm1)
    · intro hj1
      refine .seq ?_
      refine .region ?_
      refine .q (x := .d (cI y1)) (q_move rfl) rfl ?_
      refine .q (x := .d (cB (y1 == 0))) (q_eql rfl rfl) rfl ?_
      refine .nil ?_
      refine .cond rfl (fun hc => ?_) (fun hc => ?_)
      · replace H := ifT hc H; clear hc
        refine .region ?_
        refine .q (x := .d (.agg (Record.row (nth v0records (Int.toNat (v13l1)))))) (q_loadOA one_23 sz_23 rfl rfl (Nat.le_of_ble_eq_true rfl) rfl) rfl ?_
        refine .q (x := .d (.agg (Window.row v1w))) (q_loadOA one_25 sz_25 rfl rfl (Nat.le_of_ble_eq_true rfl) rfl) rfl ?_
        obtain ⟨y2, hy2, H⟩ := bind_some' H
        refine .g (x := .d (cI y2)) (g_call en_12 rfl rfl (c_f_validate_Window (hy2))) rfl ?_
        refine .q (x := .d (cI y2)) (q_assign rfl) rfl ?_
        refine .nil ?_
        exact .sub (.cons rfl (.rfl' _) (.cons rfl (.rfl' _) (.cons rfl (.rfl' _) (.cons rfl (.rfl' _) (.cons rfl (.rfl' _) (.cons rfl (.rfl' _) (.cons rfl (.rfl' _) (.cons rfl (.rfl' _) (.cons rfl (.rfl' _) (.nil)))))))))) (hj1 y2 H)
      · replace H := ifF hc H; clear hc
        refine .skip ?_
        exact .sub (.cons rfl (.rfl' _) (.cons rfl (.rfl' _) (.cons rfl (.rfl' _) (.cons rfl (.rfl' _) (.cons rfl (.rfl' _) (.cons rfl (.rfl' _) (.cons rfl (.rfl' _) (.cons rfl (.rfl' _) (.cons rfl (.rfl' _) (.nil)))))))))) (hj1 y1 H)
  · replace H := ifF hc H; clear hc
    refine .exit rfl ?_
    refine .seq ?_
    refine .region ?_
    refine .q (x := .tsl 12 (v6outl1.map Record.row) 0) (q_move rfl) rfl ?_
    refine .q (x := .tsl 4 (v7nol1.map Reject.row) 1) (q_move rfl) rfl ?_
    refine .q (x := .tsl 12 (v6outl1.map Record.row) 0) (q_assign rfl) rfl ?_
    refine .q (x := .tsl 4 (v7nol1.map Reject.row) 1) (q_assign rfl) rfl ?_
    refine .nil ?_
    refine .retN [.tmp 4, .tmp 5] [.tsl 12 (v6outl1.map Record.row) 0, .tsl 4 (v7nol1.map Reject.row) 1] Tryd.func15 Tryd.results15 ⟨rfl, rfl, trivial⟩ ?_
    cases H
    cases HK1
    exact ⟨_, EVle.tupL (ds := [slOf 12 Record.row v6outl1, slOf 4 Reject.row v7nol1]) ⟨.tsl _ _ _, .tsl _ _ _, trivial⟩, rfl⟩

set_option maxRecDepth 100000 in
set_option maxHeartbeats 1000000 in
theorem c_f_validate_Name {v0kind : Int} {r : (List UInt8)} (H : f_validate_Name v0kind = some r) : ACall Tryd.prog 19 [cI v0kind] (· = cS r) := by
  refine ACall.enter' Tryd.func19 rfl Tryd.ntmps19 rfl fun S hS => ?_
  unfold f_validate_Name at H
  change ARun _ _ _ _ _ _ [(0, .d (cI v0kind))] _
  refine .seq ?_
  refine .region ?_
  refine .q (x := .d (cS ([] : List UInt8))) (q_assign rfl) rfl ?_
  refine .nil ?_
  refine .seq ?_
  refine .seq ?_
  refine .region ?_
  refine .q (x := .d (cI v0kind)) (q_move rfl) rfl ?_
  refine .nil ?_
  refine .block ?_
  refine .seq ?_
  refine .region ?_
  refine .q (x := .d (cB (v0kind == 1))) (q_eql rfl rfl) rfl ?_
  refine .q (x := .d (cB (v0kind == 1))) (q_assign rfl) rfl ?_
  refine .nil ?_
  refine .cond rfl (fun hc => ?_) (fun hc => ?_)
  · replace H := ifT hc H; clear hc
    refine .seq ?_
    refine .region ?_
    refine .q (x := .d (cS ([118, 111, 105, 99, 101] : List UInt8))) (q_assign rfl) rfl ?_
    refine .nil ?_
    refine .retN [.tmp 2] [.d (cS ([118, 111, 105, 99, 101] : List UInt8))] Tryd.func19 Tryd.results19 ⟨rfl, trivial⟩ ?_
    cases H
    exact ⟨_, .rfl' _, rfl⟩
  · replace H := ifF hc H; clear hc
    refine .seq ?_
    refine .region ?_
    refine .q (x := .d (cB (v0kind == 2))) (q_eql rfl rfl) rfl ?_
    refine .q (x := .d (cB (v0kind == 2))) (q_assign rfl) rfl ?_
    refine .nil ?_
    refine .cond rfl (fun hc => ?_) (fun hc => ?_)
    · replace H := ifT hc H; clear hc
      refine .seq ?_
      refine .region ?_
      refine .q (x := .d (cS ([116, 101, 120, 116] : List UInt8))) (q_assign rfl) rfl ?_
      refine .nil ?_
      refine .retN [.tmp 2] [.d (cS ([116, 101, 120, 116] : List UInt8))] Tryd.func19 Tryd.results19 ⟨rfl, trivial⟩ ?_
      cases H
      exact ⟨_, .rfl' _, rfl⟩
    · replace H := ifF hc H; clear hc
      refine .seq ?_
      refine .region ?_
      refine .q (x := .d (cB (v0kind == 3))) (q_eql rfl rfl) rfl ?_
      refine .q (x := .d (cB (v0kind == 3))) (q_assign rfl) rfl ?_
      refine .nil ?_
      refine .cond rfl (fun hc => ?_) (fun hc => ?_)
      · replace H := ifT hc H; clear hc
        refine .seq ?_
        refine .region ?_
        refine .q (x := .d (cS ([100, 97, 116, 97] : List UInt8))) (q_assign rfl) rfl ?_
        refine .nil ?_
        refine .retN [.tmp 2] [.d (cS ([100, 97, 116, 97] : List UInt8))] Tryd.func19 Tryd.results19 ⟨rfl, trivial⟩ ?_
        cases H
        exact ⟨_, .rfl' _, rfl⟩
      · replace H := ifF hc H; clear hc
        refine .seq ?_
        refine .region ?_
        refine .q (x := .d (cB (v0kind == 4))) (q_eql rfl rfl) rfl ?_
        refine .q (x := .d (cB (v0kind == 4))) (q_assign rfl) rfl ?_
        refine .nil ?_
        refine .cond rfl (fun hc => ?_) (fun hc => ?_)
        · replace H := ifT hc H; clear hc
          refine .seq ?_
          refine .region ?_
          refine .q (x := .d (cS ([99, 111, 110, 116, 101, 110, 116] : List UInt8))) (q_assign rfl) rfl ?_
          refine .nil ?_
          refine .retN [.tmp 2] [.d (cS ([99, 111, 110, 116, 101, 110, 116] : List UInt8))] Tryd.func19 Tryd.results19 ⟨rfl, trivial⟩ ?_
          cases H
          exact ⟨_, .rfl' _, rfl⟩
        · replace H := ifF hc H; clear hc
          refine .skip ?_
          refine .inBlock ?_
          refine .seq ?_
          refine .region ?_
          refine .q (x := .d (cS ([] : List UInt8))) (q_assign rfl) rfl ?_
          refine .nil ?_
          refine .retN [.tmp 2] [.d (cS ([] : List UInt8))] Tryd.func19 Tryd.results19 ⟨rfl, trivial⟩ ?_
          cases H
          exact ⟨_, .rfl' _, rfl⟩

end Go.Proofs.YtalecnjpdjdlgaaDoor
