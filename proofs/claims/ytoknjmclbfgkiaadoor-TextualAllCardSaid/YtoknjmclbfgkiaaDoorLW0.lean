import Derived.Test.YtoknjmclbfgkiaaDoorLTys
import Derived.Test.YtoknjmclbfgkiaaDoorLF
import Derived.Test.YtoknjmclbfgkiaaDoorLX
set_option linter.unusedSimpArgs false
set_option linter.unusedVariables false
namespace Go.Proofs.YtoknjmclbfgkiaaDoor
open Go.RowKit Go.Abs
set_option maxRecDepth 100000 in
set_option maxHeartbeats 1000000 in
theorem c_f_billinglaw09_short {v0r : Record} {r : Bool} (H : f_billinglaw09_short v0r = some r) : ACall Tryd.prog 8 [.agg (Record.row v0r)] (· = cB r) := by
  refine ACall.enter' Tryd.func8 rfl Tryd.ntmps8 rfl fun S hS => ?_
  unfold f_billinglaw09_short at H
  change ARun _ _ _ _ _ _ [(0, .d (.agg (Record.row v0r)))] _
  refine .seq ?_
  refine .region ?_
  refine .v (x := .ref 0 0) (v_box rfl rfl) rfl ?_
  refine .withSt (st' := ⟨[.row 23 [.d (cI v0r.source), .d (cI v0r.serial), .d (cI v0r.kind), .d (cS v0r.a), .d (cS v0r.b), .d (cI v0r.start), .d (cI v0r.units), .d (cI v0r.call), .d (cI v0r.part), .d (cB v0r.last), .d (cI v0r.trunk), .d (cB v0r.inbound)]], []⟩) rfl ?_
  refine .q (x := .d (cB false)) (q_assign rfl) rfl ?_
  refine .nil ?_
  refine .seq ?_
  refine .region ?_
  refine .q (x := .ref 0 3) (q_fieldRef fo_23_3 rfl) rfl ?_
  refine .q (x := .d (cS v0r.a)) (q_loadO one_9 rfl rfl rfl) rfl ?_
  refine .q (x := .d (cI (v0r.a.length : Int))) (q_lenS Tryd.underlying9 rfl) rfl ?_
  refine .q (x := .d (cB (decide ((v0r.a.length : Int) ≤ 200)))) (q_leq rfl rfl) rfl ?_
  refine .q (x := .d (cB (decide ((v0r.a.length : Int) ≤ 200)))) (q_move rfl) rfl ?_
  refine .guardG (b := decide ((v0r.a.length : Int) ≤ 200)) (x := .ref 0 4) (env' := [(1, _)]) rfl rfl rfl ⟨.inl rfl, trivial⟩ rfl (fun hg => OpQ.g (q_fieldRef fo_23_4 rfl)) ?_
  refine .guardG (b := decide ((v0r.a.length : Int) ≤ 200)) (x := .d (cS v0r.b)) (env' := [(8, _)]) rfl rfl rfl ⟨.inr (.inl rfl), trivial⟩ rfl (fun hg => OpQ.g (q_loadO one_9 rfl rfl rfl)) ?_
  refine .guardG (b := decide ((v0r.a.length : Int) ≤ 200)) (x := .d (cI (v0r.b.length : Int))) (env' := [(9, _)]) rfl rfl rfl ⟨.inr (.inl rfl), trivial⟩ rfl (fun hg => OpQ.g (q_lenS Tryd.underlying9 rfl)) ?_
  refine .guardG (b := decide ((v0r.a.length : Int) ≤ 200)) (x := .d (cB (decide ((v0r.b.length : Int) ≤ 200)))) (env' := [(10, _)]) rfl rfl rfl ⟨.inr (.inl rfl), trivial⟩ rfl (fun hg => OpQ.g (q_leq rfl rfl)) ?_
  refine .q (x := .d (cB ((decide ((v0r.a.length : Int) ≤ 200)) && (decide ((v0r.b.length : Int) ≤ 200))))) (q_pickAndB rfl rfl rfl) rfl ?_
  refine .q (x := .d (cB ((decide ((v0r.a.length : Int) ≤ 200)) && (decide ((v0r.b.length : Int) ≤ 200))))) (q_assign rfl) rfl ?_
  refine .nil ?_
  refine .retN [.tmp 2] [.d (cB ((decide ((v0r.a.length : Int) ≤ 200)) && (decide ((v0r.b.length : Int) ≤ 200))))] Tryd.func8 Tryd.results8 ⟨rfl, trivial⟩ ?_
  cases H
  exact ⟨_, .rfl' _, rfl⟩

set_option maxRecDepth 100000 in
set_option maxHeartbeats 1000000 in
theorem c_f_textual_within {v0n : Int} {v1lo : Int} {v2hi : Int} {r : Bool} (H : f_textual_within v0n v1lo v2hi = some r) : ACall Tryd.prog 33 [cI v0n, cI v1lo, cI v2hi] (· = cB r) := by
  refine ACall.enter' Tryd.func33 rfl Tryd.ntmps33 rfl fun S hS => ?_
  unfold f_textual_within at H
  change ARun _ _ _ _ _ _ [(0, .d (cI v0n)), (1, .d (cI v1lo)), (2, .d (cI v2hi))] _
  refine .seq ?_
  refine .region ?_
  refine .q (x := .d (cB false)) (q_assign rfl) rfl ?_
  refine .nil ?_
  refine .seq ?_
  refine .region ?_
  refine .q (x := .d (cI v0n)) (q_move rfl) rfl ?_
  refine .q (x := .d (cI v1lo)) (q_move rfl) rfl ?_
  refine .q (x := .d (cB (decide (v0n ≥ v1lo)))) (q_geq rfl rfl) rfl ?_
  refine .q (x := .d (cB (decide (v0n ≥ v1lo)))) (q_move rfl) rfl ?_
  refine .guardG (b := decide (v0n ≥ v1lo)) (x := .d (cI v0n)) (env' := [(0, _)]) rfl rfl rfl ⟨.inl rfl, trivial⟩ rfl (fun hg => OpQ.g (q_move rfl)) ?_
  refine .guardG (b := decide (v0n ≥ v1lo)) (x := .d (cI v2hi)) (env' := [(2, _)]) rfl rfl rfl ⟨.inl rfl, trivial⟩ rfl (fun hg => OpQ.g (q_move rfl)) ?_
  refine .guardG (b := decide (v0n ≥ v1lo)) (x := .d (cB (decide (v0n ≤ v2hi)))) (env' := [(11, _), (12, _)]) rfl rfl rfl ⟨.inr (.inl rfl), ⟨.inr (.inl rfl), trivial⟩⟩ rfl (fun hg => OpQ.g (q_leq rfl rfl)) ?_
  refine .q (x := .d (cB ((decide (v0n ≥ v1lo)) && (decide (v0n ≤ v2hi))))) (q_pickAndB rfl rfl rfl) rfl ?_
  refine .q (x := .d (cB ((decide (v0n ≥ v1lo)) && (decide (v0n ≤ v2hi))))) (q_assign rfl) rfl ?_
  refine .nil ?_
  refine .retN [.tmp 6] [.d (cB ((decide (v0n ≥ v1lo)) && (decide (v0n ≤ v2hi))))] Tryd.func33 Tryd.results33 ⟨rfl, trivial⟩ ?_
  cases H
  exact ⟨_, .rfl' _, rfl⟩

set_option maxRecDepth 100000 in
set_option maxHeartbeats 1000000 in
theorem c_f_digits_digit {v0c : UInt8} {r : Bool} (H : f_digits_digit v0c = some r) : ACall Tryd.prog 47 [cU8 v0c] (· = cB r) := by
  refine ACall.enter' Tryd.func47 rfl Tryd.ntmps47 rfl fun S hS => ?_
  unfold f_digits_digit at H
  change ARun _ _ _ _ _ _ [(0, .d (cU8 v0c))] _
  refine .seq ?_
  refine .region ?_
  refine .q (x := .d (cB false)) (q_assign rfl) rfl ?_
  refine .nil ?_
  refine .seq ?_
  refine .region ?_
  refine .q (x := .d (cU8 v0c)) (q_move rfl) rfl ?_
  refine .q (x := .d (cB (decide (v0c ≥ 48)))) (q8_geq (a := v0c) (b := 48) rfl rfl) rfl ?_
  refine .q (x := .d (cB (decide (v0c ≥ 48)))) (q_move rfl) rfl ?_
  refine .guardG (b := decide (v0c ≥ 48)) (x := .d (cU8 v0c)) (env' := [(0, _)]) rfl rfl rfl ⟨.inl rfl, trivial⟩ rfl (fun hg => OpQ.g (q_move rfl)) ?_
  refine .guardG (b := decide (v0c ≥ 48)) (x := .d (cB (decide (v0c ≤ 57)))) (env' := [(6, _)]) rfl rfl rfl ⟨.inr (.inl rfl), trivial⟩ rfl (fun hg => OpQ.g (q8_leq (a := v0c) (b := 57) rfl rfl)) ?_
  refine .q (x := .d (cB ((decide (v0c ≥ 48)) && (decide (v0c ≤ 57))))) (q_pickAndB rfl rfl rfl) rfl ?_
  refine .q (x := .d (cB ((decide (v0c ≥ 48)) && (decide (v0c ≤ 57))))) (q_assign rfl) rfl ?_
  refine .nil ?_
  refine .retN [.tmp 2] [.d (cB ((decide (v0c ≥ 48)) && (decide (v0c ≤ 57))))] Tryd.func47 Tryd.results47 ⟨rfl, trivial⟩ ?_
  cases H
  exact ⟨_, .rfl' _, rfl⟩

set_option maxRecDepth 100000 in
set_option maxHeartbeats 1000000 in
theorem c_f_digits_Valid {v0s : List UInt8} {r : Bool} (H : f_digits_Valid v0s = some r) : ACall Tryd.prog 34 [cS v0s] (· = cB r) := by
  refine ACall.enter' Tryd.func34 rfl Tryd.ntmps34 rfl fun S hS => ?_
  unfold f_digits_Valid at H
  change ARun _ _ _ _ _ _ [(0, .d (cS v0s))] _
  refine .seq ?_
  refine .region ?_
  refine .q (x := .d (cB false)) (q_assign rfl) rfl ?_
  refine .nil ?_
  refine .seq ?_
  refine .seq ?_
  refine .region ?_
  refine .q (x := .d (cS v0s)) (q_move rfl) rfl ?_
  refine .q (x := .d (cI (v0s.length : Int))) (q_lenS Tryd.underlying9 rfl) rfl ?_
  refine .q (x := .d (cI 0)) (q_move rfl) rfl ?_
  refine .nil ?_
  refine .blockJoin2 (ι := Unit) (fun s => [(0, .d (cS v0s))]) (fun s => ⟨[], []⟩) (fun s => f_digits_Valid_j1 v0s = some r) ?_ ?_
  · rintro _ H
    replace H : f_digits_Valid_j1 v0s = some r := H
    unfold f_digits_Valid_j1 at H
    change ARun _ _ _ _ _ _ [(0, .d (cS v0s))] ⟨[], []⟩
    refine .seq ?_
    refine .region ?_
    refine .q (x := .d (cS v0s)) (q_move rfl) rfl ?_
    refine .q (x := .d (cI (v0s.length : Int))) (q_lenS Tryd.underlying9 rfl) rfl ?_
    refine .q (x := .d (cB (decide ((v0s.length : Int) ≥ 1)))) (q_geq rfl rfl) rfl ?_
    refine .q (x := .d (cB (decide ((v0s.length : Int) ≥ 1)))) (q_move rfl) rfl ?_
    refine .guardG (b := decide ((v0s.length : Int) ≥ 1)) (x := .d (cS v0s)) (env' := [(0, _)]) rfl rfl rfl ⟨.inl rfl, trivial⟩ rfl (fun hg => OpQ.g (q_move rfl)) ?_
    refine .guardG (b := decide ((v0s.length : Int) ≥ 1)) (x := .d (cI (v0s.length : Int))) (env' := [(19, _)]) rfl rfl rfl ⟨.inr (.inl rfl), trivial⟩ rfl (fun hg => OpQ.g (q_lenS Tryd.underlying9 rfl)) ?_
    refine .guardG (b := decide ((v0s.length : Int) ≥ 1)) (x := .d (cB (decide ((v0s.length : Int) ≤ 15)))) (env' := [(20, _)]) rfl rfl rfl ⟨.inr (.inl rfl), trivial⟩ rfl (fun hg => OpQ.g (q_leq rfl rfl)) ?_
    refine .q (x := .d (cB ((decide ((v0s.length : Int) ≥ 1)) && (decide ((v0s.length : Int) ≤ 15))))) (q_pickAndB rfl rfl rfl) rfl ?_
    refine .q (x := .d (cB ((decide ((v0s.length : Int) ≥ 1)) && (decide ((v0s.length : Int) ≤ 15))))) (q_assign rfl) rfl ?_
    refine .nil ?_
    refine .retN [.tmp 2] [.d (cB ((decide ((v0s.length : Int) ≥ 1)) && (decide ((v0s.length : Int) ≤ 15))))] Tryd.func34 Tryd.results34 ⟨rfl, trivial⟩ ?_
    cases H
    exact ⟨_, .rfl' _, rfl⟩
  · intro hj1 hj1x
    obtain ⟨n1, H⟩ := loop_some H
    refine .loop (ι := Nat × (Int)) (fun p => [(0, .d (cS v0s)), (5, .d (cI (v0s.length : Int))), (6, .d (cI p.2))]) (fun p => ⟨[], []⟩) (fun p => iter (fun s => f_digits_Valid_l1 v0s s) p.1 p.2 = some r) (·.1) (n1, 0) H (.cons rfl (.rfl' _) (.cons rfl (.rfl' _) (.cons rfl (.rfl' _) (.nil)))) rfl ?_
    rintro ⟨m1, v6l1⟩ HI ih1
    obtain ⟨n1, q1, hm1, H, HK1⟩ := iter_succ HI
    clear HI
    replace H : f_digits_Valid_l1 v0s v6l1 = some q1 := H
    unfold f_digits_Valid_l1 at H
    change ARun _ _ _ _ _ _ [(0, .d (cS v0s)), (5, .d (cI (v0s.length : Int))), (6, .d (cI v6l1))] ⟨[], []⟩
    refine .seq ?_
    refine .region ?_
    refine .q (x := .d (cB (decide (v6l1 < (v0s.length : Int))))) (q_lss rfl rfl) rfl ?_
    refine .nil ?_
    refine .seq ?_
    refine .cond rfl (fun hc => ?_) (fun hc => ?_)
    · replace H := ifT hc H; clear hc
      refine .skip ?_
      refine .seq ?_
      refine .block ?_
      refine .seq ?_
      refine .region ?_
      refine .q (x := .d (cI v6l1)) (q_move rfl) rfl ?_
      refine .q (x := .d (cI v6l1)) (q_assign rfl) rfl ?_
      refine .nil ?_
      refine .seq ?_
      refine .region ?_
      refine .q (x := .d (cS v0s)) (q_move rfl) rfl ?_
      refine .q (x := .d (cI v6l1)) (q_move rfl) rfl ?_
      obtain ⟨hk1, H⟩ := ck_some H
      refine .q (x := .d (cU8 (nth v0s (Int.toNat (v6l1))))) (q_indexL (i := v6l1) Tryd.underlying9 rfl rfl hk1) rfl ?_
      obtain ⟨y1, hy1, H⟩ := bind_some' H
      refine .g (x := .d (cB y1)) (g_call en_47 rfl rfl (c_f_digits_digit (hy1))) rfl ?_
      refine .q (x := .d (cB (!y1))) (q_not rfl) rfl ?_
      refine .nil ?_
      refine .cond rfl (fun hc => ?_) (fun hc => ?_)
      · replace H := ifT hc H; clear hc
        refine .seq ?_
        refine .region ?_
        refine .q (x := .d (cB false)) (q_assign rfl) rfl ?_
        refine .nil ?_
        refine .retN [.tmp 2] [.d (cB false)] Tryd.func34 Tryd.results34 ⟨rfl, trivial⟩ ?_
        cases H
        cases HK1
        exact ⟨_, .rfl' _, rfl⟩
      · replace H := ifF hc H; clear hc
        refine .skip ?_
        refine .inBlock ?_
        refine .region ?_
        obtain ⟨hk2, H⟩ := ck_some H
        refine .q (x := .d (cI (v6l1 + 1))) (q_addI rfl rfl hk2.1 hk2.2) rfl ?_
        refine .q (x := .d (cI (v6l1 + 1))) (q_move rfl) rfl ?_
        refine .nil ?_
        cases H
        exact .sub (.cons rfl (.rfl' _) (.cons rfl (.rfl' _) (.cons rfl (.rfl' _) (.nil)))) (ih1 (n1, (v6l1 + 1)) HK1 hm1)
    · replace H := ifF hc H; clear hc
      refine .exit rfl ?_
      obtain ⟨q0, H9, hq0⟩ := map_some' H; clear H; cases hq0
      cases HK1
      have H := H9
      exact .sub (.cons rfl (.rfl' _) (.nil)) (hj1x () H)

set_option maxRecDepth 100000 in
set_option maxHeartbeats 1000000 in
theorem c_f_textual_check {v0 : Record} {r : Int} (H : f_textual_check v0 = some r) : ACall Tryd.prog 20 [.agg (Record.row v0)] (· = cI r) := by
  refine ACall.enter' Tryd.func20 rfl Tryd.ntmps20 rfl fun S hS => ?_
  unfold f_textual_check at H
  change ARun _ _ _ _ _ _ [(0, .d (.agg (Record.row v0)))] _
  refine .seq ?_
  refine .region ?_
  refine .v (x := .ref 0 0) (v_box rfl rfl) rfl ?_
  refine .withSt (st' := ⟨[.row 23 [.d (cI v0.source), .d (cI v0.serial), .d (cI v0.kind), .d (cS v0.a), .d (cS v0.b), .d (cI v0.start), .d (cI v0.units), .d (cI v0.call), .d (cI v0.part), .d (cB v0.last), .d (cI v0.trunk), .d (cB v0.inbound)]], []⟩) rfl ?_
  refine .q (x := .d (cI 0)) (q_assign rfl) rfl ?_
  refine .nil ?_
  refine .seq ?_
  refine .region ?_
  refine .q (x := .ref 0 2) (q_fieldRef fo_23_2 rfl) rfl ?_
  refine .q (x := .d (cI v0.kind)) (q_loadO one_3 rfl rfl rfl) rfl ?_
  refine .q (x := .d (cB (v0.kind == 3))) (q_eql rfl rfl) rfl ?_
  refine .q (x := .d (cB (v0.kind == 3))) (q_move rfl) rfl ?_
  refine .guardG (b := (!(v0.kind == 3))) (x := .ref 0 2) (env' := [(1, _)]) rfl rfl rfl ⟨.inl rfl, trivial⟩ rfl (fun hg => OpQ.g (q_fieldRef fo_23_2 rfl)) ?_
  refine .guardG (b := (!(v0.kind == 3))) (x := .d (cI v0.kind)) (env' := [(9, _)]) rfl rfl rfl ⟨.inr (.inl rfl), trivial⟩ rfl (fun hg => OpQ.g (q_loadO one_3 rfl rfl rfl)) ?_
  refine .guardG (b := (!(v0.kind == 3))) (x := .d (cB (v0.kind == 4))) (env' := [(10, _)]) rfl rfl rfl ⟨.inr (.inl rfl), trivial⟩ rfl (fun hg => OpQ.g (q_eql rfl rfl)) ?_
  refine .q (x := .d (cB ((v0.kind == 3) || (v0.kind == 4)))) (q_pickOrB rfl rfl rfl) rfl ?_
  refine .q (x := .d (cB ((v0.kind == 3) || (v0.kind == 4)))) (q_assign rfl) rfl ?_
  refine .nil ?_
  refine .seq ?_
  refine .region ?_
  refine .q (x := .d (cI 1099511627776)) (q_assign rfl) rfl ?_
  refine .nil ?_
  refine .seqJoin (ι := Int) (fun s => [(1, .ref 0 0), (3, .d (cB ((v0.kind == 3) || (v0.kind == 4)))), (4, .d (cI s))]) (fun s => ⟨[.row 23 [.d (cI v0.source), .d (cI v0.serial), .d (cI v0.kind), .d (cS v0.a), .d (cS v0.b), .d (cI v0.start), .d (cI v0.units), .d (cI v0.call), .d (cI v0.part), .d (cB v0.last), .d (cI v0.trunk), .d (cB v0.inbound)]], []⟩) (fun s => f_textual_check_j1 v0 s = some r) ?_ ?_
  · rintro v4j1 H
    replace H : f_textual_check_j1 v0 v4j1 = some r := H
    unfold f_textual_check_j1 at H
    change ARun _ _ _ _ _ _ [(1, .ref 0 0), (3, .d (cB ((v0.kind == 3) || (v0.kind == 4)))), (4, .d (cI v4j1))] ⟨[.row 23 [.d (cI v0.source), .d (cI v0.serial), .d (cI v0.kind), .d (cS v0.a), .d (cS v0.b), .d (cI v0.start), .d (cI v0.units), .d (cI v0.call), .d (cI v0.part), .d (cB v0.last), .d (cI v0.trunk), .d (cB v0.inbound)]], []⟩
    refine .seq ?_
    refine .block ?_
    refine .seq ?_
    refine .region ?_
    refine .q (x := .ref 0 0) (q_fieldRef fo_23_0 rfl) rfl ?_
    refine .q (x := .d (cI v0.source)) (q_loadO one_3 rfl rfl rfl) rfl ?_
    obtain ⟨y1, hy1, H⟩ := bind_some' H
    refine .g (x := .d (cB y1)) (g_call en_33 rfl rfl (c_f_textual_within (hy1))) rfl ?_
    refine .q (x := .d (cB (!y1))) (q_not rfl) rfl ?_
    refine .q (x := .d (cB (!y1))) (q_move rfl) rfl ?_
    refine .guardG (b := (!(!y1))) (x := .ref 0 1) (env' := [(1, _)]) rfl rfl rfl ⟨.inl rfl, trivial⟩ rfl (fun hg => OpQ.g (q_fieldRef fo_23_1 rfl)) ?_
    refine .guardG (b := (!(!y1))) (x := .d (cI v0.serial)) (env' := [(22, _)]) rfl rfl rfl ⟨.inr (.inl rfl), trivial⟩ rfl (fun hg => OpQ.g (q_loadO one_3 rfl rfl rfl)) ?_
    obtain ⟨y2, hy2, H⟩ := bind_some' H
    refine .guardG (b := (!(!y1))) (x := .d (cB y2)) (env' := [(23, _)]) rfl rfl rfl ⟨.inr (.inl rfl), trivial⟩ rfl (fun hg => (g_call en_33 rfl rfl (c_f_textual_within (gcall_some hy2 hg)))) ?_
    refine .guardG (b := (!(!y1))) (x := .d (cB (!y2))) (env' := [(24, _)]) rfl rfl rfl ⟨.inr (.inl rfl), trivial⟩ rfl (fun hg => OpQ.g (q_not rfl)) ?_
    refine .q (x := .d (cB ((!y1) || (!y2)))) (q_pickOrB rfl rfl rfl) rfl ?_
    refine .q (x := .d (cB ((!y1) || (!y2)))) (q_assign rfl) rfl ?_
    refine .nil ?_
    refine .cond rfl (fun hc => ?_) (fun hc => ?_)
    · replace H := ifT hc H; clear hc
      refine .seq ?_
      refine .region ?_
      refine .q (x := .d (cI 6)) (q_assign rfl) rfl ?_
      refine .nil ?_
      refine .retN [.tmp 2] [.d (cI 6)] Tryd.func20 Tryd.results20 ⟨rfl, trivial⟩ ?_
      cases H
      exact ⟨_, .rfl' _, rfl⟩
    · replace H := ifF hc H; clear hc
      refine .seq ?_
      refine .region ?_
      refine .q (x := .ref 0 2) (q_fieldRef fo_23_2 rfl) rfl ?_
      refine .q (x := .d (cI v0.kind)) (q_loadO one_3 rfl rfl rfl) rfl ?_
      obtain ⟨y3, hy3, H⟩ := bind_some' H
      refine .g (x := .d (cB y3)) (g_call en_33 rfl rfl (c_f_textual_within (hy3))) rfl ?_
      refine .q (x := .d (cB (!y3))) (q_not rfl) rfl ?_
      refine .q (x := .d (cB (!y3))) (q_assign rfl) rfl ?_
      refine .nil ?_
      refine .cond rfl (fun hc => ?_) (fun hc => ?_)
      · replace H := ifT hc H; clear hc
        refine .seq ?_
        refine .region ?_
        refine .q (x := .d (cI 7)) (q_assign rfl) rfl ?_
        refine .nil ?_
        refine .retN [.tmp 2] [.d (cI 7)] Tryd.func20 Tryd.results20 ⟨rfl, trivial⟩ ?_
        cases H
        exact ⟨_, .rfl' _, rfl⟩
      · replace H := ifF hc H; clear hc
        refine .seq ?_
        refine .region ?_
        refine .q (x := .ref 0 3) (q_fieldRef fo_23_3 rfl) rfl ?_
        refine .q (x := .d (cS v0.a)) (q_loadO one_9 rfl rfl rfl) rfl ?_
        obtain ⟨y4, hy4, H⟩ := bind_some' H
        refine .g (x := .d (cB y4)) (g_call en_34 rfl rfl (c_f_digits_Valid (hy4))) rfl ?_
        refine .q (x := .d (cB (!y4))) (q_not rfl) rfl ?_
        refine .q (x := .d (cB (!y4))) (q_move rfl) rfl ?_
        refine .guardG (b := (!(!y4))) (x := .ref 0 4) (env' := [(1, _)]) rfl rfl rfl ⟨.inl rfl, trivial⟩ rfl (fun hg => OpQ.g (q_fieldRef fo_23_4 rfl)) ?_
        refine .guardG (b := (!(!y4))) (x := .d (cS v0.b)) (env' := [(38, _)]) rfl rfl rfl ⟨.inr (.inl rfl), trivial⟩ rfl (fun hg => OpQ.g (q_loadO one_9 rfl rfl rfl)) ?_
        obtain ⟨y5, hy5, H⟩ := bind_some' H
        refine .guardG (b := (!(!y4))) (x := .d (cB y5)) (env' := [(39, _)]) rfl rfl rfl ⟨.inr (.inl rfl), trivial⟩ rfl (fun hg => (g_call en_34 rfl rfl (c_f_digits_Valid (gcall_some hy5 hg)))) ?_
        refine .guardG (b := (!(!y4))) (x := .d (cB (!y5))) (env' := [(40, _)]) rfl rfl rfl ⟨.inr (.inl rfl), trivial⟩ rfl (fun hg => OpQ.g (q_not rfl)) ?_
        refine .guardG (b := (!(!y4))) (x := .d (cB (!y5))) (env' := [(41, _)]) rfl rfl rfl ⟨.inr (.inl rfl), trivial⟩ rfl (fun hg => OpQ.g (q_move rfl)) ?_
        refine .guardG (b := ((!(!y4)) && (!y5))) (x := .d (cB ((v0.kind == 3) || (v0.kind == 4)))) (env' := [(3, _)]) rfl rfl rfl ⟨.inl rfl, trivial⟩ rfl (fun hg => OpQ.g (q_move rfl)) ?_
        refine .guardG (b := ((!(!y4)) && (!y5))) (x := .d (cB ((v0.kind == 3) || (v0.kind == 4)))) (env' := [(43, _)]) rfl rfl rfl ⟨.inr (.inl rfl), trivial⟩ rfl (fun hg => OpQ.g (q_move rfl)) ?_
        refine .guardG (b := (((!(!y4)) && (!y5)) && ((v0.kind == 3) || (v0.kind == 4)))) (x := .ref 0 4) (env' := [(1, _)]) rfl rfl rfl ⟨.inl rfl, trivial⟩ rfl (fun hg => OpQ.g (q_fieldRef fo_23_4 rfl)) ?_
        refine .guardG (b := (((!(!y4)) && (!y5)) && ((v0.kind == 3) || (v0.kind == 4)))) (x := .d (cS v0.b)) (env' := [(45, _)]) rfl rfl rfl ⟨.inr (.inl rfl), trivial⟩ rfl (fun hg => OpQ.g (q_loadO one_9 rfl rfl rfl)) ?_
        refine .guardG (b := (((!(!y4)) && (!y5)) && ((v0.kind == 3) || (v0.kind == 4)))) (x := .d (cB (v0.b == ([] : List UInt8)))) (env' := [(46, _)]) rfl rfl rfl ⟨.inr (.inl rfl), trivial⟩ rfl (fun hg => OpQ.g (q_seql rfl rfl)) ?_
        refine .guardG (b := ((!(!y4)) && (!y5))) (x := .d (cB (((v0.kind == 3) || (v0.kind == 4)) && (v0.b == ([] : List UInt8))))) (env' := [(44, _), (47, _)]) rfl rfl rfl ⟨.inr (.inl rfl), ⟨.inr (.inr ⟨_, _, rfl, rfl⟩), trivial⟩⟩ rfl (fun hg => OpQ.g (q_pickAndB rfl rfl rfl)) ?_
        refine .guardG (b := ((!(!y4)) && (!y5))) (x := .d (cB (!(((v0.kind == 3) || (v0.kind == 4)) && (v0.b == ([] : List UInt8)))))) (env' := [(48, _)]) rfl rfl rfl ⟨.inr (.inl rfl), trivial⟩ rfl (fun hg => OpQ.g (q_not rfl)) ?_
        refine .guardG (b := (!(!y4))) (x := .d (cB ((!y5) && (!(((v0.kind == 3) || (v0.kind == 4)) && (v0.b == ([] : List UInt8))))))) (env' := [(42, _), (49, _)]) rfl rfl rfl ⟨.inr (.inl rfl), ⟨.inr (.inr ⟨_, _, rfl, rfl⟩), trivial⟩⟩ rfl (fun hg => OpQ.g (q_pickAndB rfl rfl rfl)) ?_
        refine .q (x := .d (cB ((!y4) || ((!y5) && (!(((v0.kind == 3) || (v0.kind == 4)) && (v0.b == ([] : List UInt8)))))))) (q_pickOrB rfl rfl rfl) rfl ?_
        refine .q (x := .d (cB ((!y4) || ((!y5) && (!(((v0.kind == 3) || (v0.kind == 4)) && (v0.b == ([] : List UInt8)))))))) (q_assign rfl) rfl ?_
        refine .nil ?_
        refine .cond rfl (fun hc => ?_) (fun hc => ?_)
        · replace H := ifT hc H; clear hc
          refine .seq ?_
          refine .region ?_
          refine .q (x := .d (cI 12)) (q_assign rfl) rfl ?_
          refine .nil ?_
          refine .retN [.tmp 2] [.d (cI 12)] Tryd.func20 Tryd.results20 ⟨rfl, trivial⟩ ?_
          cases H
          exact ⟨_, .rfl' _, rfl⟩
        · replace H := ifF hc H; clear hc
          refine .seq ?_
          refine .region ?_
          refine .q (x := .ref 0 5) (q_fieldRef fo_23_5 rfl) rfl ?_
          refine .q (x := .d (cI v0.start)) (q_loadO one_3 rfl rfl rfl) rfl ?_
          obtain ⟨y6, hy6, H⟩ := bind_some' H
          refine .g (x := .d (cB y6)) (g_call en_33 rfl rfl (c_f_textual_within (hy6))) rfl ?_
          refine .q (x := .d (cB (!y6))) (q_not rfl) rfl ?_
          refine .q (x := .d (cB (!y6))) (q_assign rfl) rfl ?_
          refine .nil ?_
          refine .cond rfl (fun hc => ?_) (fun hc => ?_)
          · replace H := ifT hc H; clear hc
            refine .seq ?_
            refine .region ?_
            refine .q (x := .d (cI 15)) (q_assign rfl) rfl ?_
            refine .nil ?_
            refine .retN [.tmp 2] [.d (cI 15)] Tryd.func20 Tryd.results20 ⟨rfl, trivial⟩ ?_
            cases H
            exact ⟨_, .rfl' _, rfl⟩
          · replace H := ifF hc H; clear hc
            refine .seq ?_
            refine .region ?_
            refine .q (x := .ref 0 6) (q_fieldRef fo_23_6 rfl) rfl ?_
            refine .q (x := .d (cI v0.units)) (q_loadO one_3 rfl rfl rfl) rfl ?_
            refine .q (x := .d (cI v4j1)) (q_move rfl) rfl ?_
            obtain ⟨y7, hy7, H⟩ := bind_some' H
            refine .g (x := .d (cB y7)) (g_call en_33 rfl rfl (c_f_textual_within (hy7))) rfl ?_
            refine .q (x := .d (cB (!y7))) (q_not rfl) rfl ?_
            refine .q (x := .d (cB (!y7))) (q_assign rfl) rfl ?_
            refine .nil ?_
            refine .cond rfl (fun hc => ?_) (fun hc => ?_)
            · replace H := ifT hc H; clear hc
              refine .seq ?_
              refine .region ?_
              refine .q (x := .d (cI 6)) (q_assign rfl) rfl ?_
              refine .nil ?_
              refine .retN [.tmp 2] [.d (cI 6)] Tryd.func20 Tryd.results20 ⟨rfl, trivial⟩ ?_
              cases H
              exact ⟨_, .rfl' _, rfl⟩
            · replace H := ifF hc H; clear hc
              refine .seq ?_
              refine .region ?_
              refine .q (x := .ref 0 2) (q_fieldRef fo_23_2 rfl) rfl ?_
              refine .q (x := .d (cI v0.kind)) (q_loadO one_3 rfl rfl rfl) rfl ?_
              refine .q (x := .d (cB (v0.kind == 1))) (q_eql rfl rfl) rfl ?_
              refine .q (x := .d (cB (v0.kind == 1))) (q_move rfl) rfl ?_
              refine .guardG (b := (v0.kind == 1)) (x := .ref 0 5) (env' := [(1, _)]) rfl rfl rfl ⟨.inl rfl, trivial⟩ rfl (fun hg => OpQ.g (q_fieldRef fo_23_5 rfl)) ?_
              refine .guardG (b := (v0.kind == 1)) (x := .d (cI v0.start)) (env' := [(68, _)]) rfl rfl rfl ⟨.inr (.inl rfl), trivial⟩ rfl (fun hg => OpQ.g (q_loadO one_3 rfl rfl rfl)) ?_
              refine .guardG (b := (v0.kind == 1)) (x := .ref 0 6) (env' := [(1, _)]) rfl rfl rfl ⟨.inl rfl, trivial⟩ rfl (fun hg => OpQ.g (q_fieldRef fo_23_6 rfl)) ?_
              refine .guardG (b := (v0.kind == 1)) (x := .d (cI v0.units)) (env' := [(70, _)]) rfl rfl rfl ⟨.inr (.inl rfl), trivial⟩ rfl (fun hg => OpQ.g (q_loadO one_3 rfl rfl rfl)) ?_
              obtain ⟨hk1, H⟩ := ck_some H
              refine .guardG (b := (v0.kind == 1)) (x := .d (cI (v0.start + v0.units))) (env' := [(69, _), (71, _)]) rfl rfl rfl ⟨.inr (.inl rfl), ⟨.inr (.inl rfl), trivial⟩⟩ rfl (fun hg => OpQ.g (q_addI rfl rfl (hk1 hg).1 (hk1 hg).2)) ?_
              refine .guardG (b := (v0.kind == 1)) (x := .d (cB (decide ((v0.start + v0.units) > 12622780800)))) (env' := [(72, _)]) rfl rfl rfl ⟨.inr (.inl rfl), trivial⟩ rfl (fun hg => OpQ.g (q_gtr rfl rfl)) ?_
              refine .q (x := .d (cB ((v0.kind == 1) && (decide ((v0.start + v0.units) > 12622780800))))) (q_pickAndB rfl rfl rfl) rfl ?_
              refine .q (x := .d (cB ((v0.kind == 1) && (decide ((v0.start + v0.units) > 12622780800))))) (q_assign rfl) rfl ?_
              refine .nil ?_
              refine .cond rfl (fun hc => ?_) (fun hc => ?_)
              · replace H := ifT hc H; clear hc
                refine .seq ?_
                refine .region ?_
                refine .q (x := .d (cI 15)) (q_assign rfl) rfl ?_
                refine .nil ?_
                refine .retN [.tmp 2] [.d (cI 15)] Tryd.func20 Tryd.results20 ⟨rfl, trivial⟩ ?_
                cases H
                exact ⟨_, .rfl' _, rfl⟩
              · replace H := ifF hc H; clear hc
                refine .seq ?_
                refine .region ?_
                refine .q (x := .ref 0 7) (q_fieldRef fo_23_7 rfl) rfl ?_
                refine .q (x := .d (cI v0.call)) (q_loadO one_3 rfl rfl rfl) rfl ?_
                obtain ⟨y8, hy8, H⟩ := bind_some' H
                refine .g (x := .d (cB y8)) (g_call en_33 rfl rfl (c_f_textual_within (hy8))) rfl ?_
                refine .q (x := .d (cB (!y8))) (q_not rfl) rfl ?_
                refine .q (x := .d (cB (!y8))) (q_move rfl) rfl ?_
                refine .guardG (b := (!(!y8))) (x := .ref 0 8) (env' := [(1, _)]) rfl rfl rfl ⟨.inl rfl, trivial⟩ rfl (fun hg => OpQ.g (q_fieldRef fo_23_8 rfl)) ?_
                refine .guardG (b := (!(!y8))) (x := .d (cI v0.part)) (env' := [(81, _)]) rfl rfl rfl ⟨.inr (.inl rfl), trivial⟩ rfl (fun hg => OpQ.g (q_loadO one_3 rfl rfl rfl)) ?_
                obtain ⟨y9, hy9, H⟩ := bind_some' H
                refine .guardG (b := (!(!y8))) (x := .d (cB y9)) (env' := [(82, _)]) rfl rfl rfl ⟨.inr (.inl rfl), trivial⟩ rfl (fun hg => (g_call en_33 rfl rfl (c_f_textual_within (gcall_some hy9 hg)))) ?_
                refine .guardG (b := (!(!y8))) (x := .d (cB (!y9))) (env' := [(83, _)]) rfl rfl rfl ⟨.inr (.inl rfl), trivial⟩ rfl (fun hg => OpQ.g (q_not rfl)) ?_
                refine .q (x := .d (cB ((!y8) || (!y9)))) (q_pickOrB rfl rfl rfl) rfl ?_
                refine .q (x := .d (cB ((!y8) || (!y9)))) (q_assign rfl) rfl ?_
                refine .nil ?_
                refine .cond rfl (fun hc => ?_) (fun hc => ?_)
                · replace H := ifT hc H; clear hc
                  refine .seq ?_
                  refine .region ?_
                  refine .q (x := .d (cI 6)) (q_assign rfl) rfl ?_
                  refine .nil ?_
                  refine .retN [.tmp 2] [.d (cI 6)] Tryd.func20 Tryd.results20 ⟨rfl, trivial⟩ ?_
                  cases H
                  exact ⟨_, .rfl' _, rfl⟩
                · replace H := ifF hc H; clear hc
                  refine .seq ?_
                  refine .region ?_
                  refine .q (x := .ref 0 8) (q_fieldRef fo_23_8 rfl) rfl ?_
                  refine .q (x := .d (cI v0.part)) (q_loadO one_3 rfl rfl rfl) rfl ?_
                  refine .q (x := .d (cB (v0.part == 0))) (q_eql rfl rfl) rfl ?_
                  refine .q (x := .ref 0 7) (q_fieldRef fo_23_7 rfl) rfl ?_
                  refine .q (x := .d (cI v0.call)) (q_loadO one_3 rfl rfl rfl) rfl ?_
                  refine .q (x := .d (cB (v0.call == 0))) (q_eql rfl rfl) rfl ?_
                  refine .q (x := .d (cB ((v0.part == 0) != (v0.call == 0)))) (q_bneq rfl Tryd.underlying4 rfl) rfl ?_
                  refine .q (x := .d (cB ((v0.part == 0) != (v0.call == 0)))) (q_move rfl) rfl ?_
                  refine .guardG (b := (!((v0.part == 0) != (v0.call == 0)))) (x := .ref 0 9) (env' := [(1, _)]) rfl rfl rfl ⟨.inl rfl, trivial⟩ rfl (fun hg => OpQ.g (q_fieldRef fo_23_9 rfl)) ?_
                  refine .guardG (b := (!((v0.part == 0) != (v0.call == 0)))) (x := .d (cB v0.last)) (env' := [(95, _)]) rfl rfl rfl ⟨.inr (.inl rfl), trivial⟩ rfl (fun hg => OpQ.g (q_loadO one_4 rfl rfl rfl)) ?_
                  refine .guardG (b := (!((v0.part == 0) != (v0.call == 0)))) (x := .d (cB v0.last)) (env' := [(96, _)]) rfl rfl rfl ⟨.inr (.inl rfl), trivial⟩ rfl (fun hg => OpQ.g (q_move rfl)) ?_
                  refine .guardG (b := ((!((v0.part == 0) != (v0.call == 0))) && v0.last)) (x := .ref 0 8) (env' := [(1, _)]) rfl rfl rfl ⟨.inl rfl, trivial⟩ rfl (fun hg => OpQ.g (q_fieldRef fo_23_8 rfl)) ?_
                  refine .guardG (b := ((!((v0.part == 0) != (v0.call == 0))) && v0.last)) (x := .d (cI v0.part)) (env' := [(98, _)]) rfl rfl rfl ⟨.inr (.inl rfl), trivial⟩ rfl (fun hg => OpQ.g (q_loadO one_3 rfl rfl rfl)) ?_
                  refine .guardG (b := ((!((v0.part == 0) != (v0.call == 0))) && v0.last)) (x := .d (cB (v0.part == 0))) (env' := [(99, _)]) rfl rfl rfl ⟨.inr (.inl rfl), trivial⟩ rfl (fun hg => OpQ.g (q_eql rfl rfl)) ?_
                  refine .guardG (b := (!((v0.part == 0) != (v0.call == 0)))) (x := .d (cB (v0.last && (v0.part == 0)))) (env' := [(97, _), (100, _)]) rfl rfl rfl ⟨.inr (.inl rfl), ⟨.inr (.inr ⟨_, _, rfl, rfl⟩), trivial⟩⟩ rfl (fun hg => OpQ.g (q_pickAndB rfl rfl rfl)) ?_
                  refine .q (x := .d (cB (((v0.part == 0) != (v0.call == 0)) || (v0.last && (v0.part == 0))))) (q_pickOrB rfl rfl rfl) rfl ?_
                  refine .q (x := .d (cB (((v0.part == 0) != (v0.call == 0)) || (v0.last && (v0.part == 0))))) (q_assign rfl) rfl ?_
                  refine .nil ?_
                  refine .cond rfl (fun hc => ?_) (fun hc => ?_)
                  · replace H := ifT hc H; clear hc
                    refine .seq ?_
                    refine .region ?_
                    refine .q (x := .d (cI 8)) (q_assign rfl) rfl ?_
                    refine .nil ?_
                    refine .retN [.tmp 2] [.d (cI 8)] Tryd.func20 Tryd.results20 ⟨rfl, trivial⟩ ?_
                    cases H
                    exact ⟨_, .rfl' _, rfl⟩
                  · replace H := ifF hc H; clear hc
                    refine .seq ?_
                    refine .region ?_
                    refine .q (x := .ref 0 10) (q_fieldRef fo_23_10 rfl) rfl ?_
                    refine .q (x := .d (cI v0.trunk)) (q_loadO one_3 rfl rfl rfl) rfl ?_
                    obtain ⟨y10, hy10, H⟩ := bind_some' H
                    refine .g (x := .d (cB y10)) (g_call en_33 rfl rfl (c_f_textual_within (hy10))) rfl ?_
                    refine .q (x := .d (cB (!y10))) (q_not rfl) rfl ?_
                    refine .q (x := .d (cB (!y10))) (q_assign rfl) rfl ?_
                    refine .nil ?_
                    refine .cond rfl (fun hc => ?_) (fun hc => ?_)
                    · replace H := ifT hc H; clear hc
                      refine .seq ?_
                      refine .region ?_
                      refine .q (x := .d (cI 6)) (q_assign rfl) rfl ?_
                      refine .nil ?_
                      refine .retN [.tmp 2] [.d (cI 6)] Tryd.func20 Tryd.results20 ⟨rfl, trivial⟩ ?_
                      cases H
                      exact ⟨_, .rfl' _, rfl⟩
                    · replace H := ifF hc H; clear hc
                      refine .seq ?_
                      refine .region ?_
                      refine .q (x := .ref 0 11) (q_fieldRef fo_23_11 rfl) rfl ?_
                      refine .q (x := .d (cB v0.inbound)) (q_loadO one_4 rfl rfl rfl) rfl ?_
                      refine .q (x := .d (cB v0.inbound)) (q_move rfl) rfl ?_
                      refine .guardG (b := v0.inbound) (x := .ref 0 10) (env' := [(1, _)]) rfl rfl rfl ⟨.inl rfl, trivial⟩ rfl (fun hg => OpQ.g (q_fieldRef fo_23_10 rfl)) ?_
                      refine .guardG (b := v0.inbound) (x := .d (cI v0.trunk)) (env' := [(112, _)]) rfl rfl rfl ⟨.inr (.inl rfl), trivial⟩ rfl (fun hg => OpQ.g (q_loadO one_3 rfl rfl rfl)) ?_
                      refine .guardG (b := v0.inbound) (x := .d (cB (v0.trunk == 0))) (env' := [(113, _)]) rfl rfl rfl ⟨.inr (.inl rfl), trivial⟩ rfl (fun hg => OpQ.g (q_eql rfl rfl)) ?_
                      refine .q (x := .d (cB (v0.inbound && (v0.trunk == 0)))) (q_pickAndB rfl rfl rfl) rfl ?_
                      refine .q (x := .d (cB (v0.inbound && (v0.trunk == 0)))) (q_assign rfl) rfl ?_
                      refine .nil ?_
                      refine .cond rfl (fun hc => ?_) (fun hc => ?_)
                      · replace H := ifT hc H; clear hc
                        refine .seq ?_
                        refine .region ?_
                        refine .q (x := .d (cI 8)) (q_assign rfl) rfl ?_
                        refine .nil ?_
                        refine .retN [.tmp 2] [.d (cI 8)] Tryd.func20 Tryd.results20 ⟨rfl, trivial⟩ ?_
                        cases H
                        exact ⟨_, .rfl' _, rfl⟩
                      · replace H := ifF hc H; clear hc
                        refine .skip ?_
                        refine .inBlock ?_
                        refine .seq ?_
                        refine .region ?_
                        refine .q (x := .d (cI 0)) (q_assign rfl) rfl ?_
                        refine .nil ?_
                        refine .retN [.tmp 2] [.d (cI 0)] Tryd.func20 Tryd.results20 ⟨rfl, trivial⟩ ?_
                        cases H
                        exact ⟨_, .rfl' _, rfl⟩
  · intro hj1
    refine .seq ?_
    refine .region ?_
    refine .q (x := .ref 0 2) (q_fieldRef fo_23_2 rfl) rfl ?_
    refine .q (x := .d (cI v0.kind)) (q_loadO one_3 rfl rfl rfl) rfl ?_
    refine .q (x := .d (cB (v0.kind == 1))) (q_eql rfl rfl) rfl ?_
    refine .nil ?_
    refine .cond rfl (fun hc => ?_) (fun hc => ?_)
    · replace H := ifT hc H; clear hc
      refine .region ?_
      refine .q (x := .d (cI 604800)) (q_assign rfl) rfl ?_
      refine .nil ?_
      exact .sub (.cons rfl (.rfl' _) (.cons rfl (.rfl' _) (.cons rfl (.rfl' _) (.nil)))) (hj1 604800 H)
    · replace H := ifF hc H; clear hc
      refine .skip ?_
      exact .sub (.cons rfl (.rfl' _) (.cons rfl (.rfl' _) (.cons rfl (.rfl' _) (.nil)))) (hj1 1099511627776 H)

set_option maxRecDepth 100000 in
set_option maxHeartbeats 1000000 in
theorem c_f_textual_Encode {v0 : Record} {r : (List UInt8) × Int} (H : f_textual_Encode v0 = some r) : ACall Tryd.prog 10 [.agg (Record.row v0)] (· = .tup [cS r.1, cI r.2]) := by
  obtain ⟨i9, hi9, hz9, hs9, hb9⟩ := in_9
  refine ACall.enter' Tryd.func10 rfl Tryd.ntmps10 rfl fun S hS => ?_
  unfold f_textual_Encode at H
  change ARun _ _ _ _ _ _ [(0, .d (.agg (Record.row v0)))] _
  refine .seq ?_
  refine .region ?_
  refine .v (x := .ref 0 0) (v_box rfl rfl) rfl ?_
  refine .withSt (st' := ⟨[.row 23 [.d (cI v0.source), .d (cI v0.serial), .d (cI v0.kind), .d (cS v0.a), .d (cS v0.b), .d (cI v0.start), .d (cI v0.units), .d (cI v0.call), .d (cI v0.part), .d (cB v0.last), .d (cI v0.trunk), .d (cB v0.inbound)]], []⟩) rfl ?_
  refine .q (x := .d (cS ([] : List UInt8))) (q_assign rfl) rfl ?_
  refine .q (x := .d (cI 0)) (q_assign rfl) rfl ?_
  refine .nil ?_
  refine .seq ?_
  refine .seq ?_
  refine .region ?_
  refine .q (x := .d (.agg (Record.row v0))) (q_loadOA one_23 sz_23 rfl rfl (Nat.le_of_ble_eq_true rfl) rfl) rfl ?_
  obtain ⟨y1, hy1, H⟩ := bind_some' H
  refine .g (x := .d (cI y1)) (g_call en_20 rfl rfl (c_f_textual_check (hy1))) rfl ?_
  refine .q (x := .d (cI y1)) (q_assign rfl) rfl ?_
  refine .nil ?_
  refine .seq ?_
  refine .region ?_
  refine .q (x := .d (cI y1)) (q_move rfl) rfl ?_
  refine .q (x := .d (cB (y1 != 0))) (q_neq rfl rfl) rfl ?_
  refine .nil ?_
  refine .cond rfl (fun hc => ?_) (fun hc => ?_)
  · replace H := ifT hc H; clear hc
    refine .seq ?_
    refine .region ?_
    refine .q (x := .d (cI y1)) (q_move rfl) rfl ?_
    refine .q (x := .d (cS ([] : List UInt8))) (q_assign rfl) rfl ?_
    refine .q (x := .d (cI y1)) (q_assign rfl) rfl ?_
    refine .nil ?_
    refine .retN [.tmp 2, .tmp 3] [.d (cS ([] : List UInt8)), .d (cI y1)] Tryd.func10 Tryd.results10 ⟨rfl, rfl, trivial⟩ ?_
    cases H
    exact ⟨_, EVle.tupL (ds := [cS ([] : List UInt8), cI y1]) ⟨.rfl' _, .rfl' _, trivial⟩, rfl⟩
  · replace H := ifF hc H; clear hc
    refine .skip ?_
    refine .seq ?_
    refine .region ?_
    refine .q (x := .d (.ex (.func (.func 21) #[] #[]))) (q_assign rfl) rfl ?_
    refine .nil ?_
    refine .seq ?_
    refine .region ?_
    refine .q (x := .ref 0 4) (q_fieldRef fo_23_4 rfl) rfl ?_
    refine .q (x := .d (cS v0.b)) (q_loadO one_9 rfl rfl rfl) rfl ?_
    refine .q (x := .d (cS v0.b)) (q_assign rfl) rfl ?_
    refine .nil ?_
    refine .seqJoin (ι := List UInt8) (fun s => [(1, .ref 0 0), (5, .d (.ex (.func (.func 21) #[] #[]))), (6, .d (cS s))]) (fun s => ⟨[.row 23 [.d (cI v0.source), .d (cI v0.serial), .d (cI v0.kind), .d (cS v0.a), .d (cS v0.b), .d (cI v0.start), .d (cI v0.units), .d (cI v0.call), .d (cI v0.part), .d (cB v0.last), .d (cI v0.trunk), .d (cB v0.inbound)]], []⟩) (fun s => f_textual_Encode_j1 v0 s = some r) ?_ ?_
    · rintro v6j1 H
      replace H : f_textual_Encode_j1 v0 v6j1 = some r := H
      unfold f_textual_Encode_j1 at H
      change ARun _ _ _ _ _ _ [(1, .ref 0 0), (5, .d (.ex (.func (.func 21) #[] #[]))), (6, .d (cS v6j1))] ⟨[.row 23 [.d (cI v0.source), .d (cI v0.serial), .d (cI v0.kind), .d (cS v0.a), .d (cS v0.b), .d (cI v0.start), .d (cI v0.units), .d (cI v0.call), .d (cI v0.part), .d (cB v0.last), .d (cI v0.trunk), .d (cB v0.inbound)]], []⟩
      refine .seq ?_
      refine .drawn 25 hMix (by kernel_rfl) ?_
      show DOps _ _ _ _ _ _ _ (_ :: _) _ _ _
      refine .q (x := .ref 0 2) (q_fieldRef fo_23_2 rfl) rfl ?_
      refine .q (x := .d (cI v0.kind)) (q_loadO one_3 rfl rfl rfl) rfl ?_
      obtain ⟨hk1, H⟩ := ck_some H
      refine .q (x := .d (cI (v0.kind - 1))) (q_subI rfl rfl hk1.1 hk1.2) rfl ?_
      refine .q (x := .ref 0 2) (q_fieldRef fo_23_2 rfl) rfl ?_
      refine .q (x := .d (cI v0.kind)) (q_loadO one_3 rfl rfl rfl) rfl ?_
      obtain ⟨hk2, H⟩ := ck_some H
      refine .q (x := .d (cS ((([118, 116, 100, 99] : List UInt8).take (Int.toNat (v0.kind))).drop (Int.toNat (v0.kind - 1))))) (q_strLHL Tryd.underlying9 rfl rfl rfl hk2) rfl ?_
      refine .q (x := .d (.ex (.func (.func 21) #[] #[]))) (q_move rfl) rfl ?_
      refine .q (x := .ref 0 0) (q_fieldRef fo_23_0 rfl) rfl ?_
      refine .q (x := .d (cI v0.source)) (q_loadO one_3 rfl rfl rfl) rfl ?_
      obtain ⟨y2, hy2, H⟩ := bind_some' H
      refine .g (x := .d (cS y2)) (g_callF en_21 rfl rfl rfl (c_x_Itoa (hy2))) rfl ?_
      refine .q (x := .d (.ex (.func (.func 21) #[] #[]))) (q_move rfl) rfl ?_
      refine .q (x := .ref 0 1) (q_fieldRef fo_23_1 rfl) rfl ?_
      refine .q (x := .d (cI v0.serial)) (q_loadO one_3 rfl rfl rfl) rfl ?_
      obtain ⟨y3, hy3, H⟩ := bind_some' H
      refine .g (x := .d (cS y3)) (g_callF en_21 rfl rfl rfl (c_x_Itoa (hy3))) rfl ?_
      refine .q (x := .ref 0 3) (q_fieldRef fo_23_3 rfl) rfl ?_
      refine .q (x := .d (cS v0.a)) (q_loadO one_9 rfl rfl rfl) rfl ?_
      refine .q (x := .d (cS v6j1)) (q_move rfl) rfl ?_
      refine .q (x := .d (.ex (.func (.func 21) #[] #[]))) (q_move rfl) rfl ?_
      refine .q (x := .ref 0 5) (q_fieldRef fo_23_5 rfl) rfl ?_
      refine .q (x := .d (cI v0.start)) (q_loadO one_3 rfl rfl rfl) rfl ?_
      obtain ⟨y4, hy4, H⟩ := bind_some' H
      refine .g (x := .d (cS y4)) (g_callF en_21 rfl rfl rfl (c_x_Itoa (hy4))) rfl ?_
      refine .q (x := .d (.ex (.func (.func 21) #[] #[]))) (q_move rfl) rfl ?_
      refine .q (x := .ref 0 6) (q_fieldRef fo_23_6 rfl) rfl ?_
      refine .q (x := .d (cI v0.units)) (q_loadO one_3 rfl rfl rfl) rfl ?_
      obtain ⟨y5, hy5, H⟩ := bind_some' H
      refine .g (x := .d (cS y5)) (g_callF en_21 rfl rfl rfl (c_x_Itoa (hy5))) rfl ?_
      refine .nil ?_
      show AOps _ _ _ _ _ _ (_ :: _) _ _ _
      refine .v (x := .tsl 1 (([(([118, 116, 100, 99] : List UInt8).take (Int.toNat (v0.kind))).drop (Int.toNat (v0.kind - 1)), y2, y3, v0.a, v6j1, y4, y5] : List (List UInt8)).map rS) 0) (v_buildSliceT (n := 7) Tryd.underlying33 hi9 hs9 hz9 rfl rfl rfl rfl rfl) rfl ?_
      refine .withSt (st' := ⟨[.row 23 [.d (cI v0.source), .d (cI v0.serial), .d (cI v0.kind), .d (cS v0.a), .d (cS v0.b), .d (cI v0.start), .d (cI v0.units), .d (cI v0.call), .d (cI v0.part), .d (cB v0.last), .d (cI v0.trunk), .d (cB v0.inbound)]], [⟨9, 1, ([(([118, 116, 100, 99] : List UInt8).take (Int.toNat (v0.kind))).drop (Int.toNat (v0.kind - 1)), y2, y3, v0.a, v6j1, y4, y5] : List (List UInt8)).length⟩]⟩) rfl ?_
      refine .q (x := .tsl 1 (([(([118, 116, 100, 99] : List UInt8).take (Int.toNat (v0.kind))).drop (Int.toNat (v0.kind - 1)), y2, y3, v0.a, v6j1, y4, y5] : List (List UInt8)).map rS) 0) (q_assign rfl) rfl ?_
      refine .nil ?_
      refine .seqJoin (ι := List (List UInt8)) (fun s => [(1, .ref 0 0), (5, .d (.ex (.func (.func 21) #[] #[]))), (7, .tsl 1 (s.map rS) 0)]) (fun s => ⟨[.row 23 [.d (cI v0.source), .d (cI v0.serial), .d (cI v0.kind), .d (cS v0.a), .d (cS v0.b), .d (cI v0.start), .d (cI v0.units), .d (cI v0.call), .d (cI v0.part), .d (cB v0.last), .d (cI v0.trunk), .d (cB v0.inbound)]], [⟨9, 1, s.length⟩]⟩) (fun s => f_textual_Encode_j2 v0 s = some r) ?_ ?_
      · rintro v7j2 H
        replace H : f_textual_Encode_j2 v0 v7j2 = some r := H
        unfold f_textual_Encode_j2 at H
        change ARun _ _ _ _ _ _ [(1, .ref 0 0), (5, .d (.ex (.func (.func 21) #[] #[]))), (7, .tsl 1 (v7j2.map rS) 0)] ⟨[.row 23 [.d (cI v0.source), .d (cI v0.serial), .d (cI v0.kind), .d (cS v0.a), .d (cS v0.b), .d (cI v0.start), .d (cI v0.units), .d (cI v0.call), .d (cI v0.part), .d (cB v0.last), .d (cI v0.trunk), .d (cB v0.inbound)]], [⟨9, 1, v7j2.length⟩]⟩
        refine .seqJoin (ι := List (List UInt8)) (fun s => [(7, .tsl 1 (s.map rS) 0)]) (fun s => ⟨[.row 23 [.d (cI v0.source), .d (cI v0.serial), .d (cI v0.kind), .d (cS v0.a), .d (cS v0.b), .d (cI v0.start), .d (cI v0.units), .d (cI v0.call), .d (cI v0.part), .d (cB v0.last), .d (cI v0.trunk), .d (cB v0.inbound)]], [⟨9, 1, s.length⟩]⟩) (fun s => f_textual_Encode_j3 s = some r) ?_ ?_
        · rintro v7j3 H
          replace H : f_textual_Encode_j3 v7j3 = some r := H
          unfold f_textual_Encode_j3 at H
          change ARun _ _ _ _ _ _ [(7, .tsl 1 (v7j3.map rS) 0)] ⟨[.row 23 [.d (cI v0.source), .d (cI v0.serial), .d (cI v0.kind), .d (cS v0.a), .d (cS v0.b), .d (cI v0.start), .d (cI v0.units), .d (cI v0.call), .d (cI v0.part), .d (cB v0.last), .d (cI v0.trunk), .d (cB v0.inbound)]], [⟨9, 1, v7j3.length⟩]⟩
          refine .seq ?_
          refine .region ?_
          refine .q (x := .tsl 1 (v7j3.map rS) 0) (q_move rfl) rfl ?_
          obtain ⟨y6, hy6, H⟩ := bind_some' H
          refine .g (x := .d (cS y6)) (g_call en_22 rfl rfl (c_x_Join (hy6))) rfl ?_
          refine .q (x := .d (cS y6)) (q_assign rfl) rfl ?_
          refine .q (x := .d (cI 0)) (q_assign rfl) rfl ?_
          refine .nil ?_
          refine .retN [.tmp 2, .tmp 3] [.d (cS y6), .d (cI 0)] Tryd.func10 Tryd.results10 ⟨rfl, rfl, trivial⟩ ?_
          cases H
          exact ⟨_, EVle.tupL (ds := [cS y6, cI 0]) ⟨.rfl' _, .rfl' _, trivial⟩, rfl⟩
        · intro hj3
          refine .seq ?_
          refine .region ?_
          refine .q (x := .ref 0 10) (q_fieldRef fo_23_10 rfl) rfl ?_
          refine .q (x := .d (cI v0.trunk)) (q_loadO one_3 rfl rfl rfl) rfl ?_
          refine .q (x := .d (cB (v0.trunk != 0))) (q_neq rfl rfl) rfl ?_
          refine .nil ?_
          refine .cond rfl (fun hc => ?_) (fun hc => ?_)
          · replace H := ifT hc H; clear hc
            refine .seq ?_
            refine .region ?_
            refine .q (x := .d (cS ([111, 117, 116] : List UInt8))) (q_assign rfl) rfl ?_
            refine .nil ?_
            refine .seqJoin (ι := List UInt8) (fun s => [(1, .ref 0 0), (5, .d (.ex (.func (.func 21) #[] #[]))), (7, .tsl 1 (v7j2.map rS) 0), (8, .d (cS s))]) (fun s => ⟨[.row 23 [.d (cI v0.source), .d (cI v0.serial), .d (cI v0.kind), .d (cS v0.a), .d (cS v0.b), .d (cI v0.start), .d (cI v0.units), .d (cI v0.call), .d (cI v0.part), .d (cB v0.last), .d (cI v0.trunk), .d (cB v0.inbound)]], [⟨9, 1, v7j2.length⟩]⟩) (fun s => f_textual_Encode_j4 v0 v7j2 s = some r) ?_ ?_
            · rintro v8j4 H
              replace H : f_textual_Encode_j4 v0 v7j2 v8j4 = some r := H
              unfold f_textual_Encode_j4 at H
              change ARun _ _ _ _ _ _ [(1, .ref 0 0), (5, .d (.ex (.func (.func 21) #[] #[]))), (7, .tsl 1 (v7j2.map rS) 0), (8, .d (cS v8j4))] ⟨[.row 23 [.d (cI v0.source), .d (cI v0.serial), .d (cI v0.kind), .d (cS v0.a), .d (cS v0.b), .d (cI v0.start), .d (cI v0.units), .d (cI v0.call), .d (cI v0.part), .d (cB v0.last), .d (cI v0.trunk), .d (cB v0.inbound)]], [⟨9, 1, v7j2.length⟩]⟩
              refine .region ?_
              refine .q (x := .tsl 1 (v7j2.map rS) 0) (q_move rfl) rfl ?_
              refine .q (x := .d (cS v8j4)) (q_move rfl) rfl ?_
              refine .q (x := .d (.ex (.func (.func 21) #[] #[]))) (q_move rfl) rfl ?_
              refine .q (x := .ref 0 10) (q_fieldRef fo_23_10 rfl) rfl ?_
              refine .q (x := .d (cI v0.trunk)) (q_loadO one_3 rfl rfl rfl) rfl ?_
              obtain ⟨y7, hy7, H⟩ := bind_some' H
              refine .g (x := .d (cS y7)) (g_callF en_21 rfl rfl rfl (c_x_Itoa (hy7))) rfl ?_
              refine .g (x := .d (slOf 1 rS ([v8j4, y7]))) (g_buildSliceN (n := 2) (rows := ([v8j4, y7] : List (List UInt8)).map rS) Tryd.underlying33 hi9 hs9 hz9 rfl rfl rfl rfl rfl) rfl ?_
              obtain ⟨hk3, H⟩ := ck_some H
              refine .v (x := .tsl 1 ((v7j2 ++ ([v8j4, y7])).map rS) 0) (v_appendL (l := v7j2) (l' := [v8j4, y7]) (row := rS) Tryd.underlying33 hi9 hz9 hs9 rfl (by rw [hb9]; decide) rfl rfl rfl rfl hk3) rfl ?_
              refine .withSt (st' := ⟨[.row 23 [.d (cI v0.source), .d (cI v0.serial), .d (cI v0.kind), .d (cS v0.a), .d (cS v0.b), .d (cI v0.start), .d (cI v0.units), .d (cI v0.call), .d (cI v0.part), .d (cB v0.last), .d (cI v0.trunk), .d (cB v0.inbound)]], [⟨9, 1, (v7j2 ++ ([v8j4, y7])).length⟩]⟩) rfl ?_
              refine .q (x := .tsl 1 ((v7j2 ++ ([v8j4, y7])).map rS) 0) (q_assign rfl) rfl ?_
              refine .nil ?_
              exact .withSt (st' := ⟨[.row 23 [.d (cI v0.source), .d (cI v0.serial), .d (cI v0.kind), .d (cS v0.a), .d (cS v0.b), .d (cI v0.start), .d (cI v0.units), .d (cI v0.call), .d (cI v0.part), .d (cB v0.last), .d (cI v0.trunk), .d (cB v0.inbound)]], [⟨9, 1, (v7j2 ++ ([v8j4, y7])).length⟩]⟩) rfl <| .sub (.cons rfl (.rfl' _) (.nil)) (hj3 (v7j2 ++ ([v8j4, y7])) H)
            · intro hj4
              refine .seq ?_
              refine .region ?_
              refine .q (x := .ref 0 11) (q_fieldRef fo_23_11 rfl) rfl ?_
              refine .q (x := .d (cB v0.inbound)) (q_loadO one_4 rfl rfl rfl) rfl ?_
              refine .nil ?_
              refine .cond rfl (fun hc => ?_) (fun hc => ?_)
              · replace H := ifT hc H; clear hc
                refine .region ?_
                refine .q (x := .d (cS ([105, 110] : List UInt8))) (q_assign rfl) rfl ?_
                refine .nil ?_
                exact .sub (.cons rfl (.rfl' _) (.cons rfl (.rfl' _) (.cons rfl (.rfl' _) (.cons rfl (.rfl' _) (.nil))))) (hj4 ([105, 110] : List UInt8) H)
              · replace H := ifF hc H; clear hc
                refine .skip ?_
                exact .sub (.cons rfl (.rfl' _) (.cons rfl (.rfl' _) (.cons rfl (.rfl' _) (.cons rfl (.rfl' _) (.nil))))) (hj4 ([111, 117, 116] : List UInt8) H)
          · replace H := ifF hc H; clear hc
            refine .skip ?_
            exact .withSt (st' := ⟨[.row 23 [.d (cI v0.source), .d (cI v0.serial), .d (cI v0.kind), .d (cS v0.a), .d (cS v0.b), .d (cI v0.start), .d (cI v0.units), .d (cI v0.call), .d (cI v0.part), .d (cB v0.last), .d (cI v0.trunk), .d (cB v0.inbound)]], [⟨9, 1, v7j2.length⟩]⟩) rfl <| .sub (.cons rfl (.rfl' _) (.nil)) (hj3 v7j2 H)
      · intro hj2
        refine .seq ?_
        refine .region ?_
        refine .q (x := .ref 0 8) (q_fieldRef fo_23_8 rfl) rfl ?_
        refine .q (x := .d (cI v0.part)) (q_loadO one_3 rfl rfl rfl) rfl ?_
        refine .q (x := .d (cB (v0.part != 0))) (q_neq rfl rfl) rfl ?_
        refine .nil ?_
        refine .cond rfl (fun hc => ?_) (fun hc => ?_)
        · replace H := ifT hc H; clear hc
          refine .seq ?_
          refine .drawn 10 hMix (by kernel_rfl) ?_
          show DOps _ _ _ _ _ _ _ (_ :: _) _ _ _
          refine .q (x := .tsl 1 (([(([118, 116, 100, 99] : List UInt8).take (Int.toNat (v0.kind))).drop (Int.toNat (v0.kind - 1)), y2, y3, v0.a, v6j1, y4, y5] : List (List UInt8)).map rS) 0) (q_move rfl) rfl ?_
          refine .q (x := .d (.ex (.func (.func 21) #[] #[]))) (q_move rfl) rfl ?_
          refine .q (x := .ref 0 7) (q_fieldRef fo_23_7 rfl) rfl ?_
          refine .q (x := .d (cI v0.call)) (q_loadO one_3 rfl rfl rfl) rfl ?_
          obtain ⟨y8, hy8, H⟩ := bind_some' H
          refine .g (x := .d (cS y8)) (g_callF en_21 rfl rfl rfl (c_x_Itoa (hy8))) rfl ?_
          refine .q (x := .d (.ex (.func (.func 21) #[] #[]))) (q_move rfl) rfl ?_
          refine .q (x := .ref 0 8) (q_fieldRef fo_23_8 rfl) rfl ?_
          refine .q (x := .d (cI v0.part)) (q_loadO one_3 rfl rfl rfl) rfl ?_
          obtain ⟨y9, hy9, H⟩ := bind_some' H
          refine .g (x := .d (cS y9)) (g_callF en_21 rfl rfl rfl (c_x_Itoa (hy9))) rfl ?_
          refine .g (x := .d (slOf 1 rS ([([112, 97, 114, 116] : List UInt8), y8, y9]))) (g_buildSliceN (n := 3) (rows := ([([112, 97, 114, 116] : List UInt8), y8, y9] : List (List UInt8)).map rS) Tryd.underlying33 hi9 hs9 hz9 rfl rfl rfl rfl rfl) rfl ?_
          refine .nil ?_
          show AOps _ _ _ _ _ _ (_ :: _) _ _ _
          obtain ⟨hk4, H⟩ := ck_some H
          refine .v (x := .tsl 1 ((([(([118, 116, 100, 99] : List UInt8).take (Int.toNat (v0.kind))).drop (Int.toNat (v0.kind - 1)), y2, y3, v0.a, v6j1, y4, y5] : List (List UInt8)) ++ ([([112, 97, 114, 116] : List UInt8), y8, y9])).map rS) 0) (v_appendL (l := ([(([118, 116, 100, 99] : List UInt8).take (Int.toNat (v0.kind))).drop (Int.toNat (v0.kind - 1)), y2, y3, v0.a, v6j1, y4, y5] : List (List UInt8))) (l' := [([112, 97, 114, 116] : List UInt8), y8, y9]) (row := rS) Tryd.underlying33 hi9 hz9 hs9 rfl (by rw [hb9]; decide) rfl rfl rfl rfl hk4) rfl ?_
          refine .withSt (st' := ⟨[.row 23 [.d (cI v0.source), .d (cI v0.serial), .d (cI v0.kind), .d (cS v0.a), .d (cS v0.b), .d (cI v0.start), .d (cI v0.units), .d (cI v0.call), .d (cI v0.part), .d (cB v0.last), .d (cI v0.trunk), .d (cB v0.inbound)]], [⟨9, 1, (([(([118, 116, 100, 99] : List UInt8).take (Int.toNat (v0.kind))).drop (Int.toNat (v0.kind - 1)), y2, y3, v0.a, v6j1, y4, y5] : List (List UInt8)) ++ ([([112, 97, 114, 116] : List UInt8), y8, y9])).length⟩]⟩) rfl ?_
          refine .q (x := .tsl 1 ((([(([118, 116, 100, 99] : List UInt8).take (Int.toNat (v0.kind))).drop (Int.toNat (v0.kind - 1)), y2, y3, v0.a, v6j1, y4, y5] : List (List UInt8)) ++ ([([112, 97, 114, 116] : List UInt8), y8, y9])).map rS) 0) (q_assign rfl) rfl ?_
          refine .nil ?_
          refine .seq ?_
          refine .region ?_
          refine .q (x := .ref 0 9) (q_fieldRef fo_23_9 rfl) rfl ?_
          refine .q (x := .d (cB v0.last)) (q_loadO one_4 rfl rfl rfl) rfl ?_
          refine .nil ?_
          refine .cond rfl (fun hc => ?_) (fun hc => ?_)
          · replace H := ifT hc H; clear hc
            refine .region ?_
            refine .q (x := .tsl 1 ((([(([118, 116, 100, 99] : List UInt8).take (Int.toNat (v0.kind))).drop (Int.toNat (v0.kind - 1)), y2, y3, v0.a, v6j1, y4, y5] : List (List UInt8)) ++ ([([112, 97, 114, 116] : List UInt8), y8, y9])).map rS) 0) (q_move rfl) rfl ?_
            refine .g (x := .d (slOf 1 rS ([([108, 97, 115, 116] : List UInt8)]))) (g_buildSlice1 Tryd.underlying33 hi9 hs9 hz9 rfl rfl rfl rfl rfl) rfl ?_
            obtain ⟨hk5, H⟩ := ck_some H
            refine .v (x := .tsl 1 (((([(([118, 116, 100, 99] : List UInt8).take (Int.toNat (v0.kind))).drop (Int.toNat (v0.kind - 1)), y2, y3, v0.a, v6j1, y4, y5] : List (List UInt8)) ++ ([([112, 97, 114, 116] : List UInt8), y8, y9])) ++ ([([108, 97, 115, 116] : List UInt8)])).map rS) 0) (v_appendL (l := ([(([118, 116, 100, 99] : List UInt8).take (Int.toNat (v0.kind))).drop (Int.toNat (v0.kind - 1)), y2, y3, v0.a, v6j1, y4, y5] : List (List UInt8)) ++ ([([112, 97, 114, 116] : List UInt8), y8, y9])) (l' := [([108, 97, 115, 116] : List UInt8)]) (row := rS) Tryd.underlying33 hi9 hz9 hs9 rfl (by rw [hb9]; decide) rfl rfl rfl rfl hk5) rfl ?_
            refine .withSt (st' := ⟨[.row 23 [.d (cI v0.source), .d (cI v0.serial), .d (cI v0.kind), .d (cS v0.a), .d (cS v0.b), .d (cI v0.start), .d (cI v0.units), .d (cI v0.call), .d (cI v0.part), .d (cB v0.last), .d (cI v0.trunk), .d (cB v0.inbound)]], [⟨9, 1, ((([(([118, 116, 100, 99] : List UInt8).take (Int.toNat (v0.kind))).drop (Int.toNat (v0.kind - 1)), y2, y3, v0.a, v6j1, y4, y5] : List (List UInt8)) ++ ([([112, 97, 114, 116] : List UInt8), y8, y9])) ++ ([([108, 97, 115, 116] : List UInt8)])).length⟩]⟩) rfl ?_
            refine .q (x := .tsl 1 (((([(([118, 116, 100, 99] : List UInt8).take (Int.toNat (v0.kind))).drop (Int.toNat (v0.kind - 1)), y2, y3, v0.a, v6j1, y4, y5] : List (List UInt8)) ++ ([([112, 97, 114, 116] : List UInt8), y8, y9])) ++ ([([108, 97, 115, 116] : List UInt8)])).map rS) 0) (q_assign rfl) rfl ?_
            refine .nil ?_
            exact .withSt (st' := ⟨[.row 23 [.d (cI v0.source), .d (cI v0.serial), .d (cI v0.kind), .d (cS v0.a), .d (cS v0.b), .d (cI v0.start), .d (cI v0.units), .d (cI v0.call), .d (cI v0.part), .d (cB v0.last), .d (cI v0.trunk), .d (cB v0.inbound)]], [⟨9, 1, ((([(([118, 116, 100, 99] : List UInt8).take (Int.toNat (v0.kind))).drop (Int.toNat (v0.kind - 1)), y2, y3, v0.a, v6j1, y4, y5] : List (List UInt8)) ++ ([([112, 97, 114, 116] : List UInt8), y8, y9])) ++ ([([108, 97, 115, 116] : List UInt8)])).length⟩]⟩) rfl <| .sub (.cons rfl (.rfl' _) (.cons rfl (.rfl' _) (.cons rfl (.rfl' _) (.nil)))) (hj2 ((([(([118, 116, 100, 99] : List UInt8).take (Int.toNat (v0.kind))).drop (Int.toNat (v0.kind - 1)), y2, y3, v0.a, v6j1, y4, y5] : List (List UInt8)) ++ ([([112, 97, 114, 116] : List UInt8), y8, y9])) ++ ([([108, 97, 115, 116] : List UInt8)])) H)
          · replace H := ifF hc H; clear hc
            refine .skip ?_
            exact .withSt (st' := ⟨[.row 23 [.d (cI v0.source), .d (cI v0.serial), .d (cI v0.kind), .d (cS v0.a), .d (cS v0.b), .d (cI v0.start), .d (cI v0.units), .d (cI v0.call), .d (cI v0.part), .d (cB v0.last), .d (cI v0.trunk), .d (cB v0.inbound)]], [⟨9, 1, (([(([118, 116, 100, 99] : List UInt8).take (Int.toNat (v0.kind))).drop (Int.toNat (v0.kind - 1)), y2, y3, v0.a, v6j1, y4, y5] : List (List UInt8)) ++ ([([112, 97, 114, 116] : List UInt8), y8, y9])).length⟩]⟩) rfl <| .sub (.cons rfl (.rfl' _) (.cons rfl (.rfl' _) (.cons rfl (.rfl' _) (.nil)))) (hj2 (([(([118, 116, 100, 99] : List UInt8).take (Int.toNat (v0.kind))).drop (Int.toNat (v0.kind - 1)), y2, y3, v0.a, v6j1, y4, y5] : List (List UInt8)) ++ ([([112, 97, 114, 116] : List UInt8), y8, y9])) H)
        · replace H := ifF hc H; clear hc
          refine .skip ?_
          exact .withSt (st' := ⟨[.row 23 [.d (cI v0.source), .d (cI v0.serial), .d (cI v0.kind), .d (cS v0.a), .d (cS v0.b), .d (cI v0.start), .d (cI v0.units), .d (cI v0.call), .d (cI v0.part), .d (cB v0.last), .d (cI v0.trunk), .d (cB v0.inbound)]], [⟨9, 1, ([(([118, 116, 100, 99] : List UInt8).take (Int.toNat (v0.kind))).drop (Int.toNat (v0.kind - 1)), y2, y3, v0.a, v6j1, y4, y5] : List (List UInt8)).length⟩]⟩) rfl <| .sub (.cons rfl (.rfl' _) (.cons rfl (.rfl' _) (.cons rfl (.rfl' _) (.nil)))) (hj2 ([(([118, 116, 100, 99] : List UInt8).take (Int.toNat (v0.kind))).drop (Int.toNat (v0.kind - 1)), y2, y3, v0.a, v6j1, y4, y5] : List (List UInt8)) H)
    · intro hj1
      refine .seq ?_
      refine .region ?_
      refine .q (x := .d (cS v0.b)) (q_move rfl) rfl ?_
      refine .q (x := .d (cB (v0.b == ([] : List UInt8)))) (q_seql rfl rfl) rfl ?_
      refine .nil ?_
      refine .cond rfl (fun hc => ?_) (fun hc => ?_)
      · replace H := ifT hc H; clear hc
        refine .region ?_
        refine .q (x := .d (cS ([45] : List UInt8))) (q_assign rfl) rfl ?_
        refine .nil ?_
        exact .sub (.cons rfl (.rfl' _) (.cons rfl (.rfl' _) (.cons rfl (.rfl' _) (.nil)))) (hj1 ([45] : List UInt8) H)
      · replace H := ifF hc H; clear hc
        refine .skip ?_
        exact .sub (.cons rfl (.rfl' _) (.cons rfl (.rfl' _) (.cons rfl (.rfl' _) (.nil)))) (hj1 v0.b H)

set_option maxRecDepth 100000 in
set_option maxHeartbeats 1000000 in
theorem c_f_textual_numeral {v0s : List UInt8} {r : Int × Bool} (H : f_textual_numeral v0s = some r) : ACall Tryd.prog 43 [cS v0s] (· = .tup [cI r.1, cB r.2]) := by
  refine ACall.enter' Tryd.func43 rfl Tryd.ntmps43 rfl fun S hS => ?_
  unfold f_textual_numeral at H
  change ARun _ _ _ _ _ _ [(0, .d (cS v0s))] _
  refine .seq ?_
  refine .region ?_
  refine .q (x := .d (cI 0)) (q_assign rfl) rfl ?_
  refine .q (x := .d (cB false)) (q_assign rfl) rfl ?_
  refine .nil ?_
  refine .seq ?_
  refine .seq ?_
  refine .region ?_
  refine .q (x := .d (cS v0s)) (q_move rfl) rfl ?_
  refine .q (x := .d (cB (v0s == ([] : List UInt8)))) (q_seql rfl rfl) rfl ?_
  refine .q (x := .d (cB (v0s == ([] : List UInt8)))) (q_move rfl) rfl ?_
  refine .guardG (b := (!(v0s == ([] : List UInt8)))) (x := .d (cS v0s)) (env' := [(0, _)]) rfl rfl rfl ⟨.inl rfl, trivial⟩ rfl (fun hg => OpQ.g (q_move rfl)) ?_
  refine .guardG (b := (!(v0s == ([] : List UInt8)))) (x := .d (cI (v0s.length : Int))) (env' := [(10, _)]) rfl rfl rfl ⟨.inr (.inl rfl), trivial⟩ rfl (fun hg => OpQ.g (q_lenS Tryd.underlying9 rfl)) ?_
  refine .guardG (b := (!(v0s == ([] : List UInt8)))) (x := .d (cB (decide ((v0s.length : Int) > 15)))) (env' := [(11, _)]) rfl rfl rfl ⟨.inr (.inl rfl), trivial⟩ rfl (fun hg => OpQ.g (q_gtr rfl rfl)) ?_
  refine .q (x := .d (cB ((v0s == ([] : List UInt8)) || (decide ((v0s.length : Int) > 15))))) (q_pickOrB rfl rfl rfl) rfl ?_
  refine .q (x := .d (cB ((v0s == ([] : List UInt8)) || (decide ((v0s.length : Int) > 15))))) (q_move rfl) rfl ?_
  refine .guardG (b := (!((v0s == ([] : List UInt8)) || (decide ((v0s.length : Int) > 15))))) (x := .d (cS v0s)) (env' := [(0, _)]) rfl rfl rfl ⟨.inl rfl, trivial⟩ rfl (fun hg => OpQ.g (q_move rfl)) ?_
  obtain ⟨hk1, H⟩ := ck_some H
  refine .guardG (b := (!((v0s == ([] : List UInt8)) || (decide ((v0s.length : Int) > 15))))) (x := .d (cU8 (nth v0s (Int.toNat (0))))) (env' := [(15, _)]) rfl rfl rfl ⟨.inr (.inl rfl), trivial⟩ rfl (fun hg => OpQ.g (q_indexL (i := 0) Tryd.underlying9 rfl rfl (hk1 hg))) ?_
  refine .guardG (b := (!((v0s == ([] : List UInt8)) || (decide ((v0s.length : Int) > 15))))) (x := .d (cB ((nth v0s (Int.toNat (0))) == 48))) (env' := [(16, _)]) rfl rfl rfl ⟨.inr (.inl rfl), trivial⟩ rfl (fun hg => OpQ.g (q8_eql (a := nth v0s (Int.toNat (0))) (b := 48) rfl rfl)) ?_
  refine .guardG (b := (!((v0s == ([] : List UInt8)) || (decide ((v0s.length : Int) > 15))))) (x := .d (cB ((nth v0s (Int.toNat (0))) == 48))) (env' := [(17, _)]) rfl rfl rfl ⟨.inr (.inl rfl), trivial⟩ rfl (fun hg => OpQ.g (q_move rfl)) ?_
  refine .guardG (b := ((!((v0s == ([] : List UInt8)) || (decide ((v0s.length : Int) > 15)))) && ((nth v0s (Int.toNat (0))) == 48))) (x := .d (cS v0s)) (env' := [(0, _)]) rfl rfl rfl ⟨.inl rfl, trivial⟩ rfl (fun hg => OpQ.g (q_move rfl)) ?_
  refine .guardG (b := ((!((v0s == ([] : List UInt8)) || (decide ((v0s.length : Int) > 15)))) && ((nth v0s (Int.toNat (0))) == 48))) (x := .d (cB (v0s != ([48] : List UInt8)))) (env' := [(19, _)]) rfl rfl rfl ⟨.inr (.inl rfl), trivial⟩ rfl (fun hg => OpQ.g (q_sneq rfl rfl)) ?_
  refine .guardG (b := (!((v0s == ([] : List UInt8)) || (decide ((v0s.length : Int) > 15))))) (x := .d (cB (((nth v0s (Int.toNat (0))) == 48) && (v0s != ([48] : List UInt8))))) (env' := [(18, _), (20, _)]) rfl rfl rfl ⟨.inr (.inl rfl), ⟨.inr (.inr ⟨_, _, rfl, rfl⟩), trivial⟩⟩ rfl (fun hg => OpQ.g (q_pickAndB rfl rfl rfl)) ?_
  refine .q (x := .d (cB (((v0s == ([] : List UInt8)) || (decide ((v0s.length : Int) > 15))) || (((nth v0s (Int.toNat (0))) == 48) && (v0s != ([48] : List UInt8)))))) (q_pickOrB rfl rfl rfl) rfl ?_
  refine .nil ?_
  refine .cond rfl (fun hc => ?_) (fun hc => ?_)
  · replace H := ifT hc H; clear hc
    refine .seq ?_
    refine .region ?_
    refine .q (x := .d (cI 0)) (q_assign rfl) rfl ?_
    refine .q (x := .d (cB false)) (q_assign rfl) rfl ?_
    refine .nil ?_
    refine .retN [.tmp 2, .tmp 3] [.d (cI 0), .d (cB false)] Tryd.func43 Tryd.results43 ⟨rfl, rfl, trivial⟩ ?_
    cases H
    exact ⟨_, EVle.tupL (ds := [cI 0, cB false]) ⟨.rfl' _, .rfl' _, trivial⟩, rfl⟩
  · replace H := ifF hc H; clear hc
    refine .skip ?_
    refine .seq ?_
    refine .region ?_
    refine .q (x := .d (cI 0)) (q_assign rfl) rfl ?_
    refine .nil ?_
    refine .seq ?_
    refine .seq ?_
    refine .region ?_
    refine .q (x := .d (cS v0s)) (q_move rfl) rfl ?_
    refine .v (x := .ref 0 0) (v_range (l := v0s) Tryd.underlying9 rfl) rfl ?_
    refine .withSt (st' := ⟨[.raw (.stringIter ⟨v0s.toArray⟩ 0)], []⟩) rfl ?_
    refine .nil ?_
    refine .block ?_
    obtain ⟨n1, H⟩ := loop_some H
    refine .withSt (st' := ⟨[.raw (.stringIter ⟨v0s.toArray⟩ 0)], []⟩) rfl <| .loop (ι := Nat × (Int × Nat)) (fun p => [(4, .d (cI p.2.1)), (24, .ref 0 0)]) (fun p => ⟨[.raw (.stringIter ⟨v0s.toArray⟩ p.2.2)], []⟩) (fun p => iter (fun s => f_textual_numeral_l1 v0s s.1 s.2) p.1 p.2 = some r) (·.1) (n1, (0, 0)) H (.cons rfl (.rfl' _) (.cons rfl (.rfl' _) (.nil))) rfl ?_
    rintro ⟨m1, v4nl1, o0c0l1⟩ HI ih1
    obtain ⟨n1, q1, hm1, H, HK1⟩ := iter_succ HI
    clear HI
    replace H : f_textual_numeral_l1 v0s v4nl1 o0c0l1 = some q1 := H
    unfold f_textual_numeral_l1 at H
    change ARun _ _ _ _ _ _ [(4, .d (cI v4nl1)), (24, .ref 0 0)] ⟨[.raw (.stringIter ⟨v0s.toArray⟩ o0c0l1)], []⟩
    refine .seq ?_
    refine .region ?_
    refine .v (x := .d (nextD v0s o0c0l1)) (v_next (l := v0s) rfl rfl) rfl ?_
    refine .withSt (st' := ⟨[.raw (.stringIter ⟨v0s.toArray⟩ (nextP v0s o0c0l1))], []⟩) rfl ?_
    refine .q (x := .d (cB (decide (o0c0l1 < v0s.length)))) (q_nextOk (l := v0s) rfl) rfl ?_
    refine .nil ?_
    refine .seq ?_
    refine .cond rfl (fun hc => ?_) (fun hc => ?_)
    · replace H := ifT hc H; clear hc
      refine .skip ?_
      refine .block ?_
      refine .seq ?_
      refine .region ?_
      obtain ⟨hk2, H⟩ := ck_some H
      refine .q (x := .d (cK .i32 ((runeAt v0s o0c0l1).1 : Int))) (q_nextRune (l := v0s) hk2 rfl) rfl ?_
      refine .q (x := .d (cK .i32 ((runeAt v0s o0c0l1).1 : Int))) (q_assign rfl) rfl ?_
      refine .nil ?_
      refine .seq ?_
      refine .seq ?_
      refine .region ?_
      refine .q (x := .d (cK .i32 ((runeAt v0s o0c0l1).1 : Int))) (q_move rfl) rfl ?_
      refine .q (x := .d (cB (decide (((runeAt v0s o0c0l1).1 : Int) < 48)))) (q_lss rfl rfl) rfl ?_
      refine .q (x := .d (cB (decide (((runeAt v0s o0c0l1).1 : Int) < 48)))) (q_move rfl) rfl ?_
      refine .guardG (b := (!(decide (((runeAt v0s o0c0l1).1 : Int) < 48)))) (x := .d (cK .i32 ((runeAt v0s o0c0l1).1 : Int))) (env' := [(6, _)]) rfl rfl rfl ⟨.inl rfl, trivial⟩ rfl (fun hg => OpQ.g (q_move rfl)) ?_
      refine .guardG (b := (!(decide (((runeAt v0s o0c0l1).1 : Int) < 48)))) (x := .d (cB (decide (((runeAt v0s o0c0l1).1 : Int) > 57)))) (env' := [(31, _)]) rfl rfl rfl ⟨.inr (.inl rfl), trivial⟩ rfl (fun hg => OpQ.g (q_gtr rfl rfl)) ?_
      refine .q (x := .d (cB ((decide (((runeAt v0s o0c0l1).1 : Int) < 48)) || (decide (((runeAt v0s o0c0l1).1 : Int) > 57))))) (q_pickOrB rfl rfl rfl) rfl ?_
      refine .nil ?_
      refine .cond rfl (fun hc => ?_) (fun hc => ?_)
      · replace H := ifT hc H; clear hc
        refine .seq ?_
        refine .region ?_
        refine .q (x := .d (cI 0)) (q_assign rfl) rfl ?_
        refine .q (x := .d (cB false)) (q_assign rfl) rfl ?_
        refine .nil ?_
        refine .retN [.tmp 2, .tmp 3] [.d (cI 0), .d (cB false)] Tryd.func43 Tryd.results43 ⟨rfl, rfl, trivial⟩ ?_
        cases H
        cases HK1
        exact ⟨_, EVle.tupL (ds := [cI 0, cB false]) ⟨.rfl' _, .rfl' _, trivial⟩, rfl⟩
      · replace H := ifF hc H; clear hc
        refine .skip ?_
        refine .region ?_
        refine .q (x := .d (cI v4nl1)) (q_move rfl) rfl ?_
        obtain ⟨hk3, H⟩ := ck_some H
        refine .q (x := .d (cI (10 * v4nl1))) (q_mulI rfl rfl hk3.1 hk3.2) rfl ?_
        refine .q (x := .d (cK .i32 ((runeAt v0s o0c0l1).1 : Int))) (q_move rfl) rfl ?_
        refine .q (x := .d (cK .i32 (IntKind.wrap .i32 (((runeAt v0s o0c0l1).1 : Int) - 48)))) (q_sub rfl rfl rfl) rfl ?_
        refine .q (x := .d (cI (IntKind.wrap .i64 (IntKind.wrap .i32 (((runeAt v0s o0c0l1).1 : Int) - 48))))) (q_conv Tryd.underlying21 Tryd.underlying3 rfl rfl) rfl ?_
        obtain ⟨hk4, H⟩ := ck_some H
        refine .q (x := .d (cI ((10 * v4nl1) + (IntKind.wrap .i64 (IntKind.wrap .i32 (((runeAt v0s o0c0l1).1 : Int) - 48)))))) (q_addI rfl rfl hk4.1 hk4.2) rfl ?_
        refine .q (x := .d (cI ((10 * v4nl1) + (IntKind.wrap .i64 (IntKind.wrap .i32 (((runeAt v0s o0c0l1).1 : Int) - 48)))))) (q_assign rfl) rfl ?_
        refine .nil ?_
        refine .inBlock ?_
        cases H
        exact .withSt (st' := ⟨[.raw (.stringIter ⟨v0s.toArray⟩ (nextP v0s o0c0l1))], []⟩) rfl <| .sub (.cons rfl (.rfl' _) (.cons rfl (.rfl' _) (.nil))) (ih1 (n1, ((10 * v4nl1) + (IntKind.wrap .i64 (IntKind.wrap .i32 (((runeAt v0s o0c0l1).1 : Int) - 48))), nextP v0s o0c0l1)) HK1 hm1)
    · replace H := ifF hc H; clear hc
      refine .exit rfl ?_
      refine .seq ?_
      refine .region ?_
      refine .q (x := .d (cI v4nl1)) (q_move rfl) rfl ?_
      refine .q (x := .d (cI v4nl1)) (q_assign rfl) rfl ?_
      refine .q (x := .d (cB true)) (q_assign rfl) rfl ?_
      refine .nil ?_
      refine .retN [.tmp 2, .tmp 3] [.d (cI v4nl1), .d (cB true)] Tryd.func43 Tryd.results43 ⟨rfl, rfl, trivial⟩ ?_
      cases H
      cases HK1
      exact ⟨_, EVle.tupL (ds := [cI v4nl1, cB true]) ⟨.rfl' _, .rfl' _, trivial⟩, rfl⟩

set_option maxRecDepth 100000 in
set_option maxHeartbeats 1000000 in
theorem c_f_textual_reader_word_s1 {a0 : AObj} {a2 : AObj} (ha0 : okObj 3 0 a0 = true) (ha2 : okObj 3 0 a2 = true) {o1c0p : TextualReader} {r : (List UInt8) × TextualReader} (H : f_textual_reader_word o1c0p = some r) : ACallS Tryd.prog 26 [.ref 1 0] ⟨[a0, .row 51 [.d (slOf 1 rS o1c0p.words), .d (cB o1c0p.bad)], a2], []⟩ (QS (cS r.1) ⟨[a0, .row 51 [.d (slOf 1 rS r.2.words), .d (cB r.2.bad)], a2], []⟩) := by
  obtain ⟨i9, hi9, hz9, hs9, hb9⟩ := in_9
  refine ACallS.dropped 3 0 ?_
  refine ACallS.enter Tryd.func26 rfl Tryd.ntmps26 rfl fun S hS => ?_
  unfold f_textual_reader_word at H
  change ARun _ _ _ _ _ _ [(0, .ref 1 0)] _
  refine .seq ?_
  refine .region ?_
  refine .q (x := .d (cS ([] : List UInt8))) (q_assign rfl) rfl ?_
  refine .nil ?_
  refine .seq ?_
  refine .seq ?_
  refine .region ?_
  refine .q (x := .ref 1 0) (q_move rfl) rfl ?_
  refine .q (x := .ref 1 0) (q_nilRef rfl) rfl ?_
  refine .q (x := .ref 1 0) (q_fieldRef fo_51_0 rfl) rfl ?_
  refine .q (x := .d (slOf 1 rS o1c0p.words)) (q_loadO one_33 rfl rfl rfl) rfl ?_
  refine .q (x := .d (cI (o1c0p.words.length : Int))) (q_lenL (l := o1c0p.words) (row := rS) Tryd.underlying33 rfl rfl) rfl ?_
  refine .q (x := .d (cB ((o1c0p.words.length : Int) == 0))) (q_eql rfl rfl) rfl ?_
  refine .q (x := .d (cB ((o1c0p.words.length : Int) == 0))) (q_move rfl) rfl ?_
  refine .guardG (b := (!((o1c0p.words.length : Int) == 0))) (x := .ref 1 0) (env' := [(0, _)]) rfl rfl rfl ⟨.inl rfl, trivial⟩ rfl (fun hg => OpQ.g (q_move rfl)) ?_
  refine .guardG (b := (!((o1c0p.words.length : Int) == 0))) (x := .ref 1 0) (env' := [(11, _)]) rfl rfl rfl ⟨.inr (.inl rfl), trivial⟩ rfl (fun hg => OpQ.g (q_nilRef rfl)) ?_
  refine .guardG (b := (!((o1c0p.words.length : Int) == 0))) (x := .ref 1 0) (env' := [(12, _)]) rfl rfl rfl ⟨.inr (.inl rfl), trivial⟩ rfl (fun hg => OpQ.g (q_fieldRef fo_51_0 rfl)) ?_
  refine .guardG (b := (!((o1c0p.words.length : Int) == 0))) (x := .d (slOf 1 rS o1c0p.words)) (env' := [(13, _)]) rfl rfl rfl ⟨.inr (.inl rfl), trivial⟩ rfl (fun hg => OpQ.g (q_loadO one_33 rfl rfl rfl)) ?_
  obtain ⟨hk1, H⟩ := ck_some H
  refine .guardG (b := (!((o1c0p.words.length : Int) == 0))) (x := .d (.ro (rS (nth o1c0p.words (Int.toNat (0)))))) (env' := [(14, _)]) rfl rfl rfl ⟨.inr (.inl rfl), trivial⟩ rfl (fun hg => OpQ.g (q_idxL (row := rS) (l := o1c0p.words) (i := 0) Tryd.underlying33 hi9 hs9 rfl rfl rfl (hk1 hg))) ?_
  refine .guardG (b := (!((o1c0p.words.length : Int) == 0))) (x := .d (cS (nth o1c0p.words (Int.toNat (0))))) (env' := [(15, _)]) rfl rfl rfl ⟨.inr (.inl rfl), trivial⟩ rfl (fun hg => OpQ.g (q_load one_9 rfl)) ?_
  refine .guardG (b := (!((o1c0p.words.length : Int) == 0))) (x := .d (cB ((nth o1c0p.words (Int.toNat (0))) == ([] : List UInt8)))) (env' := [(16, _)]) rfl rfl rfl ⟨.inr (.inl rfl), trivial⟩ rfl (fun hg => OpQ.g (q_seql rfl rfl)) ?_
  refine .q (x := .d (cB (((o1c0p.words.length : Int) == 0) || ((nth o1c0p.words (Int.toNat (0))) == ([] : List UInt8))))) (q_pickOrB rfl rfl rfl) rfl ?_
  refine .nil ?_
  refine .cond rfl (fun hc => ?_) (fun hc => ?_)
  · replace H := ifT hc H; clear hc
    refine .seq ?_
    refine .region ?_
    refine .q (x := .ref 1 0) (q_move rfl) rfl ?_
    refine .q (x := .ref 1 0) (q_nilRef rfl) rfl ?_
    refine .q (x := .ref 1 1) (q_fieldRef fo_51_1 rfl) rfl ?_
    refine .u (u_store rfl rfl rfl rfl (Nat.le_of_ble_eq_true rfl) sz_4) rfl ?_
    refine .withSt (st' := ⟨[a0, .row 51 [.d (slOf 1 rS o1c0p.words), .d (cB true)], a2], []⟩) rfl ?_
    refine .nil ?_
    refine .seq ?_
    refine .region ?_
    refine .q (x := .d (cS ([] : List UInt8))) (q_assign rfl) rfl ?_
    refine .nil ?_
    refine .retN [.tmp 2] [.d (cS ([] : List UInt8))] Tryd.func26 Tryd.results26 ⟨rfl, trivial⟩ ?_
    cases H
    exact ⟨.rfl' _, rfl, rfl, Nat.le_of_ble_eq_true rfl, Nat.le_of_ble_eq_true rfl, (okCons ha0 (okCons rfl (okCons ha2 rfl)))⟩
  · replace H := ifF hc H; clear hc
    refine .skip ?_
    refine .seq ?_
    refine .region ?_
    refine .q (x := .ref 1 0) (q_move rfl) rfl ?_
    refine .q (x := .ref 1 0) (q_nilRef rfl) rfl ?_
    refine .q (x := .ref 1 0) (q_fieldRef fo_51_0 rfl) rfl ?_
    refine .q (x := .d (slOf 1 rS o1c0p.words)) (q_loadO one_33 rfl rfl rfl) rfl ?_
    obtain ⟨hk2, H⟩ := ck_some H
    refine .q (x := .d (.ro (rS (nth o1c0p.words (Int.toNat (0)))))) (q_idxL (row := rS) (l := o1c0p.words) (i := 0) Tryd.underlying33 hi9 hs9 rfl rfl rfl hk2) rfl ?_
    refine .q (x := .d (cS (nth o1c0p.words (Int.toNat (0))))) (q_load one_9 rfl) rfl ?_
    refine .q (x := .d (cS (nth o1c0p.words (Int.toNat (0))))) (q_assign rfl) rfl ?_
    refine .nil ?_
    refine .seq ?_
    refine .region ?_
    refine .q (x := .ref 1 0) (q_move rfl) rfl ?_
    refine .q (x := .ref 1 0) (q_move rfl) rfl ?_
    refine .q (x := .ref 1 0) (q_nilRef rfl) rfl ?_
    refine .q (x := .ref 1 0) (q_fieldRef fo_51_0 rfl) rfl ?_
    refine .q (x := .d (slOf 1 rS o1c0p.words)) (q_loadO one_33 rfl rfl rfl) rfl ?_
    obtain ⟨hk3, H⟩ := ck_some H
    refine .q (x := .d (slOf 1 rS (o1c0p.words.drop (Int.toNat (1))))) (q_slLL (l := o1c0p.words) (row := rS) Tryd.underlying33 hi9 hs9 rfl rfl rfl hk3) rfl ?_
    refine .q (x := .ref 1 0) (q_nilRef rfl) rfl ?_
    refine .q (x := .ref 1 0) (q_fieldRef fo_51_0 rfl) rfl ?_
    refine .u (u_store rfl rfl rfl rfl (Nat.le_of_ble_eq_true rfl) sz_33) rfl ?_
    refine .withSt (st' := ⟨[a0, .row 51 [.d (slOf 1 rS (o1c0p.words.drop (Int.toNat (1)))), .d (cB o1c0p.bad)], a2], []⟩) rfl ?_
    refine .nil ?_
    refine .seq ?_
    refine .region ?_
    refine .q (x := .d (cS (nth o1c0p.words (Int.toNat (0))))) (q_move rfl) rfl ?_
    refine .q (x := .d (cS (nth o1c0p.words (Int.toNat (0))))) (q_assign rfl) rfl ?_
    refine .nil ?_
    refine .retN [.tmp 2] [.d (cS (nth o1c0p.words (Int.toNat (0))))] Tryd.func26 Tryd.results26 ⟨rfl, trivial⟩ ?_
    cases H
    exact ⟨.rfl' _, rfl, rfl, Nat.le_of_ble_eq_true rfl, Nat.le_of_ble_eq_true rfl, (okCons ha0 (okCons rfl (okCons ha2 rfl)))⟩

set_option maxRecDepth 100000 in
set_option maxHeartbeats 1000000 in
theorem c_f_textual_reader_number_s2 {a0 : AObj} {a2 : AObj} (ha0 : okObj 3 0 a0 = true) (ha2 : okObj 3 0 a2 = true) {o1c0p : TextualReader} {r : Int × TextualReader} (H : f_textual_reader_number o1c0p = some r) : ACallS Tryd.prog 28 [.ref 1 0] ⟨[a0, .row 51 [.d (slOf 1 rS o1c0p.words), .d (cB o1c0p.bad)], a2], []⟩ (QS (cI r.1) ⟨[a0, .row 51 [.d (slOf 1 rS r.2.words), .d (cB r.2.bad)], a2], []⟩) := by
  refine ACallS.dropped 3 0 ?_
  refine ACallS.enter Tryd.func28 rfl Tryd.ntmps28 rfl fun S hS => ?_
  unfold f_textual_reader_number at H
  change ARun _ _ _ _ _ _ [(0, .ref 1 0)] _
  refine .seq ?_
  refine .region ?_
  refine .q (x := .d (cI 0)) (q_assign rfl) rfl ?_
  refine .nil ?_
  refine .seq ?_
  refine .region ?_
  refine .q (x := .ref 1 0) (q_move rfl) rfl ?_
  obtain ⟨y1, hy1, H⟩ := bind_some' H
  refine .callSD en_26 rfl rfl (c_f_textual_reader_word_s1 (okMono ha0 rfl rfl) (okMono ha2 rfl rfl) hy1) ?_
  refine .withSt (st' := ⟨[a0, .row 51 [.d (slOf 1 rS y1.2.words), .d (cB y1.2.bad)], a2], []⟩) rfl ?_
  obtain ⟨y2, hy2, H⟩ := bind_some' H
  refine .g (x := .d (.tup [cI y2.1, cB y2.2])) (g_call en_43 rfl rfl (c_f_textual_numeral (hy2))) rfl ?_
  refine .q (x := .d (.tup [cI y2.1, cB y2.2])) (q_move rfl) rfl ?_
  refine .q (x := .d (cI y2.1)) (q_extract rfl rfl) rfl ?_
  refine .q (x := .d (cB y2.2)) (q_extract rfl rfl) rfl ?_
  refine .q (x := .d (cI y2.1)) (q_assign rfl) rfl ?_
  refine .q (x := .d (cB y2.2)) (q_assign rfl) rfl ?_
  refine .nil ?_
  refine .seq ?_
  refine .region ?_
  refine .q (x := .ref 1 0) (q_move rfl) rfl ?_
  refine .q (x := .ref 1 0) (q_move rfl) rfl ?_
  refine .q (x := .ref 1 0) (q_nilRef rfl) rfl ?_
  refine .q (x := .ref 1 1) (q_fieldRef fo_51_1 rfl) rfl ?_
  refine .q (x := .d (cB y1.2.bad)) (q_loadO one_4 rfl rfl rfl) rfl ?_
  refine .q (x := .d (cB y1.2.bad)) (q_move rfl) rfl ?_
  refine .guardG (b := (!y1.2.bad)) (x := .d (cB y2.2)) (env' := [(4, _)]) rfl rfl rfl ⟨.inl rfl, trivial⟩ rfl (fun hg => OpQ.g (q_move rfl)) ?_
  refine .guardG (b := (!y1.2.bad)) (x := .d (cB (!y2.2))) (env' := [(17, _)]) rfl rfl rfl ⟨.inr (.inl rfl), trivial⟩ rfl (fun hg => OpQ.g (q_not rfl)) ?_
  refine .q (x := .d (cB (y1.2.bad || (!y2.2)))) (q_pickOrB rfl rfl rfl) rfl ?_
  refine .q (x := .ref 1 0) (q_nilRef rfl) rfl ?_
  refine .q (x := .ref 1 1) (q_fieldRef fo_51_1 rfl) rfl ?_
  refine .u (u_store rfl rfl rfl rfl (Nat.le_of_ble_eq_true rfl) sz_4) rfl ?_
  refine .withSt (st' := ⟨[a0, .row 51 [.d (slOf 1 rS y1.2.words), .d (cB (y1.2.bad || (!y2.2)))], a2], []⟩) rfl ?_
  refine .nil ?_
  refine .seq ?_
  refine .region ?_
  refine .q (x := .d (cI y2.1)) (q_move rfl) rfl ?_
  refine .q (x := .d (cI y2.1)) (q_assign rfl) rfl ?_
  refine .nil ?_
  refine .retN [.tmp 2] [.d (cI y2.1)] Tryd.func28 Tryd.results28 ⟨rfl, trivial⟩ ?_
  cases H
  exact ⟨.rfl' _, rfl, rfl, Nat.le_of_ble_eq_true rfl, Nat.le_of_ble_eq_true rfl, (okCons ha0 (okCons rfl (okCons ha2 rfl)))⟩

set_option maxRecDepth 100000 in
set_option maxHeartbeats 1000000 in
theorem c_f_textual_reader_next_s3 {a0 : AObj} {a2 : AObj} (ha0 : okObj 3 0 a0 = true) (ha2 : okObj 3 0 a2 = true) {v1s : List UInt8} {o1c0p : TextualReader} {r : Bool × TextualReader} (H : f_textual_reader_next v1s o1c0p = some r) : ACallS Tryd.prog 29 [.ref 1 0, .d (cS v1s)] ⟨[a0, .row 51 [.d (slOf 1 rS o1c0p.words), .d (cB o1c0p.bad)], a2], []⟩ (QS (cB r.1) ⟨[a0, .row 51 [.d (slOf 1 rS r.2.words), .d (cB r.2.bad)], a2], []⟩) := by
  obtain ⟨i9, hi9, hz9, hs9, hb9⟩ := in_9
  refine ACallS.dropped 3 0 ?_
  refine ACallS.enter Tryd.func29 rfl Tryd.ntmps29 rfl fun S hS => ?_
  unfold f_textual_reader_next at H
  change ARun _ _ _ _ _ _ [(0, .ref 1 0), (1, .d (cS v1s))] _
  refine .seq ?_
  refine .region ?_
  refine .q (x := .d (cB false)) (q_assign rfl) rfl ?_
  refine .nil ?_
  refine .seq ?_
  refine .seq ?_
  refine .region ?_
  refine .q (x := .ref 1 0) (q_move rfl) rfl ?_
  refine .q (x := .ref 1 0) (q_nilRef rfl) rfl ?_
  refine .q (x := .ref 1 0) (q_fieldRef fo_51_0 rfl) rfl ?_
  refine .q (x := .d (slOf 1 rS o1c0p.words)) (q_loadO one_33 rfl rfl rfl) rfl ?_
  refine .q (x := .d (cI (o1c0p.words.length : Int))) (q_lenL (l := o1c0p.words) (row := rS) Tryd.underlying33 rfl rfl) rfl ?_
  refine .q (x := .d (cB ((o1c0p.words.length : Int) == 0))) (q_eql rfl rfl) rfl ?_
  refine .q (x := .d (cB ((o1c0p.words.length : Int) == 0))) (q_move rfl) rfl ?_
  refine .guardG (b := (!((o1c0p.words.length : Int) == 0))) (x := .ref 1 0) (env' := [(0, _)]) rfl rfl rfl ⟨.inl rfl, trivial⟩ rfl (fun hg => OpQ.g (q_move rfl)) ?_
  refine .guardG (b := (!((o1c0p.words.length : Int) == 0))) (x := .ref 1 0) (env' := [(12, _)]) rfl rfl rfl ⟨.inr (.inl rfl), trivial⟩ rfl (fun hg => OpQ.g (q_nilRef rfl)) ?_
  refine .guardG (b := (!((o1c0p.words.length : Int) == 0))) (x := .ref 1 0) (env' := [(13, _)]) rfl rfl rfl ⟨.inr (.inl rfl), trivial⟩ rfl (fun hg => OpQ.g (q_fieldRef fo_51_0 rfl)) ?_
  refine .guardG (b := (!((o1c0p.words.length : Int) == 0))) (x := .d (slOf 1 rS o1c0p.words)) (env' := [(14, _)]) rfl rfl rfl ⟨.inr (.inl rfl), trivial⟩ rfl (fun hg => OpQ.g (q_loadO one_33 rfl rfl rfl)) ?_
  obtain ⟨hk1, H⟩ := ck_some H
  refine .guardG (b := (!((o1c0p.words.length : Int) == 0))) (x := .d (.ro (rS (nth o1c0p.words (Int.toNat (0)))))) (env' := [(15, _)]) rfl rfl rfl ⟨.inr (.inl rfl), trivial⟩ rfl (fun hg => OpQ.g (q_idxL (row := rS) (l := o1c0p.words) (i := 0) Tryd.underlying33 hi9 hs9 rfl rfl rfl (hk1 hg))) ?_
  refine .guardG (b := (!((o1c0p.words.length : Int) == 0))) (x := .d (cS (nth o1c0p.words (Int.toNat (0))))) (env' := [(16, _)]) rfl rfl rfl ⟨.inr (.inl rfl), trivial⟩ rfl (fun hg => OpQ.g (q_load one_9 rfl)) ?_
  refine .guardG (b := (!((o1c0p.words.length : Int) == 0))) (x := .d (cS v1s)) (env' := [(1, _)]) rfl rfl rfl ⟨.inl rfl, trivial⟩ rfl (fun hg => OpQ.g (q_move rfl)) ?_
  refine .guardG (b := (!((o1c0p.words.length : Int) == 0))) (x := .d (cB ((nth o1c0p.words (Int.toNat (0))) != v1s))) (env' := [(17, _), (18, _)]) rfl rfl rfl ⟨.inr (.inl rfl), ⟨.inr (.inl rfl), trivial⟩⟩ rfl (fun hg => OpQ.g (q_sneq rfl rfl)) ?_
  refine .q (x := .d (cB (((o1c0p.words.length : Int) == 0) || ((nth o1c0p.words (Int.toNat (0))) != v1s)))) (q_pickOrB rfl rfl rfl) rfl ?_
  refine .nil ?_
  refine .cond rfl (fun hc => ?_) (fun hc => ?_)
  · replace H := ifT hc H; clear hc
    refine .seq ?_
    refine .region ?_
    refine .q (x := .d (cB false)) (q_assign rfl) rfl ?_
    refine .nil ?_
    refine .retN [.tmp 4] [.d (cB false)] Tryd.func29 Tryd.results29 ⟨rfl, trivial⟩ ?_
    cases H
    exact ⟨.rfl' _, rfl, rfl, Nat.le_of_ble_eq_true rfl, Nat.le_of_ble_eq_true rfl, (okCons ha0 (okCons rfl (okCons ha2 rfl)))⟩
  · replace H := ifF hc H; clear hc
    refine .skip ?_
    refine .seq ?_
    refine .region ?_
    refine .q (x := .ref 1 0) (q_move rfl) rfl ?_
    refine .q (x := .ref 1 0) (q_move rfl) rfl ?_
    refine .q (x := .ref 1 0) (q_nilRef rfl) rfl ?_
    refine .q (x := .ref 1 0) (q_fieldRef fo_51_0 rfl) rfl ?_
    refine .q (x := .d (slOf 1 rS o1c0p.words)) (q_loadO one_33 rfl rfl rfl) rfl ?_
    obtain ⟨hk2, H⟩ := ck_some H
    refine .q (x := .d (slOf 1 rS (o1c0p.words.drop (Int.toNat (1))))) (q_slLL (l := o1c0p.words) (row := rS) Tryd.underlying33 hi9 hs9 rfl rfl rfl hk2) rfl ?_
    refine .q (x := .ref 1 0) (q_nilRef rfl) rfl ?_
    refine .q (x := .ref 1 0) (q_fieldRef fo_51_0 rfl) rfl ?_
    refine .u (u_store rfl rfl rfl rfl (Nat.le_of_ble_eq_true rfl) sz_33) rfl ?_
    refine .withSt (st' := ⟨[a0, .row 51 [.d (slOf 1 rS (o1c0p.words.drop (Int.toNat (1)))), .d (cB o1c0p.bad)], a2], []⟩) rfl ?_
    refine .nil ?_
    refine .seq ?_
    refine .region ?_
    refine .q (x := .d (cB true)) (q_assign rfl) rfl ?_
    refine .nil ?_
    refine .retN [.tmp 4] [.d (cB true)] Tryd.func29 Tryd.results29 ⟨rfl, trivial⟩ ?_
    cases H
    exact ⟨.rfl' _, rfl, rfl, Nat.le_of_ble_eq_true rfl, Nat.le_of_ble_eq_true rfl, (okCons ha0 (okCons rfl (okCons ha2 rfl)))⟩

set_option maxRecDepth 100000 in
set_option maxHeartbeats 1000000 in
theorem c_f_textual_Decode {v0 : List UInt8} {r : Record × Int} (H : f_textual_Decode v0 = some r) : ACall Tryd.prog 12 [cS v0] (· = .tup [.agg (Record.row r.1), cI r.2]) := by
  obtain ⟨i23, hi23, hz23, hs23, hb23⟩ := in_23
  obtain ⟨i51, hi51, hz51, hs51, hb51⟩ := in_51
  refine ACall.enter' Tryd.func12 rfl Tryd.ntmps12 rfl fun S hS => ?_
  unfold f_textual_Decode at H
  change ARun _ _ _ _ _ _ [(0, .d (cS v0))] _
  refine .seq ?_
  refine .region ?_
  refine .v (x := .ref 0 0) (v_alloc zr_23 rfl) rfl ?_
  refine .withSt (st' := ⟨[.row 23 [.d (cI 0), .d (cI 0), .d (cI 0), .d (cS ([] : List UInt8)), .d (cS ([] : List UInt8)), .d (cI 0), .d (cI 0), .d (cI 0), .d (cI 0), .d (cB false), .d (cI 0), .d (cB false)]], []⟩) rfl ?_
  refine .q (x := .d (cI 0)) (q_assign rfl) rfl ?_
  refine .nil ?_
  refine .seq ?_
  refine .region ?_
  refine .q (x := .d (cS v0)) (q_move rfl) rfl ?_
  obtain ⟨y1, hy1, H⟩ := bind_some' H
  refine .g (x := .d (slOf 1 rS y1)) (g_call en_25 rfl rfl (c_x_Split (hy1))) rfl ?_
  refine .q (x := .d (.agg (TextualReader.row (⟨y1, false⟩ : TextualReader)))) (q_buildP pl_51 hi51 hz51 rfl rfl) rfl ?_
  refine .v (x := .ref 1 0) (v_box rfl rfl) rfl ?_
  refine .withSt (st' := ⟨[.row 23 [.d (cI 0), .d (cI 0), .d (cI 0), .d (cS ([] : List UInt8)), .d (cS ([] : List UInt8)), .d (cI 0), .d (cI 0), .d (cI 0), .d (cI 0), .d (cB false), .d (cI 0), .d (cB false)], .row 51 [.d (slOf 1 rS y1), .d (cB false)]], []⟩) rfl ?_
  refine .q (x := .ref 1 0) (q_assign rfl) rfl ?_
  refine .nil ?_
  refine .seq ?_
  refine .region ?_
  refine .v (x := .ref 2 0) (v_alloc zr_23 rfl) rfl ?_
  refine .withSt (st' := ⟨[.row 23 [.d (cI 0), .d (cI 0), .d (cI 0), .d (cS ([] : List UInt8)), .d (cS ([] : List UInt8)), .d (cI 0), .d (cI 0), .d (cI 0), .d (cI 0), .d (cB false), .d (cI 0), .d (cB false)], .row 51 [.d (slOf 1 rS y1), .d (cB false)], .row 23 [.d (cI 0), .d (cI 0), .d (cI 0), .d (cS ([] : List UInt8)), .d (cS ([] : List UInt8)), .d (cI 0), .d (cI 0), .d (cI 0), .d (cI 0), .d (cB false), .d (cI 0), .d (cB false)]], []⟩) rfl ?_
  refine .nil ?_
  refine .seq ?_
  refine .region ?_
  refine .q (x := .ref 1 0) (q_move rfl) rfl ?_
  obtain ⟨y2, hy2, H⟩ := bind_some' H
  refine .callSD en_26 rfl rfl (c_f_textual_reader_word_s1 rfl rfl hy2) ?_
  refine .withSt (st' := ⟨[.row 23 [.d (cI 0), .d (cI 0), .d (cI 0), .d (cS ([] : List UInt8)), .d (cS ([] : List UInt8)), .d (cI 0), .d (cI 0), .d (cI 0), .d (cI 0), .d (cB false), .d (cI 0), .d (cB false)], .row 51 [.d (slOf 1 rS y2.2.words), .d (cB y2.2.bad)], .row 23 [.d (cI 0), .d (cI 0), .d (cI 0), .d (cS ([] : List UInt8)), .d (cS ([] : List UInt8)), .d (cI 0), .d (cI 0), .d (cI 0), .d (cI 0), .d (cB false), .d (cI 0), .d (cB false)]], []⟩) rfl ?_
  refine .q (x := .d (cS y2.1)) (q_assign rfl) rfl ?_
  refine .nil ?_
  refine .seq ?_
  refine .region ?_
  refine .q (x := .d (cS y2.1)) (q_move rfl) rfl ?_
  obtain ⟨y3, hy3, H⟩ := bind_some' H
  refine .g (x := .d (cI y3)) (g_call en_27 rfl rfl (c_x_Index (hy3))) rfl ?_
  obtain ⟨hk1, H⟩ := ck_some H
  refine .q (x := .d (cI (1 + y3))) (q_addI rfl rfl hk1.1 hk1.2) rfl ?_
  refine .q (x := .ref 2 2) (q_fieldRef fo_23_2 rfl) rfl ?_
  refine .u (u_store rfl rfl rfl rfl (Nat.le_of_ble_eq_true rfl) sz_3) rfl ?_
  refine .withSt (st' := ⟨[.row 23 [.d (cI 0), .d (cI 0), .d (cI 0), .d (cS ([] : List UInt8)), .d (cS ([] : List UInt8)), .d (cI 0), .d (cI 0), .d (cI 0), .d (cI 0), .d (cB false), .d (cI 0), .d (cB false)], .row 51 [.d (slOf 1 rS y2.2.words), .d (cB y2.2.bad)], .row 23 [.d (cI 0), .d (cI 0), .d (cI (1 + y3)), .d (cS ([] : List UInt8)), .d (cS ([] : List UInt8)), .d (cI 0), .d (cI 0), .d (cI 0), .d (cI 0), .d (cB false), .d (cI 0), .d (cB false)]], []⟩) rfl ?_
  refine .nil ?_
  refine .seq ?_
  refine .region ?_
  refine .q (x := .ref 1 0) (q_move rfl) rfl ?_
  obtain ⟨y4, hy4, H⟩ := bind_some' H
  refine .callSD en_28 rfl rfl (c_f_textual_reader_number_s2 rfl rfl hy4) ?_
  refine .withSt (st' := ⟨[.row 23 [.d (cI 0), .d (cI 0), .d (cI 0), .d (cS ([] : List UInt8)), .d (cS ([] : List UInt8)), .d (cI 0), .d (cI 0), .d (cI 0), .d (cI 0), .d (cB false), .d (cI 0), .d (cB false)], .row 51 [.d (slOf 1 rS y4.2.words), .d (cB y4.2.bad)], .row 23 [.d (cI 0), .d (cI 0), .d (cI (1 + y3)), .d (cS ([] : List UInt8)), .d (cS ([] : List UInt8)), .d (cI 0), .d (cI 0), .d (cI 0), .d (cI 0), .d (cB false), .d (cI 0), .d (cB false)]], []⟩) rfl ?_
  refine .q (x := .ref 2 0) (q_fieldRef fo_23_0 rfl) rfl ?_
  refine .u (u_store rfl rfl rfl rfl (Nat.le_of_ble_eq_true rfl) sz_3) rfl ?_
  refine .withSt (st' := ⟨[.row 23 [.d (cI 0), .d (cI 0), .d (cI 0), .d (cS ([] : List UInt8)), .d (cS ([] : List UInt8)), .d (cI 0), .d (cI 0), .d (cI 0), .d (cI 0), .d (cB false), .d (cI 0), .d (cB false)], .row 51 [.d (slOf 1 rS y4.2.words), .d (cB y4.2.bad)], .row 23 [.d (cI y4.1), .d (cI 0), .d (cI (1 + y3)), .d (cS ([] : List UInt8)), .d (cS ([] : List UInt8)), .d (cI 0), .d (cI 0), .d (cI 0), .d (cI 0), .d (cB false), .d (cI 0), .d (cB false)]], []⟩) rfl ?_
  refine .nil ?_
  refine .seq ?_
  refine .region ?_
  refine .q (x := .ref 1 0) (q_move rfl) rfl ?_
  obtain ⟨y5, hy5, H⟩ := bind_some' H
  refine .callSD en_28 rfl rfl (c_f_textual_reader_number_s2 rfl rfl hy5) ?_
  refine .withSt (st' := ⟨[.row 23 [.d (cI 0), .d (cI 0), .d (cI 0), .d (cS ([] : List UInt8)), .d (cS ([] : List UInt8)), .d (cI 0), .d (cI 0), .d (cI 0), .d (cI 0), .d (cB false), .d (cI 0), .d (cB false)], .row 51 [.d (slOf 1 rS y5.2.words), .d (cB y5.2.bad)], .row 23 [.d (cI y4.1), .d (cI 0), .d (cI (1 + y3)), .d (cS ([] : List UInt8)), .d (cS ([] : List UInt8)), .d (cI 0), .d (cI 0), .d (cI 0), .d (cI 0), .d (cB false), .d (cI 0), .d (cB false)]], []⟩) rfl ?_
  refine .q (x := .ref 2 1) (q_fieldRef fo_23_1 rfl) rfl ?_
  refine .u (u_store rfl rfl rfl rfl (Nat.le_of_ble_eq_true rfl) sz_3) rfl ?_
  refine .withSt (st' := ⟨[.row 23 [.d (cI 0), .d (cI 0), .d (cI 0), .d (cS ([] : List UInt8)), .d (cS ([] : List UInt8)), .d (cI 0), .d (cI 0), .d (cI 0), .d (cI 0), .d (cB false), .d (cI 0), .d (cB false)], .row 51 [.d (slOf 1 rS y5.2.words), .d (cB y5.2.bad)], .row 23 [.d (cI y4.1), .d (cI y5.1), .d (cI (1 + y3)), .d (cS ([] : List UInt8)), .d (cS ([] : List UInt8)), .d (cI 0), .d (cI 0), .d (cI 0), .d (cI 0), .d (cB false), .d (cI 0), .d (cB false)]], []⟩) rfl ?_
  refine .nil ?_
  refine .seq ?_
  refine .region ?_
  refine .q (x := .ref 1 0) (q_move rfl) rfl ?_
  obtain ⟨y6, hy6, H⟩ := bind_some' H
  refine .callSD en_26 rfl rfl (c_f_textual_reader_word_s1 rfl rfl hy6) ?_
  refine .withSt (st' := ⟨[.row 23 [.d (cI 0), .d (cI 0), .d (cI 0), .d (cS ([] : List UInt8)), .d (cS ([] : List UInt8)), .d (cI 0), .d (cI 0), .d (cI 0), .d (cI 0), .d (cB false), .d (cI 0), .d (cB false)], .row 51 [.d (slOf 1 rS y6.2.words), .d (cB y6.2.bad)], .row 23 [.d (cI y4.1), .d (cI y5.1), .d (cI (1 + y3)), .d (cS ([] : List UInt8)), .d (cS ([] : List UInt8)), .d (cI 0), .d (cI 0), .d (cI 0), .d (cI 0), .d (cB false), .d (cI 0), .d (cB false)]], []⟩) rfl ?_
  refine .q (x := .ref 2 3) (q_fieldRef fo_23_3 rfl) rfl ?_
  refine .u (u_store rfl rfl rfl rfl (Nat.le_of_ble_eq_true rfl) sz_9) rfl ?_
  refine .withSt (st' := ⟨[.row 23 [.d (cI 0), .d (cI 0), .d (cI 0), .d (cS ([] : List UInt8)), .d (cS ([] : List UInt8)), .d (cI 0), .d (cI 0), .d (cI 0), .d (cI 0), .d (cB false), .d (cI 0), .d (cB false)], .row 51 [.d (slOf 1 rS y6.2.words), .d (cB y6.2.bad)], .row 23 [.d (cI y4.1), .d (cI y5.1), .d (cI (1 + y3)), .d (cS y6.1), .d (cS ([] : List UInt8)), .d (cI 0), .d (cI 0), .d (cI 0), .d (cI 0), .d (cB false), .d (cI 0), .d (cB false)]], []⟩) rfl ?_
  refine .nil ?_
  refine .seq ?_
  refine .region ?_
  refine .q (x := .ref 1 0) (q_move rfl) rfl ?_
  obtain ⟨y7, hy7, H⟩ := bind_some' H
  refine .callSD en_26 rfl rfl (c_f_textual_reader_word_s1 rfl rfl hy7) ?_
  refine .withSt (st' := ⟨[.row 23 [.d (cI 0), .d (cI 0), .d (cI 0), .d (cS ([] : List UInt8)), .d (cS ([] : List UInt8)), .d (cI 0), .d (cI 0), .d (cI 0), .d (cI 0), .d (cB false), .d (cI 0), .d (cB false)], .row 51 [.d (slOf 1 rS y7.2.words), .d (cB y7.2.bad)], .row 23 [.d (cI y4.1), .d (cI y5.1), .d (cI (1 + y3)), .d (cS y6.1), .d (cS ([] : List UInt8)), .d (cI 0), .d (cI 0), .d (cI 0), .d (cI 0), .d (cB false), .d (cI 0), .d (cB false)]], []⟩) rfl ?_
  refine .q (x := .ref 2 4) (q_fieldRef fo_23_4 rfl) rfl ?_
  refine .u (u_store rfl rfl rfl rfl (Nat.le_of_ble_eq_true rfl) sz_9) rfl ?_
  refine .withSt (st' := ⟨[.row 23 [.d (cI 0), .d (cI 0), .d (cI 0), .d (cS ([] : List UInt8)), .d (cS ([] : List UInt8)), .d (cI 0), .d (cI 0), .d (cI 0), .d (cI 0), .d (cB false), .d (cI 0), .d (cB false)], .row 51 [.d (slOf 1 rS y7.2.words), .d (cB y7.2.bad)], .row 23 [.d (cI y4.1), .d (cI y5.1), .d (cI (1 + y3)), .d (cS y6.1), .d (cS y7.1), .d (cI 0), .d (cI 0), .d (cI 0), .d (cI 0), .d (cB false), .d (cI 0), .d (cB false)]], []⟩) rfl ?_
  refine .nil ?_
  refine .seq ?_
  refine .region ?_
  refine .q (x := .ref 1 0) (q_move rfl) rfl ?_
  obtain ⟨y8, hy8, H⟩ := bind_some' H
  refine .callSD en_28 rfl rfl (c_f_textual_reader_number_s2 rfl rfl hy8) ?_
  refine .withSt (st' := ⟨[.row 23 [.d (cI 0), .d (cI 0), .d (cI 0), .d (cS ([] : List UInt8)), .d (cS ([] : List UInt8)), .d (cI 0), .d (cI 0), .d (cI 0), .d (cI 0), .d (cB false), .d (cI 0), .d (cB false)], .row 51 [.d (slOf 1 rS y8.2.words), .d (cB y8.2.bad)], .row 23 [.d (cI y4.1), .d (cI y5.1), .d (cI (1 + y3)), .d (cS y6.1), .d (cS y7.1), .d (cI 0), .d (cI 0), .d (cI 0), .d (cI 0), .d (cB false), .d (cI 0), .d (cB false)]], []⟩) rfl ?_
  refine .q (x := .ref 2 5) (q_fieldRef fo_23_5 rfl) rfl ?_
  refine .u (u_store rfl rfl rfl rfl (Nat.le_of_ble_eq_true rfl) sz_3) rfl ?_
  refine .withSt (st' := ⟨[.row 23 [.d (cI 0), .d (cI 0), .d (cI 0), .d (cS ([] : List UInt8)), .d (cS ([] : List UInt8)), .d (cI 0), .d (cI 0), .d (cI 0), .d (cI 0), .d (cB false), .d (cI 0), .d (cB false)], .row 51 [.d (slOf 1 rS y8.2.words), .d (cB y8.2.bad)], .row 23 [.d (cI y4.1), .d (cI y5.1), .d (cI (1 + y3)), .d (cS y6.1), .d (cS y7.1), .d (cI y8.1), .d (cI 0), .d (cI 0), .d (cI 0), .d (cB false), .d (cI 0), .d (cB false)]], []⟩) rfl ?_
  refine .nil ?_
  refine .seq ?_
  refine .region ?_
  refine .q (x := .ref 1 0) (q_move rfl) rfl ?_
  obtain ⟨y9, hy9, H⟩ := bind_some' H
  refine .callSD en_28 rfl rfl (c_f_textual_reader_number_s2 rfl rfl hy9) ?_
  refine .withSt (st' := ⟨[.row 23 [.d (cI 0), .d (cI 0), .d (cI 0), .d (cS ([] : List UInt8)), .d (cS ([] : List UInt8)), .d (cI 0), .d (cI 0), .d (cI 0), .d (cI 0), .d (cB false), .d (cI 0), .d (cB false)], .row 51 [.d (slOf 1 rS y9.2.words), .d (cB y9.2.bad)], .row 23 [.d (cI y4.1), .d (cI y5.1), .d (cI (1 + y3)), .d (cS y6.1), .d (cS y7.1), .d (cI y8.1), .d (cI 0), .d (cI 0), .d (cI 0), .d (cB false), .d (cI 0), .d (cB false)]], []⟩) rfl ?_
  refine .q (x := .ref 2 6) (q_fieldRef fo_23_6 rfl) rfl ?_
  refine .u (u_store rfl rfl rfl rfl (Nat.le_of_ble_eq_true rfl) sz_3) rfl ?_
  refine .withSt (st' := ⟨[.row 23 [.d (cI 0), .d (cI 0), .d (cI 0), .d (cS ([] : List UInt8)), .d (cS ([] : List UInt8)), .d (cI 0), .d (cI 0), .d (cI 0), .d (cI 0), .d (cB false), .d (cI 0), .d (cB false)], .row 51 [.d (slOf 1 rS y9.2.words), .d (cB y9.2.bad)], .row 23 [.d (cI y4.1), .d (cI y5.1), .d (cI (1 + y3)), .d (cS y6.1), .d (cS y7.1), .d (cI y8.1), .d (cI y9.1), .d (cI 0), .d (cI 0), .d (cB false), .d (cI 0), .d (cB false)]], []⟩) rfl ?_
  refine .nil ?_
  refine .seqJoin (ι := List UInt8) (fun s => [(0, .d (cS v0)), (2, .ref 0 0), (4, .ref 1 0), (5, .ref 2 0), (6, .d (cS y2.1))]) (fun s => ⟨[.row 23 [.d (cI 0), .d (cI 0), .d (cI 0), .d (cS ([] : List UInt8)), .d (cS ([] : List UInt8)), .d (cI 0), .d (cI 0), .d (cI 0), .d (cI 0), .d (cB false), .d (cI 0), .d (cB false)], .row 51 [.d (slOf 1 rS y9.2.words), .d (cB y9.2.bad)], .row 23 [.d (cI y4.1), .d (cI y5.1), .d (cI (1 + y3)), .d (cS y6.1), .d (cS s), .d (cI y8.1), .d (cI y9.1), .d (cI 0), .d (cI 0), .d (cB false), .d (cI 0), .d (cB false)]], []⟩) (fun s => f_textual_Decode_j1 v0 y2 y3 y4 y5 y6 y8 y9 s = some r) ?_ ?_
  · rintro o2c4j1 H
    replace H : f_textual_Decode_j1 v0 y2 y3 y4 y5 y6 y8 y9 o2c4j1 = some r := H
    unfold f_textual_Decode_j1 at H
    change ARun _ _ _ _ _ _ [(0, .d (cS v0)), (2, .ref 0 0), (4, .ref 1 0), (5, .ref 2 0), (6, .d (cS y2.1))] ⟨[.row 23 [.d (cI 0), .d (cI 0), .d (cI 0), .d (cS ([] : List UInt8)), .d (cS ([] : List UInt8)), .d (cI 0), .d (cI 0), .d (cI 0), .d (cI 0), .d (cB false), .d (cI 0), .d (cB false)], .row 51 [.d (slOf 1 rS y9.2.words), .d (cB y9.2.bad)], .row 23 [.d (cI y4.1), .d (cI y5.1), .d (cI (1 + y3)), .d (cS y6.1), .d (cS o2c4j1), .d (cI y8.1), .d (cI y9.1), .d (cI 0), .d (cI 0), .d (cB false), .d (cI 0), .d (cB false)]], []⟩
    refine .seqJoin (ι := List (List UInt8) × Bool × Int × Int × Bool) (fun s => [(0, .d (cS v0)), (2, .ref 0 0), (4, .ref 1 0), (5, .ref 2 0), (6, .d (cS y2.1))]) (fun s => ⟨[.row 23 [.d (cI 0), .d (cI 0), .d (cI 0), .d (cS ([] : List UInt8)), .d (cS ([] : List UInt8)), .d (cI 0), .d (cI 0), .d (cI 0), .d (cI 0), .d (cB false), .d (cI 0), .d (cB false)], .row 51 [.d (slOf 1 rS s.1), .d (cB s.2.1)], .row 23 [.d (cI y4.1), .d (cI y5.1), .d (cI (1 + y3)), .d (cS y6.1), .d (cS o2c4j1), .d (cI y8.1), .d (cI y9.1), .d (cI s.2.2.1), .d (cI s.2.2.2.1), .d (cB s.2.2.2.2), .d (cI 0), .d (cB false)]], []⟩) (fun s => f_textual_Decode_j2 v0 y2 y3 y4 y5 y6 y8 y9 o2c4j1 s.1 s.2.1 s.2.2.1 s.2.2.2.1 s.2.2.2.2 = some r) ?_ ?_
    · rintro ⟨o1c0j2, o1c1j2, o2c7j2, o2c8j2, o2c9j2⟩ H
      replace H : f_textual_Decode_j2 v0 y2 y3 y4 y5 y6 y8 y9 o2c4j1 o1c0j2 o1c1j2 o2c7j2 o2c8j2 o2c9j2 = some r := H
      unfold f_textual_Decode_j2 at H
      change ARun _ _ _ _ _ _ [(0, .d (cS v0)), (2, .ref 0 0), (4, .ref 1 0), (5, .ref 2 0), (6, .d (cS y2.1))] ⟨[.row 23 [.d (cI 0), .d (cI 0), .d (cI 0), .d (cS ([] : List UInt8)), .d (cS ([] : List UInt8)), .d (cI 0), .d (cI 0), .d (cI 0), .d (cI 0), .d (cB false), .d (cI 0), .d (cB false)], .row 51 [.d (slOf 1 rS o1c0j2), .d (cB o1c1j2)], .row 23 [.d (cI y4.1), .d (cI y5.1), .d (cI (1 + y3)), .d (cS y6.1), .d (cS o2c4j1), .d (cI y8.1), .d (cI y9.1), .d (cI o2c7j2), .d (cI o2c8j2), .d (cB o2c9j2), .d (cI 0), .d (cB false)]], []⟩
      refine .seqJoin (ι := List (List UInt8) × Bool × Int × Bool) (fun s => [(0, .d (cS v0)), (2, .ref 0 0), (4, .ref 1 0), (5, .ref 2 0), (6, .d (cS y2.1))]) (fun s => ⟨[.row 23 [.d (cI 0), .d (cI 0), .d (cI 0), .d (cS ([] : List UInt8)), .d (cS ([] : List UInt8)), .d (cI 0), .d (cI 0), .d (cI 0), .d (cI 0), .d (cB false), .d (cI 0), .d (cB false)], .row 51 [.d (slOf 1 rS s.1), .d (cB s.2.1)], .row 23 [.d (cI y4.1), .d (cI y5.1), .d (cI (1 + y3)), .d (cS y6.1), .d (cS o2c4j1), .d (cI y8.1), .d (cI y9.1), .d (cI o2c7j2), .d (cI o2c8j2), .d (cB o2c9j2), .d (cI s.2.2.1), .d (cB s.2.2.2)]], []⟩) (fun s => f_textual_Decode_j3 v0 y2 y3 y4 y5 y6 y8 y9 o2c4j1 o2c7j2 o2c8j2 o2c9j2 s.1 s.2.1 s.2.2.1 s.2.2.2 = some r) ?_ ?_
      · rintro ⟨o1c0j3, o1c1j3, o2c10j3, o2c11j3⟩ H
        replace H : f_textual_Decode_j3 v0 y2 y3 y4 y5 y6 y8 y9 o2c4j1 o2c7j2 o2c8j2 o2c9j2 o1c0j3 o1c1j3 o2c10j3 o2c11j3 = some r := H
        unfold f_textual_Decode_j3 at H
        change ARun _ _ _ _ _ _ [(0, .d (cS v0)), (2, .ref 0 0), (4, .ref 1 0), (5, .ref 2 0), (6, .d (cS y2.1))] ⟨[.row 23 [.d (cI 0), .d (cI 0), .d (cI 0), .d (cS ([] : List UInt8)), .d (cS ([] : List UInt8)), .d (cI 0), .d (cI 0), .d (cI 0), .d (cI 0), .d (cB false), .d (cI 0), .d (cB false)], .row 51 [.d (slOf 1 rS o1c0j3), .d (cB o1c1j3)], .row 23 [.d (cI y4.1), .d (cI y5.1), .d (cI (1 + y3)), .d (cS y6.1), .d (cS o2c4j1), .d (cI y8.1), .d (cI y9.1), .d (cI o2c7j2), .d (cI o2c8j2), .d (cB o2c9j2), .d (cI o2c10j3), .d (cB o2c11j3)]], []⟩
        refine .seq ?_
        refine .seq ?_
        refine .region ?_
        refine .q (x := .ref 1 0) (q_move rfl) rfl ?_
        refine .q (x := .ref 1 0) (q_nilRef rfl) rfl ?_
        refine .q (x := .ref 1 1) (q_fieldRef fo_51_1 rfl) rfl ?_
        refine .q (x := .d (cB o1c1j3)) (q_loadO one_4 rfl rfl rfl) rfl ?_
        refine .q (x := .d (cB o1c1j3)) (q_move rfl) rfl ?_
        refine .guardG (b := (!o1c1j3)) (x := .d (cS y2.1)) (env' := [(6, _)]) rfl rfl rfl ⟨.inl rfl, trivial⟩ rfl (fun hg => OpQ.g (q_move rfl)) ?_
        refine .guardG (b := (!o1c1j3)) (x := .d (cI (y2.1.length : Int))) (env' := [(68, _)]) rfl rfl rfl ⟨.inr (.inl rfl), trivial⟩ rfl (fun hg => OpQ.g (q_lenS Tryd.underlying9 rfl)) ?_
        refine .guardG (b := (!o1c1j3)) (x := .d (cB ((y2.1.length : Int) != 1))) (env' := [(69, _)]) rfl rfl rfl ⟨.inr (.inl rfl), trivial⟩ rfl (fun hg => OpQ.g (q_neq rfl rfl)) ?_
        refine .q (x := .d (cB (o1c1j3 || ((y2.1.length : Int) != 1)))) (q_pickOrB rfl rfl rfl) rfl ?_
        refine .q (x := .d (cB (o1c1j3 || ((y2.1.length : Int) != 1)))) (q_move rfl) rfl ?_
        refine .guardG (b := (!(o1c1j3 || ((y2.1.length : Int) != 1)))) (x := .ref 2 2) (env' := [(5, _)]) rfl rfl rfl ⟨.inl rfl, trivial⟩ rfl (fun hg => OpQ.g (q_fieldRef fo_23_2 rfl)) ?_
        refine .guardG (b := (!(o1c1j3 || ((y2.1.length : Int) != 1)))) (x := .d (cI (1 + y3))) (env' := [(73, _)]) rfl rfl rfl ⟨.inr (.inl rfl), trivial⟩ rfl (fun hg => OpQ.g (q_loadO one_3 rfl rfl rfl)) ?_
        refine .guardG (b := (!(o1c1j3 || ((y2.1.length : Int) != 1)))) (x := .d (cB ((1 + y3) == 0))) (env' := [(74, _)]) rfl rfl rfl ⟨.inr (.inl rfl), trivial⟩ rfl (fun hg => OpQ.g (q_eql rfl rfl)) ?_
        refine .q (x := .d (cB ((o1c1j3 || ((y2.1.length : Int) != 1)) || ((1 + y3) == 0)))) (q_pickOrB rfl rfl rfl) rfl ?_
        refine .q (x := .d (cB ((o1c1j3 || ((y2.1.length : Int) != 1)) || ((1 + y3) == 0)))) (q_move rfl) rfl ?_
        refine .guardG (b := (!((o1c1j3 || ((y2.1.length : Int) != 1)) || ((1 + y3) == 0)))) (x := .ref 1 0) (env' := [(4, _)]) rfl rfl rfl ⟨.inl rfl, trivial⟩ rfl (fun hg => OpQ.g (q_move rfl)) ?_
        refine .guardG (b := (!((o1c1j3 || ((y2.1.length : Int) != 1)) || ((1 + y3) == 0)))) (x := .ref 1 0) (env' := [(78, _)]) rfl rfl rfl ⟨.inr (.inl rfl), trivial⟩ rfl (fun hg => OpQ.g (q_nilRef rfl)) ?_
        refine .guardG (b := (!((o1c1j3 || ((y2.1.length : Int) != 1)) || ((1 + y3) == 0)))) (x := .ref 1 0) (env' := [(79, _)]) rfl rfl rfl ⟨.inr (.inl rfl), trivial⟩ rfl (fun hg => OpQ.g (q_fieldRef fo_51_0 rfl)) ?_
        refine .guardG (b := (!((o1c1j3 || ((y2.1.length : Int) != 1)) || ((1 + y3) == 0)))) (x := .d (slOf 1 rS o1c0j3)) (env' := [(80, _)]) rfl rfl rfl ⟨.inr (.inl rfl), trivial⟩ rfl (fun hg => OpQ.g (q_loadO one_33 rfl rfl rfl)) ?_
        refine .guardG (b := (!((o1c1j3 || ((y2.1.length : Int) != 1)) || ((1 + y3) == 0)))) (x := .d (cI (o1c0j3.length : Int))) (env' := [(81, _)]) rfl rfl rfl ⟨.inr (.inl rfl), trivial⟩ rfl (fun hg => OpQ.g (q_lenL (l := o1c0j3) (row := rS) Tryd.underlying33 rfl rfl)) ?_
        refine .guardG (b := (!((o1c1j3 || ((y2.1.length : Int) != 1)) || ((1 + y3) == 0)))) (x := .d (cB (decide ((o1c0j3.length : Int) > 0)))) (env' := [(82, _)]) rfl rfl rfl ⟨.inr (.inl rfl), trivial⟩ rfl (fun hg => OpQ.g (q_gtr rfl rfl)) ?_
        refine .q (x := .d (cB (((o1c1j3 || ((y2.1.length : Int) != 1)) || ((1 + y3) == 0)) || (decide ((o1c0j3.length : Int) > 0))))) (q_pickOrB rfl rfl rfl) rfl ?_
        refine .nil ?_
        refine .cond rfl (fun hc => ?_) (fun hc => ?_)
        · replace H := ifT hc H; clear hc
          refine .seq ?_
          refine .region ?_
          refine .q (x := .d (.agg (Record.row (⟨0, 0, 0, ([] : List UInt8), ([] : List UInt8), 0, 0, 0, 0, false, 0, false⟩ : Record)))) (q_buildP pl_23 hi23 hz23 rfl rfl) rfl ?_
          refine .u (u_store rfl rfl rfl rfl (Nat.le_of_ble_eq_true rfl) sz_23) rfl ?_
          refine .withSt (st' := ⟨[.row 23 [.d (cI 0), .d (cI 0), .d (cI 0), .d (cS ([] : List UInt8)), .d (cS ([] : List UInt8)), .d (cI 0), .d (cI 0), .d (cI 0), .d (cI 0), .d (cB false), .d (cI 0), .d (cB false)], .row 51 [.d (slOf 1 rS o1c0j3), .d (cB o1c1j3)], .row 23 [.d (cI y4.1), .d (cI y5.1), .d (cI (1 + y3)), .d (cS y6.1), .d (cS o2c4j1), .d (cI y8.1), .d (cI y9.1), .d (cI o2c7j2), .d (cI o2c8j2), .d (cB o2c9j2), .d (cI o2c10j3), .d (cB o2c11j3)]], []⟩) rfl ?_
          refine .q (x := .d (cI 1)) (q_assign rfl) rfl ?_
          refine .nil ?_
          refine .retN [.cell 2 23, .tmp 3] [.d (.agg (Record.row (⟨0, 0, 0, ([] : List UInt8), ([] : List UInt8), 0, 0, 0, 0, false, 0, false⟩ : Record))), .d (cI 1)] Tryd.func12 Tryd.results12 ⟨⟨⟨_, _, rfl⟩, q_loadOA one_23 sz_23 rfl rfl (Nat.le_of_ble_eq_true rfl) rfl⟩, rfl, trivial⟩ ?_
          cases H
          exact ⟨_, EVle.tupL (ds := [.agg (Record.row (⟨0, 0, 0, ([] : List UInt8), ([] : List UInt8), 0, 0, 0, 0, false, 0, false⟩ : Record)), cI 1]) ⟨.rfl' _, .rfl' _, trivial⟩, rfl⟩
        · replace H := ifF hc H; clear hc
          refine .skip ?_
          refine .seq ?_
          refine .region ?_
          refine .q (x := .d (.agg (Record.row (⟨y4.1, y5.1, 1 + y3, y6.1, o2c4j1, y8.1, y9.1, o2c7j2, o2c8j2, o2c9j2, o2c10j3, o2c11j3⟩ : Record)))) (q_loadOA one_23 sz_23 rfl rfl (Nat.le_of_ble_eq_true rfl) rfl) rfl ?_
          obtain ⟨y10, hy10, H⟩ := bind_some' H
          refine .g (x := .d (.tup [cS y10.1, cI y10.2])) (g_call en_10 rfl rfl (c_f_textual_Encode (hy10))) rfl ?_
          refine .q (x := .d (.tup [cS y10.1, cI y10.2])) (q_move rfl) rfl ?_
          refine .q (x := .d (cS y10.1)) (q_extract rfl rfl) rfl ?_
          refine .q (x := .d (cI y10.2)) (q_extract rfl rfl) rfl ?_
          refine .q (x := .d (cS y10.1)) (q_assign rfl) rfl ?_
          refine .q (x := .d (cI y10.2)) (q_assign rfl) rfl ?_
          refine .nil ?_
          refine .seqJoin (ι := Int) (fun s => [(2, .ref 0 0), (5, .ref 2 0), (8, .d (cI s))]) (fun s => ⟨[.row 23 [.d (cI 0), .d (cI 0), .d (cI 0), .d (cS ([] : List UInt8)), .d (cS ([] : List UInt8)), .d (cI 0), .d (cI 0), .d (cI 0), .d (cI 0), .d (cB false), .d (cI 0), .d (cB false)], .row 51 [.d (slOf 1 rS o1c0j3), .d (cB o1c1j3)], .row 23 [.d (cI y4.1), .d (cI y5.1), .d (cI (1 + y3)), .d (cS y6.1), .d (cS o2c4j1), .d (cI y8.1), .d (cI y9.1), .d (cI o2c7j2), .d (cI o2c8j2), .d (cB o2c9j2), .d (cI o2c10j3), .d (cB o2c11j3)]], []⟩) (fun s => f_textual_Decode_j4 y3 y4 y5 y6 y8 y9 o2c4j1 o2c7j2 o2c8j2 o2c9j2 o2c10j3 o2c11j3 s = some r) ?_ ?_
          · rintro v8j4 H
            replace H : f_textual_Decode_j4 y3 y4 y5 y6 y8 y9 o2c4j1 o2c7j2 o2c8j2 o2c9j2 o2c10j3 o2c11j3 v8j4 = some r := H
            unfold f_textual_Decode_j4 at H
            change ARun _ _ _ _ _ _ [(2, .ref 0 0), (5, .ref 2 0), (8, .d (cI v8j4))] ⟨[.row 23 [.d (cI 0), .d (cI 0), .d (cI 0), .d (cS ([] : List UInt8)), .d (cS ([] : List UInt8)), .d (cI 0), .d (cI 0), .d (cI 0), .d (cI 0), .d (cB false), .d (cI 0), .d (cB false)], .row 51 [.d (slOf 1 rS o1c0j3), .d (cB o1c1j3)], .row 23 [.d (cI y4.1), .d (cI y5.1), .d (cI (1 + y3)), .d (cS y6.1), .d (cS o2c4j1), .d (cI y8.1), .d (cI y9.1), .d (cI o2c7j2), .d (cI o2c8j2), .d (cB o2c9j2), .d (cI o2c10j3), .d (cB o2c11j3)]], []⟩
            refine .seq ?_
            refine .seq ?_
            refine .region ?_
            refine .q (x := .d (cI v8j4)) (q_move rfl) rfl ?_
            refine .q (x := .d (cB (v8j4 != 0))) (q_neq rfl rfl) rfl ?_
            refine .nil ?_
            refine .cond rfl (fun hc => ?_) (fun hc => ?_)
            · replace H := ifT hc H; clear hc
              refine .seq ?_
              refine .region ?_
              refine .q (x := .d (.agg (Record.row (⟨0, 0, 0, ([] : List UInt8), ([] : List UInt8), 0, 0, 0, 0, false, 0, false⟩ : Record)))) (q_buildP pl_23 hi23 hz23 rfl rfl) rfl ?_
              refine .q (x := .d (cI v8j4)) (q_move rfl) rfl ?_
              refine .u (u_store rfl rfl rfl rfl (Nat.le_of_ble_eq_true rfl) sz_23) rfl ?_
              refine .withSt (st' := ⟨[.row 23 [.d (cI 0), .d (cI 0), .d (cI 0), .d (cS ([] : List UInt8)), .d (cS ([] : List UInt8)), .d (cI 0), .d (cI 0), .d (cI 0), .d (cI 0), .d (cB false), .d (cI 0), .d (cB false)], .row 51 [.d (slOf 1 rS o1c0j3), .d (cB o1c1j3)], .row 23 [.d (cI y4.1), .d (cI y5.1), .d (cI (1 + y3)), .d (cS y6.1), .d (cS o2c4j1), .d (cI y8.1), .d (cI y9.1), .d (cI o2c7j2), .d (cI o2c8j2), .d (cB o2c9j2), .d (cI o2c10j3), .d (cB o2c11j3)]], []⟩) rfl ?_
              refine .q (x := .d (cI v8j4)) (q_assign rfl) rfl ?_
              refine .nil ?_
              refine .retN [.cell 2 23, .tmp 3] [.d (.agg (Record.row (⟨0, 0, 0, ([] : List UInt8), ([] : List UInt8), 0, 0, 0, 0, false, 0, false⟩ : Record))), .d (cI v8j4)] Tryd.func12 Tryd.results12 ⟨⟨⟨_, _, rfl⟩, q_loadOA one_23 sz_23 rfl rfl (Nat.le_of_ble_eq_true rfl) rfl⟩, rfl, trivial⟩ ?_
              cases H
              exact ⟨_, EVle.tupL (ds := [.agg (Record.row (⟨0, 0, 0, ([] : List UInt8), ([] : List UInt8), 0, 0, 0, 0, false, 0, false⟩ : Record)), cI v8j4]) ⟨.rfl' _, .rfl' _, trivial⟩, rfl⟩
            · replace H := ifF hc H; clear hc
              refine .skip ?_
              refine .seq ?_
              refine .region ?_
              refine .q (x := .d (.agg (Record.row (⟨y4.1, y5.1, 1 + y3, y6.1, o2c4j1, y8.1, y9.1, o2c7j2, o2c8j2, o2c9j2, o2c10j3, o2c11j3⟩ : Record)))) (q_loadOA one_23 sz_23 rfl rfl (Nat.le_of_ble_eq_true rfl) rfl) rfl ?_
              refine .u (u_store rfl rfl rfl rfl (Nat.le_of_ble_eq_true rfl) sz_23) rfl ?_
              refine .withSt (st' := ⟨[.row 23 [.d (cI y4.1), .d (cI y5.1), .d (cI (1 + y3)), .d (cS y6.1), .d (cS o2c4j1), .d (cI y8.1), .d (cI y9.1), .d (cI o2c7j2), .d (cI o2c8j2), .d (cB o2c9j2), .d (cI o2c10j3), .d (cB o2c11j3)], .row 51 [.d (slOf 1 rS o1c0j3), .d (cB o1c1j3)], .row 23 [.d (cI y4.1), .d (cI y5.1), .d (cI (1 + y3)), .d (cS y6.1), .d (cS o2c4j1), .d (cI y8.1), .d (cI y9.1), .d (cI o2c7j2), .d (cI o2c8j2), .d (cB o2c9j2), .d (cI o2c10j3), .d (cB o2c11j3)]], []⟩) rfl ?_
              refine .q (x := .d (cI 0)) (q_assign rfl) rfl ?_
              refine .nil ?_
              refine .retN [.cell 2 23, .tmp 3] [.d (.agg (Record.row (⟨y4.1, y5.1, 1 + y3, y6.1, o2c4j1, y8.1, y9.1, o2c7j2, o2c8j2, o2c9j2, o2c10j3, o2c11j3⟩ : Record))), .d (cI 0)] Tryd.func12 Tryd.results12 ⟨⟨⟨_, _, rfl⟩, q_loadOA one_23 sz_23 rfl rfl (Nat.le_of_ble_eq_true rfl) rfl⟩, rfl, trivial⟩ ?_
              cases H
              exact ⟨_, EVle.tupL (ds := [.agg (Record.row (⟨y4.1, y5.1, 1 + y3, y6.1, o2c4j1, y8.1, y9.1, o2c7j2, o2c8j2, o2c9j2, o2c10j3, o2c11j3⟩ : Record)), cI 0]) ⟨.rfl' _, .rfl' _, trivial⟩, rfl⟩
          · intro hj4
            refine .seq ?_
            refine .region ?_
            refine .q (x := .d (cI y10.2)) (q_move rfl) rfl ?_
            refine .q (x := .d (cB (y10.2 == 0))) (q_eql rfl rfl) rfl ?_
            refine .q (x := .d (cB (y10.2 == 0))) (q_move rfl) rfl ?_
            refine .guardG (b := (y10.2 == 0)) (x := .d (cS y10.1)) (env' := [(7, _)]) rfl rfl rfl ⟨.inl rfl, trivial⟩ rfl (fun hg => OpQ.g (q_move rfl)) ?_
            refine .guardG (b := (y10.2 == 0)) (x := .d (cS v0)) (env' := [(0, _)]) rfl rfl rfl ⟨.inl rfl, trivial⟩ rfl (fun hg => OpQ.g (q_move rfl)) ?_
            refine .guardG (b := (y10.2 == 0)) (x := .d (cB (y10.1 != v0))) (env' := [(94, _), (95, _)]) rfl rfl rfl ⟨.inr (.inl rfl), ⟨.inr (.inl rfl), trivial⟩⟩ rfl (fun hg => OpQ.g (q_sneq rfl rfl)) ?_
            refine .q (x := .d (cB ((y10.2 == 0) && (y10.1 != v0)))) (q_pickAndB rfl rfl rfl) rfl ?_
            refine .nil ?_
            refine .cond rfl (fun hc => ?_) (fun hc => ?_)
            · replace H := ifT hc H; clear hc
              refine .region ?_
              refine .q (x := .d (cI 1)) (q_assign rfl) rfl ?_
              refine .nil ?_
              exact .sub (.cons rfl (.rfl' _) (.cons rfl (.rfl' _) (.cons rfl (.rfl' _) (.nil)))) (hj4 1 H)
            · replace H := ifF hc H; clear hc
              refine .skip ?_
              exact .sub (.cons rfl (.rfl' _) (.cons rfl (.rfl' _) (.cons rfl (.rfl' _) (.nil)))) (hj4 y10.2 H)
      · intro hj3
        refine .seq ?_
        refine .region ?_
        refine .q (x := .ref 1 0) (q_move rfl) rfl ?_
        obtain ⟨y11, hy11, H⟩ := bind_some' H
        refine .callSD en_29 rfl rfl (c_f_textual_reader_next_s3 rfl rfl hy11) ?_
        refine .withSt (st' := ⟨[.row 23 [.d (cI 0), .d (cI 0), .d (cI 0), .d (cS ([] : List UInt8)), .d (cS ([] : List UInt8)), .d (cI 0), .d (cI 0), .d (cI 0), .d (cI 0), .d (cB false), .d (cI 0), .d (cB false)], .row 51 [.d (slOf 1 rS y11.2.words), .d (cB y11.2.bad)], .row 23 [.d (cI y4.1), .d (cI y5.1), .d (cI (1 + y3)), .d (cS y6.1), .d (cS o2c4j1), .d (cI y8.1), .d (cI y9.1), .d (cI o2c7j2), .d (cI o2c8j2), .d (cB o2c9j2), .d (cI 0), .d (cB false)]], []⟩) rfl ?_
        refine .nil ?_
        refine .cond rfl (fun hc => ?_) (fun hc => ?_)
        · replace H := ifT hc H; clear hc
          refine .seq ?_
          refine .region ?_
          refine .q (x := .ref 2 11) (q_fieldRef fo_23_11 rfl) rfl ?_
          refine .u (u_store rfl rfl rfl rfl (Nat.le_of_ble_eq_true rfl) sz_4) rfl ?_
          refine .withSt (st' := ⟨[.row 23 [.d (cI 0), .d (cI 0), .d (cI 0), .d (cS ([] : List UInt8)), .d (cS ([] : List UInt8)), .d (cI 0), .d (cI 0), .d (cI 0), .d (cI 0), .d (cB false), .d (cI 0), .d (cB false)], .row 51 [.d (slOf 1 rS y11.2.words), .d (cB y11.2.bad)], .row 23 [.d (cI y4.1), .d (cI y5.1), .d (cI (1 + y3)), .d (cS y6.1), .d (cS o2c4j1), .d (cI y8.1), .d (cI y9.1), .d (cI o2c7j2), .d (cI o2c8j2), .d (cB o2c9j2), .d (cI 0), .d (cB true)]], []⟩) rfl ?_
          refine .nil ?_
          refine .region ?_
          refine .q (x := .ref 1 0) (q_move rfl) rfl ?_
          obtain ⟨y12, hy12, H⟩ := bind_some' H
          refine .callSD en_28 rfl rfl (c_f_textual_reader_number_s2 rfl rfl hy12) ?_
          refine .withSt (st' := ⟨[.row 23 [.d (cI 0), .d (cI 0), .d (cI 0), .d (cS ([] : List UInt8)), .d (cS ([] : List UInt8)), .d (cI 0), .d (cI 0), .d (cI 0), .d (cI 0), .d (cB false), .d (cI 0), .d (cB false)], .row 51 [.d (slOf 1 rS y12.2.words), .d (cB y12.2.bad)], .row 23 [.d (cI y4.1), .d (cI y5.1), .d (cI (1 + y3)), .d (cS y6.1), .d (cS o2c4j1), .d (cI y8.1), .d (cI y9.1), .d (cI o2c7j2), .d (cI o2c8j2), .d (cB o2c9j2), .d (cI 0), .d (cB true)]], []⟩) rfl ?_
          refine .q (x := .ref 2 10) (q_fieldRef fo_23_10 rfl) rfl ?_
          refine .u (u_store rfl rfl rfl rfl (Nat.le_of_ble_eq_true rfl) sz_3) rfl ?_
          refine .withSt (st' := ⟨[.row 23 [.d (cI 0), .d (cI 0), .d (cI 0), .d (cS ([] : List UInt8)), .d (cS ([] : List UInt8)), .d (cI 0), .d (cI 0), .d (cI 0), .d (cI 0), .d (cB false), .d (cI 0), .d (cB false)], .row 51 [.d (slOf 1 rS y12.2.words), .d (cB y12.2.bad)], .row 23 [.d (cI y4.1), .d (cI y5.1), .d (cI (1 + y3)), .d (cS y6.1), .d (cS o2c4j1), .d (cI y8.1), .d (cI y9.1), .d (cI o2c7j2), .d (cI o2c8j2), .d (cB o2c9j2), .d (cI y12.1), .d (cB true)]], []⟩) rfl ?_
          refine .nil ?_
          exact .withSt (st' := ⟨[.row 23 [.d (cI 0), .d (cI 0), .d (cI 0), .d (cS ([] : List UInt8)), .d (cS ([] : List UInt8)), .d (cI 0), .d (cI 0), .d (cI 0), .d (cI 0), .d (cB false), .d (cI 0), .d (cB false)], .row 51 [.d (slOf 1 rS y12.2.words), .d (cB y12.2.bad)], .row 23 [.d (cI y4.1), .d (cI y5.1), .d (cI (1 + y3)), .d (cS y6.1), .d (cS o2c4j1), .d (cI y8.1), .d (cI y9.1), .d (cI o2c7j2), .d (cI o2c8j2), .d (cB o2c9j2), .d (cI y12.1), .d (cB true)]], []⟩) rfl <| .sub (.cons rfl (.rfl' _) (.cons rfl (.rfl' _) (.cons rfl (.rfl' _) (.cons rfl (.rfl' _) (.cons rfl (.rfl' _) (.nil)))))) (hj3 (y12.2.words, y12.2.bad, y12.1, true) H)
        · replace H := ifF hc H; clear hc
          refine .seq ?_
          refine .region ?_
          refine .q (x := .ref 1 0) (q_move rfl) rfl ?_
          obtain ⟨y13, hy13, H⟩ := bind_some' H
          refine .callSD en_29 rfl rfl (c_f_textual_reader_next_s3 rfl rfl hy13) ?_
          refine .withSt (st' := ⟨[.row 23 [.d (cI 0), .d (cI 0), .d (cI 0), .d (cS ([] : List UInt8)), .d (cS ([] : List UInt8)), .d (cI 0), .d (cI 0), .d (cI 0), .d (cI 0), .d (cB false), .d (cI 0), .d (cB false)], .row 51 [.d (slOf 1 rS y13.2.words), .d (cB y13.2.bad)], .row 23 [.d (cI y4.1), .d (cI y5.1), .d (cI (1 + y3)), .d (cS y6.1), .d (cS o2c4j1), .d (cI y8.1), .d (cI y9.1), .d (cI o2c7j2), .d (cI o2c8j2), .d (cB o2c9j2), .d (cI 0), .d (cB false)]], []⟩) rfl ?_
          refine .nil ?_
          refine .cond rfl (fun hc => ?_) (fun hc => ?_)
          · replace H := ifT hc H; clear hc
            refine .region ?_
            refine .q (x := .ref 1 0) (q_move rfl) rfl ?_
            obtain ⟨y14, hy14, H⟩ := bind_some' H
            refine .callSD en_28 rfl rfl (c_f_textual_reader_number_s2 rfl rfl hy14) ?_
            refine .withSt (st' := ⟨[.row 23 [.d (cI 0), .d (cI 0), .d (cI 0), .d (cS ([] : List UInt8)), .d (cS ([] : List UInt8)), .d (cI 0), .d (cI 0), .d (cI 0), .d (cI 0), .d (cB false), .d (cI 0), .d (cB false)], .row 51 [.d (slOf 1 rS y14.2.words), .d (cB y14.2.bad)], .row 23 [.d (cI y4.1), .d (cI y5.1), .d (cI (1 + y3)), .d (cS y6.1), .d (cS o2c4j1), .d (cI y8.1), .d (cI y9.1), .d (cI o2c7j2), .d (cI o2c8j2), .d (cB o2c9j2), .d (cI 0), .d (cB false)]], []⟩) rfl ?_
            refine .q (x := .ref 2 10) (q_fieldRef fo_23_10 rfl) rfl ?_
            refine .u (u_store rfl rfl rfl rfl (Nat.le_of_ble_eq_true rfl) sz_3) rfl ?_
            refine .withSt (st' := ⟨[.row 23 [.d (cI 0), .d (cI 0), .d (cI 0), .d (cS ([] : List UInt8)), .d (cS ([] : List UInt8)), .d (cI 0), .d (cI 0), .d (cI 0), .d (cI 0), .d (cB false), .d (cI 0), .d (cB false)], .row 51 [.d (slOf 1 rS y14.2.words), .d (cB y14.2.bad)], .row 23 [.d (cI y4.1), .d (cI y5.1), .d (cI (1 + y3)), .d (cS y6.1), .d (cS o2c4j1), .d (cI y8.1), .d (cI y9.1), .d (cI o2c7j2), .d (cI o2c8j2), .d (cB o2c9j2), .d (cI y14.1), .d (cB false)]], []⟩) rfl ?_
            refine .nil ?_
            exact .withSt (st' := ⟨[.row 23 [.d (cI 0), .d (cI 0), .d (cI 0), .d (cS ([] : List UInt8)), .d (cS ([] : List UInt8)), .d (cI 0), .d (cI 0), .d (cI 0), .d (cI 0), .d (cB false), .d (cI 0), .d (cB false)], .row 51 [.d (slOf 1 rS y14.2.words), .d (cB y14.2.bad)], .row 23 [.d (cI y4.1), .d (cI y5.1), .d (cI (1 + y3)), .d (cS y6.1), .d (cS o2c4j1), .d (cI y8.1), .d (cI y9.1), .d (cI o2c7j2), .d (cI o2c8j2), .d (cB o2c9j2), .d (cI y14.1), .d (cB false)]], []⟩) rfl <| .sub (.cons rfl (.rfl' _) (.cons rfl (.rfl' _) (.cons rfl (.rfl' _) (.cons rfl (.rfl' _) (.cons rfl (.rfl' _) (.nil)))))) (hj3 (y14.2.words, y14.2.bad, y14.1, false) H)
          · replace H := ifF hc H; clear hc
            refine .skip ?_
            exact .withSt (st' := ⟨[.row 23 [.d (cI 0), .d (cI 0), .d (cI 0), .d (cS ([] : List UInt8)), .d (cS ([] : List UInt8)), .d (cI 0), .d (cI 0), .d (cI 0), .d (cI 0), .d (cB false), .d (cI 0), .d (cB false)], .row 51 [.d (slOf 1 rS y13.2.words), .d (cB y13.2.bad)], .row 23 [.d (cI y4.1), .d (cI y5.1), .d (cI (1 + y3)), .d (cS y6.1), .d (cS o2c4j1), .d (cI y8.1), .d (cI y9.1), .d (cI o2c7j2), .d (cI o2c8j2), .d (cB o2c9j2), .d (cI 0), .d (cB false)]], []⟩) rfl <| .sub (.cons rfl (.rfl' _) (.cons rfl (.rfl' _) (.cons rfl (.rfl' _) (.cons rfl (.rfl' _) (.cons rfl (.rfl' _) (.nil)))))) (hj3 (y13.2.words, y13.2.bad, 0, false) H)
    · intro hj2
      refine .seq ?_
      refine .region ?_
      refine .q (x := .ref 1 0) (q_move rfl) rfl ?_
      obtain ⟨y15, hy15, H⟩ := bind_some' H
      refine .callSD en_29 rfl rfl (c_f_textual_reader_next_s3 rfl rfl hy15) ?_
      refine .withSt (st' := ⟨[.row 23 [.d (cI 0), .d (cI 0), .d (cI 0), .d (cS ([] : List UInt8)), .d (cS ([] : List UInt8)), .d (cI 0), .d (cI 0), .d (cI 0), .d (cI 0), .d (cB false), .d (cI 0), .d (cB false)], .row 51 [.d (slOf 1 rS y15.2.words), .d (cB y15.2.bad)], .row 23 [.d (cI y4.1), .d (cI y5.1), .d (cI (1 + y3)), .d (cS y6.1), .d (cS o2c4j1), .d (cI y8.1), .d (cI y9.1), .d (cI 0), .d (cI 0), .d (cB false), .d (cI 0), .d (cB false)]], []⟩) rfl ?_
      refine .nil ?_
      refine .cond rfl (fun hc => ?_) (fun hc => ?_)
      · replace H := ifT hc H; clear hc
        refine .seq ?_
        refine .region ?_
        refine .q (x := .ref 1 0) (q_move rfl) rfl ?_
        obtain ⟨y16, hy16, H⟩ := bind_some' H
        refine .callSD en_28 rfl rfl (c_f_textual_reader_number_s2 rfl rfl hy16) ?_
        refine .withSt (st' := ⟨[.row 23 [.d (cI 0), .d (cI 0), .d (cI 0), .d (cS ([] : List UInt8)), .d (cS ([] : List UInt8)), .d (cI 0), .d (cI 0), .d (cI 0), .d (cI 0), .d (cB false), .d (cI 0), .d (cB false)], .row 51 [.d (slOf 1 rS y16.2.words), .d (cB y16.2.bad)], .row 23 [.d (cI y4.1), .d (cI y5.1), .d (cI (1 + y3)), .d (cS y6.1), .d (cS o2c4j1), .d (cI y8.1), .d (cI y9.1), .d (cI 0), .d (cI 0), .d (cB false), .d (cI 0), .d (cB false)]], []⟩) rfl ?_
        refine .q (x := .ref 2 7) (q_fieldRef fo_23_7 rfl) rfl ?_
        refine .u (u_store rfl rfl rfl rfl (Nat.le_of_ble_eq_true rfl) sz_3) rfl ?_
        refine .withSt (st' := ⟨[.row 23 [.d (cI 0), .d (cI 0), .d (cI 0), .d (cS ([] : List UInt8)), .d (cS ([] : List UInt8)), .d (cI 0), .d (cI 0), .d (cI 0), .d (cI 0), .d (cB false), .d (cI 0), .d (cB false)], .row 51 [.d (slOf 1 rS y16.2.words), .d (cB y16.2.bad)], .row 23 [.d (cI y4.1), .d (cI y5.1), .d (cI (1 + y3)), .d (cS y6.1), .d (cS o2c4j1), .d (cI y8.1), .d (cI y9.1), .d (cI y16.1), .d (cI 0), .d (cB false), .d (cI 0), .d (cB false)]], []⟩) rfl ?_
        refine .nil ?_
        refine .seq ?_
        refine .region ?_
        refine .q (x := .ref 1 0) (q_move rfl) rfl ?_
        obtain ⟨y17, hy17, H⟩ := bind_some' H
        refine .callSD en_28 rfl rfl (c_f_textual_reader_number_s2 rfl rfl hy17) ?_
        refine .withSt (st' := ⟨[.row 23 [.d (cI 0), .d (cI 0), .d (cI 0), .d (cS ([] : List UInt8)), .d (cS ([] : List UInt8)), .d (cI 0), .d (cI 0), .d (cI 0), .d (cI 0), .d (cB false), .d (cI 0), .d (cB false)], .row 51 [.d (slOf 1 rS y17.2.words), .d (cB y17.2.bad)], .row 23 [.d (cI y4.1), .d (cI y5.1), .d (cI (1 + y3)), .d (cS y6.1), .d (cS o2c4j1), .d (cI y8.1), .d (cI y9.1), .d (cI y16.1), .d (cI 0), .d (cB false), .d (cI 0), .d (cB false)]], []⟩) rfl ?_
        refine .q (x := .ref 2 8) (q_fieldRef fo_23_8 rfl) rfl ?_
        refine .u (u_store rfl rfl rfl rfl (Nat.le_of_ble_eq_true rfl) sz_3) rfl ?_
        refine .withSt (st' := ⟨[.row 23 [.d (cI 0), .d (cI 0), .d (cI 0), .d (cS ([] : List UInt8)), .d (cS ([] : List UInt8)), .d (cI 0), .d (cI 0), .d (cI 0), .d (cI 0), .d (cB false), .d (cI 0), .d (cB false)], .row 51 [.d (slOf 1 rS y17.2.words), .d (cB y17.2.bad)], .row 23 [.d (cI y4.1), .d (cI y5.1), .d (cI (1 + y3)), .d (cS y6.1), .d (cS o2c4j1), .d (cI y8.1), .d (cI y9.1), .d (cI y16.1), .d (cI y17.1), .d (cB false), .d (cI 0), .d (cB false)]], []⟩) rfl ?_
        refine .nil ?_
        refine .region ?_
        refine .q (x := .ref 1 0) (q_move rfl) rfl ?_
        obtain ⟨y18, hy18, H⟩ := bind_some' H
        refine .callSD en_29 rfl rfl (c_f_textual_reader_next_s3 rfl rfl hy18) ?_
        refine .withSt (st' := ⟨[.row 23 [.d (cI 0), .d (cI 0), .d (cI 0), .d (cS ([] : List UInt8)), .d (cS ([] : List UInt8)), .d (cI 0), .d (cI 0), .d (cI 0), .d (cI 0), .d (cB false), .d (cI 0), .d (cB false)], .row 51 [.d (slOf 1 rS y18.2.words), .d (cB y18.2.bad)], .row 23 [.d (cI y4.1), .d (cI y5.1), .d (cI (1 + y3)), .d (cS y6.1), .d (cS o2c4j1), .d (cI y8.1), .d (cI y9.1), .d (cI y16.1), .d (cI y17.1), .d (cB false), .d (cI 0), .d (cB false)]], []⟩) rfl ?_
        refine .q (x := .ref 2 9) (q_fieldRef fo_23_9 rfl) rfl ?_
        refine .u (u_store rfl rfl rfl rfl (Nat.le_of_ble_eq_true rfl) sz_4) rfl ?_
        refine .withSt (st' := ⟨[.row 23 [.d (cI 0), .d (cI 0), .d (cI 0), .d (cS ([] : List UInt8)), .d (cS ([] : List UInt8)), .d (cI 0), .d (cI 0), .d (cI 0), .d (cI 0), .d (cB false), .d (cI 0), .d (cB false)], .row 51 [.d (slOf 1 rS y18.2.words), .d (cB y18.2.bad)], .row 23 [.d (cI y4.1), .d (cI y5.1), .d (cI (1 + y3)), .d (cS y6.1), .d (cS o2c4j1), .d (cI y8.1), .d (cI y9.1), .d (cI y16.1), .d (cI y17.1), .d (cB y18.1), .d (cI 0), .d (cB false)]], []⟩) rfl ?_
        refine .nil ?_
        exact .withSt (st' := ⟨[.row 23 [.d (cI 0), .d (cI 0), .d (cI 0), .d (cS ([] : List UInt8)), .d (cS ([] : List UInt8)), .d (cI 0), .d (cI 0), .d (cI 0), .d (cI 0), .d (cB false), .d (cI 0), .d (cB false)], .row 51 [.d (slOf 1 rS y18.2.words), .d (cB y18.2.bad)], .row 23 [.d (cI y4.1), .d (cI y5.1), .d (cI (1 + y3)), .d (cS y6.1), .d (cS o2c4j1), .d (cI y8.1), .d (cI y9.1), .d (cI y16.1), .d (cI y17.1), .d (cB y18.1), .d (cI 0), .d (cB false)]], []⟩) rfl <| .sub (.cons rfl (.rfl' _) (.cons rfl (.rfl' _) (.cons rfl (.rfl' _) (.cons rfl (.rfl' _) (.cons rfl (.rfl' _) (.nil)))))) (hj2 (y18.2.words, y18.2.bad, y16.1, y17.1, y18.1) H)
      · replace H := ifF hc H; clear hc
        refine .skip ?_
        exact .withSt (st' := ⟨[.row 23 [.d (cI 0), .d (cI 0), .d (cI 0), .d (cS ([] : List UInt8)), .d (cS ([] : List UInt8)), .d (cI 0), .d (cI 0), .d (cI 0), .d (cI 0), .d (cB false), .d (cI 0), .d (cB false)], .row 51 [.d (slOf 1 rS y15.2.words), .d (cB y15.2.bad)], .row 23 [.d (cI y4.1), .d (cI y5.1), .d (cI (1 + y3)), .d (cS y6.1), .d (cS o2c4j1), .d (cI y8.1), .d (cI y9.1), .d (cI 0), .d (cI 0), .d (cB false), .d (cI 0), .d (cB false)]], []⟩) rfl <| .sub (.cons rfl (.rfl' _) (.cons rfl (.rfl' _) (.cons rfl (.rfl' _) (.cons rfl (.rfl' _) (.cons rfl (.rfl' _) (.nil)))))) (hj2 (y15.2.words, y15.2.bad, 0, 0, false) H)
  · intro hj1
    refine .seq ?_
    refine .region ?_
    refine .q (x := .ref 2 4) (q_fieldRef fo_23_4 rfl) rfl ?_
    refine .q (x := .d (cS y7.1)) (q_loadO one_9 rfl rfl rfl) rfl ?_
    refine .q (x := .d (cB (y7.1 == ([45] : List UInt8)))) (q_seql rfl rfl) rfl ?_
    refine .nil ?_
    refine .cond rfl (fun hc => ?_) (fun hc => ?_)
    · replace H := ifT hc H; clear hc
      refine .region ?_
      refine .q (x := .ref 2 4) (q_fieldRef fo_23_4 rfl) rfl ?_
      refine .u (u_store rfl rfl rfl rfl (Nat.le_of_ble_eq_true rfl) sz_9) rfl ?_
      refine .withSt (st' := ⟨[.row 23 [.d (cI 0), .d (cI 0), .d (cI 0), .d (cS ([] : List UInt8)), .d (cS ([] : List UInt8)), .d (cI 0), .d (cI 0), .d (cI 0), .d (cI 0), .d (cB false), .d (cI 0), .d (cB false)], .row 51 [.d (slOf 1 rS y9.2.words), .d (cB y9.2.bad)], .row 23 [.d (cI y4.1), .d (cI y5.1), .d (cI (1 + y3)), .d (cS y6.1), .d (cS ([] : List UInt8)), .d (cI y8.1), .d (cI y9.1), .d (cI 0), .d (cI 0), .d (cB false), .d (cI 0), .d (cB false)]], []⟩) rfl ?_
      refine .nil ?_
      exact .withSt (st' := ⟨[.row 23 [.d (cI 0), .d (cI 0), .d (cI 0), .d (cS ([] : List UInt8)), .d (cS ([] : List UInt8)), .d (cI 0), .d (cI 0), .d (cI 0), .d (cI 0), .d (cB false), .d (cI 0), .d (cB false)], .row 51 [.d (slOf 1 rS y9.2.words), .d (cB y9.2.bad)], .row 23 [.d (cI y4.1), .d (cI y5.1), .d (cI (1 + y3)), .d (cS y6.1), .d (cS ([] : List UInt8)), .d (cI y8.1), .d (cI y9.1), .d (cI 0), .d (cI 0), .d (cB false), .d (cI 0), .d (cB false)]], []⟩) rfl <| .sub (.cons rfl (.rfl' _) (.cons rfl (.rfl' _) (.cons rfl (.rfl' _) (.cons rfl (.rfl' _) (.cons rfl (.rfl' _) (.nil)))))) (hj1 ([] : List UInt8) H)
    · replace H := ifF hc H; clear hc
      refine .skip ?_
      exact .withSt (st' := ⟨[.row 23 [.d (cI 0), .d (cI 0), .d (cI 0), .d (cS ([] : List UInt8)), .d (cS ([] : List UInt8)), .d (cI 0), .d (cI 0), .d (cI 0), .d (cI 0), .d (cB false), .d (cI 0), .d (cB false)], .row 51 [.d (slOf 1 rS y9.2.words), .d (cB y9.2.bad)], .row 23 [.d (cI y4.1), .d (cI y5.1), .d (cI (1 + y3)), .d (cS y6.1), .d (cS y7.1), .d (cI y8.1), .d (cI y9.1), .d (cI 0), .d (cI 0), .d (cB false), .d (cI 0), .d (cB false)]], []⟩) rfl <| .sub (.cons rfl (.rfl' _) (.cons rfl (.rfl' _) (.cons rfl (.rfl' _) (.cons rfl (.rfl' _) (.cons rfl (.rfl' _) (.nil)))))) (hj1 y7.1 H)

set_option maxRecDepth 100000 in
set_option maxHeartbeats 1000000 in
theorem c_f_textual_Lines {v0s : List UInt8} {r : (List (List UInt8)) × Int} (H : f_textual_Lines v0s = some r) : ACall Tryd.prog 14 [cS v0s] (· = .tup [slOf 1 rS r.1, cI r.2]) := by
  refine ACall.enter' Tryd.func14 rfl Tryd.ntmps14 rfl fun S hS => ?_
  unfold f_textual_Lines at H
  change ARun _ _ _ _ _ _ [(0, .d (cS v0s))] _
  refine .seq ?_
  refine .region ?_
  refine .q (x := .d (nilD)) (q_assign rfl) rfl ?_
  refine .q (x := .d (cI 0)) (q_assign rfl) rfl ?_
  refine .nil ?_
  refine .seq ?_
  refine .seq ?_
  refine .region ?_
  refine .q (x := .d (cS v0s)) (q_move rfl) rfl ?_
  refine .q (x := .d (cB (v0s == ([] : List UInt8)))) (q_seql rfl rfl) rfl ?_
  refine .nil ?_
  refine .cond rfl (fun hc => ?_) (fun hc => ?_)
  · replace H := ifT hc H; clear hc
    refine .seq ?_
    refine .region ?_
    refine .q (x := .d (nilD)) (q_assign rfl) rfl ?_
    refine .q (x := .d (cI 0)) (q_assign rfl) rfl ?_
    refine .nil ?_
    refine .retN [.tmp 2, .tmp 3] [.d (nilD), .d (cI 0)] Tryd.func14 Tryd.results14 ⟨rfl, rfl, trivial⟩ ?_
    cases H
    exact ⟨_, EVle.tupL (ds := [slOf 1 rS ([] : List (List UInt8)), cI 0]) ⟨.nil 1, .rfl' _, trivial⟩, rfl⟩
  · replace H := ifF hc H; clear hc
    refine .skip ?_
    refine .seq ?_
    refine .region ?_
    refine .q (x := .d (cS v0s)) (q_move rfl) rfl ?_
    obtain ⟨y1, hy1, H⟩ := bind_some' H
    refine .g (x := .d (.tup [cS y1.1, cB y1.2])) (g_call en_32 rfl rfl (c_x_CutSuffix (hy1))) rfl ?_
    refine .q (x := .d (.tup [cS y1.1, cB y1.2])) (q_move rfl) rfl ?_
    refine .q (x := .d (cS y1.1)) (q_extract rfl rfl) rfl ?_
    refine .q (x := .d (cB y1.2)) (q_extract rfl rfl) rfl ?_
    refine .q (x := .d (cS y1.1)) (q_assign rfl) rfl ?_
    refine .q (x := .d (cB y1.2)) (q_assign rfl) rfl ?_
    refine .nil ?_
    refine .seq ?_
    refine .seq ?_
    refine .region ?_
    refine .q (x := .d (cB y1.2)) (q_move rfl) rfl ?_
    refine .q (x := .d (cB (!y1.2))) (q_not rfl) rfl ?_
    refine .nil ?_
    refine .cond rfl (fun hc => ?_) (fun hc => ?_)
    · replace H := ifT hc H; clear hc
      refine .seq ?_
      refine .region ?_
      refine .q (x := .d (nilD)) (q_assign rfl) rfl ?_
      refine .q (x := .d (cI 1)) (q_assign rfl) rfl ?_
      refine .nil ?_
      refine .retN [.tmp 2, .tmp 3] [.d (nilD), .d (cI 1)] Tryd.func14 Tryd.results14 ⟨rfl, rfl, trivial⟩ ?_
      cases H
      exact ⟨_, EVle.tupL (ds := [slOf 1 rS ([] : List (List UInt8)), cI 1]) ⟨.nil 1, .rfl' _, trivial⟩, rfl⟩
    · replace H := ifF hc H; clear hc
      refine .skip ?_
      refine .seq ?_
      refine .region ?_
      refine .q (x := .d (cS y1.1)) (q_move rfl) rfl ?_
      obtain ⟨y2, hy2, H⟩ := bind_some' H
      refine .g (x := .d (slOf 1 rS y2)) (g_call en_25 rfl rfl (c_x_Split (hy2))) rfl ?_
      refine .q (x := .d (slOf 1 rS y2)) (q_assign rfl) rfl ?_
      refine .nil ?_
      refine .seq ?_
      refine .seq ?_
      refine .region ?_
      refine .q (x := .d (slOf 1 rS y2)) (q_move rfl) rfl ?_
      refine .q (x := .d (cI (y2.length : Int))) (q_lenL (l := y2) (row := rS) Tryd.underlying33 rfl rfl) rfl ?_
      refine .q (x := .d (cB (decide ((y2.length : Int) > 4096)))) (q_gtr rfl rfl) rfl ?_
      refine .nil ?_
      refine .cond rfl (fun hc => ?_) (fun hc => ?_)
      · replace H := ifT hc H; clear hc
        refine .seq ?_
        refine .region ?_
        refine .q (x := .d (nilD)) (q_assign rfl) rfl ?_
        refine .q (x := .d (cI 5)) (q_assign rfl) rfl ?_
        refine .nil ?_
        refine .retN [.tmp 2, .tmp 3] [.d (nilD), .d (cI 5)] Tryd.func14 Tryd.results14 ⟨rfl, rfl, trivial⟩ ?_
        cases H
        exact ⟨_, EVle.tupL (ds := [slOf 1 rS ([] : List (List UInt8)), cI 5]) ⟨.nil 1, .rfl' _, trivial⟩, rfl⟩
      · replace H := ifF hc H; clear hc
        refine .skip ?_
        refine .seq ?_
        refine .region ?_
        refine .q (x := .d (slOf 1 rS y2)) (q_move rfl) rfl ?_
        refine .q (x := .d (slOf 1 rS y2)) (q_assign rfl) rfl ?_
        refine .q (x := .d (cI 0)) (q_assign rfl) rfl ?_
        refine .nil ?_
        refine .retN [.tmp 2, .tmp 3] [.d (slOf 1 rS y2), .d (cI 0)] Tryd.func14 Tryd.results14 ⟨rfl, rfl, trivial⟩ ?_
        cases H
        exact ⟨_, EVle.tupL (ds := [slOf 1 rS y2, cI 0]) ⟨.rfl' _, .rfl' _, trivial⟩, rfl⟩

set_option maxRecDepth 100000 in
set_option maxHeartbeats 1000000 in
theorem c_f_billinglaw09_awake {r : Bool} (H : f_billinglaw09_awake = some r) : ACall Tryd.prog 9 [] (· = cB r) := by
  obtain ⟨i9, hi9, hz9, hs9, hb9⟩ := in_9
  obtain ⟨i23, hi23, hz23, hs23, hb23⟩ := in_23
  refine ACall.enter' Tryd.func9 rfl Tryd.ntmps9 rfl fun S hS => ?_
  unfold f_billinglaw09_awake at H
  change ARun _ _ _ _ _ _ [] _
  refine .seq ?_
  refine .region ?_
  refine .q (x := .d (cB false)) (q_assign rfl) rfl ?_
  refine .nil ?_
  refine .seq ?_
  refine .region ?_
  refine .q (x := .d (.agg (Record.row (⟨1, 7, 1, ([52, 57, 49, 53] : List UInt8), ([52, 57, 51, 48] : List UInt8), 60, 90, 0, 0, false, 0, false⟩ : Record)))) (q_buildP pl_23 hi23 hz23 rfl rfl) rfl ?_
  refine .v (x := .ref 0 0) (v_alloc zr_23 rfl) rfl ?_
  refine .withSt (st' := ⟨[.row 23 [.d (cI 0), .d (cI 0), .d (cI 0), .d (cS ([] : List UInt8)), .d (cS ([] : List UInt8)), .d (cI 0), .d (cI 0), .d (cI 0), .d (cI 0), .d (cB false), .d (cI 0), .d (cB false)]], []⟩) rfl ?_
  refine .u (u_store rfl rfl rfl rfl (Nat.le_of_ble_eq_true rfl) sz_23) rfl ?_
  refine .withSt (st' := ⟨[.row 23 [.d (cI 1), .d (cI 7), .d (cI 1), .d (cS ([52, 57, 49, 53] : List UInt8)), .d (cS ([52, 57, 51, 48] : List UInt8)), .d (cI 60), .d (cI 90), .d (cI 0), .d (cI 0), .d (cB false), .d (cI 0), .d (cB false)]], []⟩) rfl ?_
  refine .nil ?_
  refine .seq ?_
  refine .region ?_
  refine .q (x := .d (.agg (Record.row (⟨1, 7, 1, ([52, 57, 49, 53] : List UInt8), ([52, 57, 51, 48] : List UInt8), 60, 90, 0, 0, false, 0, false⟩ : Record)))) (q_loadOA one_23 sz_23 rfl rfl (Nat.le_of_ble_eq_true rfl) rfl) rfl ?_
  refine .v (x := .ref 1 0) (v_alloc zr_23 rfl) rfl ?_
  refine .withSt (st' := ⟨[.row 23 [.d (cI 1), .d (cI 7), .d (cI 1), .d (cS ([52, 57, 49, 53] : List UInt8)), .d (cS ([52, 57, 51, 48] : List UInt8)), .d (cI 60), .d (cI 90), .d (cI 0), .d (cI 0), .d (cB false), .d (cI 0), .d (cB false)], .row 23 [.d (cI 0), .d (cI 0), .d (cI 0), .d (cS ([] : List UInt8)), .d (cS ([] : List UInt8)), .d (cI 0), .d (cI 0), .d (cI 0), .d (cI 0), .d (cB false), .d (cI 0), .d (cB false)]], []⟩) rfl ?_
  refine .u (u_store rfl rfl rfl rfl (Nat.le_of_ble_eq_true rfl) sz_23) rfl ?_
  refine .withSt (st' := ⟨[.row 23 [.d (cI 1), .d (cI 7), .d (cI 1), .d (cS ([52, 57, 49, 53] : List UInt8)), .d (cS ([52, 57, 51, 48] : List UInt8)), .d (cI 60), .d (cI 90), .d (cI 0), .d (cI 0), .d (cB false), .d (cI 0), .d (cB false)], .row 23 [.d (cI 1), .d (cI 7), .d (cI 1), .d (cS ([52, 57, 49, 53] : List UInt8)), .d (cS ([52, 57, 51, 48] : List UInt8)), .d (cI 60), .d (cI 90), .d (cI 0), .d (cI 0), .d (cB false), .d (cI 0), .d (cB false)]], []⟩) rfl ?_
  refine .nil ?_
  refine .seq ?_
  refine .region ?_
  refine .q (x := .ref 1 7) (q_fieldRef fo_23_7 rfl) rfl ?_
  refine .u (u_store rfl rfl rfl rfl (Nat.le_of_ble_eq_true rfl) sz_3) rfl ?_
  refine .withSt (st' := ⟨[.row 23 [.d (cI 1), .d (cI 7), .d (cI 1), .d (cS ([52, 57, 49, 53] : List UInt8)), .d (cS ([52, 57, 51, 48] : List UInt8)), .d (cI 60), .d (cI 90), .d (cI 0), .d (cI 0), .d (cB false), .d (cI 0), .d (cB false)], .row 23 [.d (cI 1), .d (cI 7), .d (cI 1), .d (cS ([52, 57, 49, 53] : List UInt8)), .d (cS ([52, 57, 51, 48] : List UInt8)), .d (cI 60), .d (cI 90), .d (cI 3), .d (cI 0), .d (cB false), .d (cI 0), .d (cB false)]], []⟩) rfl ?_
  refine .nil ?_
  refine .seq ?_
  refine .region ?_
  refine .q (x := .ref 1 8) (q_fieldRef fo_23_8 rfl) rfl ?_
  refine .u (u_store rfl rfl rfl rfl (Nat.le_of_ble_eq_true rfl) sz_3) rfl ?_
  refine .withSt (st' := ⟨[.row 23 [.d (cI 1), .d (cI 7), .d (cI 1), .d (cS ([52, 57, 49, 53] : List UInt8)), .d (cS ([52, 57, 51, 48] : List UInt8)), .d (cI 60), .d (cI 90), .d (cI 0), .d (cI 0), .d (cB false), .d (cI 0), .d (cB false)], .row 23 [.d (cI 1), .d (cI 7), .d (cI 1), .d (cS ([52, 57, 49, 53] : List UInt8)), .d (cS ([52, 57, 51, 48] : List UInt8)), .d (cI 60), .d (cI 90), .d (cI 3), .d (cI 2), .d (cB false), .d (cI 0), .d (cB false)]], []⟩) rfl ?_
  refine .nil ?_
  refine .seq ?_
  refine .region ?_
  refine .q (x := .ref 1 9) (q_fieldRef fo_23_9 rfl) rfl ?_
  refine .u (u_store rfl rfl rfl rfl (Nat.le_of_ble_eq_true rfl) sz_4) rfl ?_
  refine .withSt (st' := ⟨[.row 23 [.d (cI 1), .d (cI 7), .d (cI 1), .d (cS ([52, 57, 49, 53] : List UInt8)), .d (cS ([52, 57, 51, 48] : List UInt8)), .d (cI 60), .d (cI 90), .d (cI 0), .d (cI 0), .d (cB false), .d (cI 0), .d (cB false)], .row 23 [.d (cI 1), .d (cI 7), .d (cI 1), .d (cS ([52, 57, 49, 53] : List UInt8)), .d (cS ([52, 57, 51, 48] : List UInt8)), .d (cI 60), .d (cI 90), .d (cI 3), .d (cI 2), .d (cB true), .d (cI 0), .d (cB false)]], []⟩) rfl ?_
  refine .nil ?_
  refine .seq ?_
  refine .region ?_
  refine .q (x := .d (.agg (Record.row (⟨1, 7, 1, ([52, 57, 49, 53] : List UInt8), ([52, 57, 51, 48] : List UInt8), 60, 90, 0, 0, false, 0, false⟩ : Record)))) (q_loadOA one_23 sz_23 rfl rfl (Nat.le_of_ble_eq_true rfl) rfl) rfl ?_
  obtain ⟨y1, hy1, H⟩ := bind_some' H
  refine .g (x := .d (.tup [cS y1.1, cI y1.2])) (g_call en_10 rfl rfl (c_f_textual_Encode (hy1))) rfl ?_
  refine .q (x := .d (.tup [cS y1.1, cI y1.2])) (q_move rfl) rfl ?_
  refine .q (x := .d (cS y1.1)) (q_extract rfl rfl) rfl ?_
  refine .q (x := .d (cI y1.2)) (q_extract rfl rfl) rfl ?_
  refine .q (x := .d (cS y1.1)) (q_assign rfl) rfl ?_
  refine .q (x := .d (cI y1.2)) (q_assign rfl) rfl ?_
  refine .nil ?_
  refine .seq ?_
  refine .region ?_
  refine .q (x := .d (.agg (Record.row (⟨1, 7, 1, ([52, 57, 49, 53] : List UInt8), ([52, 57, 51, 48] : List UInt8), 60, 90, 3, 2, true, 0, false⟩ : Record)))) (q_loadOA one_23 sz_23 rfl rfl (Nat.le_of_ble_eq_true rfl) rfl) rfl ?_
  obtain ⟨y2, hy2, H⟩ := bind_some' H
  refine .g (x := .d (.tup [cS y2.1, cI y2.2])) (g_call en_10 rfl rfl (c_f_textual_Encode (hy2))) rfl ?_
  refine .q (x := .d (.tup [cS y2.1, cI y2.2])) (q_move rfl) rfl ?_
  refine .q (x := .d (cS y2.1)) (q_extract rfl rfl) rfl ?_
  refine .q (x := .d (cI y2.2)) (q_extract rfl rfl) rfl ?_
  refine .q (x := .d (cS y2.1)) (q_assign rfl) rfl ?_
  refine .q (x := .d (cI y2.2)) (q_assign rfl) rfl ?_
  refine .nil ?_
  refine .seq ?_
  refine .region ?_
  obtain ⟨y3, hy3, H⟩ := bind_some' H
  refine .g (x := .d (.tup [.agg (Record.row y3.1), cI y3.2])) (g_call en_12 rfl rfl (c_f_textual_Decode (hy3))) rfl ?_
  refine .q (x := .d (.tup [.agg (Record.row y3.1), cI y3.2])) (q_move rfl) rfl ?_
  refine .q (x := .d (.agg (Record.row y3.1))) (q_extract rfl rfl) rfl ?_
  refine .q (x := .d (cI y3.2)) (q_extract rfl rfl) rfl ?_
  refine .v (x := .ref 2 0) (v_alloc zr_23 rfl) rfl ?_
  refine .withSt (st' := ⟨[.row 23 [.d (cI 1), .d (cI 7), .d (cI 1), .d (cS ([52, 57, 49, 53] : List UInt8)), .d (cS ([52, 57, 51, 48] : List UInt8)), .d (cI 60), .d (cI 90), .d (cI 0), .d (cI 0), .d (cB false), .d (cI 0), .d (cB false)], .row 23 [.d (cI 1), .d (cI 7), .d (cI 1), .d (cS ([52, 57, 49, 53] : List UInt8)), .d (cS ([52, 57, 51, 48] : List UInt8)), .d (cI 60), .d (cI 90), .d (cI 3), .d (cI 2), .d (cB true), .d (cI 0), .d (cB false)], .row 23 [.d (cI 0), .d (cI 0), .d (cI 0), .d (cS ([] : List UInt8)), .d (cS ([] : List UInt8)), .d (cI 0), .d (cI 0), .d (cI 0), .d (cI 0), .d (cB false), .d (cI 0), .d (cB false)]], []⟩) rfl ?_
  refine .u (u_store rfl rfl rfl rfl (Nat.le_of_ble_eq_true rfl) sz_23) rfl ?_
  refine .withSt (st' := ⟨[.row 23 [.d (cI 1), .d (cI 7), .d (cI 1), .d (cS ([52, 57, 49, 53] : List UInt8)), .d (cS ([52, 57, 51, 48] : List UInt8)), .d (cI 60), .d (cI 90), .d (cI 0), .d (cI 0), .d (cB false), .d (cI 0), .d (cB false)], .row 23 [.d (cI 1), .d (cI 7), .d (cI 1), .d (cS ([52, 57, 49, 53] : List UInt8)), .d (cS ([52, 57, 51, 48] : List UInt8)), .d (cI 60), .d (cI 90), .d (cI 3), .d (cI 2), .d (cB true), .d (cI 0), .d (cB false)], .row 23 [.d (cI y3.1.source), .d (cI y3.1.serial), .d (cI y3.1.kind), .d (cS y3.1.a), .d (cS y3.1.b), .d (cI y3.1.start), .d (cI y3.1.units), .d (cI y3.1.call), .d (cI y3.1.part), .d (cB y3.1.last), .d (cI y3.1.trunk), .d (cB y3.1.inbound)]], []⟩) rfl ?_
  refine .q (x := .d (cI y3.2)) (q_assign rfl) rfl ?_
  refine .nil ?_
  refine .seq ?_
  refine .region ?_
  obtain ⟨y4, hy4, H⟩ := bind_some' H
  refine .g (x := .d (.tup [.agg (Record.row y4.1), cI y4.2])) (g_call en_12 rfl rfl (c_f_textual_Decode (hy4))) rfl ?_
  refine .q (x := .d (.tup [.agg (Record.row y4.1), cI y4.2])) (q_move rfl) rfl ?_
  refine .q (x := .d (.agg (Record.row y4.1))) (q_extract rfl rfl) rfl ?_
  refine .q (x := .d (cI y4.2)) (q_extract rfl rfl) rfl ?_
  refine .v (x := .ref 3 0) (v_alloc zr_23 rfl) rfl ?_
  refine .withSt (st' := ⟨[.row 23 [.d (cI 1), .d (cI 7), .d (cI 1), .d (cS ([52, 57, 49, 53] : List UInt8)), .d (cS ([52, 57, 51, 48] : List UInt8)), .d (cI 60), .d (cI 90), .d (cI 0), .d (cI 0), .d (cB false), .d (cI 0), .d (cB false)], .row 23 [.d (cI 1), .d (cI 7), .d (cI 1), .d (cS ([52, 57, 49, 53] : List UInt8)), .d (cS ([52, 57, 51, 48] : List UInt8)), .d (cI 60), .d (cI 90), .d (cI 3), .d (cI 2), .d (cB true), .d (cI 0), .d (cB false)], .row 23 [.d (cI y3.1.source), .d (cI y3.1.serial), .d (cI y3.1.kind), .d (cS y3.1.a), .d (cS y3.1.b), .d (cI y3.1.start), .d (cI y3.1.units), .d (cI y3.1.call), .d (cI y3.1.part), .d (cB y3.1.last), .d (cI y3.1.trunk), .d (cB y3.1.inbound)], .row 23 [.d (cI 0), .d (cI 0), .d (cI 0), .d (cS ([] : List UInt8)), .d (cS ([] : List UInt8)), .d (cI 0), .d (cI 0), .d (cI 0), .d (cI 0), .d (cB false), .d (cI 0), .d (cB false)]], []⟩) rfl ?_
  refine .u (u_store rfl rfl rfl rfl (Nat.le_of_ble_eq_true rfl) sz_23) rfl ?_
  refine .withSt (st' := ⟨[.row 23 [.d (cI 1), .d (cI 7), .d (cI 1), .d (cS ([52, 57, 49, 53] : List UInt8)), .d (cS ([52, 57, 51, 48] : List UInt8)), .d (cI 60), .d (cI 90), .d (cI 0), .d (cI 0), .d (cB false), .d (cI 0), .d (cB false)], .row 23 [.d (cI 1), .d (cI 7), .d (cI 1), .d (cS ([52, 57, 49, 53] : List UInt8)), .d (cS ([52, 57, 51, 48] : List UInt8)), .d (cI 60), .d (cI 90), .d (cI 3), .d (cI 2), .d (cB true), .d (cI 0), .d (cB false)], .row 23 [.d (cI y3.1.source), .d (cI y3.1.serial), .d (cI y3.1.kind), .d (cS y3.1.a), .d (cS y3.1.b), .d (cI y3.1.start), .d (cI y3.1.units), .d (cI y3.1.call), .d (cI y3.1.part), .d (cB y3.1.last), .d (cI y3.1.trunk), .d (cB y3.1.inbound)], .row 23 [.d (cI y4.1.source), .d (cI y4.1.serial), .d (cI y4.1.kind), .d (cS y4.1.a), .d (cS y4.1.b), .d (cI y4.1.start), .d (cI y4.1.units), .d (cI y4.1.call), .d (cI y4.1.part), .d (cB y4.1.last), .d (cI y4.1.trunk), .d (cB y4.1.inbound)]], []⟩) rfl ?_
  refine .q (x := .d (cI y4.2)) (q_assign rfl) rfl ?_
  refine .nil ?_
  refine .seq ?_
  refine .region ?_
  obtain ⟨y5, hy5, H⟩ := bind_some' H
  refine .g (x := .d (.tup [.agg (Record.row y5.1), cI y5.2])) (g_call en_12 rfl rfl (c_f_textual_Decode (hy5))) rfl ?_
  refine .q (x := .d (.tup [.agg (Record.row y5.1), cI y5.2])) (q_move rfl) rfl ?_
  refine .q (x := .d (.agg (Record.row y5.1))) (q_extract rfl rfl) rfl ?_
  refine .q (x := .d (cI y5.2)) (q_extract rfl rfl) rfl ?_
  refine .v (x := .ref 4 0) (v_alloc zr_23 rfl) rfl ?_
  refine .withSt (st' := ⟨[.row 23 [.d (cI 1), .d (cI 7), .d (cI 1), .d (cS ([52, 57, 49, 53] : List UInt8)), .d (cS ([52, 57, 51, 48] : List UInt8)), .d (cI 60), .d (cI 90), .d (cI 0), .d (cI 0), .d (cB false), .d (cI 0), .d (cB false)], .row 23 [.d (cI 1), .d (cI 7), .d (cI 1), .d (cS ([52, 57, 49, 53] : List UInt8)), .d (cS ([52, 57, 51, 48] : List UInt8)), .d (cI 60), .d (cI 90), .d (cI 3), .d (cI 2), .d (cB true), .d (cI 0), .d (cB false)], .row 23 [.d (cI y3.1.source), .d (cI y3.1.serial), .d (cI y3.1.kind), .d (cS y3.1.a), .d (cS y3.1.b), .d (cI y3.1.start), .d (cI y3.1.units), .d (cI y3.1.call), .d (cI y3.1.part), .d (cB y3.1.last), .d (cI y3.1.trunk), .d (cB y3.1.inbound)], .row 23 [.d (cI y4.1.source), .d (cI y4.1.serial), .d (cI y4.1.kind), .d (cS y4.1.a), .d (cS y4.1.b), .d (cI y4.1.start), .d (cI y4.1.units), .d (cI y4.1.call), .d (cI y4.1.part), .d (cB y4.1.last), .d (cI y4.1.trunk), .d (cB y4.1.inbound)], .row 23 [.d (cI 0), .d (cI 0), .d (cI 0), .d (cS ([] : List UInt8)), .d (cS ([] : List UInt8)), .d (cI 0), .d (cI 0), .d (cI 0), .d (cI 0), .d (cB false), .d (cI 0), .d (cB false)]], []⟩) rfl ?_
  refine .u (u_store rfl rfl rfl rfl (Nat.le_of_ble_eq_true rfl) sz_23) rfl ?_
  refine .withSt (st' := ⟨[.row 23 [.d (cI 1), .d (cI 7), .d (cI 1), .d (cS ([52, 57, 49, 53] : List UInt8)), .d (cS ([52, 57, 51, 48] : List UInt8)), .d (cI 60), .d (cI 90), .d (cI 0), .d (cI 0), .d (cB false), .d (cI 0), .d (cB false)], .row 23 [.d (cI 1), .d (cI 7), .d (cI 1), .d (cS ([52, 57, 49, 53] : List UInt8)), .d (cS ([52, 57, 51, 48] : List UInt8)), .d (cI 60), .d (cI 90), .d (cI 3), .d (cI 2), .d (cB true), .d (cI 0), .d (cB false)], .row 23 [.d (cI y3.1.source), .d (cI y3.1.serial), .d (cI y3.1.kind), .d (cS y3.1.a), .d (cS y3.1.b), .d (cI y3.1.start), .d (cI y3.1.units), .d (cI y3.1.call), .d (cI y3.1.part), .d (cB y3.1.last), .d (cI y3.1.trunk), .d (cB y3.1.inbound)], .row 23 [.d (cI y4.1.source), .d (cI y4.1.serial), .d (cI y4.1.kind), .d (cS y4.1.a), .d (cS y4.1.b), .d (cI y4.1.start), .d (cI y4.1.units), .d (cI y4.1.call), .d (cI y4.1.part), .d (cB y4.1.last), .d (cI y4.1.trunk), .d (cB y4.1.inbound)], .row 23 [.d (cI y5.1.source), .d (cI y5.1.serial), .d (cI y5.1.kind), .d (cS y5.1.a), .d (cS y5.1.b), .d (cI y5.1.start), .d (cI y5.1.units), .d (cI y5.1.call), .d (cI y5.1.part), .d (cB y5.1.last), .d (cI y5.1.trunk), .d (cB y5.1.inbound)]], []⟩) rfl ?_
  refine .q (x := .d (cI y5.2)) (q_assign rfl) rfl ?_
  refine .nil ?_
  refine .seq ?_
  refine .region ?_
  obtain ⟨y6, hy6, H⟩ := bind_some' H
  refine .g (x := .d (.tup [.agg (Record.row y6.1), cI y6.2])) (g_call en_12 rfl rfl (c_f_textual_Decode (hy6))) rfl ?_
  refine .q (x := .d (.tup [.agg (Record.row y6.1), cI y6.2])) (q_move rfl) rfl ?_
  refine .q (x := .d (.agg (Record.row y6.1))) (q_extract rfl rfl) rfl ?_
  refine .q (x := .d (cI y6.2)) (q_extract rfl rfl) rfl ?_
  refine .v (x := .ref 5 0) (v_alloc zr_23 rfl) rfl ?_
  refine .withSt (st' := ⟨[.row 23 [.d (cI 1), .d (cI 7), .d (cI 1), .d (cS ([52, 57, 49, 53] : List UInt8)), .d (cS ([52, 57, 51, 48] : List UInt8)), .d (cI 60), .d (cI 90), .d (cI 0), .d (cI 0), .d (cB false), .d (cI 0), .d (cB false)], .row 23 [.d (cI 1), .d (cI 7), .d (cI 1), .d (cS ([52, 57, 49, 53] : List UInt8)), .d (cS ([52, 57, 51, 48] : List UInt8)), .d (cI 60), .d (cI 90), .d (cI 3), .d (cI 2), .d (cB true), .d (cI 0), .d (cB false)], .row 23 [.d (cI y3.1.source), .d (cI y3.1.serial), .d (cI y3.1.kind), .d (cS y3.1.a), .d (cS y3.1.b), .d (cI y3.1.start), .d (cI y3.1.units), .d (cI y3.1.call), .d (cI y3.1.part), .d (cB y3.1.last), .d (cI y3.1.trunk), .d (cB y3.1.inbound)], .row 23 [.d (cI y4.1.source), .d (cI y4.1.serial), .d (cI y4.1.kind), .d (cS y4.1.a), .d (cS y4.1.b), .d (cI y4.1.start), .d (cI y4.1.units), .d (cI y4.1.call), .d (cI y4.1.part), .d (cB y4.1.last), .d (cI y4.1.trunk), .d (cB y4.1.inbound)], .row 23 [.d (cI y5.1.source), .d (cI y5.1.serial), .d (cI y5.1.kind), .d (cS y5.1.a), .d (cS y5.1.b), .d (cI y5.1.start), .d (cI y5.1.units), .d (cI y5.1.call), .d (cI y5.1.part), .d (cB y5.1.last), .d (cI y5.1.trunk), .d (cB y5.1.inbound)], .row 23 [.d (cI 0), .d (cI 0), .d (cI 0), .d (cS ([] : List UInt8)), .d (cS ([] : List UInt8)), .d (cI 0), .d (cI 0), .d (cI 0), .d (cI 0), .d (cB false), .d (cI 0), .d (cB false)]], []⟩) rfl ?_
  refine .u (u_store rfl rfl rfl rfl (Nat.le_of_ble_eq_true rfl) sz_23) rfl ?_
  refine .withSt (st' := ⟨[.row 23 [.d (cI 1), .d (cI 7), .d (cI 1), .d (cS ([52, 57, 49, 53] : List UInt8)), .d (cS ([52, 57, 51, 48] : List UInt8)), .d (cI 60), .d (cI 90), .d (cI 0), .d (cI 0), .d (cB false), .d (cI 0), .d (cB false)], .row 23 [.d (cI 1), .d (cI 7), .d (cI 1), .d (cS ([52, 57, 49, 53] : List UInt8)), .d (cS ([52, 57, 51, 48] : List UInt8)), .d (cI 60), .d (cI 90), .d (cI 3), .d (cI 2), .d (cB true), .d (cI 0), .d (cB false)], .row 23 [.d (cI y3.1.source), .d (cI y3.1.serial), .d (cI y3.1.kind), .d (cS y3.1.a), .d (cS y3.1.b), .d (cI y3.1.start), .d (cI y3.1.units), .d (cI y3.1.call), .d (cI y3.1.part), .d (cB y3.1.last), .d (cI y3.1.trunk), .d (cB y3.1.inbound)], .row 23 [.d (cI y4.1.source), .d (cI y4.1.serial), .d (cI y4.1.kind), .d (cS y4.1.a), .d (cS y4.1.b), .d (cI y4.1.start), .d (cI y4.1.units), .d (cI y4.1.call), .d (cI y4.1.part), .d (cB y4.1.last), .d (cI y4.1.trunk), .d (cB y4.1.inbound)], .row 23 [.d (cI y5.1.source), .d (cI y5.1.serial), .d (cI y5.1.kind), .d (cS y5.1.a), .d (cS y5.1.b), .d (cI y5.1.start), .d (cI y5.1.units), .d (cI y5.1.call), .d (cI y5.1.part), .d (cB y5.1.last), .d (cI y5.1.trunk), .d (cB y5.1.inbound)], .row 23 [.d (cI y6.1.source), .d (cI y6.1.serial), .d (cI y6.1.kind), .d (cS y6.1.a), .d (cS y6.1.b), .d (cI y6.1.start), .d (cI y6.1.units), .d (cI y6.1.call), .d (cI y6.1.part), .d (cB y6.1.last), .d (cI y6.1.trunk), .d (cB y6.1.inbound)]], []⟩) rfl ?_
  refine .q (x := .d (cI y6.2)) (q_assign rfl) rfl ?_
  refine .nil ?_
  refine .seq ?_
  refine .region ?_
  obtain ⟨y7, hy7, H⟩ := bind_some' H
  refine .g (x := .d (.tup [slOf 1 rS y7.1, cI y7.2])) (g_call en_14 rfl rfl (c_f_textual_Lines (hy7))) rfl ?_
  refine .q (x := .d (.tup [slOf 1 rS y7.1, cI y7.2])) (q_move rfl) rfl ?_
  refine .q (x := .d (slOf 1 rS y7.1)) (q_extract rfl rfl) rfl ?_
  refine .q (x := .d (cI y7.2)) (q_extract rfl rfl) rfl ?_
  refine .q (x := .d (slOf 1 rS y7.1)) (q_assign rfl) rfl ?_
  refine .q (x := .d (cI y7.2)) (q_assign rfl) rfl ?_
  refine .nil ?_
  refine .seq ?_
  refine .region ?_
  obtain ⟨y8, hy8, H⟩ := bind_some' H
  refine .g (x := .d (.tup [slOf 1 rS y8.1, cI y8.2])) (g_call en_14 rfl rfl (c_f_textual_Lines (hy8))) rfl ?_
  refine .q (x := .d (.tup [slOf 1 rS y8.1, cI y8.2])) (q_move rfl) rfl ?_
  refine .q (x := .d (slOf 1 rS y8.1)) (q_extract rfl rfl) rfl ?_
  refine .q (x := .d (cI y8.2)) (q_extract rfl rfl) rfl ?_
  refine .q (x := .d (slOf 1 rS y8.1)) (q_assign rfl) rfl ?_
  refine .q (x := .d (cI y8.2)) (q_assign rfl) rfl ?_
  refine .nil ?_
  refine .seq ?_
  refine .seq ?_
  refine .region ?_
  refine .q (x := .d (cI y1.2)) (q_move rfl) rfl ?_
  refine .q (x := .d (cB (y1.2 != 0))) (q_neq rfl rfl) rfl ?_
  refine .q (x := .d (cB (y1.2 != 0))) (q_move rfl) rfl ?_
  refine .guardG (b := (!(y1.2 != 0))) (x := .d (cI y2.2)) (env' := [(6, _)]) rfl rfl rfl ⟨.inl rfl, trivial⟩ rfl (fun hg => OpQ.g (q_move rfl)) ?_
  refine .guardG (b := (!(y1.2 != 0))) (x := .d (cB (y2.2 != 0))) (env' := [(61, _)]) rfl rfl rfl ⟨.inr (.inl rfl), trivial⟩ rfl (fun hg => OpQ.g (q_neq rfl rfl)) ?_
  refine .q (x := .d (cB ((y1.2 != 0) || (y2.2 != 0)))) (q_pickOrB rfl rfl rfl) rfl ?_
  refine .q (x := .d (cB ((y1.2 != 0) || (y2.2 != 0)))) (q_move rfl) rfl ?_
  refine .guardG (b := (!((y1.2 != 0) || (y2.2 != 0)))) (x := .d (cI y3.2)) (env' := [(8, _)]) rfl rfl rfl ⟨.inl rfl, trivial⟩ rfl (fun hg => OpQ.g (q_move rfl)) ?_
  refine .guardG (b := (!((y1.2 != 0) || (y2.2 != 0)))) (x := .d (cB (y3.2 != 0))) (env' := [(65, _)]) rfl rfl rfl ⟨.inr (.inl rfl), trivial⟩ rfl (fun hg => OpQ.g (q_neq rfl rfl)) ?_
  refine .q (x := .d (cB (((y1.2 != 0) || (y2.2 != 0)) || (y3.2 != 0)))) (q_pickOrB rfl rfl rfl) rfl ?_
  refine .q (x := .d (cB (((y1.2 != 0) || (y2.2 != 0)) || (y3.2 != 0)))) (q_move rfl) rfl ?_
  refine .guardG (b := (!(((y1.2 != 0) || (y2.2 != 0)) || (y3.2 != 0)))) (x := .d (cI y4.2)) (env' := [(10, _)]) rfl rfl rfl ⟨.inl rfl, trivial⟩ rfl (fun hg => OpQ.g (q_move rfl)) ?_
  refine .guardG (b := (!(((y1.2 != 0) || (y2.2 != 0)) || (y3.2 != 0)))) (x := .d (cB (y4.2 != 12))) (env' := [(69, _)]) rfl rfl rfl ⟨.inr (.inl rfl), trivial⟩ rfl (fun hg => OpQ.g (q_neq rfl rfl)) ?_
  refine .q (x := .d (cB ((((y1.2 != 0) || (y2.2 != 0)) || (y3.2 != 0)) || (y4.2 != 12)))) (q_pickOrB rfl rfl rfl) rfl ?_
  refine .q (x := .d (cB ((((y1.2 != 0) || (y2.2 != 0)) || (y3.2 != 0)) || (y4.2 != 12)))) (q_move rfl) rfl ?_
  refine .guardG (b := (!((((y1.2 != 0) || (y2.2 != 0)) || (y3.2 != 0)) || (y4.2 != 12)))) (x := .d (cI y5.2)) (env' := [(12, _)]) rfl rfl rfl ⟨.inl rfl, trivial⟩ rfl (fun hg => OpQ.g (q_move rfl)) ?_
  refine .guardG (b := (!((((y1.2 != 0) || (y2.2 != 0)) || (y3.2 != 0)) || (y4.2 != 12)))) (x := .d (cB (y5.2 != 1))) (env' := [(73, _)]) rfl rfl rfl ⟨.inr (.inl rfl), trivial⟩ rfl (fun hg => OpQ.g (q_neq rfl rfl)) ?_
  refine .q (x := .d (cB (((((y1.2 != 0) || (y2.2 != 0)) || (y3.2 != 0)) || (y4.2 != 12)) || (y5.2 != 1)))) (q_pickOrB rfl rfl rfl) rfl ?_
  refine .q (x := .d (cB (((((y1.2 != 0) || (y2.2 != 0)) || (y3.2 != 0)) || (y4.2 != 12)) || (y5.2 != 1)))) (q_move rfl) rfl ?_
  refine .guardG (b := (!(((((y1.2 != 0) || (y2.2 != 0)) || (y3.2 != 0)) || (y4.2 != 12)) || (y5.2 != 1)))) (x := .d (cI y6.2)) (env' := [(14, _)]) rfl rfl rfl ⟨.inl rfl, trivial⟩ rfl (fun hg => OpQ.g (q_move rfl)) ?_
  refine .guardG (b := (!(((((y1.2 != 0) || (y2.2 != 0)) || (y3.2 != 0)) || (y4.2 != 12)) || (y5.2 != 1)))) (x := .d (cB (y6.2 != 1))) (env' := [(77, _)]) rfl rfl rfl ⟨.inr (.inl rfl), trivial⟩ rfl (fun hg => OpQ.g (q_neq rfl rfl)) ?_
  refine .q (x := .d (cB ((((((y1.2 != 0) || (y2.2 != 0)) || (y3.2 != 0)) || (y4.2 != 12)) || (y5.2 != 1)) || (y6.2 != 1)))) (q_pickOrB rfl rfl rfl) rfl ?_
  refine .q (x := .d (cB ((((((y1.2 != 0) || (y2.2 != 0)) || (y3.2 != 0)) || (y4.2 != 12)) || (y5.2 != 1)) || (y6.2 != 1)))) (q_move rfl) rfl ?_
  refine .guardG (b := (!((((((y1.2 != 0) || (y2.2 != 0)) || (y3.2 != 0)) || (y4.2 != 12)) || (y5.2 != 1)) || (y6.2 != 1)))) (x := .d (cI y7.2)) (env' := [(16, _)]) rfl rfl rfl ⟨.inl rfl, trivial⟩ rfl (fun hg => OpQ.g (q_move rfl)) ?_
  refine .guardG (b := (!((((((y1.2 != 0) || (y2.2 != 0)) || (y3.2 != 0)) || (y4.2 != 12)) || (y5.2 != 1)) || (y6.2 != 1)))) (x := .d (cB (y7.2 != 1))) (env' := [(81, _)]) rfl rfl rfl ⟨.inr (.inl rfl), trivial⟩ rfl (fun hg => OpQ.g (q_neq rfl rfl)) ?_
  refine .q (x := .d (cB (((((((y1.2 != 0) || (y2.2 != 0)) || (y3.2 != 0)) || (y4.2 != 12)) || (y5.2 != 1)) || (y6.2 != 1)) || (y7.2 != 1)))) (q_pickOrB rfl rfl rfl) rfl ?_
  refine .q (x := .d (cB (((((((y1.2 != 0) || (y2.2 != 0)) || (y3.2 != 0)) || (y4.2 != 12)) || (y5.2 != 1)) || (y6.2 != 1)) || (y7.2 != 1)))) (q_move rfl) rfl ?_
  refine .guardG (b := (!(((((((y1.2 != 0) || (y2.2 != 0)) || (y3.2 != 0)) || (y4.2 != 12)) || (y5.2 != 1)) || (y6.2 != 1)) || (y7.2 != 1)))) (x := .d (cI y8.2)) (env' := [(18, _)]) rfl rfl rfl ⟨.inl rfl, trivial⟩ rfl (fun hg => OpQ.g (q_move rfl)) ?_
  refine .guardG (b := (!(((((((y1.2 != 0) || (y2.2 != 0)) || (y3.2 != 0)) || (y4.2 != 12)) || (y5.2 != 1)) || (y6.2 != 1)) || (y7.2 != 1)))) (x := .d (cB (y8.2 != 0))) (env' := [(85, _)]) rfl rfl rfl ⟨.inr (.inl rfl), trivial⟩ rfl (fun hg => OpQ.g (q_neq rfl rfl)) ?_
  refine .q (x := .d (cB ((((((((y1.2 != 0) || (y2.2 != 0)) || (y3.2 != 0)) || (y4.2 != 12)) || (y5.2 != 1)) || (y6.2 != 1)) || (y7.2 != 1)) || (y8.2 != 0)))) (q_pickOrB rfl rfl rfl) rfl ?_
  refine .q (x := .d (cB ((((((((y1.2 != 0) || (y2.2 != 0)) || (y3.2 != 0)) || (y4.2 != 12)) || (y5.2 != 1)) || (y6.2 != 1)) || (y7.2 != 1)) || (y8.2 != 0)))) (q_move rfl) rfl ?_
  refine .guardG (b := (!((((((((y1.2 != 0) || (y2.2 != 0)) || (y3.2 != 0)) || (y4.2 != 12)) || (y5.2 != 1)) || (y6.2 != 1)) || (y7.2 != 1)) || (y8.2 != 0)))) (x := .d (slOf 1 rS y8.1)) (env' := [(17, _)]) rfl rfl rfl ⟨.inl rfl, trivial⟩ rfl (fun hg => OpQ.g (q_move rfl)) ?_
  refine .guardG (b := (!((((((((y1.2 != 0) || (y2.2 != 0)) || (y3.2 != 0)) || (y4.2 != 12)) || (y5.2 != 1)) || (y6.2 != 1)) || (y7.2 != 1)) || (y8.2 != 0)))) (x := .d (cI (y8.1.length : Int))) (env' := [(89, _)]) rfl rfl rfl ⟨.inr (.inl rfl), trivial⟩ rfl (fun hg => OpQ.g (q_lenL (l := y8.1) (row := rS) Tryd.underlying33 rfl rfl)) ?_
  refine .guardG (b := (!((((((((y1.2 != 0) || (y2.2 != 0)) || (y3.2 != 0)) || (y4.2 != 12)) || (y5.2 != 1)) || (y6.2 != 1)) || (y7.2 != 1)) || (y8.2 != 0)))) (x := .d (cB ((y8.1.length : Int) != 1))) (env' := [(90, _)]) rfl rfl rfl ⟨.inr (.inl rfl), trivial⟩ rfl (fun hg => OpQ.g (q_neq rfl rfl)) ?_
  refine .q (x := .d (cB (((((((((y1.2 != 0) || (y2.2 != 0)) || (y3.2 != 0)) || (y4.2 != 12)) || (y5.2 != 1)) || (y6.2 != 1)) || (y7.2 != 1)) || (y8.2 != 0)) || ((y8.1.length : Int) != 1)))) (q_pickOrB rfl rfl rfl) rfl ?_
  refine .nil ?_
  refine .cond rfl (fun hc => ?_) (fun hc => ?_)
  · replace H := ifT hc H; clear hc
    refine .seq ?_
    refine .region ?_
    refine .q (x := .d (cB false)) (q_assign rfl) rfl ?_
    refine .nil ?_
    refine .retN [.tmp 0] [.d (cB false)] Tryd.func9 Tryd.results9 ⟨rfl, trivial⟩ ?_
    cases H
    exact ⟨_, .rfl' _, rfl⟩
  · replace H := ifF hc H; clear hc
    refine .skip ?_
    refine .seq ?_
    refine .region ?_
    refine .q (x := .d (cS y1.1)) (q_move rfl) rfl ?_
    refine .q (x := .d (cB (y1.1 == ([118, 32, 49, 32, 55, 32, 52, 57, 49, 53, 32, 52, 57, 51, 48, 32, 54, 48, 32, 57, 48] : List UInt8)))) (q_seql rfl rfl) rfl ?_
    refine .q (x := .d (cB (y1.1 == ([118, 32, 49, 32, 55, 32, 52, 57, 49, 53, 32, 52, 57, 51, 48, 32, 54, 48, 32, 57, 48] : List UInt8)))) (q_move rfl) rfl ?_
    refine .guardG (b := (y1.1 == ([118, 32, 49, 32, 55, 32, 52, 57, 49, 53, 32, 52, 57, 51, 48, 32, 54, 48, 32, 57, 48] : List UInt8))) (x := .d (cS y2.1)) (env' := [(5, _)]) rfl rfl rfl ⟨.inl rfl, trivial⟩ rfl (fun hg => OpQ.g (q_move rfl)) ?_
    refine .guardG (b := (y1.1 == ([118, 32, 49, 32, 55, 32, 52, 57, 49, 53, 32, 52, 57, 51, 48, 32, 54, 48, 32, 57, 48] : List UInt8))) (x := .d (cB (y2.1 == ([118, 32, 49, 32, 55, 32, 52, 57, 49, 53, 32, 52, 57, 51, 48, 32, 54, 48, 32, 57, 48, 32, 112, 97, 114, 116, 32, 51, 32, 50, 32, 108, 97, 115, 116] : List UInt8)))) (env' := [(96, _)]) rfl rfl rfl ⟨.inr (.inl rfl), trivial⟩ rfl (fun hg => OpQ.g (q_seql rfl rfl)) ?_
    refine .q (x := .d (cB ((y1.1 == ([118, 32, 49, 32, 55, 32, 52, 57, 49, 53, 32, 52, 57, 51, 48, 32, 54, 48, 32, 57, 48] : List UInt8)) && (y2.1 == ([118, 32, 49, 32, 55, 32, 52, 57, 49, 53, 32, 52, 57, 51, 48, 32, 54, 48, 32, 57, 48, 32, 112, 97, 114, 116, 32, 51, 32, 50, 32, 108, 97, 115, 116] : List UInt8))))) (q_pickAndB rfl rfl rfl) rfl ?_
    refine .q (x := .d (cB ((y1.1 == ([118, 32, 49, 32, 55, 32, 52, 57, 49, 53, 32, 52, 57, 51, 48, 32, 54, 48, 32, 57, 48] : List UInt8)) && (y2.1 == ([118, 32, 49, 32, 55, 32, 52, 57, 49, 53, 32, 52, 57, 51, 48, 32, 54, 48, 32, 57, 48, 32, 112, 97, 114, 116, 32, 51, 32, 50, 32, 108, 97, 115, 116] : List UInt8))))) (q_move rfl) rfl ?_
    refine .guardG (b := ((y1.1 == ([118, 32, 49, 32, 55, 32, 52, 57, 49, 53, 32, 52, 57, 51, 48, 32, 54, 48, 32, 57, 48] : List UInt8)) && (y2.1 == ([118, 32, 49, 32, 55, 32, 52, 57, 49, 53, 32, 52, 57, 51, 48, 32, 54, 48, 32, 57, 48, 32, 112, 97, 114, 116, 32, 51, 32, 50, 32, 108, 97, 115, 116] : List UInt8)))) (x := .d (.agg (Record.row y3.1))) (env' := [(7, _)]) rfl rfl rfl ⟨.inl rfl, trivial⟩ rfl (fun hg => OpQ.g (q_loadOA one_23 sz_23 rfl rfl (Nat.le_of_ble_eq_true rfl) rfl)) ?_
    refine .guardG (b := ((y1.1 == ([118, 32, 49, 32, 55, 32, 52, 57, 49, 53, 32, 52, 57, 51, 48, 32, 54, 48, 32, 57, 48] : List UInt8)) && (y2.1 == ([118, 32, 49, 32, 55, 32, 52, 57, 49, 53, 32, 52, 57, 51, 48, 32, 54, 48, 32, 57, 48, 32, 112, 97, 114, 116, 32, 51, 32, 50, 32, 108, 97, 115, 116] : List UInt8)))) (x := .d (.agg (Record.row (⟨1, 8, 3, ([52, 57, 49, 53] : List UInt8), ([] : List UInt8), 0, 1024, 0, 0, false, 0, false⟩ : Record)))) (env' := []) rfl rfl rfl trivial rfl (fun hg => OpQ.g (q_buildP pl_23 hi23 hz23 rfl rfl)) ?_
    refine .guardG (b := ((y1.1 == ([118, 32, 49, 32, 55, 32, 52, 57, 49, 53, 32, 52, 57, 51, 48, 32, 54, 48, 32, 57, 48] : List UInt8)) && (y2.1 == ([118, 32, 49, 32, 55, 32, 52, 57, 49, 53, 32, 52, 57, 51, 48, 32, 54, 48, 32, 57, 48, 32, 112, 97, 114, 116, 32, 51, 32, 50, 32, 108, 97, 115, 116] : List UInt8)))) (x := .d (cB (eqVs (Record.vals y3.1) (Record.vals (⟨1, 8, 3, ([52, 57, 49, 53] : List UInt8), ([] : List UInt8), 0, 1024, 0, 0, false, 0, false⟩ : Record))))) (env' := [(100, _), (101, _)]) rfl rfl rfl ⟨.inr (.inl rfl), ⟨.inr (.inl rfl), trivial⟩⟩ rfl (fun hg => OpQ.g (q_steql fk_23 rfl rfl (xs := Record.vals y3.1) (ys := Record.vals (⟨1, 8, 3, ([52, 57, 49, 53] : List UInt8), ([] : List UInt8), 0, 1024, 0, 0, false, 0, false⟩ : Record)) rfl rfl rfl rfl)) ?_
    refine .q (x := .d (cB (((y1.1 == ([118, 32, 49, 32, 55, 32, 52, 57, 49, 53, 32, 52, 57, 51, 48, 32, 54, 48, 32, 57, 48] : List UInt8)) && (y2.1 == ([118, 32, 49, 32, 55, 32, 52, 57, 49, 53, 32, 52, 57, 51, 48, 32, 54, 48, 32, 57, 48, 32, 112, 97, 114, 116, 32, 51, 32, 50, 32, 108, 97, 115, 116] : List UInt8))) && (eqVs (Record.vals y3.1) (Record.vals (⟨1, 8, 3, ([52, 57, 49, 53] : List UInt8), ([] : List UInt8), 0, 1024, 0, 0, false, 0, false⟩ : Record)))))) (q_pickAndB rfl rfl rfl) rfl ?_
    refine .q (x := .d (cB (((y1.1 == ([118, 32, 49, 32, 55, 32, 52, 57, 49, 53, 32, 52, 57, 51, 48, 32, 54, 48, 32, 57, 48] : List UInt8)) && (y2.1 == ([118, 32, 49, 32, 55, 32, 52, 57, 49, 53, 32, 52, 57, 51, 48, 32, 54, 48, 32, 57, 48, 32, 112, 97, 114, 116, 32, 51, 32, 50, 32, 108, 97, 115, 116] : List UInt8))) && (eqVs (Record.vals y3.1) (Record.vals (⟨1, 8, 3, ([52, 57, 49, 53] : List UInt8), ([] : List UInt8), 0, 1024, 0, 0, false, 0, false⟩ : Record)))))) (q_move rfl) rfl ?_
    refine .guardG (b := (((y1.1 == ([118, 32, 49, 32, 55, 32, 52, 57, 49, 53, 32, 52, 57, 51, 48, 32, 54, 48, 32, 57, 48] : List UInt8)) && (y2.1 == ([118, 32, 49, 32, 55, 32, 52, 57, 49, 53, 32, 52, 57, 51, 48, 32, 54, 48, 32, 57, 48, 32, 112, 97, 114, 116, 32, 51, 32, 50, 32, 108, 97, 115, 116] : List UInt8))) && (eqVs (Record.vals y3.1) (Record.vals (⟨1, 8, 3, ([52, 57, 49, 53] : List UInt8), ([] : List UInt8), 0, 1024, 0, 0, false, 0, false⟩ : Record))))) (x := .d (slOf 1 rS y8.1)) (env' := [(17, _)]) rfl rfl rfl ⟨.inl rfl, trivial⟩ rfl (fun hg => OpQ.g (q_move rfl)) ?_
    obtain ⟨hk1, H⟩ := ck_some H
    refine .guardG (b := (((y1.1 == ([118, 32, 49, 32, 55, 32, 52, 57, 49, 53, 32, 52, 57, 51, 48, 32, 54, 48, 32, 57, 48] : List UInt8)) && (y2.1 == ([118, 32, 49, 32, 55, 32, 52, 57, 49, 53, 32, 52, 57, 51, 48, 32, 54, 48, 32, 57, 48, 32, 112, 97, 114, 116, 32, 51, 32, 50, 32, 108, 97, 115, 116] : List UInt8))) && (eqVs (Record.vals y3.1) (Record.vals (⟨1, 8, 3, ([52, 57, 49, 53] : List UInt8), ([] : List UInt8), 0, 1024, 0, 0, false, 0, false⟩ : Record))))) (x := .d (.ro (rS (nth y8.1 (Int.toNat (0)))))) (env' := [(105, _)]) rfl rfl rfl ⟨.inr (.inl rfl), trivial⟩ rfl (fun hg => OpQ.g (q_idxL (row := rS) (l := y8.1) (i := 0) Tryd.underlying33 hi9 hs9 rfl rfl rfl (hk1 hg))) ?_
    refine .guardG (b := (((y1.1 == ([118, 32, 49, 32, 55, 32, 52, 57, 49, 53, 32, 52, 57, 51, 48, 32, 54, 48, 32, 57, 48] : List UInt8)) && (y2.1 == ([118, 32, 49, 32, 55, 32, 52, 57, 49, 53, 32, 52, 57, 51, 48, 32, 54, 48, 32, 57, 48, 32, 112, 97, 114, 116, 32, 51, 32, 50, 32, 108, 97, 115, 116] : List UInt8))) && (eqVs (Record.vals y3.1) (Record.vals (⟨1, 8, 3, ([52, 57, 49, 53] : List UInt8), ([] : List UInt8), 0, 1024, 0, 0, false, 0, false⟩ : Record))))) (x := .d (cS (nth y8.1 (Int.toNat (0))))) (env' := [(106, _)]) rfl rfl rfl ⟨.inr (.inl rfl), trivial⟩ rfl (fun hg => OpQ.g (q_load one_9 rfl)) ?_
    refine .guardG (b := (((y1.1 == ([118, 32, 49, 32, 55, 32, 52, 57, 49, 53, 32, 52, 57, 51, 48, 32, 54, 48, 32, 57, 48] : List UInt8)) && (y2.1 == ([118, 32, 49, 32, 55, 32, 52, 57, 49, 53, 32, 52, 57, 51, 48, 32, 54, 48, 32, 57, 48, 32, 112, 97, 114, 116, 32, 51, 32, 50, 32, 108, 97, 115, 116] : List UInt8))) && (eqVs (Record.vals y3.1) (Record.vals (⟨1, 8, 3, ([52, 57, 49, 53] : List UInt8), ([] : List UInt8), 0, 1024, 0, 0, false, 0, false⟩ : Record))))) (x := .d (cB ((nth y8.1 (Int.toNat (0))) == ([] : List UInt8)))) (env' := [(107, _)]) rfl rfl rfl ⟨.inr (.inl rfl), trivial⟩ rfl (fun hg => OpQ.g (q_seql rfl rfl)) ?_
    refine .q (x := .d (cB ((((y1.1 == ([118, 32, 49, 32, 55, 32, 52, 57, 49, 53, 32, 52, 57, 51, 48, 32, 54, 48, 32, 57, 48] : List UInt8)) && (y2.1 == ([118, 32, 49, 32, 55, 32, 52, 57, 49, 53, 32, 52, 57, 51, 48, 32, 54, 48, 32, 57, 48, 32, 112, 97, 114, 116, 32, 51, 32, 50, 32, 108, 97, 115, 116] : List UInt8))) && (eqVs (Record.vals y3.1) (Record.vals (⟨1, 8, 3, ([52, 57, 49, 53] : List UInt8), ([] : List UInt8), 0, 1024, 0, 0, false, 0, false⟩ : Record)))) && ((nth y8.1 (Int.toNat (0))) == ([] : List UInt8))))) (q_pickAndB rfl rfl rfl) rfl ?_
    refine .q (x := .d (cB ((((y1.1 == ([118, 32, 49, 32, 55, 32, 52, 57, 49, 53, 32, 52, 57, 51, 48, 32, 54, 48, 32, 57, 48] : List UInt8)) && (y2.1 == ([118, 32, 49, 32, 55, 32, 52, 57, 49, 53, 32, 52, 57, 51, 48, 32, 54, 48, 32, 57, 48, 32, 112, 97, 114, 116, 32, 51, 32, 50, 32, 108, 97, 115, 116] : List UInt8))) && (eqVs (Record.vals y3.1) (Record.vals (⟨1, 8, 3, ([52, 57, 49, 53] : List UInt8), ([] : List UInt8), 0, 1024, 0, 0, false, 0, false⟩ : Record)))) && ((nth y8.1 (Int.toNat (0))) == ([] : List UInt8))))) (q_assign rfl) rfl ?_
    refine .nil ?_
    refine .retN [.tmp 0] [.d (cB ((((y1.1 == ([118, 32, 49, 32, 55, 32, 52, 57, 49, 53, 32, 52, 57, 51, 48, 32, 54, 48, 32, 57, 48] : List UInt8)) && (y2.1 == ([118, 32, 49, 32, 55, 32, 52, 57, 49, 53, 32, 52, 57, 51, 48, 32, 54, 48, 32, 57, 48, 32, 112, 97, 114, 116, 32, 51, 32, 50, 32, 108, 97, 115, 116] : List UInt8))) && (eqVs (Record.vals y3.1) (Record.vals (⟨1, 8, 3, ([52, 57, 49, 53] : List UInt8), ([] : List UInt8), 0, 1024, 0, 0, false, 0, false⟩ : Record)))) && ((nth y8.1 (Int.toNat (0))) == ([] : List UInt8))))] Tryd.func9 Tryd.results9 ⟨rfl, trivial⟩ ?_
    cases H
    exact ⟨_, .rfl' _, rfl⟩

end Go.Proofs.YtoknjmclbfgkiaaDoor
