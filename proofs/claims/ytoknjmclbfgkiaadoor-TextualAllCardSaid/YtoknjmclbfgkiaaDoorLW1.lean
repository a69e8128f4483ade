import Derived.Test.YtoknjmclbfgkiaaDoorLW0
import Derived.Test.YtoknjmclbfgkiaaDoorLF
import Derived.Test.YtoknjmclbfgkiaaDoorLX
set_option linter.unusedSimpArgs false
set_option linter.unusedVariables false
namespace Go.Proofs.YtoknjmclbfgkiaaDoor
open Go.RowKit Go.Abs
set_option maxRecDepth 100000 in
set_option maxHeartbeats 1000000 in
theorem c_f_billingref09_in {v0n : Int} {v1low : Int} {v2high : Int} {r : Bool} (H : f_billingref09_in v0n v1low v2high = some r) : ACall Tryd.prog 39 [cI v0n, cI v1low, cI v2high] (· = cB r) := by
  refine ACall.enter' Tryd.func39 rfl Tryd.ntmps39 rfl fun S hS => ?_
  unfold f_billingref09_in at H
  change ARun _ _ _ _ _ _ [(0, .d (cI v0n)), (1, .d (cI v1low)), (2, .d (cI v2high))] _
  refine .seq ?_
  refine .region ?_
  refine .q (x := .d (cB false)) (q_assign rfl) rfl ?_
  refine .nil ?_
  refine .seq ?_
  refine .region ?_
  refine .q (x := .d (cI v0n)) (q_move rfl) rfl ?_
  refine .q (x := .d (cI v1low)) (q_move rfl) rfl ?_
  refine .q (x := .d (cB (decide (v0n ≥ v1low)))) (q_geq rfl rfl) rfl ?_
  refine .q (x := .d (cB (decide (v0n ≥ v1low)))) (q_move rfl) rfl ?_
  refine .guardG (b := decide (v0n ≥ v1low)) (x := .d (cI v0n)) (env' := [(0, _)]) rfl rfl rfl ⟨.inl rfl, trivial⟩ rfl (fun hg => OpQ.g (q_move rfl)) ?_
  refine .guardG (b := decide (v0n ≥ v1low)) (x := .d (cI v2high)) (env' := [(2, _)]) rfl rfl rfl ⟨.inl rfl, trivial⟩ rfl (fun hg => OpQ.g (q_move rfl)) ?_
  refine .guardG (b := decide (v0n ≥ v1low)) (x := .d (cB (decide (v0n ≤ v2high)))) (env' := [(11, _), (12, _)]) rfl rfl rfl ⟨.inr (.inl rfl), ⟨.inr (.inl rfl), trivial⟩⟩ rfl (fun hg => OpQ.g (q_leq rfl rfl)) ?_
  refine .q (x := .d (cB ((decide (v0n ≥ v1low)) && (decide (v0n ≤ v2high))))) (q_pickAndB rfl rfl rfl) rfl ?_
  refine .q (x := .d (cB ((decide (v0n ≥ v1low)) && (decide (v0n ≤ v2high))))) (q_assign rfl) rfl ?_
  refine .nil ?_
  refine .retN [.tmp 6] [.d (cB ((decide (v0n ≥ v1low)) && (decide (v0n ≤ v2high))))] Tryd.func39 Tryd.results39 ⟨rfl, trivial⟩ ?_
  cases H
  exact ⟨_, .rfl' _, rfl⟩

set_option maxRecDepth 100000 in
set_option maxHeartbeats 1000000 in
theorem c_f_billingref02_Valid {v0s : List UInt8} {r : Bool} (H : f_billingref02_Valid v0s = some r) : ACall Tryd.prog 40 [cS v0s] (· = cB r) := by
  refine ACall.enter' Tryd.func40 rfl Tryd.ntmps40 rfl fun S hS => ?_
  unfold f_billingref02_Valid at H
  change ARun _ _ _ _ _ _ [(0, .d (cS v0s))] _
  refine .seq ?_
  refine .region ?_
  refine .q (x := .d (cB false)) (q_assign rfl) rfl ?_
  refine .nil ?_
  refine .seq ?_
  refine .seq ?_
  refine .region ?_
  refine .q (x := .d (cI 0)) (q_assign rfl) rfl ?_
  refine .nil ?_
  refine .blockJoin2 (ι := Unit) (fun s => [(0, .d (cS v0s))]) (fun s => ⟨[], []⟩) (fun s => f_billingref02_Valid_j1 v0s = some r) ?_ ?_
  · rintro _ H
    replace H : f_billingref02_Valid_j1 v0s = some r := H
    unfold f_billingref02_Valid_j1 at H
    change ARun _ _ _ _ _ _ [(0, .d (cS v0s))] ⟨[], []⟩
    refine .seq ?_
    refine .region ?_
    refine .q (x := .d (cS v0s)) (q_move rfl) rfl ?_
    refine .q (x := .d (cI (v0s.length : Int))) (q_lenS Tryd.underlying9 rfl) rfl ?_
    refine .q (x := .d (cB (decide ((v0s.length : Int) ≥ 1)))) (q_geq rfl rfl) rfl ?_
    refine .q (x := .d (cB (decide ((v0s.length : Int) ≥ 1)))) (q_move rfl) rfl ?_
    refine .guardG (b := decide ((v0s.length : Int) ≥ 1)) (x := .d (cS v0s)) (env' := [(0, _)]) rfl rfl rfl ⟨.inl rfl, trivial⟩ rfl (fun hg => OpQ.g (q_move rfl)) ?_
    refine .guardG (b := decide ((v0s.length : Int) ≥ 1)) (x := .d (cI (v0s.length : Int))) (env' := [(24, _)]) rfl rfl rfl ⟨.inr (.inl rfl), trivial⟩ rfl (fun hg => OpQ.g (q_lenS Tryd.underlying9 rfl)) ?_
    refine .guardG (b := decide ((v0s.length : Int) ≥ 1)) (x := .d (cB (decide ((v0s.length : Int) ≤ 15)))) (env' := [(25, _)]) rfl rfl rfl ⟨.inr (.inl rfl), trivial⟩ rfl (fun hg => OpQ.g (q_leq rfl rfl)) ?_
    refine .q (x := .d (cB ((decide ((v0s.length : Int) ≥ 1)) && (decide ((v0s.length : Int) ≤ 15))))) (q_pickAndB rfl rfl rfl) rfl ?_
    refine .q (x := .d (cB ((decide ((v0s.length : Int) ≥ 1)) && (decide ((v0s.length : Int) ≤ 15))))) (q_assign rfl) rfl ?_
    refine .nil ?_
    refine .retN [.tmp 2] [.d (cB ((decide ((v0s.length : Int) ≥ 1)) && (decide ((v0s.length : Int) ≤ 15))))] Tryd.func40 Tryd.results40 ⟨rfl, trivial⟩ ?_
    cases H
    exact ⟨_, .rfl' _, rfl⟩
  · intro hj1 hj1x
    obtain ⟨n1, H⟩ := loop_some H
    refine .loop (ι := Nat × (Int)) (fun p => [(0, .d (cS v0s)), (3, .d (cI p.2))]) (fun p => ⟨[], []⟩) (fun p => iter (fun s => f_billingref02_Valid_l1 v0s s) p.1 p.2 = some r) (·.1) (n1, 0) H (.cons rfl (.rfl' _) (.cons rfl (.rfl' _) (.nil))) rfl ?_
    rintro ⟨m1, v3il1⟩ HI ih1
    obtain ⟨n1, q1, hm1, H, HK1⟩ := iter_succ HI
    clear HI
    replace H : f_billingref02_Valid_l1 v0s v3il1 = some q1 := H
    unfold f_billingref02_Valid_l1 at H
    change ARun _ _ _ _ _ _ [(0, .d (cS v0s)), (3, .d (cI v3il1))] ⟨[], []⟩
    refine .seq ?_
    refine .seq ?_
    refine .region ?_
    refine .q (x := .d (cI v3il1)) (q_move rfl) rfl ?_
    refine .q (x := .d (cS v0s)) (q_move rfl) rfl ?_
    refine .q (x := .d (cI (v0s.length : Int))) (q_lenS Tryd.underlying9 rfl) rfl ?_
    refine .q (x := .d (cB (decide (v3il1 < (v0s.length : Int))))) (q_lss rfl rfl) rfl ?_
    refine .nil ?_
    refine .cond rfl (fun hc => ?_) (fun hc => ?_)
    · replace H := ifT hc H; clear hc
      refine .skip ?_
      refine .seq ?_
      refine .block ?_
      refine .seq ?_
      refine .region ?_
      refine .q (x := .d (cS v0s)) (q_move rfl) rfl ?_
      refine .q (x := .d (cI v3il1)) (q_move rfl) rfl ?_
      obtain ⟨hk1, H⟩ := ck_some H
      refine .q (x := .d (cU8 (nth v0s (Int.toNat (v3il1))))) (q_indexL (i := v3il1) Tryd.underlying9 rfl rfl hk1) rfl ?_
      refine .q (x := .d (cB (decide ((nth v0s (Int.toNat (v3il1))) < 48)))) (q8_lss (a := nth v0s (Int.toNat (v3il1))) (b := 48) rfl rfl) rfl ?_
      refine .q (x := .d (cB (decide ((nth v0s (Int.toNat (v3il1))) < 48)))) (q_move rfl) rfl ?_
      refine .guardG (b := (!(decide ((nth v0s (Int.toNat (v3il1))) < 48)))) (x := .d (cS v0s)) (env' := [(0, _)]) rfl rfl rfl ⟨.inl rfl, trivial⟩ rfl (fun hg => OpQ.g (q_move rfl)) ?_
      refine .guardG (b := (!(decide ((nth v0s (Int.toNat (v3il1))) < 48)))) (x := .d (cI v3il1)) (env' := [(3, _)]) rfl rfl rfl ⟨.inl rfl, trivial⟩ rfl (fun hg => OpQ.g (q_move rfl)) ?_
      obtain ⟨hk2, H⟩ := ck_some H
      refine .guardG (b := (!(decide ((nth v0s (Int.toNat (v3il1))) < 48)))) (x := .d (cU8 (nth v0s (Int.toNat (v3il1))))) (env' := [(15, _), (16, _)]) rfl rfl rfl ⟨.inr (.inl rfl), ⟨.inr (.inl rfl), trivial⟩⟩ rfl (fun hg => OpQ.g (q_indexL (i := v3il1) Tryd.underlying9 rfl rfl (hk2 hg))) ?_
      refine .guardG (b := (!(decide ((nth v0s (Int.toNat (v3il1))) < 48)))) (x := .d (cB (decide ((nth v0s (Int.toNat (v3il1))) > 57)))) (env' := [(17, _)]) rfl rfl rfl ⟨.inr (.inl rfl), trivial⟩ rfl (fun hg => OpQ.g (q8_gtr (a := nth v0s (Int.toNat (v3il1))) (b := 57) rfl rfl)) ?_
      refine .q (x := .d (cB ((decide ((nth v0s (Int.toNat (v3il1))) < 48)) || (decide ((nth v0s (Int.toNat (v3il1))) > 57))))) (q_pickOrB rfl rfl rfl) rfl ?_
      refine .nil ?_
      refine .cond rfl (fun hc => ?_) (fun hc => ?_)
      · replace H := ifT hc H; clear hc
        refine .seq ?_
        refine .region ?_
        refine .q (x := .d (cB false)) (q_assign rfl) rfl ?_
        refine .nil ?_
        refine .retN [.tmp 2] [.d (cB false)] Tryd.func40 Tryd.results40 ⟨rfl, trivial⟩ ?_
        cases H
        cases HK1
        exact ⟨_, .rfl' _, rfl⟩
      · replace H := ifF hc H; clear hc
        refine .skip ?_
        refine .inBlock ?_
        refine .region ?_
        refine .q (x := .d (cI v3il1)) (q_move rfl) rfl ?_
        obtain ⟨hk3, H⟩ := ck_some H
        refine .q (x := .d (cI (v3il1 + 1))) (q_addI rfl rfl hk3.1 hk3.2) rfl ?_
        refine .q (x := .d (cI (v3il1 + 1))) (q_assign rfl) rfl ?_
        refine .nil ?_
        cases H
        exact .sub (.cons rfl (.rfl' _) (.cons rfl (.rfl' _) (.nil))) (ih1 (n1, (v3il1 + 1)) HK1 hm1)
    · replace H := ifF hc H; clear hc
      refine .exit rfl ?_
      obtain ⟨q0, H9, hq0⟩ := map_some' H; clear H; cases hq0
      cases HK1
      have H := H9
      exact .sub (.cons rfl (.rfl' _) (.nil)) (hj1x () H)

set_option maxRecDepth 100000 in
set_option maxHeartbeats 1000000 in
theorem c_f_billingref09_Error {v0 : Record} {r : Int} (H : f_billingref09_Error v0 = some r) : ACall Tryd.prog 23 [.agg (Record.row v0)] (· = cI r) := by
  refine ACall.enter' Tryd.func23 rfl Tryd.ntmps23 rfl fun S hS => ?_
  unfold f_billingref09_Error at H
  change ARun _ _ _ _ _ _ [(0, .d (.agg (Record.row v0)))] _
  refine .seq ?_
  refine .region ?_
  refine .v (x := .ref 0 0) (v_box rfl rfl) rfl ?_
  refine .withSt (st' := ⟨[.row 23 [.d (cI v0.source), .d (cI v0.serial), .d (cI v0.kind), .d (cS v0.a), .d (cS v0.b), .d (cI v0.start), .d (cI v0.units), .d (cI v0.call), .d (cI v0.part), .d (cB v0.last), .d (cI v0.trunk), .d (cB v0.inbound)]], []⟩) rfl ?_
  refine .q (x := .d (cI 0)) (q_assign rfl) rfl ?_
  refine .nil ?_
  refine .seq ?_
  refine .block ?_
  refine .seq ?_
  refine .region ?_
  refine .q (x := .ref 0 0) (q_fieldRef fo_23_0 rfl) rfl ?_
  refine .q (x := .d (cI v0.source)) (q_loadO one_3 rfl rfl rfl) rfl ?_
  obtain ⟨y1, hy1, H⟩ := bind_some' H
  refine .g (x := .d (cB y1)) (g_call en_39 rfl rfl (c_f_billingref09_in (hy1))) rfl ?_
  refine .q (x := .d (cB (!y1))) (q_not rfl) rfl ?_
  refine .q (x := .d (cB (!y1))) (q_move rfl) rfl ?_
  refine .guardG (b := (!(!y1))) (x := .ref 0 1) (env' := [(1, _)]) rfl rfl rfl ⟨.inl rfl, trivial⟩ rfl (fun hg => OpQ.g (q_fieldRef fo_23_1 rfl)) ?_
  refine .guardG (b := (!(!y1))) (x := .d (cI v0.serial)) (env' := [(9, _)]) rfl rfl rfl ⟨.inr (.inl rfl), trivial⟩ rfl (fun hg => OpQ.g (q_loadO one_3 rfl rfl rfl)) ?_
  obtain ⟨y2, hy2, H⟩ := bind_some' H
  refine .guardG (b := (!(!y1))) (x := .d (cB y2)) (env' := [(10, _)]) rfl rfl rfl ⟨.inr (.inl rfl), trivial⟩ rfl (fun hg => (g_call en_39 rfl rfl (c_f_billingref09_in (gcall_some hy2 hg)))) ?_
  refine .guardG (b := (!(!y1))) (x := .d (cB (!y2))) (env' := [(11, _)]) rfl rfl rfl ⟨.inr (.inl rfl), trivial⟩ rfl (fun hg => OpQ.g (q_not rfl)) ?_
  refine .q (x := .d (cB ((!y1) || (!y2)))) (q_pickOrB rfl rfl rfl) rfl ?_
  refine .q (x := .d (cB ((!y1) || (!y2)))) (q_assign rfl) rfl ?_
  refine .nil ?_
  refine .cond rfl (fun hc => ?_) (fun hc => ?_)
  · replace H := ifT hc H; clear hc
    refine .seq ?_
    refine .region ?_
    refine .q (x := .d (cI 6)) (q_assign rfl) rfl ?_
    refine .nil ?_
    refine .retN [.tmp 2] [.d (cI 6)] Tryd.func23 Tryd.results23 ⟨rfl, trivial⟩ ?_
    cases H
    exact ⟨_, .rfl' _, rfl⟩
  · replace H := ifF hc H; clear hc
    refine .seq ?_
    refine .region ?_
    refine .q (x := .ref 0 2) (q_fieldRef fo_23_2 rfl) rfl ?_
    refine .q (x := .d (cI v0.kind)) (q_loadO one_3 rfl rfl rfl) rfl ?_
    obtain ⟨y3, hy3, H⟩ := bind_some' H
    refine .g (x := .d (cB y3)) (g_call en_39 rfl rfl (c_f_billingref09_in (hy3))) rfl ?_
    refine .q (x := .d (cB (!y3))) (q_not rfl) rfl ?_
    refine .q (x := .d (cB (!y3))) (q_assign rfl) rfl ?_
    refine .nil ?_
    refine .cond rfl (fun hc => ?_) (fun hc => ?_)
    · replace H := ifT hc H; clear hc
      refine .seq ?_
      refine .region ?_
      refine .q (x := .d (cI 7)) (q_assign rfl) rfl ?_
      refine .nil ?_
      refine .retN [.tmp 2] [.d (cI 7)] Tryd.func23 Tryd.results23 ⟨rfl, trivial⟩ ?_
      cases H
      exact ⟨_, .rfl' _, rfl⟩
    · replace H := ifF hc H; clear hc
      refine .seq ?_
      refine .region ?_
      refine .q (x := .ref 0 3) (q_fieldRef fo_23_3 rfl) rfl ?_
      refine .q (x := .d (cS v0.a)) (q_loadO one_9 rfl rfl rfl) rfl ?_
      obtain ⟨y4, hy4, H⟩ := bind_some' H
      refine .g (x := .d (cB y4)) (g_call en_40 rfl rfl (c_f_billingref02_Valid (hy4))) rfl ?_
      refine .q (x := .d (cB (!y4))) (q_not rfl) rfl ?_
      refine .q (x := .d (cB (!y4))) (q_assign rfl) rfl ?_
      refine .nil ?_
      refine .cond rfl (fun hc => ?_) (fun hc => ?_)
      · replace H := ifT hc H; clear hc
        refine .seq ?_
        refine .region ?_
        refine .q (x := .d (cI 12)) (q_assign rfl) rfl ?_
        refine .nil ?_
        refine .retN [.tmp 2] [.d (cI 12)] Tryd.func23 Tryd.results23 ⟨rfl, trivial⟩ ?_
        cases H
        exact ⟨_, .rfl' _, rfl⟩
      · replace H := ifF hc H; clear hc
        refine .seq ?_
        refine .region ?_
        refine .q (x := .ref 0 4) (q_fieldRef fo_23_4 rfl) rfl ?_
        refine .q (x := .d (cS v0.b)) (q_loadO one_9 rfl rfl rfl) rfl ?_
        obtain ⟨y5, hy5, H⟩ := bind_some' H
        refine .g (x := .d (cB y5)) (g_call en_40 rfl rfl (c_f_billingref02_Valid (hy5))) rfl ?_
        refine .q (x := .d (cB (!y5))) (q_not rfl) rfl ?_
        refine .q (x := .d (cB (!y5))) (q_move rfl) rfl ?_
        refine .guardG (b := (!y5)) (x := .ref 0 4) (env' := [(1, _)]) rfl rfl rfl ⟨.inl rfl, trivial⟩ rfl (fun hg => OpQ.g (q_fieldRef fo_23_4 rfl)) ?_
        refine .guardG (b := (!y5)) (x := .d (cS v0.b)) (env' := [(30, _)]) rfl rfl rfl ⟨.inr (.inl rfl), trivial⟩ rfl (fun hg => OpQ.g (q_loadO one_9 rfl rfl rfl)) ?_
        refine .guardG (b := (!y5)) (x := .d (cB (v0.b != ([] : List UInt8)))) (env' := [(31, _)]) rfl rfl rfl ⟨.inr (.inl rfl), trivial⟩ rfl (fun hg => OpQ.g (q_sneq rfl rfl)) ?_
        refine .guardG (b := (!y5)) (x := .d (cB (v0.b != ([] : List UInt8)))) (env' := [(32, _)]) rfl rfl rfl ⟨.inr (.inl rfl), trivial⟩ rfl (fun hg => OpQ.g (q_move rfl)) ?_
        refine .guardG (b := ((!y5) && (!(v0.b != ([] : List UInt8))))) (x := .ref 0 2) (env' := [(1, _)]) rfl rfl rfl ⟨.inl rfl, trivial⟩ rfl (fun hg => OpQ.g (q_fieldRef fo_23_2 rfl)) ?_
        refine .guardG (b := ((!y5) && (!(v0.b != ([] : List UInt8))))) (x := .d (cI v0.kind)) (env' := [(34, _)]) rfl rfl rfl ⟨.inr (.inl rfl), trivial⟩ rfl (fun hg => OpQ.g (q_loadO one_3 rfl rfl rfl)) ?_
        refine .guardG (b := ((!y5) && (!(v0.b != ([] : List UInt8))))) (x := .d (cB (v0.kind != 3))) (env' := [(35, _)]) rfl rfl rfl ⟨.inr (.inl rfl), trivial⟩ rfl (fun hg => OpQ.g (q_neq rfl rfl)) ?_
        refine .guardG (b := ((!y5) && (!(v0.b != ([] : List UInt8))))) (x := .d (cB (v0.kind != 3))) (env' := [(36, _)]) rfl rfl rfl ⟨.inr (.inl rfl), trivial⟩ rfl (fun hg => OpQ.g (q_move rfl)) ?_
        refine .guardG (b := (((!y5) && (!(v0.b != ([] : List UInt8)))) && (v0.kind != 3))) (x := .ref 0 2) (env' := [(1, _)]) rfl rfl rfl ⟨.inl rfl, trivial⟩ rfl (fun hg => OpQ.g (q_fieldRef fo_23_2 rfl)) ?_
        refine .guardG (b := (((!y5) && (!(v0.b != ([] : List UInt8)))) && (v0.kind != 3))) (x := .d (cI v0.kind)) (env' := [(38, _)]) rfl rfl rfl ⟨.inr (.inl rfl), trivial⟩ rfl (fun hg => OpQ.g (q_loadO one_3 rfl rfl rfl)) ?_
        refine .guardG (b := (((!y5) && (!(v0.b != ([] : List UInt8)))) && (v0.kind != 3))) (x := .d (cB (v0.kind != 4))) (env' := [(39, _)]) rfl rfl rfl ⟨.inr (.inl rfl), trivial⟩ rfl (fun hg => OpQ.g (q_neq rfl rfl)) ?_
        refine .guardG (b := ((!y5) && (!(v0.b != ([] : List UInt8))))) (x := .d (cB ((v0.kind != 3) && (v0.kind != 4)))) (env' := [(37, _), (40, _)]) rfl rfl rfl ⟨.inr (.inl rfl), ⟨.inr (.inr ⟨_, _, rfl, rfl⟩), trivial⟩⟩ rfl (fun hg => OpQ.g (q_pickAndB rfl rfl rfl)) ?_
        refine .guardG (b := (!y5)) (x := .d (cB ((v0.b != ([] : List UInt8)) || ((v0.kind != 3) && (v0.kind != 4))))) (env' := [(33, _), (41, _)]) rfl rfl rfl ⟨.inr (.inl rfl), ⟨.inr (.inr ⟨_, _, rfl, rfl⟩), trivial⟩⟩ rfl (fun hg => OpQ.g (q_pickOrB rfl rfl rfl)) ?_
        refine .q (x := .d (cB ((!y5) && ((v0.b != ([] : List UInt8)) || ((v0.kind != 3) && (v0.kind != 4)))))) (q_pickAndB rfl rfl rfl) rfl ?_
        refine .q (x := .d (cB ((!y5) && ((v0.b != ([] : List UInt8)) || ((v0.kind != 3) && (v0.kind != 4)))))) (q_assign rfl) rfl ?_
        refine .nil ?_
        refine .cond rfl (fun hc => ?_) (fun hc => ?_)
        · replace H := ifT hc H; clear hc
          refine .seq ?_
          refine .region ?_
          refine .q (x := .d (cI 12)) (q_assign rfl) rfl ?_
          refine .nil ?_
          refine .retN [.tmp 2] [.d (cI 12)] Tryd.func23 Tryd.results23 ⟨rfl, trivial⟩ ?_
          cases H
          exact ⟨_, .rfl' _, rfl⟩
        · replace H := ifF hc H; clear hc
          refine .seq ?_
          refine .region ?_
          refine .q (x := .ref 0 5) (q_fieldRef fo_23_5 rfl) rfl ?_
          refine .q (x := .d (cI v0.start)) (q_loadO one_3 rfl rfl rfl) rfl ?_
          obtain ⟨y6, hy6, H⟩ := bind_some' H
          refine .g (x := .d (cB y6)) (g_call en_39 rfl rfl (c_f_billingref09_in (hy6))) rfl ?_
          refine .q (x := .d (cB (!y6))) (q_not rfl) rfl ?_
          refine .q (x := .d (cB (!y6))) (q_assign rfl) rfl ?_
          refine .nil ?_
          refine .cond rfl (fun hc => ?_) (fun hc => ?_)
          · replace H := ifT hc H; clear hc
            refine .seq ?_
            refine .region ?_
            refine .q (x := .d (cI 15)) (q_assign rfl) rfl ?_
            refine .nil ?_
            refine .retN [.tmp 2] [.d (cI 15)] Tryd.func23 Tryd.results23 ⟨rfl, trivial⟩ ?_
            cases H
            exact ⟨_, .rfl' _, rfl⟩
          · replace H := ifF hc H; clear hc
            refine .seq ?_
            refine .region ?_
            refine .q (x := .ref 0 6) (q_fieldRef fo_23_6 rfl) rfl ?_
            refine .q (x := .d (cI v0.units)) (q_loadO one_3 rfl rfl rfl) rfl ?_
            obtain ⟨y7, hy7, H⟩ := bind_some' H
            refine .g (x := .d (cB y7)) (g_call en_39 rfl rfl (c_f_billingref09_in (hy7))) rfl ?_
            refine .q (x := .d (cB (!y7))) (q_not rfl) rfl ?_
            refine .q (x := .d (cB (!y7))) (q_move rfl) rfl ?_
            refine .guardG (b := (!(!y7))) (x := .ref 0 2) (env' := [(1, _)]) rfl rfl rfl ⟨.inl rfl, trivial⟩ rfl (fun hg => OpQ.g (q_fieldRef fo_23_2 rfl)) ?_
            refine .guardG (b := (!(!y7))) (x := .d (cI v0.kind)) (env' := [(55, _)]) rfl rfl rfl ⟨.inr (.inl rfl), trivial⟩ rfl (fun hg => OpQ.g (q_loadO one_3 rfl rfl rfl)) ?_
            refine .guardG (b := (!(!y7))) (x := .d (cB (v0.kind == 1))) (env' := [(56, _)]) rfl rfl rfl ⟨.inr (.inl rfl), trivial⟩ rfl (fun hg => OpQ.g (q_eql rfl rfl)) ?_
            refine .guardG (b := (!(!y7))) (x := .d (cB (v0.kind == 1))) (env' := [(57, _)]) rfl rfl rfl ⟨.inr (.inl rfl), trivial⟩ rfl (fun hg => OpQ.g (q_move rfl)) ?_
            refine .guardG (b := ((!(!y7)) && (v0.kind == 1))) (x := .ref 0 6) (env' := [(1, _)]) rfl rfl rfl ⟨.inl rfl, trivial⟩ rfl (fun hg => OpQ.g (q_fieldRef fo_23_6 rfl)) ?_
            refine .guardG (b := ((!(!y7)) && (v0.kind == 1))) (x := .d (cI v0.units)) (env' := [(59, _)]) rfl rfl rfl ⟨.inr (.inl rfl), trivial⟩ rfl (fun hg => OpQ.g (q_loadO one_3 rfl rfl rfl)) ?_
            refine .guardG (b := ((!(!y7)) && (v0.kind == 1))) (x := .d (cB (decide (v0.units > 604800)))) (env' := [(60, _)]) rfl rfl rfl ⟨.inr (.inl rfl), trivial⟩ rfl (fun hg => OpQ.g (q_gtr rfl rfl)) ?_
            refine .guardG (b := (!(!y7))) (x := .d (cB ((v0.kind == 1) && (decide (v0.units > 604800))))) (env' := [(58, _), (61, _)]) rfl rfl rfl ⟨.inr (.inl rfl), ⟨.inr (.inr ⟨_, _, rfl, rfl⟩), trivial⟩⟩ rfl (fun hg => OpQ.g (q_pickAndB rfl rfl rfl)) ?_
            refine .q (x := .d (cB ((!y7) || ((v0.kind == 1) && (decide (v0.units > 604800)))))) (q_pickOrB rfl rfl rfl) rfl ?_
            refine .q (x := .d (cB ((!y7) || ((v0.kind == 1) && (decide (v0.units > 604800)))))) (q_assign rfl) rfl ?_
            refine .nil ?_
            refine .cond rfl (fun hc => ?_) (fun hc => ?_)
            · replace H := ifT hc H; clear hc
              refine .seq ?_
              refine .region ?_
              refine .q (x := .d (cI 6)) (q_assign rfl) rfl ?_
              refine .nil ?_
              refine .retN [.tmp 2] [.d (cI 6)] Tryd.func23 Tryd.results23 ⟨rfl, trivial⟩ ?_
              cases H
              exact ⟨_, .rfl' _, rfl⟩
            · replace H := ifF hc H; clear hc
              refine .seq ?_
              refine .region ?_
              refine .q (x := .ref 0 2) (q_fieldRef fo_23_2 rfl) rfl ?_
              refine .q (x := .d (cI v0.kind)) (q_loadO one_3 rfl rfl rfl) rfl ?_
              refine .q (x := .d (cB (v0.kind == 1))) (q_eql rfl rfl) rfl ?_
              refine .q (x := .d (cB (v0.kind == 1))) (q_move rfl) rfl ?_
              refine .guardG (b := (v0.kind == 1)) (x := .ref 0 5) (env' := [(1, _)]) rfl rfl rfl ⟨.inl rfl, trivial⟩ rfl (fun hg => OpQ.g (q_fieldRef fo_23_5 rfl)) ?_
              refine .guardG (b := (v0.kind == 1)) (x := .d (cI v0.start)) (env' := [(69, _)]) rfl rfl rfl ⟨.inr (.inl rfl), trivial⟩ rfl (fun hg => OpQ.g (q_loadO one_3 rfl rfl rfl)) ?_
              refine .guardG (b := (v0.kind == 1)) (x := .ref 0 6) (env' := [(1, _)]) rfl rfl rfl ⟨.inl rfl, trivial⟩ rfl (fun hg => OpQ.g (q_fieldRef fo_23_6 rfl)) ?_
              refine .guardG (b := (v0.kind == 1)) (x := .d (cI v0.units)) (env' := [(71, _)]) rfl rfl rfl ⟨.inr (.inl rfl), trivial⟩ rfl (fun hg => OpQ.g (q_loadO one_3 rfl rfl rfl)) ?_
              obtain ⟨hk1, H⟩ := ck_some H
              refine .guardG (b := (v0.kind == 1)) (x := .d (cI (v0.start + v0.units))) (env' := [(70, _), (72, _)]) rfl rfl rfl ⟨.inr (.inl rfl), ⟨.inr (.inl rfl), trivial⟩⟩ rfl (fun hg => OpQ.g (q_addI rfl rfl (hk1 hg).1 (hk1 hg).2)) ?_
              refine .guardG (b := (v0.kind == 1)) (x := .d (cB (decide ((v0.start + v0.units) > 12622780800)))) (env' := [(73, _)]) rfl rfl rfl ⟨.inr (.inl rfl), trivial⟩ rfl (fun hg => OpQ.g (q_gtr rfl rfl)) ?_
              refine .q (x := .d (cB ((v0.kind == 1) && (decide ((v0.start + v0.units) > 12622780800))))) (q_pickAndB rfl rfl rfl) rfl ?_
              refine .q (x := .d (cB ((v0.kind == 1) && (decide ((v0.start + v0.units) > 12622780800))))) (q_assign rfl) rfl ?_
              refine .nil ?_
              refine .cond rfl (fun hc => ?_) (fun hc => ?_)
              · replace H := ifT hc H; clear hc
                refine .seq ?_
                refine .region ?_
                refine .q (x := .d (cI 15)) (q_assign rfl) rfl ?_
                refine .nil ?_
                refine .retN [.tmp 2] [.d (cI 15)] Tryd.func23 Tryd.results23 ⟨rfl, trivial⟩ ?_
                cases H
                exact ⟨_, .rfl' _, rfl⟩
              · replace H := ifF hc H; clear hc
                refine .seq ?_
                refine .region ?_
                refine .q (x := .ref 0 7) (q_fieldRef fo_23_7 rfl) rfl ?_
                refine .q (x := .d (cI v0.call)) (q_loadO one_3 rfl rfl rfl) rfl ?_
                obtain ⟨y8, hy8, H⟩ := bind_some' H
                refine .g (x := .d (cB y8)) (g_call en_39 rfl rfl (c_f_billingref09_in (hy8))) rfl ?_
                refine .q (x := .d (cB (!y8))) (q_not rfl) rfl ?_
                refine .q (x := .d (cB (!y8))) (q_move rfl) rfl ?_
                refine .guardG (b := (!(!y8))) (x := .ref 0 8) (env' := [(1, _)]) rfl rfl rfl ⟨.inl rfl, trivial⟩ rfl (fun hg => OpQ.g (q_fieldRef fo_23_8 rfl)) ?_
                refine .guardG (b := (!(!y8))) (x := .d (cI v0.part)) (env' := [(82, _)]) rfl rfl rfl ⟨.inr (.inl rfl), trivial⟩ rfl (fun hg => OpQ.g (q_loadO one_3 rfl rfl rfl)) ?_
                obtain ⟨y9, hy9, H⟩ := bind_some' H
                refine .guardG (b := (!(!y8))) (x := .d (cB y9)) (env' := [(83, _)]) rfl rfl rfl ⟨.inr (.inl rfl), trivial⟩ rfl (fun hg => (g_call en_39 rfl rfl (c_f_billingref09_in (gcall_some hy9 hg)))) ?_
                refine .guardG (b := (!(!y8))) (x := .d (cB (!y9))) (env' := [(84, _)]) rfl rfl rfl ⟨.inr (.inl rfl), trivial⟩ rfl (fun hg => OpQ.g (q_not rfl)) ?_
                refine .q (x := .d (cB ((!y8) || (!y9)))) (q_pickOrB rfl rfl rfl) rfl ?_
                refine .q (x := .d (cB ((!y8) || (!y9)))) (q_assign rfl) rfl ?_
                refine .nil ?_
                refine .cond rfl (fun hc => ?_) (fun hc => ?_)
                · replace H := ifT hc H; clear hc
                  refine .seq ?_
                  refine .region ?_
                  refine .q (x := .d (cI 6)) (q_assign rfl) rfl ?_
                  refine .nil ?_
                  refine .retN [.tmp 2] [.d (cI 6)] Tryd.func23 Tryd.results23 ⟨rfl, trivial⟩ ?_
                  cases H
                  exact ⟨_, .rfl' _, rfl⟩
                · replace H := ifF hc H; clear hc
                  refine .seq ?_
                  refine .region ?_
                  refine .q (x := .ref 0 8) (q_fieldRef fo_23_8 rfl) rfl ?_
                  refine .q (x := .d (cI v0.part)) (q_loadO one_3 rfl rfl rfl) rfl ?_
                  refine .q (x := .d (cB (v0.part == 0))) (q_eql rfl rfl) rfl ?_
                  refine .q (x := .ref 0 7) (q_fieldRef fo_23_7 rfl) rfl ?_
                  refine .q (x := .d (cI v0.call)) (q_loadO one_3 rfl rfl rfl) rfl ?_
                  refine .q (x := .d (cB (v0.call == 0))) (q_eql rfl rfl) rfl ?_
                  refine .q (x := .d (cB ((v0.part == 0) != (v0.call == 0)))) (q_bneq rfl Tryd.underlying4 rfl) rfl ?_
                  refine .q (x := .d (cB ((v0.part == 0) != (v0.call == 0)))) (q_move rfl) rfl ?_
                  refine .guardG (b := (!((v0.part == 0) != (v0.call == 0)))) (x := .ref 0 9) (env' := [(1, _)]) rfl rfl rfl ⟨.inl rfl, trivial⟩ rfl (fun hg => OpQ.g (q_fieldRef fo_23_9 rfl)) ?_
                  refine .guardG (b := (!((v0.part == 0) != (v0.call == 0)))) (x := .d (cB v0.last)) (env' := [(96, _)]) rfl rfl rfl ⟨.inr (.inl rfl), trivial⟩ rfl (fun hg => OpQ.g (q_loadO one_4 rfl rfl rfl)) ?_
                  refine .guardG (b := (!((v0.part == 0) != (v0.call == 0)))) (x := .d (cB v0.last)) (env' := [(97, _)]) rfl rfl rfl ⟨.inr (.inl rfl), trivial⟩ rfl (fun hg => OpQ.g (q_move rfl)) ?_
                  refine .guardG (b := ((!((v0.part == 0) != (v0.call == 0))) && v0.last)) (x := .ref 0 8) (env' := [(1, _)]) rfl rfl rfl ⟨.inl rfl, trivial⟩ rfl (fun hg => OpQ.g (q_fieldRef fo_23_8 rfl)) ?_
                  refine .guardG (b := ((!((v0.part == 0) != (v0.call == 0))) && v0.last)) (x := .d (cI v0.part)) (env' := [(99, _)]) rfl rfl rfl ⟨.inr (.inl rfl), trivial⟩ rfl (fun hg => OpQ.g (q_loadO one_3 rfl rfl rfl)) ?_
                  refine .guardG (b := ((!((v0.part == 0) != (v0.call == 0))) && v0.last)) (x := .d (cB (v0.part == 0))) (env' := [(100, _)]) rfl rfl rfl ⟨.inr (.inl rfl), trivial⟩ rfl (fun hg => OpQ.g (q_eql rfl rfl)) ?_
                  refine .guardG (b := (!((v0.part == 0) != (v0.call == 0)))) (x := .d (cB (v0.last && (v0.part == 0)))) (env' := [(98, _), (101, _)]) rfl rfl rfl ⟨.inr (.inl rfl), ⟨.inr (.inr ⟨_, _, rfl, rfl⟩), trivial⟩⟩ rfl (fun hg => OpQ.g (q_pickAndB rfl rfl rfl)) ?_
                  refine .q (x := .d (cB (((v0.part == 0) != (v0.call == 0)) || (v0.last && (v0.part == 0))))) (q_pickOrB rfl rfl rfl) rfl ?_
                  refine .q (x := .d (cB (((v0.part == 0) != (v0.call == 0)) || (v0.last && (v0.part == 0))))) (q_assign rfl) rfl ?_
                  refine .nil ?_
                  refine .cond rfl (fun hc => ?_) (fun hc => ?_)
                  · replace H := ifT hc H; clear hc
                    refine .seq ?_
                    refine .region ?_
                    refine .q (x := .d (cI 8)) (q_assign rfl) rfl ?_
                    refine .nil ?_
                    refine .retN [.tmp 2] [.d (cI 8)] Tryd.func23 Tryd.results23 ⟨rfl, trivial⟩ ?_
                    cases H
                    exact ⟨_, .rfl' _, rfl⟩
                  · replace H := ifF hc H; clear hc
                    refine .seq ?_
                    refine .region ?_
                    refine .q (x := .ref 0 10) (q_fieldRef fo_23_10 rfl) rfl ?_
                    refine .q (x := .d (cI v0.trunk)) (q_loadO one_3 rfl rfl rfl) rfl ?_
                    obtain ⟨y10, hy10, H⟩ := bind_some' H
                    refine .g (x := .d (cB y10)) (g_call en_39 rfl rfl (c_f_billingref09_in (hy10))) rfl ?_
                    refine .q (x := .d (cB (!y10))) (q_not rfl) rfl ?_
                    refine .q (x := .d (cB (!y10))) (q_assign rfl) rfl ?_
                    refine .nil ?_
                    refine .cond rfl (fun hc => ?_) (fun hc => ?_)
                    · replace H := ifT hc H; clear hc
                      refine .seq ?_
                      refine .region ?_
                      refine .q (x := .d (cI 6)) (q_assign rfl) rfl ?_
                      refine .nil ?_
                      refine .retN [.tmp 2] [.d (cI 6)] Tryd.func23 Tryd.results23 ⟨rfl, trivial⟩ ?_
                      cases H
                      exact ⟨_, .rfl' _, rfl⟩
                    · replace H := ifF hc H; clear hc
                      refine .seq ?_
                      refine .region ?_
                      refine .q (x := .ref 0 11) (q_fieldRef fo_23_11 rfl) rfl ?_
                      refine .q (x := .d (cB v0.inbound)) (q_loadO one_4 rfl rfl rfl) rfl ?_
                      refine .q (x := .d (cB v0.inbound)) (q_move rfl) rfl ?_
                      refine .guardG (b := v0.inbound) (x := .ref 0 10) (env' := [(1, _)]) rfl rfl rfl ⟨.inl rfl, trivial⟩ rfl (fun hg => OpQ.g (q_fieldRef fo_23_10 rfl)) ?_
                      refine .guardG (b := v0.inbound) (x := .d (cI v0.trunk)) (env' := [(113, _)]) rfl rfl rfl ⟨.inr (.inl rfl), trivial⟩ rfl (fun hg => OpQ.g (q_loadO one_3 rfl rfl rfl)) ?_
                      refine .guardG (b := v0.inbound) (x := .d (cB (v0.trunk == 0))) (env' := [(114, _)]) rfl rfl rfl ⟨.inr (.inl rfl), trivial⟩ rfl (fun hg => OpQ.g (q_eql rfl rfl)) ?_
                      refine .q (x := .d (cB (v0.inbound && (v0.trunk == 0)))) (q_pickAndB rfl rfl rfl) rfl ?_
                      refine .q (x := .d (cB (v0.inbound && (v0.trunk == 0)))) (q_assign rfl) rfl ?_
                      refine .nil ?_
                      refine .cond rfl (fun hc => ?_) (fun hc => ?_)
                      · replace H := ifT hc H; clear hc
                        refine .seq ?_
                        refine .region ?_
                        refine .q (x := .d (cI 8)) (q_assign rfl) rfl ?_
                        refine .nil ?_
                        refine .retN [.tmp 2] [.d (cI 8)] Tryd.func23 Tryd.results23 ⟨rfl, trivial⟩ ?_
                        cases H
                        exact ⟨_, .rfl' _, rfl⟩
                      · replace H := ifF hc H; clear hc
                        refine .skip ?_
                        refine .inBlock ?_
                        refine .seq ?_
                        refine .region ?_
                        refine .q (x := .d (cI 0)) (q_assign rfl) rfl ?_
                        refine .nil ?_
                        refine .retN [.tmp 2] [.d (cI 0)] Tryd.func23 Tryd.results23 ⟨rfl, trivial⟩ ?_
                        cases H
                        exact ⟨_, .rfl' _, rfl⟩

set_option maxRecDepth 100000 in
set_option maxHeartbeats 1000000 in
theorem c_f_billingref09_Number {v0n : Int} {r : (List UInt8)} (H : f_billingref09_Number v0n = some r) : ACall Tryd.prog 24 [cI v0n] (· = cS r) := by
  obtain ⟨i5, hi5, hz5, hs5, hb5⟩ := in_5
  refine ACall.enter' Tryd.func24 rfl Tryd.ntmps24 rfl fun S hS => ?_
  unfold f_billingref09_Number at H
  change ARun _ _ _ _ _ _ [(0, .d (cI v0n))] _
  refine .seq ?_
  refine .region ?_
  refine .q (x := .d (cS ([] : List UInt8))) (q_assign rfl) rfl ?_
  refine .nil ?_
  refine .seq ?_
  refine .region ?_
  refine .q (x := .d (cI v0n)) (q_move rfl) rfl ?_
  obtain ⟨hk1, H⟩ := ck_some H
  refine .q (x := .d (cI (Int.tmod v0n 10))) (q_remT rfl rfl hk1) rfl ?_
  obtain ⟨hk2, H⟩ := ck_some H
  refine .q (x := .d (cI (48 + (Int.tmod v0n 10)))) (q_addI rfl rfl hk2.1 hk2.2) rfl ?_
  refine .q (x := .d (cU8 (UInt8.ofInt (48 + (Int.tmod v0n 10))))) (q_conv8 Tryd.underlying3 Tryd.underlying5 rfl) rfl ?_
  refine .g (x := .d (slOf 1 rB8 ([UInt8.ofInt (48 + (Int.tmod v0n 10))]))) (g_buildSlice1 Tryd.underlying62 hi5 hs5 hz5 rfl rfl rfl rfl rfl) rfl ?_
  refine .q (x := .d (cS ([UInt8.ofInt (48 + (Int.tmod v0n 10))]))) (q_bytesStrL (a := [UInt8.ofInt (48 + (Int.tmod v0n 10))]) Tryd.underlying62 Tryd.underlying5 Tryd.underlying9 rfl rfl) rfl ?_
  refine .q (x := .d (cS ([UInt8.ofInt (48 + (Int.tmod v0n 10))]))) (q_assign rfl) rfl ?_
  refine .nil ?_
  refine .seq ?_
  refine .seq ?_
  refine .region ?_
  refine .q (x := .d (cI v0n)) (q_move rfl) rfl ?_
  obtain ⟨hk3, H⟩ := ck_some H
  refine .q (x := .d (cI (Int.tdiv v0n 10))) (q_quoT rfl rfl hk3) rfl ?_
  refine .q (x := .d (cI (Int.tdiv v0n 10))) (q_assign rfl) rfl ?_
  refine .nil ?_
  refine .block ?_
  obtain ⟨n1, H⟩ := loop_some H
  refine .loop (ι := Nat × (Int × List UInt8)) (fun p => [(0, .d (cI p.2.1)), (3, .d (cS p.2.2))]) (fun p => ⟨[], []⟩) (fun p => iter (fun s => f_billingref09_Number_l1 s.1 s.2) p.1 p.2 = some r) (·.1) (n1, (Int.tdiv v0n 10, [UInt8.ofInt (48 + (Int.tmod v0n 10))])) H (.cons rfl (.rfl' _) (.cons rfl (.rfl' _) (.nil))) rfl ?_
  rintro ⟨m1, v0nl1, v3sl1⟩ HI ih1
  obtain ⟨n1, q1, hm1, H, HK1⟩ := iter_succ HI
  clear HI
  replace H : f_billingref09_Number_l1 v0nl1 v3sl1 = some q1 := H
  unfold f_billingref09_Number_l1 at H
  change ARun _ _ _ _ _ _ [(0, .d (cI v0nl1)), (3, .d (cS v3sl1))] ⟨[], []⟩
  refine .seq ?_
  refine .seq ?_
  refine .region ?_
  refine .q (x := .d (cI v0nl1)) (q_move rfl) rfl ?_
  refine .q (x := .d (cB (decide (v0nl1 > 0)))) (q_gtr rfl rfl) rfl ?_
  refine .nil ?_
  refine .cond rfl (fun hc => ?_) (fun hc => ?_)
  · replace H := ifT hc H; clear hc
    refine .skip ?_
    refine .seq ?_
    refine .block ?_
    refine .region ?_
    refine .q (x := .d (cI v0nl1)) (q_move rfl) rfl ?_
    obtain ⟨hk4, H⟩ := ck_some H
    refine .q (x := .d (cI (Int.tmod v0nl1 10))) (q_remT rfl rfl hk4) rfl ?_
    obtain ⟨hk5, H⟩ := ck_some H
    refine .q (x := .d (cI (48 + (Int.tmod v0nl1 10)))) (q_addI rfl rfl hk5.1 hk5.2) rfl ?_
    refine .q (x := .d (cU8 (UInt8.ofInt (48 + (Int.tmod v0nl1 10))))) (q_conv8 Tryd.underlying3 Tryd.underlying5 rfl) rfl ?_
    refine .g (x := .d (slOf 1 rB8 ([UInt8.ofInt (48 + (Int.tmod v0nl1 10))]))) (g_buildSlice1 Tryd.underlying62 hi5 hs5 hz5 rfl rfl rfl rfl rfl) rfl ?_
    refine .q (x := .d (cS ([UInt8.ofInt (48 + (Int.tmod v0nl1 10))]))) (q_bytesStrL (a := [UInt8.ofInt (48 + (Int.tmod v0nl1 10))]) Tryd.underlying62 Tryd.underlying5 Tryd.underlying9 rfl rfl) rfl ?_
    refine .q (x := .d (cS v3sl1)) (q_move rfl) rfl ?_
    obtain ⟨hk6, H⟩ := ck_some H
    refine .q (x := .d (cS (([UInt8.ofInt (48 + (Int.tmod v0nl1 10))]) ++ v3sl1))) (q_sadd rfl rfl hk6) rfl ?_
    refine .q (x := .d (cS (([UInt8.ofInt (48 + (Int.tmod v0nl1 10))]) ++ v3sl1))) (q_assign rfl) rfl ?_
    refine .nil ?_
    refine .inBlock ?_
    refine .region ?_
    refine .q (x := .d (cI v0nl1)) (q_move rfl) rfl ?_
    obtain ⟨hk7, H⟩ := ck_some H
    refine .q (x := .d (cI (Int.tdiv v0nl1 10))) (q_quoT rfl rfl hk7) rfl ?_
    refine .q (x := .d (cI (Int.tdiv v0nl1 10))) (q_assign rfl) rfl ?_
    refine .nil ?_
    cases H
    exact .sub (.cons rfl (.rfl' _) (.cons rfl (.rfl' _) (.nil))) (ih1 (n1, (Int.tdiv v0nl1 10, ([UInt8.ofInt (48 + (Int.tmod v0nl1 10))]) ++ v3sl1)) HK1 hm1)
  · replace H := ifF hc H; clear hc
    refine .exit rfl ?_
    refine .seq ?_
    refine .region ?_
    refine .q (x := .d (cS v3sl1)) (q_move rfl) rfl ?_
    refine .q (x := .d (cS v3sl1)) (q_assign rfl) rfl ?_
    refine .nil ?_
    refine .retN [.tmp 2] [.d (cS v3sl1)] Tryd.func24 Tryd.results24 ⟨rfl, trivial⟩ ?_
    cases H
    cases HK1
    exact ⟨_, .rfl' _, rfl⟩

set_option maxRecDepth 100000 in
set_option maxHeartbeats 1000000 in
theorem c_f_billingref09_Encode {v0 : Record} {r : (List UInt8) × Int} (H : f_billingref09_Encode v0 = some r) : ACall Tryd.prog 11 [.agg (Record.row v0)] (· = .tup [cS r.1, cI r.2]) := by
  refine ACall.enter' Tryd.func11 rfl Tryd.ntmps11 rfl fun S hS => ?_
  unfold f_billingref09_Encode at H
  change ARun _ _ _ _ _ _ [(0, .d (.agg (Record.row v0)))] _
  refine .seq ?_
  refine .region ?_
  refine .v (x := .ref 0 0) (v_box rfl rfl) rfl ?_
  refine .withSt (st' := ⟨[.row 23 [.d (cI v0.source), .d (cI v0.serial), .d (cI v0.kind), .d (cS v0.a), .d (cS v0.b), .d (cI v0.start), .d (cI v0.units), .d (cI v0.call), .d (cI v0.part), .d (cB v0.last), .d (cI v0.trunk), .d (cB v0.inbound)]], []⟩) rfl ?_
  refine .q (x := .d (cS ([] : List UInt8))) (q_assign rfl) rfl ?_
  refine .q (x := .d (cI 0)) (q_assign rfl) rfl ?_
  refine .nil ?_
  refine .seq ?_
  refine .seq ?_
  refine .region ?_
  refine .q (x := .d (.agg (Record.row v0))) (q_loadOA one_23 sz_23 rfl rfl (Nat.le_of_ble_eq_true rfl) rfl) rfl ?_
  obtain ⟨y1, hy1, H⟩ := bind_some' H
  refine .g (x := .d (cI y1)) (g_call en_23 rfl rfl (c_f_billingref09_Error (hy1))) rfl ?_
  refine .q (x := .d (cI y1)) (q_assign rfl) rfl ?_
  refine .nil ?_
  refine .seq ?_
  refine .region ?_
  refine .q (x := .d (cI y1)) (q_move rfl) rfl ?_
  refine .q (x := .d (cB (y1 != 0))) (q_neq rfl rfl) rfl ?_
  refine .nil ?_
  refine .cond rfl (fun hc => ?_) (fun hc => ?_)
  · replace H := ifT hc H; clear hc
    refine .seq ?_
    refine .region ?_
    refine .q (x := .d (cI y1)) (q_move rfl) rfl ?_
    refine .q (x := .d (cS ([] : List UInt8))) (q_assign rfl) rfl ?_
    refine .q (x := .d (cI y1)) (q_assign rfl) rfl ?_
    refine .nil ?_
    refine .retN [.tmp 2, .tmp 3] [.d (cS ([] : List UInt8)), .d (cI y1)] Tryd.func11 Tryd.results11 ⟨rfl, rfl, trivial⟩ ?_
    cases H
    exact ⟨_, EVle.tupL (ds := [cS ([] : List UInt8), cI y1]) ⟨.rfl' _, .rfl' _, trivial⟩, rfl⟩
  · replace H := ifF hc H; clear hc
    refine .skip ?_
    refine .seq ?_
    refine .drawn 4 hMix (by kernel_rfl) ?_
    show DOps _ _ _ _ _ _ _ (_ :: _) _ _ _
    refine .q (x := .ref 0 4) (q_fieldRef fo_23_4 rfl) rfl ?_
    refine .q (x := .d (cS v0.b)) (q_loadO one_9 rfl rfl rfl) rfl ?_
    refine .q (x := .d (cS ([118, 116, 100, 99] : List UInt8))) (q_assign rfl) rfl ?_
    refine .q (x := .d (cS v0.b)) (q_assign rfl) rfl ?_
    refine .nil ?_
    show AOps _ _ _ _ _ _ [] _ _ _
    refine .nil ?_
    refine .seqJoin (ι := List UInt8) (fun s => [(1, .ref 0 0), (5, .d (cS ([118, 116, 100, 99] : List UInt8))), (6, .d (cS s))]) (fun s => ⟨[.row 23 [.d (cI v0.source), .d (cI v0.serial), .d (cI v0.kind), .d (cS v0.a), .d (cS v0.b), .d (cI v0.start), .d (cI v0.units), .d (cI v0.call), .d (cI v0.part), .d (cB v0.last), .d (cI v0.trunk), .d (cB v0.inbound)]], []⟩) (fun s => f_billingref09_Encode_j1 v0 s = some r) ?_ ?_
    · rintro v6j1 H
      replace H : f_billingref09_Encode_j1 v0 v6j1 = some r := H
      unfold f_billingref09_Encode_j1 at H
      change ARun _ _ _ _ _ _ [(1, .ref 0 0), (5, .d (cS ([118, 116, 100, 99] : List UInt8))), (6, .d (cS v6j1))] ⟨[.row 23 [.d (cI v0.source), .d (cI v0.serial), .d (cI v0.kind), .d (cS v0.a), .d (cS v0.b), .d (cI v0.start), .d (cI v0.units), .d (cI v0.call), .d (cI v0.part), .d (cB v0.last), .d (cI v0.trunk), .d (cB v0.inbound)]], []⟩
      refine .seq ?_
      refine .drawn 35 hMix (by kernel_rfl) ?_
      show DOps _ _ _ _ _ _ _ (_ :: _) _ _ _
      refine .q (x := .d (cS ([118, 116, 100, 99] : List UInt8))) (q_move rfl) rfl ?_
      refine .q (x := .ref 0 2) (q_fieldRef fo_23_2 rfl) rfl ?_
      refine .q (x := .d (cI v0.kind)) (q_loadO one_3 rfl rfl rfl) rfl ?_
      obtain ⟨hk1, H⟩ := ck_some H
      refine .q (x := .d (cI (v0.kind - 1))) (q_subI rfl rfl hk1.1 hk1.2) rfl ?_
      refine .q (x := .ref 0 2) (q_fieldRef fo_23_2 rfl) rfl ?_
      refine .q (x := .d (cI v0.kind)) (q_loadO one_3 rfl rfl rfl) rfl ?_
      obtain ⟨hk2, H⟩ := ck_some H
      refine .q (x := .d (cS ((([118, 116, 100, 99] : List UInt8).take (Int.toNat (v0.kind))).drop (Int.toNat (v0.kind - 1))))) (q_strLHL Tryd.underlying9 rfl rfl rfl hk2) rfl ?_
      obtain ⟨hk3, H⟩ := ck_some H
      refine .q (x := .d (cS (((([118, 116, 100, 99] : List UInt8).take (Int.toNat (v0.kind))).drop (Int.toNat (v0.kind - 1))) ++ ([32] : List UInt8)))) (q_sadd rfl rfl hk3) rfl ?_
      refine .q (x := .ref 0 0) (q_fieldRef fo_23_0 rfl) rfl ?_
      refine .q (x := .d (cI v0.source)) (q_loadO one_3 rfl rfl rfl) rfl ?_
      obtain ⟨y2, hy2, H⟩ := bind_some' H
      refine .g (x := .d (cS y2)) (g_call en_24 rfl rfl (c_f_billingref09_Number (hy2))) rfl ?_
      obtain ⟨hk4, H⟩ := ck_some H
      refine .q (x := .d (cS ((((([118, 116, 100, 99] : List UInt8).take (Int.toNat (v0.kind))).drop (Int.toNat (v0.kind - 1))) ++ ([32] : List UInt8)) ++ y2))) (q_sadd rfl rfl hk4) rfl ?_
      obtain ⟨hk5, H⟩ := ck_some H
      refine .q (x := .d (cS (((((([118, 116, 100, 99] : List UInt8).take (Int.toNat (v0.kind))).drop (Int.toNat (v0.kind - 1))) ++ ([32] : List UInt8)) ++ y2) ++ ([32] : List UInt8)))) (q_sadd rfl rfl hk5) rfl ?_
      refine .q (x := .ref 0 1) (q_fieldRef fo_23_1 rfl) rfl ?_
      refine .q (x := .d (cI v0.serial)) (q_loadO one_3 rfl rfl rfl) rfl ?_
      obtain ⟨y3, hy3, H⟩ := bind_some' H
      refine .g (x := .d (cS y3)) (g_call en_24 rfl rfl (c_f_billingref09_Number (hy3))) rfl ?_
      obtain ⟨hk6, H⟩ := ck_some H
      refine .q (x := .d (cS ((((((([118, 116, 100, 99] : List UInt8).take (Int.toNat (v0.kind))).drop (Int.toNat (v0.kind - 1))) ++ ([32] : List UInt8)) ++ y2) ++ ([32] : List UInt8)) ++ y3))) (q_sadd rfl rfl hk6) rfl ?_
      obtain ⟨hk7, H⟩ := ck_some H
      refine .q (x := .d (cS (((((((([118, 116, 100, 99] : List UInt8).take (Int.toNat (v0.kind))).drop (Int.toNat (v0.kind - 1))) ++ ([32] : List UInt8)) ++ y2) ++ ([32] : List UInt8)) ++ y3) ++ ([32] : List UInt8)))) (q_sadd rfl rfl hk7) rfl ?_
      refine .q (x := .ref 0 3) (q_fieldRef fo_23_3 rfl) rfl ?_
      refine .q (x := .d (cS v0.a)) (q_loadO one_9 rfl rfl rfl) rfl ?_
      obtain ⟨hk8, H⟩ := ck_some H
      refine .q (x := .d (cS ((((((((([118, 116, 100, 99] : List UInt8).take (Int.toNat (v0.kind))).drop (Int.toNat (v0.kind - 1))) ++ ([32] : List UInt8)) ++ y2) ++ ([32] : List UInt8)) ++ y3) ++ ([32] : List UInt8)) ++ v0.a))) (q_sadd rfl rfl hk8) rfl ?_
      obtain ⟨hk9, H⟩ := ck_some H
      refine .q (x := .d (cS (((((((((([118, 116, 100, 99] : List UInt8).take (Int.toNat (v0.kind))).drop (Int.toNat (v0.kind - 1))) ++ ([32] : List UInt8)) ++ y2) ++ ([32] : List UInt8)) ++ y3) ++ ([32] : List UInt8)) ++ v0.a) ++ ([32] : List UInt8)))) (q_sadd rfl rfl hk9) rfl ?_
      refine .q (x := .d (cS v6j1)) (q_move rfl) rfl ?_
      obtain ⟨hk10, H⟩ := ck_some H
      refine .q (x := .d (cS ((((((((((([118, 116, 100, 99] : List UInt8).take (Int.toNat (v0.kind))).drop (Int.toNat (v0.kind - 1))) ++ ([32] : List UInt8)) ++ y2) ++ ([32] : List UInt8)) ++ y3) ++ ([32] : List UInt8)) ++ v0.a) ++ ([32] : List UInt8)) ++ v6j1))) (q_sadd rfl rfl hk10) rfl ?_
      obtain ⟨hk11, H⟩ := ck_some H
      refine .q (x := .d (cS (((((((((((([118, 116, 100, 99] : List UInt8).take (Int.toNat (v0.kind))).drop (Int.toNat (v0.kind - 1))) ++ ([32] : List UInt8)) ++ y2) ++ ([32] : List UInt8)) ++ y3) ++ ([32] : List UInt8)) ++ v0.a) ++ ([32] : List UInt8)) ++ v6j1) ++ ([32] : List UInt8)))) (q_sadd rfl rfl hk11) rfl ?_
      refine .q (x := .ref 0 5) (q_fieldRef fo_23_5 rfl) rfl ?_
      refine .q (x := .d (cI v0.start)) (q_loadO one_3 rfl rfl rfl) rfl ?_
      obtain ⟨y4, hy4, H⟩ := bind_some' H
      refine .g (x := .d (cS y4)) (g_call en_24 rfl rfl (c_f_billingref09_Number (hy4))) rfl ?_
      obtain ⟨hk12, H⟩ := ck_some H
      refine .q (x := .d (cS ((((((((((((([118, 116, 100, 99] : List UInt8).take (Int.toNat (v0.kind))).drop (Int.toNat (v0.kind - 1))) ++ ([32] : List UInt8)) ++ y2) ++ ([32] : List UInt8)) ++ y3) ++ ([32] : List UInt8)) ++ v0.a) ++ ([32] : List UInt8)) ++ v6j1) ++ ([32] : List UInt8)) ++ y4))) (q_sadd rfl rfl hk12) rfl ?_
      obtain ⟨hk13, H⟩ := ck_some H
      refine .q (x := .d (cS (((((((((((((([118, 116, 100, 99] : List UInt8).take (Int.toNat (v0.kind))).drop (Int.toNat (v0.kind - 1))) ++ ([32] : List UInt8)) ++ y2) ++ ([32] : List UInt8)) ++ y3) ++ ([32] : List UInt8)) ++ v0.a) ++ ([32] : List UInt8)) ++ v6j1) ++ ([32] : List UInt8)) ++ y4) ++ ([32] : List UInt8)))) (q_sadd rfl rfl hk13) rfl ?_
      refine .q (x := .ref 0 6) (q_fieldRef fo_23_6 rfl) rfl ?_
      refine .q (x := .d (cI v0.units)) (q_loadO one_3 rfl rfl rfl) rfl ?_
      obtain ⟨y5, hy5, H⟩ := bind_some' H
      refine .g (x := .d (cS y5)) (g_call en_24 rfl rfl (c_f_billingref09_Number (hy5))) rfl ?_
      obtain ⟨hk14, H⟩ := ck_some H
      refine .q (x := .d (cS ((((((((((((((([118, 116, 100, 99] : List UInt8).take (Int.toNat (v0.kind))).drop (Int.toNat (v0.kind - 1))) ++ ([32] : List UInt8)) ++ y2) ++ ([32] : List UInt8)) ++ y3) ++ ([32] : List UInt8)) ++ v0.a) ++ ([32] : List UInt8)) ++ v6j1) ++ ([32] : List UInt8)) ++ y4) ++ ([32] : List UInt8)) ++ y5))) (q_sadd rfl rfl hk14) rfl ?_
      refine .q (x := .d (cS ((((((((((((((([118, 116, 100, 99] : List UInt8).take (Int.toNat (v0.kind))).drop (Int.toNat (v0.kind - 1))) ++ ([32] : List UInt8)) ++ y2) ++ ([32] : List UInt8)) ++ y3) ++ ([32] : List UInt8)) ++ v0.a) ++ ([32] : List UInt8)) ++ v6j1) ++ ([32] : List UInt8)) ++ y4) ++ ([32] : List UInt8)) ++ y5))) (q_assign rfl) rfl ?_
      refine .nil ?_
      show AOps _ _ _ _ _ _ [] _ _ _
      refine .nil ?_
      refine .seqJoin (ι := List UInt8) (fun s => [(1, .ref 0 0), (7, .d (cS s))]) (fun s => ⟨[.row 23 [.d (cI v0.source), .d (cI v0.serial), .d (cI v0.kind), .d (cS v0.a), .d (cS v0.b), .d (cI v0.start), .d (cI v0.units), .d (cI v0.call), .d (cI v0.part), .d (cB v0.last), .d (cI v0.trunk), .d (cB v0.inbound)]], []⟩) (fun s => f_billingref09_Encode_j2 v0 s = some r) ?_ ?_
      · rintro v7j2 H
        replace H : f_billingref09_Encode_j2 v0 v7j2 = some r := H
        unfold f_billingref09_Encode_j2 at H
        change ARun _ _ _ _ _ _ [(1, .ref 0 0), (7, .d (cS v7j2))] ⟨[.row 23 [.d (cI v0.source), .d (cI v0.serial), .d (cI v0.kind), .d (cS v0.a), .d (cS v0.b), .d (cI v0.start), .d (cI v0.units), .d (cI v0.call), .d (cI v0.part), .d (cB v0.last), .d (cI v0.trunk), .d (cB v0.inbound)]], []⟩
        refine .seqJoin (ι := List UInt8) (fun s => [(1, .ref 0 0), (7, .d (cS s))]) (fun s => ⟨[.row 23 [.d (cI v0.source), .d (cI v0.serial), .d (cI v0.kind), .d (cS v0.a), .d (cS v0.b), .d (cI v0.start), .d (cI v0.units), .d (cI v0.call), .d (cI v0.part), .d (cB v0.last), .d (cI v0.trunk), .d (cB v0.inbound)]], []⟩) (fun s => f_billingref09_Encode_j3 v0 s = some r) ?_ ?_
        · rintro v7j3 H
          replace H : f_billingref09_Encode_j3 v0 v7j3 = some r := H
          unfold f_billingref09_Encode_j3 at H
          change ARun _ _ _ _ _ _ [(1, .ref 0 0), (7, .d (cS v7j3))] ⟨[.row 23 [.d (cI v0.source), .d (cI v0.serial), .d (cI v0.kind), .d (cS v0.a), .d (cS v0.b), .d (cI v0.start), .d (cI v0.units), .d (cI v0.call), .d (cI v0.part), .d (cB v0.last), .d (cI v0.trunk), .d (cB v0.inbound)]], []⟩
          refine .seqJoin (ι := List UInt8) (fun s => [(1, .ref 0 0), (7, .d (cS s))]) (fun s => ⟨[.row 23 [.d (cI v0.source), .d (cI v0.serial), .d (cI v0.kind), .d (cS v0.a), .d (cS v0.b), .d (cI v0.start), .d (cI v0.units), .d (cI v0.call), .d (cI v0.part), .d (cB v0.last), .d (cI v0.trunk), .d (cB v0.inbound)]], []⟩) (fun s => f_billingref09_Encode_j4 v0 s = some r) ?_ ?_
          · rintro v7j4 H
            replace H : f_billingref09_Encode_j4 v0 v7j4 = some r := H
            unfold f_billingref09_Encode_j4 at H
            change ARun _ _ _ _ _ _ [(1, .ref 0 0), (7, .d (cS v7j4))] ⟨[.row 23 [.d (cI v0.source), .d (cI v0.serial), .d (cI v0.kind), .d (cS v0.a), .d (cS v0.b), .d (cI v0.start), .d (cI v0.units), .d (cI v0.call), .d (cI v0.part), .d (cB v0.last), .d (cI v0.trunk), .d (cB v0.inbound)]], []⟩
            refine .seq ?_
            refine .seq ?_
            refine .region ?_
            refine .q (x := .ref 0 10) (q_fieldRef fo_23_10 rfl) rfl ?_
            refine .q (x := .d (cI v0.trunk)) (q_loadO one_3 rfl rfl rfl) rfl ?_
            refine .q (x := .d (cB (decide (v0.trunk > 0)))) (q_gtr rfl rfl) rfl ?_
            refine .q (x := .d (cB (decide (v0.trunk > 0)))) (q_move rfl) rfl ?_
            refine .guardG (b := decide (v0.trunk > 0)) (x := .ref 0 11) (env' := [(1, _)]) rfl rfl rfl ⟨.inl rfl, trivial⟩ rfl (fun hg => OpQ.g (q_fieldRef fo_23_11 rfl)) ?_
            refine .guardG (b := decide (v0.trunk > 0)) (x := .d (cB v0.inbound)) (env' := [(86, _)]) rfl rfl rfl ⟨.inr (.inl rfl), trivial⟩ rfl (fun hg => OpQ.g (q_loadO one_4 rfl rfl rfl)) ?_
            refine .guardG (b := decide (v0.trunk > 0)) (x := .d (cB (!v0.inbound))) (env' := [(87, _)]) rfl rfl rfl ⟨.inr (.inl rfl), trivial⟩ rfl (fun hg => OpQ.g (q_not rfl)) ?_
            refine .q (x := .d (cB ((decide (v0.trunk > 0)) && (!v0.inbound)))) (q_pickAndB rfl rfl rfl) rfl ?_
            refine .nil ?_
            refine .cond rfl (fun hc => ?_) (fun hc => ?_)
            · replace H := ifT hc H; clear hc
              refine .region ?_
              refine .q (x := .d (cS v7j4)) (q_move rfl) rfl ?_
              obtain ⟨hk15, H⟩ := ck_some H
              refine .q (x := .d (cS (v7j4 ++ ([32, 111, 117, 116, 32] : List UInt8)))) (q_sadd rfl rfl hk15) rfl ?_
              refine .q (x := .ref 0 10) (q_fieldRef fo_23_10 rfl) rfl ?_
              refine .q (x := .d (cI v0.trunk)) (q_loadO one_3 rfl rfl rfl) rfl ?_
              obtain ⟨y6, hy6, H⟩ := bind_some' H
              refine .g (x := .d (cS y6)) (g_call en_24 rfl rfl (c_f_billingref09_Number (hy6))) rfl ?_
              obtain ⟨hk16, H⟩ := ck_some H
              refine .q (x := .d (cS ((v7j4 ++ ([32, 111, 117, 116, 32] : List UInt8)) ++ y6))) (q_sadd rfl rfl hk16) rfl ?_
              refine .q (x := .d (cS ((v7j4 ++ ([32, 111, 117, 116, 32] : List UInt8)) ++ y6))) (q_assign rfl) rfl ?_
              refine .nil ?_
              refine .seq ?_
              refine .region ?_
              refine .q (x := .d (cS ((v7j4 ++ ([32, 111, 117, 116, 32] : List UInt8)) ++ y6))) (q_move rfl) rfl ?_
              refine .q (x := .d (cS ((v7j4 ++ ([32, 111, 117, 116, 32] : List UInt8)) ++ y6))) (q_assign rfl) rfl ?_
              refine .q (x := .d (cI 0)) (q_assign rfl) rfl ?_
              refine .nil ?_
              refine .retN [.tmp 2, .tmp 3] [.d (cS ((v7j4 ++ ([32, 111, 117, 116, 32] : List UInt8)) ++ y6)), .d (cI 0)] Tryd.func11 Tryd.results11 ⟨rfl, rfl, trivial⟩ ?_
              cases H
              exact ⟨_, EVle.tupL (ds := [cS ((v7j4 ++ ([32, 111, 117, 116, 32] : List UInt8)) ++ y6), cI 0]) ⟨.rfl' _, .rfl' _, trivial⟩, rfl⟩
            · replace H := ifF hc H; clear hc
              refine .skip ?_
              refine .seq ?_
              refine .region ?_
              refine .q (x := .d (cS v7j4)) (q_move rfl) rfl ?_
              refine .q (x := .d (cS v7j4)) (q_assign rfl) rfl ?_
              refine .q (x := .d (cI 0)) (q_assign rfl) rfl ?_
              refine .nil ?_
              refine .retN [.tmp 2, .tmp 3] [.d (cS v7j4), .d (cI 0)] Tryd.func11 Tryd.results11 ⟨rfl, rfl, trivial⟩ ?_
              cases H
              exact ⟨_, EVle.tupL (ds := [cS v7j4, cI 0]) ⟨.rfl' _, .rfl' _, trivial⟩, rfl⟩
          · intro hj4
            refine .seq ?_
            refine .region ?_
            refine .q (x := .ref 0 10) (q_fieldRef fo_23_10 rfl) rfl ?_
            refine .q (x := .d (cI v0.trunk)) (q_loadO one_3 rfl rfl rfl) rfl ?_
            refine .q (x := .d (cB (decide (v0.trunk > 0)))) (q_gtr rfl rfl) rfl ?_
            refine .q (x := .d (cB (decide (v0.trunk > 0)))) (q_move rfl) rfl ?_
            refine .guardG (b := decide (v0.trunk > 0)) (x := .ref 0 11) (env' := [(1, _)]) rfl rfl rfl ⟨.inl rfl, trivial⟩ rfl (fun hg => OpQ.g (q_fieldRef fo_23_11 rfl)) ?_
            refine .guardG (b := decide (v0.trunk > 0)) (x := .d (cB v0.inbound)) (env' := [(73, _)]) rfl rfl rfl ⟨.inr (.inl rfl), trivial⟩ rfl (fun hg => OpQ.g (q_loadO one_4 rfl rfl rfl)) ?_
            refine .q (x := .d (cB ((decide (v0.trunk > 0)) && v0.inbound))) (q_pickAndB rfl rfl rfl) rfl ?_
            refine .nil ?_
            refine .cond rfl (fun hc => ?_) (fun hc => ?_)
            · replace H := ifT hc H; clear hc
              refine .region ?_
              refine .q (x := .d (cS v7j3)) (q_move rfl) rfl ?_
              obtain ⟨hk17, H⟩ := ck_some H
              refine .q (x := .d (cS (v7j3 ++ ([32, 105, 110, 32] : List UInt8)))) (q_sadd rfl rfl hk17) rfl ?_
              refine .q (x := .ref 0 10) (q_fieldRef fo_23_10 rfl) rfl ?_
              refine .q (x := .d (cI v0.trunk)) (q_loadO one_3 rfl rfl rfl) rfl ?_
              obtain ⟨y7, hy7, H⟩ := bind_some' H
              refine .g (x := .d (cS y7)) (g_call en_24 rfl rfl (c_f_billingref09_Number (hy7))) rfl ?_
              obtain ⟨hk18, H⟩ := ck_some H
              refine .q (x := .d (cS ((v7j3 ++ ([32, 105, 110, 32] : List UInt8)) ++ y7))) (q_sadd rfl rfl hk18) rfl ?_
              refine .q (x := .d (cS ((v7j3 ++ ([32, 105, 110, 32] : List UInt8)) ++ y7))) (q_assign rfl) rfl ?_
              refine .nil ?_
              exact .sub (.cons rfl (.rfl' _) (.cons rfl (.rfl' _) (.nil))) (hj4 ((v7j3 ++ ([32, 105, 110, 32] : List UInt8)) ++ y7) H)
            · replace H := ifF hc H; clear hc
              refine .skip ?_
              exact .sub (.cons rfl (.rfl' _) (.cons rfl (.rfl' _) (.nil))) (hj4 v7j3 H)
        · intro hj3
          refine .seq ?_
          refine .region ?_
          refine .q (x := .ref 0 9) (q_fieldRef fo_23_9 rfl) rfl ?_
          refine .q (x := .d (cB v0.last)) (q_loadO one_4 rfl rfl rfl) rfl ?_
          refine .nil ?_
          refine .cond rfl (fun hc => ?_) (fun hc => ?_)
          · replace H := ifT hc H; clear hc
            refine .region ?_
            refine .q (x := .d (cS v7j2)) (q_move rfl) rfl ?_
            obtain ⟨hk19, H⟩ := ck_some H
            refine .q (x := .d (cS (v7j2 ++ ([32, 108, 97, 115, 116] : List UInt8)))) (q_sadd rfl rfl hk19) rfl ?_
            refine .q (x := .d (cS (v7j2 ++ ([32, 108, 97, 115, 116] : List UInt8)))) (q_assign rfl) rfl ?_
            refine .nil ?_
            exact .sub (.cons rfl (.rfl' _) (.cons rfl (.rfl' _) (.nil))) (hj3 (v7j2 ++ ([32, 108, 97, 115, 116] : List UInt8)) H)
          · replace H := ifF hc H; clear hc
            refine .skip ?_
            exact .sub (.cons rfl (.rfl' _) (.cons rfl (.rfl' _) (.nil))) (hj3 v7j2 H)
      · intro hj2
        refine .seq ?_
        refine .region ?_
        refine .q (x := .ref 0 8) (q_fieldRef fo_23_8 rfl) rfl ?_
        refine .q (x := .d (cI v0.part)) (q_loadO one_3 rfl rfl rfl) rfl ?_
        refine .q (x := .d (cB (decide (v0.part > 0)))) (q_gtr rfl rfl) rfl ?_
        refine .nil ?_
        refine .cond rfl (fun hc => ?_) (fun hc => ?_)
        · replace H := ifT hc H; clear hc
          refine .drawn 12 hMix (by kernel_rfl) ?_
          show DOps _ _ _ _ _ _ _ (_ :: _) _ _ _
          refine .q (x := .d (cS ((((((((((((((([118, 116, 100, 99] : List UInt8).take (Int.toNat (v0.kind))).drop (Int.toNat (v0.kind - 1))) ++ ([32] : List UInt8)) ++ y2) ++ ([32] : List UInt8)) ++ y3) ++ ([32] : List UInt8)) ++ v0.a) ++ ([32] : List UInt8)) ++ v6j1) ++ ([32] : List UInt8)) ++ y4) ++ ([32] : List UInt8)) ++ y5))) (q_move rfl) rfl ?_
          obtain ⟨hk20, H⟩ := ck_some H
          refine .q (x := .d (cS (((((((((((((((([118, 116, 100, 99] : List UInt8).take (Int.toNat (v0.kind))).drop (Int.toNat (v0.kind - 1))) ++ ([32] : List UInt8)) ++ y2) ++ ([32] : List UInt8)) ++ y3) ++ ([32] : List UInt8)) ++ v0.a) ++ ([32] : List UInt8)) ++ v6j1) ++ ([32] : List UInt8)) ++ y4) ++ ([32] : List UInt8)) ++ y5) ++ ([32, 112, 97, 114, 116, 32] : List UInt8)))) (q_sadd rfl rfl hk20) rfl ?_
          refine .q (x := .ref 0 7) (q_fieldRef fo_23_7 rfl) rfl ?_
          refine .q (x := .d (cI v0.call)) (q_loadO one_3 rfl rfl rfl) rfl ?_
          obtain ⟨y8, hy8, H⟩ := bind_some' H
          refine .g (x := .d (cS y8)) (g_call en_24 rfl rfl (c_f_billingref09_Number (hy8))) rfl ?_
          obtain ⟨hk21, H⟩ := ck_some H
          refine .q (x := .d (cS ((((((((((((((((([118, 116, 100, 99] : List UInt8).take (Int.toNat (v0.kind))).drop (Int.toNat (v0.kind - 1))) ++ ([32] : List UInt8)) ++ y2) ++ ([32] : List UInt8)) ++ y3) ++ ([32] : List UInt8)) ++ v0.a) ++ ([32] : List UInt8)) ++ v6j1) ++ ([32] : List UInt8)) ++ y4) ++ ([32] : List UInt8)) ++ y5) ++ ([32, 112, 97, 114, 116, 32] : List UInt8)) ++ y8))) (q_sadd rfl rfl hk21) rfl ?_
          obtain ⟨hk22, H⟩ := ck_some H
          refine .q (x := .d (cS (((((((((((((((((([118, 116, 100, 99] : List UInt8).take (Int.toNat (v0.kind))).drop (Int.toNat (v0.kind - 1))) ++ ([32] : List UInt8)) ++ y2) ++ ([32] : List UInt8)) ++ y3) ++ ([32] : List UInt8)) ++ v0.a) ++ ([32] : List UInt8)) ++ v6j1) ++ ([32] : List UInt8)) ++ y4) ++ ([32] : List UInt8)) ++ y5) ++ ([32, 112, 97, 114, 116, 32] : List UInt8)) ++ y8) ++ ([32] : List UInt8)))) (q_sadd rfl rfl hk22) rfl ?_
          refine .q (x := .ref 0 8) (q_fieldRef fo_23_8 rfl) rfl ?_
          refine .q (x := .d (cI v0.part)) (q_loadO one_3 rfl rfl rfl) rfl ?_
          obtain ⟨y9, hy9, H⟩ := bind_some' H
          refine .g (x := .d (cS y9)) (g_call en_24 rfl rfl (c_f_billingref09_Number (hy9))) rfl ?_
          obtain ⟨hk23, H⟩ := ck_some H
          refine .q (x := .d (cS ((((((((((((((((((([118, 116, 100, 99] : List UInt8).take (Int.toNat (v0.kind))).drop (Int.toNat (v0.kind - 1))) ++ ([32] : List UInt8)) ++ y2) ++ ([32] : List UInt8)) ++ y3) ++ ([32] : List UInt8)) ++ v0.a) ++ ([32] : List UInt8)) ++ v6j1) ++ ([32] : List UInt8)) ++ y4) ++ ([32] : List UInt8)) ++ y5) ++ ([32, 112, 97, 114, 116, 32] : List UInt8)) ++ y8) ++ ([32] : List UInt8)) ++ y9))) (q_sadd rfl rfl hk23) rfl ?_
          refine .q (x := .d (cS ((((((((((((((((((([118, 116, 100, 99] : List UInt8).take (Int.toNat (v0.kind))).drop (Int.toNat (v0.kind - 1))) ++ ([32] : List UInt8)) ++ y2) ++ ([32] : List UInt8)) ++ y3) ++ ([32] : List UInt8)) ++ v0.a) ++ ([32] : List UInt8)) ++ v6j1) ++ ([32] : List UInt8)) ++ y4) ++ ([32] : List UInt8)) ++ y5) ++ ([32, 112, 97, 114, 116, 32] : List UInt8)) ++ y8) ++ ([32] : List UInt8)) ++ y9))) (q_assign rfl) rfl ?_
          refine .nil ?_
          show AOps _ _ _ _ _ _ [] _ _ _
          refine .nil ?_
          exact .sub (.cons rfl (.rfl' _) (.cons rfl (.rfl' _) (.nil))) (hj2 ((((((((((((((((((([118, 116, 100, 99] : List UInt8).take (Int.toNat (v0.kind))).drop (Int.toNat (v0.kind - 1))) ++ ([32] : List UInt8)) ++ y2) ++ ([32] : List UInt8)) ++ y3) ++ ([32] : List UInt8)) ++ v0.a) ++ ([32] : List UInt8)) ++ v6j1) ++ ([32] : List UInt8)) ++ y4) ++ ([32] : List UInt8)) ++ y5) ++ ([32, 112, 97, 114, 116, 32] : List UInt8)) ++ y8) ++ ([32] : List UInt8)) ++ y9) H)
        · replace H := ifF hc H; clear hc
          refine .skip ?_
          exact .sub (.cons rfl (.rfl' _) (.cons rfl (.rfl' _) (.nil))) (hj2 ((((((((((((((([118, 116, 100, 99] : List UInt8).take (Int.toNat (v0.kind))).drop (Int.toNat (v0.kind - 1))) ++ ([32] : List UInt8)) ++ y2) ++ ([32] : List UInt8)) ++ y3) ++ ([32] : List UInt8)) ++ v0.a) ++ ([32] : List UInt8)) ++ v6j1) ++ ([32] : List UInt8)) ++ y4) ++ ([32] : List UInt8)) ++ y5) H)
    · intro hj1
      refine .seq ?_
      refine .region ?_
      refine .q (x := .d (cS v0.b)) (q_move rfl) rfl ?_
      refine .q (x := .d (cB (v0.b == ([] : List UInt8)))) (q_seql rfl rfl) rfl ?_
      refine .nil ?_
      refine .cond rfl (fun hc => ?_) (fun hc => ?_)
      · replace H := ifT hc H; clear hc
        refine .region ?_
        refine .q (x := .d (cS ([45] : List UInt8))) (q_assign rfl) rfl ?_
        refine .nil ?_
        exact .sub (.cons rfl (.rfl' _) (.cons rfl (.rfl' _) (.cons rfl (.rfl' _) (.nil)))) (hj1 ([45] : List UInt8) H)
      · replace H := ifF hc H; clear hc
        refine .skip ?_
        exact .sub (.cons rfl (.rfl' _) (.cons rfl (.rfl' _) (.cons rfl (.rfl' _) (.nil)))) (hj1 v0.b H)

set_option maxRecDepth 100000 in
set_option maxHeartbeats 1000000 in
theorem c_f_billinglaw09_TextualEncodes {v0r : Record} {r : Bool} (H : f_billinglaw09_TextualEncodes v0r = some r) : ACall Tryd.prog 3 [.agg (Record.row v0r)] (· = cB r) := by
  refine ACall.enter' Tryd.func3 rfl Tryd.ntmps3 rfl fun S hS => ?_
  unfold f_billinglaw09_TextualEncodes at H
  change ARun _ _ _ _ _ _ [(0, .d (.agg (Record.row v0r)))] _
  refine .seq ?_
  refine .region ?_
  refine .v (x := .ref 0 0) (v_box rfl rfl) rfl ?_
  refine .withSt (st' := ⟨[.row 23 [.d (cI v0r.source), .d (cI v0r.serial), .d (cI v0r.kind), .d (cS v0r.a), .d (cS v0r.b), .d (cI v0r.start), .d (cI v0r.units), .d (cI v0r.call), .d (cI v0r.part), .d (cB v0r.last), .d (cI v0r.trunk), .d (cB v0r.inbound)]], []⟩) rfl ?_
  refine .q (x := .d (cB false)) (q_assign rfl) rfl ?_
  refine .nil ?_
  refine .seq ?_
  refine .seq ?_
  refine .region ?_
  refine .q (x := .d (.agg (Record.row v0r))) (q_loadOA one_23 sz_23 rfl rfl (Nat.le_of_ble_eq_true rfl) rfl) rfl ?_
  obtain ⟨y1, hy1, H⟩ := bind_some' H
  refine .g (x := .d (cB y1)) (g_call en_8 rfl rfl (c_f_billinglaw09_short (hy1))) rfl ?_
  refine .q (x := .d (cB (!y1))) (q_not rfl) rfl ?_
  refine .nil ?_
  refine .cond rfl (fun hc => ?_) (fun hc => ?_)
  · replace H := ifT hc H; clear hc
    refine .seq ?_
    refine .region ?_
    obtain ⟨y2, hy2, H⟩ := bind_some' H
    refine .g (x := .d (cB y2)) (g_call en_9 rfl rfl (c_f_billinglaw09_awake (hy2))) rfl ?_
    refine .q (x := .d (cB y2)) (q_assign rfl) rfl ?_
    refine .nil ?_
    refine .retN [.tmp 2] [.d (cB y2)] Tryd.func3 Tryd.results3 ⟨rfl, trivial⟩ ?_
    cases H
    exact ⟨_, .rfl' _, rfl⟩
  · replace H := ifF hc H; clear hc
    refine .skip ?_
    refine .seq ?_
    refine .region ?_
    refine .q (x := .d (.agg (Record.row v0r))) (q_loadOA one_23 sz_23 rfl rfl (Nat.le_of_ble_eq_true rfl) rfl) rfl ?_
    obtain ⟨y3, hy3, H⟩ := bind_some' H
    refine .g (x := .d (.tup [cS y3.1, cI y3.2])) (g_call en_10 rfl rfl (c_f_textual_Encode (hy3))) rfl ?_
    refine .q (x := .d (.tup [cS y3.1, cI y3.2])) (q_move rfl) rfl ?_
    refine .q (x := .d (cS y3.1)) (q_extract rfl rfl) rfl ?_
    refine .q (x := .d (cI y3.2)) (q_extract rfl rfl) rfl ?_
    refine .q (x := .d (cS y3.1)) (q_assign rfl) rfl ?_
    refine .q (x := .d (cI y3.2)) (q_assign rfl) rfl ?_
    refine .nil ?_
    refine .seq ?_
    refine .region ?_
    refine .q (x := .d (.agg (Record.row v0r))) (q_loadOA one_23 sz_23 rfl rfl (Nat.le_of_ble_eq_true rfl) rfl) rfl ?_
    obtain ⟨y4, hy4, H⟩ := bind_some' H
    refine .g (x := .d (.tup [cS y4.1, cI y4.2])) (g_call en_11 rfl rfl (c_f_billingref09_Encode (hy4))) rfl ?_
    refine .q (x := .d (.tup [cS y4.1, cI y4.2])) (q_move rfl) rfl ?_
    refine .q (x := .d (cS y4.1)) (q_extract rfl rfl) rfl ?_
    refine .q (x := .d (cI y4.2)) (q_extract rfl rfl) rfl ?_
    refine .q (x := .d (cS y4.1)) (q_assign rfl) rfl ?_
    refine .q (x := .d (cI y4.2)) (q_assign rfl) rfl ?_
    refine .nil ?_
    refine .seq ?_
    refine .region ?_
    refine .q (x := .d (cS y3.1)) (q_move rfl) rfl ?_
    refine .q (x := .d (cS y4.1)) (q_move rfl) rfl ?_
    refine .q (x := .d (cB (y3.1 == y4.1))) (q_seql rfl rfl) rfl ?_
    refine .q (x := .d (cB (y3.1 == y4.1))) (q_move rfl) rfl ?_
    refine .guardG (b := (y3.1 == y4.1)) (x := .d (cI y3.2)) (env' := [(4, _)]) rfl rfl rfl ⟨.inl rfl, trivial⟩ rfl (fun hg => OpQ.g (q_move rfl)) ?_
    refine .guardG (b := (y3.1 == y4.1)) (x := .d (cI y4.2)) (env' := [(6, _)]) rfl rfl rfl ⟨.inl rfl, trivial⟩ rfl (fun hg => OpQ.g (q_move rfl)) ?_
    refine .guardG (b := (y3.1 == y4.1)) (x := .d (cB (y3.2 == y4.2))) (env' := [(25, _), (26, _)]) rfl rfl rfl ⟨.inr (.inl rfl), ⟨.inr (.inl rfl), trivial⟩⟩ rfl (fun hg => OpQ.g (q_eql rfl rfl)) ?_
    refine .q (x := .d (cB ((y3.1 == y4.1) && (y3.2 == y4.2)))) (q_pickAndB rfl rfl rfl) rfl ?_
    refine .q (x := .d (cB ((y3.1 == y4.1) && (y3.2 == y4.2)))) (q_move rfl) rfl ?_
    obtain ⟨y5, hy5, H⟩ := bind_some' H
    refine .guardG (b := ((y3.1 == y4.1) && (y3.2 == y4.2))) (x := .d (cB y5)) (env' := []) rfl rfl rfl trivial rfl (fun hg => (g_call en_9 rfl rfl (c_f_billinglaw09_awake (gcall_some hy5 hg)))) ?_
    refine .q (x := .d (cB (((y3.1 == y4.1) && (y3.2 == y4.2)) && y5))) (q_pickAndB rfl rfl rfl) rfl ?_
    refine .q (x := .d (cB (((y3.1 == y4.1) && (y3.2 == y4.2)) && y5))) (q_assign rfl) rfl ?_
    refine .nil ?_
    refine .retN [.tmp 2] [.d (cB (((y3.1 == y4.1) && (y3.2 == y4.2)) && y5))] Tryd.func3 Tryd.results3 ⟨rfl, trivial⟩ ?_
    cases H
    exact ⟨_, .rfl' _, rfl⟩

set_option maxRecDepth 100000 in
set_option maxHeartbeats 1000000 in
theorem c_f_billingref09_Words {v0s : List UInt8} {r : (List (List UInt8))} (H : f_billingref09_Words v0s = some r) : ACall Tryd.prog 31 [cS v0s] (· = slOf 1 rS r) := by
  obtain ⟨i9, hi9, hz9, hs9, hb9⟩ := in_9
  refine ACall.enter' Tryd.func31 rfl Tryd.ntmps31 rfl fun S hS => ?_
  unfold f_billingref09_Words at H
  change ARun _ _ _ _ _ _ [(0, .d (cS v0s))] _
  refine .seq ?_
  refine .region ?_
  refine .q (x := .d (nilD)) (q_assign rfl) rfl ?_
  refine .nil ?_
  refine .seq ?_
  refine .region ?_
  refine .q (x := .d (nilD)) (q_assign rfl) rfl ?_
  refine .nil ?_
  refine .seq ?_
  refine .region ?_
  refine .q (x := .d (cI 0)) (q_assign rfl) rfl ?_
  refine .nil ?_
  refine .seq ?_
  refine .seq ?_
  refine .region ?_
  refine .q (x := .d (cI 0)) (q_assign rfl) rfl ?_
  refine .nil ?_
  refine .block ?_
  refine .tok (i := 3) (e := 9) (sz := 1) rfl ?_
  refine .withSt (st' := ⟨[], [⟨9, 1, ([] : List (List UInt8)).length⟩]⟩) rfl ?_
  obtain ⟨n1, H⟩ := loop_some H
  refine .withSt (st' := ⟨[], [⟨9, 1, ([] : List (List UInt8)).length⟩]⟩) rfl <| .loop (ι := Nat × (List (List UInt8) × Int × Int)) (fun p => [(0, .d (cS v0s)), (3, .tsl 1 (p.2.1.map rS) 0), (4, .d (cI p.2.2.1)), (5, .d (cI p.2.2.2))]) (fun p => ⟨[], [⟨9, 1, p.2.1.length⟩]⟩) (fun p => iter (fun s => f_billingref09_Words_l1 v0s s.1 s.2.1 s.2.2) p.1 p.2 = some r) (·.1) (n1, (([] : List (List UInt8)), 0, 0)) H (.cons rfl (.rfl' _) (.cons rfl (.rfl' _) (.cons rfl (.rfl' _) (.cons rfl (.rfl' _) (.nil))))) rfl ?_
  rintro ⟨m1, v3outl1, v4froml1, v5il1⟩ HI ih1
  obtain ⟨n1, q1, hm1, H, HK1⟩ := iter_succ HI
  clear HI
  replace H : f_billingref09_Words_l1 v0s v3outl1 v4froml1 v5il1 = some q1 := H
  unfold f_billingref09_Words_l1 at H
  change ARun _ _ _ _ _ _ [(0, .d (cS v0s)), (3, .tsl 1 (v3outl1.map rS) 0), (4, .d (cI v4froml1)), (5, .d (cI v5il1))] ⟨[], [⟨9, 1, v3outl1.length⟩]⟩
  refine .seq ?_
  refine .seq ?_
  refine .region ?_
  refine .q (x := .d (cI v5il1)) (q_move rfl) rfl ?_
  refine .q (x := .d (cS v0s)) (q_move rfl) rfl ?_
  refine .q (x := .d (cI (v0s.length : Int))) (q_lenS Tryd.underlying9 rfl) rfl ?_
  refine .q (x := .d (cB (decide (v5il1 ≤ (v0s.length : Int))))) (q_leq rfl rfl) rfl ?_
  refine .nil ?_
  refine .cond rfl (fun hc => ?_) (fun hc => ?_)
  · replace H := ifT hc H; clear hc
    refine .skip ?_
    refine .seq ?_
    refine .block ?_
    refine .seq ?_
    refine .region ?_
    refine .q (x := .d (cI v5il1)) (q_move rfl) rfl ?_
    refine .q (x := .d (cS v0s)) (q_move rfl) rfl ?_
    refine .q (x := .d (cI (v0s.length : Int))) (q_lenS Tryd.underlying9 rfl) rfl ?_
    refine .q (x := .d (cB (v5il1 == (v0s.length : Int)))) (q_eql rfl rfl) rfl ?_
    refine .q (x := .d (cB (v5il1 == (v0s.length : Int)))) (q_move rfl) rfl ?_
    refine .guardG (b := (!(v5il1 == (v0s.length : Int)))) (x := .d (cS v0s)) (env' := [(0, _)]) rfl rfl rfl ⟨.inl rfl, trivial⟩ rfl (fun hg => OpQ.g (q_move rfl)) ?_
    refine .guardG (b := (!(v5il1 == (v0s.length : Int)))) (x := .d (cI v5il1)) (env' := [(5, _)]) rfl rfl rfl ⟨.inl rfl, trivial⟩ rfl (fun hg => OpQ.g (q_move rfl)) ?_
    obtain ⟨hk1, H⟩ := ck_some H
    refine .guardG (b := (!(v5il1 == (v0s.length : Int)))) (x := .d (cU8 (nth v0s (Int.toNat (v5il1))))) (env' := [(17, _), (18, _)]) rfl rfl rfl ⟨.inr (.inl rfl), ⟨.inr (.inl rfl), trivial⟩⟩ rfl (fun hg => OpQ.g (q_indexL (i := v5il1) Tryd.underlying9 rfl rfl (hk1 hg))) ?_
    refine .guardG (b := (!(v5il1 == (v0s.length : Int)))) (x := .d (cB ((nth v0s (Int.toNat (v5il1))) == 32))) (env' := [(19, _)]) rfl rfl rfl ⟨.inr (.inl rfl), trivial⟩ rfl (fun hg => OpQ.g (q8_eql (a := nth v0s (Int.toNat (v5il1))) (b := 32) rfl rfl)) ?_
    refine .q (x := .d (cB ((v5il1 == (v0s.length : Int)) || ((nth v0s (Int.toNat (v5il1))) == 32)))) (q_pickOrB rfl rfl rfl) rfl ?_
    refine .nil ?_
    refine .cond rfl (fun hc => ?_) (fun hc => ?_)
    · replace H := ifT hc H; clear hc
      refine .seq ?_
      refine .region ?_
      refine .q (x := .tsl 1 (v3outl1.map rS) 0) (q_move rfl) rfl ?_
      refine .q (x := .d (cS v0s)) (q_move rfl) rfl ?_
      refine .q (x := .d (cI v4froml1)) (q_move rfl) rfl ?_
      refine .q (x := .d (cI v5il1)) (q_move rfl) rfl ?_
      obtain ⟨hk2, H⟩ := ck_some H
      refine .q (x := .d (cS ((v0s.take (Int.toNat (v5il1))).drop (Int.toNat (v4froml1))))) (q_strLHL Tryd.underlying9 rfl rfl rfl hk2) rfl ?_
      refine .g (x := .d (slOf 1 rS ([(v0s.take (Int.toNat (v5il1))).drop (Int.toNat (v4froml1))]))) (g_buildSlice1 Tryd.underlying33 hi9 hs9 hz9 rfl rfl rfl rfl rfl) rfl ?_
      obtain ⟨hk3, H⟩ := ck_some H
      refine .v (x := .tsl 1 ((v3outl1 ++ ([(v0s.take (Int.toNat (v5il1))).drop (Int.toNat (v4froml1))])).map rS) 0) (v_appendL (l := v3outl1) (l' := [(v0s.take (Int.toNat (v5il1))).drop (Int.toNat (v4froml1))]) (row := rS) Tryd.underlying33 hi9 hz9 hs9 rfl (by rw [hb9]; decide) rfl rfl rfl rfl hk3) rfl ?_
      refine .withSt (st' := ⟨[], [⟨9, 1, (v3outl1 ++ ([(v0s.take (Int.toNat (v5il1))).drop (Int.toNat (v4froml1))])).length⟩]⟩) rfl ?_
      refine .q (x := .tsl 1 ((v3outl1 ++ ([(v0s.take (Int.toNat (v5il1))).drop (Int.toNat (v4froml1))])).map rS) 0) (q_assign rfl) rfl ?_
      refine .nil ?_
      refine .region ?_
      refine .q (x := .d (cI v5il1)) (q_move rfl) rfl ?_
      obtain ⟨hk4, H⟩ := ck_some H
      refine .q (x := .d (cI (v5il1 + 1))) (q_addI rfl rfl hk4.1 hk4.2) rfl ?_
      refine .q (x := .d (cI (v5il1 + 1))) (q_assign rfl) rfl ?_
      refine .nil ?_
      refine .inBlock ?_
      refine .region ?_
      refine .q (x := .d (cI v5il1)) (q_move rfl) rfl ?_
      obtain ⟨hk5, H⟩ := ck_some H
      refine .q (x := .d (cI (v5il1 + 1))) (q_addI rfl rfl hk5.1 hk5.2) rfl ?_
      refine .q (x := .d (cI (v5il1 + 1))) (q_assign rfl) rfl ?_
      refine .nil ?_
      cases H
      exact .withSt (st' := ⟨[], [⟨9, 1, (v3outl1 ++ ([(v0s.take (Int.toNat (v5il1))).drop (Int.toNat (v4froml1))])).length⟩]⟩) rfl <| .sub (.cons rfl (.rfl' _) (.cons rfl (.rfl' _) (.cons rfl (.rfl' _) (.cons rfl (.rfl' _) (.nil))))) (ih1 (n1, (v3outl1 ++ ([(v0s.take (Int.toNat (v5il1))).drop (Int.toNat (v4froml1))]), v5il1 + 1, v5il1 + 1)) HK1 hm1)
    · replace H := ifF hc H; clear hc
      refine .skip ?_
      refine .inBlock ?_
      refine .region ?_
      refine .q (x := .d (cI v5il1)) (q_move rfl) rfl ?_
      obtain ⟨hk6, H⟩ := ck_some H
      refine .q (x := .d (cI (v5il1 + 1))) (q_addI rfl rfl hk6.1 hk6.2) rfl ?_
      refine .q (x := .d (cI (v5il1 + 1))) (q_assign rfl) rfl ?_
      refine .nil ?_
      cases H
      exact .sub (.cons rfl (.rfl' _) (.cons rfl (.rfl' _) (.cons rfl (.rfl' _) (.cons rfl (.rfl' _) (.nil))))) (ih1 (n1, (v3outl1, v4froml1, v5il1 + 1)) HK1 hm1)
  · replace H := ifF hc H; clear hc
    refine .exit rfl ?_
    refine .seq ?_
    refine .region ?_
    refine .q (x := .tsl 1 (v3outl1.map rS) 0) (q_move rfl) rfl ?_
    refine .q (x := .tsl 1 (v3outl1.map rS) 0) (q_assign rfl) rfl ?_
    refine .nil ?_
    refine .retN [.tmp 2] [.tsl 1 (v3outl1.map rS) 0] Tryd.func31 Tryd.results31 ⟨rfl, trivial⟩ ?_
    cases H
    cases HK1
    exact ⟨_, .tsl _ _ _, rfl⟩

set_option maxRecDepth 100000 in
set_option maxHeartbeats 1000000 in
theorem c_f_billingref09_kind {v0s : List UInt8} {r : Int} (H : f_billingref09_kind v0s = some r) : ACall Tryd.prog 44 [cS v0s] (· = cI r) := by
  refine ACall.enter' Tryd.func44 rfl Tryd.ntmps44 rfl fun S hS => ?_
  unfold f_billingref09_kind at H
  change ARun _ _ _ _ _ _ [(0, .d (cS v0s))] _
  refine .seq ?_
  refine .region ?_
  refine .q (x := .d (cI 0)) (q_assign rfl) rfl ?_
  refine .nil ?_
  refine .seq ?_
  refine .seq ?_
  refine .region ?_
  refine .q (x := .d (cS v0s)) (q_move rfl) rfl ?_
  refine .nil ?_
  refine .block ?_
  refine .seq ?_
  refine .region ?_
  refine .q (x := .d (cB (v0s == ([118] : List UInt8)))) (q_seql rfl rfl) rfl ?_
  refine .q (x := .d (cB (v0s == ([118] : List UInt8)))) (q_assign rfl) rfl ?_
  refine .nil ?_
  refine .cond rfl (fun hc => ?_) (fun hc => ?_)
  · replace H := ifT hc H; clear hc
    refine .seq ?_
    refine .region ?_
    refine .q (x := .d (cI 1)) (q_assign rfl) rfl ?_
    refine .nil ?_
    refine .retN [.tmp 2] [.d (cI 1)] Tryd.func44 Tryd.results44 ⟨rfl, trivial⟩ ?_
    cases H
    exact ⟨_, .rfl' _, rfl⟩
  · replace H := ifF hc H; clear hc
    refine .seq ?_
    refine .region ?_
    refine .q (x := .d (cB (v0s == ([116] : List UInt8)))) (q_seql rfl rfl) rfl ?_
    refine .q (x := .d (cB (v0s == ([116] : List UInt8)))) (q_assign rfl) rfl ?_
    refine .nil ?_
    refine .cond rfl (fun hc => ?_) (fun hc => ?_)
    · replace H := ifT hc H; clear hc
      refine .seq ?_
      refine .region ?_
      refine .q (x := .d (cI 2)) (q_assign rfl) rfl ?_
      refine .nil ?_
      refine .retN [.tmp 2] [.d (cI 2)] Tryd.func44 Tryd.results44 ⟨rfl, trivial⟩ ?_
      cases H
      exact ⟨_, .rfl' _, rfl⟩
    · replace H := ifF hc H; clear hc
      refine .seq ?_
      refine .region ?_
      refine .q (x := .d (cB (v0s == ([100] : List UInt8)))) (q_seql rfl rfl) rfl ?_
      refine .q (x := .d (cB (v0s == ([100] : List UInt8)))) (q_assign rfl) rfl ?_
      refine .nil ?_
      refine .cond rfl (fun hc => ?_) (fun hc => ?_)
      · replace H := ifT hc H; clear hc
        refine .seq ?_
        refine .region ?_
        refine .q (x := .d (cI 3)) (q_assign rfl) rfl ?_
        refine .nil ?_
        refine .retN [.tmp 2] [.d (cI 3)] Tryd.func44 Tryd.results44 ⟨rfl, trivial⟩ ?_
        cases H
        exact ⟨_, .rfl' _, rfl⟩
      · replace H := ifF hc H; clear hc
        refine .seq ?_
        refine .region ?_
        refine .q (x := .d (cB (v0s == ([99] : List UInt8)))) (q_seql rfl rfl) rfl ?_
        refine .q (x := .d (cB (v0s == ([99] : List UInt8)))) (q_assign rfl) rfl ?_
        refine .nil ?_
        refine .cond rfl (fun hc => ?_) (fun hc => ?_)
        · replace H := ifT hc H; clear hc
          refine .seq ?_
          refine .region ?_
          refine .q (x := .d (cI 4)) (q_assign rfl) rfl ?_
          refine .nil ?_
          refine .retN [.tmp 2] [.d (cI 4)] Tryd.func44 Tryd.results44 ⟨rfl, trivial⟩ ?_
          cases H
          exact ⟨_, .rfl' _, rfl⟩
        · replace H := ifF hc H; clear hc
          refine .skip ?_
          refine .inBlock ?_
          refine .seq ?_
          refine .region ?_
          refine .q (x := .d (cI 0)) (q_assign rfl) rfl ?_
          refine .nil ?_
          refine .retN [.tmp 2] [.d (cI 0)] Tryd.func44 Tryd.results44 ⟨rfl, trivial⟩ ?_
          cases H
          exact ⟨_, .rfl' _, rfl⟩

set_option maxRecDepth 100000 in
set_option maxHeartbeats 1000000 in
theorem c_f_billingref09_Value {v0s : List UInt8} {r : Int} (H : f_billingref09_Value v0s = some r) : ACall Tryd.prog 45 [cS v0s] (· = cI r) := by
  refine ACall.enter' Tryd.func45 rfl Tryd.ntmps45 rfl fun S hS => ?_
  unfold f_billingref09_Value at H
  change ARun _ _ _ _ _ _ [(0, .d (cS v0s))] _
  refine .seq ?_
  refine .region ?_
  refine .q (x := .d (cI 0)) (q_assign rfl) rfl ?_
  refine .nil ?_
  refine .seq ?_
  refine .seq ?_
  refine .region ?_
  refine .q (x := .d (cS v0s)) (q_move rfl) rfl ?_
  refine .q (x := .d (cI (v0s.length : Int))) (q_lenS Tryd.underlying9 rfl) rfl ?_
  refine .q (x := .d (cB (decide ((v0s.length : Int) < 1)))) (q_lss rfl rfl) rfl ?_
  refine .q (x := .d (cB (decide ((v0s.length : Int) < 1)))) (q_move rfl) rfl ?_
  refine .guardG (b := (!(decide ((v0s.length : Int) < 1)))) (x := .d (cS v0s)) (env' := [(0, _)]) rfl rfl rfl ⟨.inl rfl, trivial⟩ rfl (fun hg => OpQ.g (q_move rfl)) ?_
  refine .guardG (b := (!(decide ((v0s.length : Int) < 1)))) (x := .d (cI (v0s.length : Int))) (env' := [(9, _)]) rfl rfl rfl ⟨.inr (.inl rfl), trivial⟩ rfl (fun hg => OpQ.g (q_lenS Tryd.underlying9 rfl)) ?_
  refine .guardG (b := (!(decide ((v0s.length : Int) < 1)))) (x := .d (cB (decide ((v0s.length : Int) > 15)))) (env' := [(10, _)]) rfl rfl rfl ⟨.inr (.inl rfl), trivial⟩ rfl (fun hg => OpQ.g (q_gtr rfl rfl)) ?_
  refine .q (x := .d (cB ((decide ((v0s.length : Int) < 1)) || (decide ((v0s.length : Int) > 15))))) (q_pickOrB rfl rfl rfl) rfl ?_
  refine .q (x := .d (cB ((decide ((v0s.length : Int) < 1)) || (decide ((v0s.length : Int) > 15))))) (q_move rfl) rfl ?_
  refine .guardG (b := (!((decide ((v0s.length : Int) < 1)) || (decide ((v0s.length : Int) > 15))))) (x := .d (cS v0s)) (env' := [(0, _)]) rfl rfl rfl ⟨.inl rfl, trivial⟩ rfl (fun hg => OpQ.g (q_move rfl)) ?_
  obtain ⟨hk1, H⟩ := ck_some H
  refine .guardG (b := (!((decide ((v0s.length : Int) < 1)) || (decide ((v0s.length : Int) > 15))))) (x := .d (cU8 (nth v0s (Int.toNat (0))))) (env' := [(14, _)]) rfl rfl rfl ⟨.inr (.inl rfl), trivial⟩ rfl (fun hg => OpQ.g (q_indexL (i := 0) Tryd.underlying9 rfl rfl (hk1 hg))) ?_
  refine .guardG (b := (!((decide ((v0s.length : Int) < 1)) || (decide ((v0s.length : Int) > 15))))) (x := .d (cB ((nth v0s (Int.toNat (0))) == 48))) (env' := [(15, _)]) rfl rfl rfl ⟨.inr (.inl rfl), trivial⟩ rfl (fun hg => OpQ.g (q8_eql (a := nth v0s (Int.toNat (0))) (b := 48) rfl rfl)) ?_
  refine .guardG (b := (!((decide ((v0s.length : Int) < 1)) || (decide ((v0s.length : Int) > 15))))) (x := .d (cB ((nth v0s (Int.toNat (0))) == 48))) (env' := [(16, _)]) rfl rfl rfl ⟨.inr (.inl rfl), trivial⟩ rfl (fun hg => OpQ.g (q_move rfl)) ?_
  refine .guardG (b := ((!((decide ((v0s.length : Int) < 1)) || (decide ((v0s.length : Int) > 15)))) && ((nth v0s (Int.toNat (0))) == 48))) (x := .d (cS v0s)) (env' := [(0, _)]) rfl rfl rfl ⟨.inl rfl, trivial⟩ rfl (fun hg => OpQ.g (q_move rfl)) ?_
  refine .guardG (b := ((!((decide ((v0s.length : Int) < 1)) || (decide ((v0s.length : Int) > 15)))) && ((nth v0s (Int.toNat (0))) == 48))) (x := .d (cI (v0s.length : Int))) (env' := [(18, _)]) rfl rfl rfl ⟨.inr (.inl rfl), trivial⟩ rfl (fun hg => OpQ.g (q_lenS Tryd.underlying9 rfl)) ?_
  refine .guardG (b := ((!((decide ((v0s.length : Int) < 1)) || (decide ((v0s.length : Int) > 15)))) && ((nth v0s (Int.toNat (0))) == 48))) (x := .d (cB (decide ((v0s.length : Int) > 1)))) (env' := [(19, _)]) rfl rfl rfl ⟨.inr (.inl rfl), trivial⟩ rfl (fun hg => OpQ.g (q_gtr rfl rfl)) ?_
  refine .guardG (b := (!((decide ((v0s.length : Int) < 1)) || (decide ((v0s.length : Int) > 15))))) (x := .d (cB (((nth v0s (Int.toNat (0))) == 48) && (decide ((v0s.length : Int) > 1))))) (env' := [(17, _), (20, _)]) rfl rfl rfl ⟨.inr (.inl rfl), ⟨.inr (.inr ⟨_, _, rfl, rfl⟩), trivial⟩⟩ rfl (fun hg => OpQ.g (q_pickAndB rfl rfl rfl)) ?_
  refine .q (x := .d (cB (((decide ((v0s.length : Int) < 1)) || (decide ((v0s.length : Int) > 15))) || (((nth v0s (Int.toNat (0))) == 48) && (decide ((v0s.length : Int) > 1)))))) (q_pickOrB rfl rfl rfl) rfl ?_
  refine .nil ?_
  refine .cond rfl (fun hc => ?_) (fun hc => ?_)
  · replace H := ifT hc H; clear hc
    refine .seq ?_
    refine .region ?_
    refine .q (x := .d (cI (-1))) (q_assign rfl) rfl ?_
    refine .nil ?_
    refine .retN [.tmp 2] [.d (cI (-1))] Tryd.func45 Tryd.results45 ⟨rfl, trivial⟩ ?_
    cases H
    exact ⟨_, .rfl' _, rfl⟩
  · replace H := ifF hc H; clear hc
    refine .skip ?_
    refine .seq ?_
    refine .region ?_
    refine .q (x := .d (cI 0)) (q_assign rfl) rfl ?_
    refine .nil ?_
    refine .seq ?_
    refine .seq ?_
    refine .region ?_
    refine .q (x := .d (cI 0)) (q_assign rfl) rfl ?_
    refine .nil ?_
    refine .block ?_
    obtain ⟨n1, H⟩ := loop_some H
    refine .loop (ι := Nat × (Int × Int)) (fun p => [(0, .d (cS v0s)), (3, .d (cI p.2.1)), (4, .d (cI p.2.2))]) (fun p => ⟨[], []⟩) (fun p => iter (fun s => f_billingref09_Value_l1 v0s s.1 s.2) p.1 p.2 = some r) (·.1) (n1, (0, 0)) H (.cons rfl (.rfl' _) (.cons rfl (.rfl' _) (.cons rfl (.rfl' _) (.nil)))) rfl ?_
    rintro ⟨m1, v3nl1, v4il1⟩ HI ih1
    obtain ⟨n1, q1, hm1, H, HK1⟩ := iter_succ HI
    clear HI
    replace H : f_billingref09_Value_l1 v0s v3nl1 v4il1 = some q1 := H
    unfold f_billingref09_Value_l1 at H
    change ARun _ _ _ _ _ _ [(0, .d (cS v0s)), (3, .d (cI v3nl1)), (4, .d (cI v4il1))] ⟨[], []⟩
    refine .seq ?_
    refine .seq ?_
    refine .region ?_
    refine .q (x := .d (cI v4il1)) (q_move rfl) rfl ?_
    refine .q (x := .d (cS v0s)) (q_move rfl) rfl ?_
    refine .q (x := .d (cI (v0s.length : Int))) (q_lenS Tryd.underlying9 rfl) rfl ?_
    refine .q (x := .d (cB (decide (v4il1 < (v0s.length : Int))))) (q_lss rfl rfl) rfl ?_
    refine .nil ?_
    refine .cond rfl (fun hc => ?_) (fun hc => ?_)
    · replace H := ifT hc H; clear hc
      refine .skip ?_
      refine .seq ?_
      refine .block ?_
      refine .seq ?_
      refine .seq ?_
      refine .region ?_
      refine .q (x := .d (cS v0s)) (q_move rfl) rfl ?_
      refine .q (x := .d (cI v4il1)) (q_move rfl) rfl ?_
      obtain ⟨hk2, H⟩ := ck_some H
      refine .q (x := .d (cU8 (nth v0s (Int.toNat (v4il1))))) (q_indexL (i := v4il1) Tryd.underlying9 rfl rfl hk2) rfl ?_
      refine .q (x := .d (cB (decide ((nth v0s (Int.toNat (v4il1))) < 48)))) (q8_lss (a := nth v0s (Int.toNat (v4il1))) (b := 48) rfl rfl) rfl ?_
      refine .q (x := .d (cB (decide ((nth v0s (Int.toNat (v4il1))) < 48)))) (q_move rfl) rfl ?_
      refine .guardG (b := (!(decide ((nth v0s (Int.toNat (v4il1))) < 48)))) (x := .d (cS v0s)) (env' := [(0, _)]) rfl rfl rfl ⟨.inl rfl, trivial⟩ rfl (fun hg => OpQ.g (q_move rfl)) ?_
      refine .guardG (b := (!(decide ((nth v0s (Int.toNat (v4il1))) < 48)))) (x := .d (cI v4il1)) (env' := [(4, _)]) rfl rfl rfl ⟨.inl rfl, trivial⟩ rfl (fun hg => OpQ.g (q_move rfl)) ?_
      obtain ⟨hk3, H⟩ := ck_some H
      refine .guardG (b := (!(decide ((nth v0s (Int.toNat (v4il1))) < 48)))) (x := .d (cU8 (nth v0s (Int.toNat (v4il1))))) (env' := [(34, _), (35, _)]) rfl rfl rfl ⟨.inr (.inl rfl), ⟨.inr (.inl rfl), trivial⟩⟩ rfl (fun hg => OpQ.g (q_indexL (i := v4il1) Tryd.underlying9 rfl rfl (hk3 hg))) ?_
      refine .guardG (b := (!(decide ((nth v0s (Int.toNat (v4il1))) < 48)))) (x := .d (cB (decide ((nth v0s (Int.toNat (v4il1))) > 57)))) (env' := [(36, _)]) rfl rfl rfl ⟨.inr (.inl rfl), trivial⟩ rfl (fun hg => OpQ.g (q8_gtr (a := nth v0s (Int.toNat (v4il1))) (b := 57) rfl rfl)) ?_
      refine .q (x := .d (cB ((decide ((nth v0s (Int.toNat (v4il1))) < 48)) || (decide ((nth v0s (Int.toNat (v4il1))) > 57))))) (q_pickOrB rfl rfl rfl) rfl ?_
      refine .nil ?_
      refine .cond rfl (fun hc => ?_) (fun hc => ?_)
      · replace H := ifT hc H; clear hc
        refine .seq ?_
        refine .region ?_
        refine .q (x := .d (cI (-1))) (q_assign rfl) rfl ?_
        refine .nil ?_
        refine .retN [.tmp 2] [.d (cI (-1))] Tryd.func45 Tryd.results45 ⟨rfl, trivial⟩ ?_
        cases H
        cases HK1
        exact ⟨_, .rfl' _, rfl⟩
      · replace H := ifF hc H; clear hc
        refine .skip ?_
        refine .region ?_
        refine .q (x := .d (cI v3nl1)) (q_move rfl) rfl ?_
        obtain ⟨hk4, H⟩ := ck_some H
        refine .q (x := .d (cI (v3nl1 * 10))) (q_mulI rfl rfl hk4.1 hk4.2) rfl ?_
        refine .q (x := .d (cS v0s)) (q_move rfl) rfl ?_
        refine .q (x := .d (cI v4il1)) (q_move rfl) rfl ?_
        obtain ⟨hk5, H⟩ := ck_some H
        refine .q (x := .d (cU8 (nth v0s (Int.toNat (v4il1))))) (q_indexL (i := v4il1) Tryd.underlying9 rfl rfl hk5) rfl ?_
        refine .q (x := .d (cU8 ((nth v0s (Int.toNat (v4il1))) - 48))) (q8_sub (a := nth v0s (Int.toNat (v4il1))) (b := 48) rfl rfl) rfl ?_
        refine .q (x := .d (cI (((nth v0s (Int.toNat (v4il1))) - 48).toNat : Int))) (q_conv8i (a := (nth v0s (Int.toNat (v4il1))) - 48) Tryd.underlying5 Tryd.underlying3 rfl) rfl ?_
        obtain ⟨hk6, H⟩ := ck_some H
        refine .q (x := .d (cI ((v3nl1 * 10) + (((nth v0s (Int.toNat (v4il1))) - 48).toNat : Int)))) (q_addI rfl rfl hk6.1 hk6.2) rfl ?_
        refine .q (x := .d (cI ((v3nl1 * 10) + (((nth v0s (Int.toNat (v4il1))) - 48).toNat : Int)))) (q_assign rfl) rfl ?_
        refine .nil ?_
        refine .inBlock ?_
        refine .region ?_
        refine .q (x := .d (cI v4il1)) (q_move rfl) rfl ?_
        obtain ⟨hk7, H⟩ := ck_some H
        refine .q (x := .d (cI (v4il1 + 1))) (q_addI rfl rfl hk7.1 hk7.2) rfl ?_
        refine .q (x := .d (cI (v4il1 + 1))) (q_assign rfl) rfl ?_
        refine .nil ?_
        cases H
        exact .sub (.cons rfl (.rfl' _) (.cons rfl (.rfl' _) (.cons rfl (.rfl' _) (.nil)))) (ih1 (n1, ((v3nl1 * 10) + (((nth v0s (Int.toNat (v4il1))) - 48).toNat : Int), v4il1 + 1)) HK1 hm1)
    · replace H := ifF hc H; clear hc
      refine .exit rfl ?_
      refine .seq ?_
      refine .region ?_
      refine .q (x := .d (cI v3nl1)) (q_move rfl) rfl ?_
      refine .q (x := .d (cI v3nl1)) (q_assign rfl) rfl ?_
      refine .nil ?_
      refine .retN [.tmp 2] [.d (cI v3nl1)] Tryd.func45 Tryd.results45 ⟨rfl, trivial⟩ ?_
      cases H
      cases HK1
      exact ⟨_, .rfl' _, rfl⟩

set_option maxRecDepth 100000 in
set_option maxHeartbeats 1000000 in
theorem c_f_billingref09_parse {v0 : List (List UInt8)} {r : Record × Bool} (H : f_billingref09_parse v0 = some r) : ACall Tryd.prog 30 [slOf 1 rS v0] (· = .tup [.agg (Record.row r.1), cB r.2]) := by
  obtain ⟨i9, hi9, hz9, hs9, hb9⟩ := in_9
  obtain ⟨i23, hi23, hz23, hs23, hb23⟩ := in_23
  refine ACall.enter' Tryd.func30 rfl Tryd.ntmps30 rfl fun S hS => ?_
  unfold f_billingref09_parse at H
  change ARun _ _ _ _ _ _ [(0, .d (slOf 1 rS v0))] _
  refine .seq ?_
  refine .region ?_
  refine .v (x := .ref 0 0) (v_alloc zr_23 rfl) rfl ?_
  refine .withSt (st' := ⟨[.row 23 [.d (cI 0), .d (cI 0), .d (cI 0), .d (cS ([] : List UInt8)), .d (cS ([] : List UInt8)), .d (cI 0), .d (cI 0), .d (cI 0), .d (cI 0), .d (cB false), .d (cI 0), .d (cB false)]], []⟩) rfl ?_
  refine .q (x := .d (cB false)) (q_assign rfl) rfl ?_
  refine .nil ?_
  refine .seq ?_
  refine .region ?_
  refine .v (x := .ref 1 0) (v_alloc zr_23 rfl) rfl ?_
  refine .withSt (st' := ⟨[.row 23 [.d (cI 0), .d (cI 0), .d (cI 0), .d (cS ([] : List UInt8)), .d (cS ([] : List UInt8)), .d (cI 0), .d (cI 0), .d (cI 0), .d (cI 0), .d (cB false), .d (cI 0), .d (cB false)], .row 23 [.d (cI 0), .d (cI 0), .d (cI 0), .d (cS ([] : List UInt8)), .d (cS ([] : List UInt8)), .d (cI 0), .d (cI 0), .d (cI 0), .d (cI 0), .d (cB false), .d (cI 0), .d (cB false)]], []⟩) rfl ?_
  refine .nil ?_
  refine .seq ?_
  refine .seq ?_
  refine .region ?_
  refine .q (x := .d (slOf 1 rS v0)) (q_move rfl) rfl ?_
  refine .q (x := .d (cI (v0.length : Int))) (q_lenL (l := v0) (row := rS) Tryd.underlying33 rfl rfl) rfl ?_
  refine .q (x := .d (cB (decide ((v0.length : Int) < 7)))) (q_lss rfl rfl) rfl ?_
  refine .q (x := .d (cB (decide ((v0.length : Int) < 7)))) (q_move rfl) rfl ?_
  refine .guardG (b := (!(decide ((v0.length : Int) < 7)))) (x := .d (slOf 1 rS v0)) (env' := [(0, _)]) rfl rfl rfl ⟨.inl rfl, trivial⟩ rfl (fun hg => OpQ.g (q_move rfl)) ?_
  obtain ⟨hk1, H⟩ := ck_some H
  refine .guardG (b := (!(decide ((v0.length : Int) < 7)))) (x := .d (.ro (rS (nth v0 (Int.toNat (3)))))) (env' := [(11, _)]) rfl rfl rfl ⟨.inr (.inl rfl), trivial⟩ rfl (fun hg => OpQ.g (q_idxL (row := rS) (l := v0) (i := 3) Tryd.underlying33 hi9 hs9 rfl rfl rfl (hk1 hg))) ?_
  refine .guardG (b := (!(decide ((v0.length : Int) < 7)))) (x := .d (cS (nth v0 (Int.toNat (3))))) (env' := [(12, _)]) rfl rfl rfl ⟨.inr (.inl rfl), trivial⟩ rfl (fun hg => OpQ.g (q_load one_9 rfl)) ?_
  refine .guardG (b := (!(decide ((v0.length : Int) < 7)))) (x := .d (cI ((nth v0 (Int.toNat (3))).length : Int))) (env' := [(13, _)]) rfl rfl rfl ⟨.inr (.inl rfl), trivial⟩ rfl (fun hg => OpQ.g (q_lenS Tryd.underlying9 rfl)) ?_
  refine .guardG (b := (!(decide ((v0.length : Int) < 7)))) (x := .d (cB (((nth v0 (Int.toNat (3))).length : Int) == 0))) (env' := [(14, _)]) rfl rfl rfl ⟨.inr (.inl rfl), trivial⟩ rfl (fun hg => OpQ.g (q_eql rfl rfl)) ?_
  refine .q (x := .d (cB ((decide ((v0.length : Int) < 7)) || (((nth v0 (Int.toNat (3))).length : Int) == 0)))) (q_pickOrB rfl rfl rfl) rfl ?_
  refine .q (x := .d (cB ((decide ((v0.length : Int) < 7)) || (((nth v0 (Int.toNat (3))).length : Int) == 0)))) (q_move rfl) rfl ?_
  refine .guardG (b := (!((decide ((v0.length : Int) < 7)) || (((nth v0 (Int.toNat (3))).length : Int) == 0)))) (x := .d (slOf 1 rS v0)) (env' := [(0, _)]) rfl rfl rfl ⟨.inl rfl, trivial⟩ rfl (fun hg => OpQ.g (q_move rfl)) ?_
  obtain ⟨hk2, H⟩ := ck_some H
  refine .guardG (b := (!((decide ((v0.length : Int) < 7)) || (((nth v0 (Int.toNat (3))).length : Int) == 0)))) (x := .d (.ro (rS (nth v0 (Int.toNat (4)))))) (env' := [(18, _)]) rfl rfl rfl ⟨.inr (.inl rfl), trivial⟩ rfl (fun hg => OpQ.g (q_idxL (row := rS) (l := v0) (i := 4) Tryd.underlying33 hi9 hs9 rfl rfl rfl (hk2 hg))) ?_
  refine .guardG (b := (!((decide ((v0.length : Int) < 7)) || (((nth v0 (Int.toNat (3))).length : Int) == 0)))) (x := .d (cS (nth v0 (Int.toNat (4))))) (env' := [(19, _)]) rfl rfl rfl ⟨.inr (.inl rfl), trivial⟩ rfl (fun hg => OpQ.g (q_load one_9 rfl)) ?_
  refine .guardG (b := (!((decide ((v0.length : Int) < 7)) || (((nth v0 (Int.toNat (3))).length : Int) == 0)))) (x := .d (cI ((nth v0 (Int.toNat (4))).length : Int))) (env' := [(20, _)]) rfl rfl rfl ⟨.inr (.inl rfl), trivial⟩ rfl (fun hg => OpQ.g (q_lenS Tryd.underlying9 rfl)) ?_
  refine .guardG (b := (!((decide ((v0.length : Int) < 7)) || (((nth v0 (Int.toNat (3))).length : Int) == 0)))) (x := .d (cB (((nth v0 (Int.toNat (4))).length : Int) == 0))) (env' := [(21, _)]) rfl rfl rfl ⟨.inr (.inl rfl), trivial⟩ rfl (fun hg => OpQ.g (q_eql rfl rfl)) ?_
  refine .q (x := .d (cB (((decide ((v0.length : Int) < 7)) || (((nth v0 (Int.toNat (3))).length : Int) == 0)) || (((nth v0 (Int.toNat (4))).length : Int) == 0)))) (q_pickOrB rfl rfl rfl) rfl ?_
  refine .nil ?_
  refine .cond rfl (fun hc => ?_) (fun hc => ?_)
  · replace H := ifT hc H; clear hc
    refine .seq ?_
    refine .region ?_
    refine .q (x := .d (.agg (Record.row (⟨0, 0, 0, ([] : List UInt8), ([] : List UInt8), 0, 0, 0, 0, false, 0, false⟩ : Record)))) (q_loadOA one_23 sz_23 rfl rfl (Nat.le_of_ble_eq_true rfl) rfl) rfl ?_
    refine .u (u_store rfl rfl rfl rfl (Nat.le_of_ble_eq_true rfl) sz_23) rfl ?_
    refine .withSt (st' := ⟨[.row 23 [.d (cI 0), .d (cI 0), .d (cI 0), .d (cS ([] : List UInt8)), .d (cS ([] : List UInt8)), .d (cI 0), .d (cI 0), .d (cI 0), .d (cI 0), .d (cB false), .d (cI 0), .d (cB false)], .row 23 [.d (cI 0), .d (cI 0), .d (cI 0), .d (cS ([] : List UInt8)), .d (cS ([] : List UInt8)), .d (cI 0), .d (cI 0), .d (cI 0), .d (cI 0), .d (cB false), .d (cI 0), .d (cB false)]], []⟩) rfl ?_
    refine .q (x := .d (cB false)) (q_assign rfl) rfl ?_
    refine .nil ?_
    refine .retN [.cell 2 23, .tmp 3] [.d (.agg (Record.row (⟨0, 0, 0, ([] : List UInt8), ([] : List UInt8), 0, 0, 0, 0, false, 0, false⟩ : Record))), .d (cB false)] Tryd.func30 Tryd.results30 ⟨⟨⟨_, _, rfl⟩, q_loadOA one_23 sz_23 rfl rfl (Nat.le_of_ble_eq_true rfl) rfl⟩, rfl, trivial⟩ ?_
    cases H
    exact ⟨_, EVle.tupL (ds := [.agg (Record.row (⟨0, 0, 0, ([] : List UInt8), ([] : List UInt8), 0, 0, 0, 0, false, 0, false⟩ : Record)), cB false]) ⟨.rfl' _, .rfl' _, trivial⟩, rfl⟩
  · replace H := ifF hc H; clear hc
    refine .skip ?_
    refine .seq ?_
    refine .drawn 27 hMix (by kernel_rfl) ?_
    show DOps _ _ _ _ _ _ _ (_ :: _) _ _ _
    refine .q (x := .d (slOf 1 rS v0)) (q_move rfl) rfl ?_
    obtain ⟨hk3, H⟩ := ck_some H
    refine .q (x := .d (.ro (rS (nth v0 (Int.toNat (0)))))) (q_idxL (row := rS) (l := v0) (i := 0) Tryd.underlying33 hi9 hs9 rfl rfl rfl hk3) rfl ?_
    refine .q (x := .d (cS (nth v0 (Int.toNat (0))))) (q_load one_9 rfl) rfl ?_
    obtain ⟨y1, hy1, H⟩ := bind_some' H
    refine .g (x := .d (cI y1)) (g_call en_44 rfl rfl (c_f_billingref09_kind (hy1))) rfl ?_
    refine .q (x := .d (slOf 1 rS v0)) (q_move rfl) rfl ?_
    obtain ⟨hk4, H⟩ := ck_some H
    refine .q (x := .d (.ro (rS (nth v0 (Int.toNat (1)))))) (q_idxL (row := rS) (l := v0) (i := 1) Tryd.underlying33 hi9 hs9 rfl rfl rfl hk4) rfl ?_
    refine .q (x := .d (cS (nth v0 (Int.toNat (1))))) (q_load one_9 rfl) rfl ?_
    obtain ⟨y2, hy2, H⟩ := bind_some' H
    refine .g (x := .d (cI y2)) (g_call en_45 rfl rfl (c_f_billingref09_Value (hy2))) rfl ?_
    refine .q (x := .d (slOf 1 rS v0)) (q_move rfl) rfl ?_
    obtain ⟨hk5, H⟩ := ck_some H
    refine .q (x := .d (.ro (rS (nth v0 (Int.toNat (2)))))) (q_idxL (row := rS) (l := v0) (i := 2) Tryd.underlying33 hi9 hs9 rfl rfl rfl hk5) rfl ?_
    refine .q (x := .d (cS (nth v0 (Int.toNat (2))))) (q_load one_9 rfl) rfl ?_
    obtain ⟨y3, hy3, H⟩ := bind_some' H
    refine .g (x := .d (cI y3)) (g_call en_45 rfl rfl (c_f_billingref09_Value (hy3))) rfl ?_
    refine .q (x := .d (slOf 1 rS v0)) (q_move rfl) rfl ?_
    obtain ⟨hk6, H⟩ := ck_some H
    refine .q (x := .d (.ro (rS (nth v0 (Int.toNat (3)))))) (q_idxL (row := rS) (l := v0) (i := 3) Tryd.underlying33 hi9 hs9 rfl rfl rfl hk6) rfl ?_
    refine .q (x := .d (cS (nth v0 (Int.toNat (3))))) (q_load one_9 rfl) rfl ?_
    refine .q (x := .d (slOf 1 rS v0)) (q_move rfl) rfl ?_
    obtain ⟨hk7, H⟩ := ck_some H
    refine .q (x := .d (.ro (rS (nth v0 (Int.toNat (4)))))) (q_idxL (row := rS) (l := v0) (i := 4) Tryd.underlying33 hi9 hs9 rfl rfl rfl hk7) rfl ?_
    refine .q (x := .d (cS (nth v0 (Int.toNat (4))))) (q_load one_9 rfl) rfl ?_
    refine .q (x := .d (slOf 1 rS v0)) (q_move rfl) rfl ?_
    obtain ⟨hk8, H⟩ := ck_some H
    refine .q (x := .d (.ro (rS (nth v0 (Int.toNat (5)))))) (q_idxL (row := rS) (l := v0) (i := 5) Tryd.underlying33 hi9 hs9 rfl rfl rfl hk8) rfl ?_
    refine .q (x := .d (cS (nth v0 (Int.toNat (5))))) (q_load one_9 rfl) rfl ?_
    obtain ⟨y4, hy4, H⟩ := bind_some' H
    refine .g (x := .d (cI y4)) (g_call en_45 rfl rfl (c_f_billingref09_Value (hy4))) rfl ?_
    refine .q (x := .d (slOf 1 rS v0)) (q_move rfl) rfl ?_
    obtain ⟨hk9, H⟩ := ck_some H
    refine .q (x := .d (.ro (rS (nth v0 (Int.toNat (6)))))) (q_idxL (row := rS) (l := v0) (i := 6) Tryd.underlying33 hi9 hs9 rfl rfl rfl hk9) rfl ?_
    refine .q (x := .d (cS (nth v0 (Int.toNat (6))))) (q_load one_9 rfl) rfl ?_
    obtain ⟨y5, hy5, H⟩ := bind_some' H
    refine .g (x := .d (cI y5)) (g_call en_45 rfl rfl (c_f_billingref09_Value (hy5))) rfl ?_
    refine .q (x := .d (.agg (Record.row (⟨y2, y3, y1, nth v0 (Int.toNat (3)), nth v0 (Int.toNat (4)), y4, y5, 0, 0, false, 0, false⟩ : Record)))) (q_buildP pl_23 hi23 hz23 rfl rfl) rfl ?_
    refine .nil ?_
    show AOps _ _ _ _ _ _ (_ :: _) _ _ _
    refine .u (u_store rfl rfl rfl rfl (Nat.le_of_ble_eq_true rfl) sz_23) rfl ?_
    refine .withSt (st' := ⟨[.row 23 [.d (cI 0), .d (cI 0), .d (cI 0), .d (cS ([] : List UInt8)), .d (cS ([] : List UInt8)), .d (cI 0), .d (cI 0), .d (cI 0), .d (cI 0), .d (cB false), .d (cI 0), .d (cB false)], .row 23 [.d (cI y2), .d (cI y3), .d (cI y1), .d (cS (nth v0 (Int.toNat (3)))), .d (cS (nth v0 (Int.toNat (4)))), .d (cI y4), .d (cI y5), .d (cI 0), .d (cI 0), .d (cB false), .d (cI 0), .d (cB false)]], []⟩) rfl ?_
    refine .nil ?_
    refine .seqJoin (ι := List UInt8) (fun s => [(0, .d (slOf 1 rS v0)), (2, .ref 0 0), (4, .ref 1 0)]) (fun s => ⟨[.row 23 [.d (cI 0), .d (cI 0), .d (cI 0), .d (cS ([] : List UInt8)), .d (cS ([] : List UInt8)), .d (cI 0), .d (cI 0), .d (cI 0), .d (cI 0), .d (cB false), .d (cI 0), .d (cB false)], .row 23 [.d (cI y2), .d (cI y3), .d (cI y1), .d (cS (nth v0 (Int.toNat (3)))), .d (cS s), .d (cI y4), .d (cI y5), .d (cI 0), .d (cI 0), .d (cB false), .d (cI 0), .d (cB false)]], []⟩) (fun s => f_billingref09_parse_j1 v0 y1 y2 y3 y4 y5 s = some r) ?_ ?_
    · rintro o1c4j1 H
      replace H : f_billingref09_parse_j1 v0 y1 y2 y3 y4 y5 o1c4j1 = some r := H
      unfold f_billingref09_parse_j1 at H
      change ARun _ _ _ _ _ _ [(0, .d (slOf 1 rS v0)), (2, .ref 0 0), (4, .ref 1 0)] ⟨[.row 23 [.d (cI 0), .d (cI 0), .d (cI 0), .d (cS ([] : List UInt8)), .d (cS ([] : List UInt8)), .d (cI 0), .d (cI 0), .d (cI 0), .d (cI 0), .d (cB false), .d (cI 0), .d (cB false)], .row 23 [.d (cI y2), .d (cI y3), .d (cI y1), .d (cS (nth v0 (Int.toNat (3)))), .d (cS o1c4j1), .d (cI y4), .d (cI y5), .d (cI 0), .d (cI 0), .d (cB false), .d (cI 0), .d (cB false)]], []⟩
      refine .seq ?_
      refine .region ?_
      refine .q (x := .d (cI 7)) (q_assign rfl) rfl ?_
      refine .nil ?_
      refine .seqJoin (ι := Int × Int × Int × Bool) (fun s => [(0, .d (slOf 1 rS v0)), (2, .ref 0 0), (4, .ref 1 0), (5, .d (cI s.1))]) (fun s => ⟨[.row 23 [.d (cI 0), .d (cI 0), .d (cI 0), .d (cS ([] : List UInt8)), .d (cS ([] : List UInt8)), .d (cI 0), .d (cI 0), .d (cI 0), .d (cI 0), .d (cB false), .d (cI 0), .d (cB false)], .row 23 [.d (cI y2), .d (cI y3), .d (cI y1), .d (cS (nth v0 (Int.toNat (3)))), .d (cS o1c4j1), .d (cI y4), .d (cI y5), .d (cI s.2.1), .d (cI s.2.2.1), .d (cB s.2.2.2), .d (cI 0), .d (cB false)]], []⟩) (fun s => f_billingref09_parse_j2 v0 y1 y2 y3 y4 y5 o1c4j1 s.1 s.2.1 s.2.2.1 s.2.2.2 = some r) ?_ ?_
      · rintro ⟨v5j2, o1c7j2, o1c8j2, o1c9j2⟩ H
        replace H : f_billingref09_parse_j2 v0 y1 y2 y3 y4 y5 o1c4j1 v5j2 o1c7j2 o1c8j2 o1c9j2 = some r := H
        unfold f_billingref09_parse_j2 at H
        change ARun _ _ _ _ _ _ [(0, .d (slOf 1 rS v0)), (2, .ref 0 0), (4, .ref 1 0), (5, .d (cI v5j2))] ⟨[.row 23 [.d (cI 0), .d (cI 0), .d (cI 0), .d (cS ([] : List UInt8)), .d (cS ([] : List UInt8)), .d (cI 0), .d (cI 0), .d (cI 0), .d (cI 0), .d (cB false), .d (cI 0), .d (cB false)], .row 23 [.d (cI y2), .d (cI y3), .d (cI y1), .d (cS (nth v0 (Int.toNat (3)))), .d (cS o1c4j1), .d (cI y4), .d (cI y5), .d (cI o1c7j2), .d (cI o1c8j2), .d (cB o1c9j2), .d (cI 0), .d (cB false)]], []⟩
        refine .seqJoin (ι := Int × Int × Bool) (fun s => [(0, .d (slOf 1 rS v0)), (2, .ref 0 0), (4, .ref 1 0), (5, .d (cI s.1))]) (fun s => ⟨[.row 23 [.d (cI 0), .d (cI 0), .d (cI 0), .d (cS ([] : List UInt8)), .d (cS ([] : List UInt8)), .d (cI 0), .d (cI 0), .d (cI 0), .d (cI 0), .d (cB false), .d (cI 0), .d (cB false)], .row 23 [.d (cI y2), .d (cI y3), .d (cI y1), .d (cS (nth v0 (Int.toNat (3)))), .d (cS o1c4j1), .d (cI y4), .d (cI y5), .d (cI o1c7j2), .d (cI o1c8j2), .d (cB o1c9j2), .d (cI s.2.1), .d (cB s.2.2)]], []⟩) (fun s => f_billingref09_parse_j3 v0 y1 y2 y3 y4 y5 o1c4j1 o1c7j2 o1c8j2 o1c9j2 s.1 s.2.1 s.2.2 = some r) ?_ ?_
        · rintro ⟨v5j3, o1c10j3, o1c11j3⟩ H
          replace H : f_billingref09_parse_j3 v0 y1 y2 y3 y4 y5 o1c4j1 o1c7j2 o1c8j2 o1c9j2 v5j3 o1c10j3 o1c11j3 = some r := H
          unfold f_billingref09_parse_j3 at H
          change ARun _ _ _ _ _ _ [(0, .d (slOf 1 rS v0)), (2, .ref 0 0), (4, .ref 1 0), (5, .d (cI v5j3))] ⟨[.row 23 [.d (cI 0), .d (cI 0), .d (cI 0), .d (cS ([] : List UInt8)), .d (cS ([] : List UInt8)), .d (cI 0), .d (cI 0), .d (cI 0), .d (cI 0), .d (cB false), .d (cI 0), .d (cB false)], .row 23 [.d (cI y2), .d (cI y3), .d (cI y1), .d (cS (nth v0 (Int.toNat (3)))), .d (cS o1c4j1), .d (cI y4), .d (cI y5), .d (cI o1c7j2), .d (cI o1c8j2), .d (cB o1c9j2), .d (cI o1c10j3), .d (cB o1c11j3)]], []⟩
          refine .seq ?_
          refine .region ?_
          refine .q (x := .ref 1 0) (q_fieldRef fo_23_0 rfl) rfl ?_
          refine .q (x := .d (cI y2)) (q_loadO one_3 rfl rfl rfl) rfl ?_
          refine .q (x := .d (cB (decide (y2 < 0)))) (q_lss rfl rfl) rfl ?_
          refine .q (x := .d (cB (decide (y2 < 0)))) (q_move rfl) rfl ?_
          refine .guardG (b := (!(decide (y2 < 0)))) (x := .ref 1 1) (env' := [(4, _)]) rfl rfl rfl ⟨.inl rfl, trivial⟩ rfl (fun hg => OpQ.g (q_fieldRef fo_23_1 rfl)) ?_
          refine .guardG (b := (!(decide (y2 < 0)))) (x := .d (cI y3)) (env' := [(136, _)]) rfl rfl rfl ⟨.inr (.inl rfl), trivial⟩ rfl (fun hg => OpQ.g (q_loadO one_3 rfl rfl rfl)) ?_
          refine .guardG (b := (!(decide (y2 < 0)))) (x := .d (cB (decide (y3 < 0)))) (env' := [(137, _)]) rfl rfl rfl ⟨.inr (.inl rfl), trivial⟩ rfl (fun hg => OpQ.g (q_lss rfl rfl)) ?_
          refine .q (x := .d (cB ((decide (y2 < 0)) || (decide (y3 < 0))))) (q_pickOrB rfl rfl rfl) rfl ?_
          refine .q (x := .d (cB ((decide (y2 < 0)) || (decide (y3 < 0))))) (q_move rfl) rfl ?_
          refine .guardG (b := (!((decide (y2 < 0)) || (decide (y3 < 0))))) (x := .ref 1 5) (env' := [(4, _)]) rfl rfl rfl ⟨.inl rfl, trivial⟩ rfl (fun hg => OpQ.g (q_fieldRef fo_23_5 rfl)) ?_
          refine .guardG (b := (!((decide (y2 < 0)) || (decide (y3 < 0))))) (x := .d (cI y4)) (env' := [(141, _)]) rfl rfl rfl ⟨.inr (.inl rfl), trivial⟩ rfl (fun hg => OpQ.g (q_loadO one_3 rfl rfl rfl)) ?_
          refine .guardG (b := (!((decide (y2 < 0)) || (decide (y3 < 0))))) (x := .d (cB (decide (y4 < 0)))) (env' := [(142, _)]) rfl rfl rfl ⟨.inr (.inl rfl), trivial⟩ rfl (fun hg => OpQ.g (q_lss rfl rfl)) ?_
          refine .q (x := .d (cB (((decide (y2 < 0)) || (decide (y3 < 0))) || (decide (y4 < 0))))) (q_pickOrB rfl rfl rfl) rfl ?_
          refine .q (x := .d (cB (((decide (y2 < 0)) || (decide (y3 < 0))) || (decide (y4 < 0))))) (q_move rfl) rfl ?_
          refine .guardG (b := (!(((decide (y2 < 0)) || (decide (y3 < 0))) || (decide (y4 < 0))))) (x := .ref 1 6) (env' := [(4, _)]) rfl rfl rfl ⟨.inl rfl, trivial⟩ rfl (fun hg => OpQ.g (q_fieldRef fo_23_6 rfl)) ?_
          refine .guardG (b := (!(((decide (y2 < 0)) || (decide (y3 < 0))) || (decide (y4 < 0))))) (x := .d (cI y5)) (env' := [(146, _)]) rfl rfl rfl ⟨.inr (.inl rfl), trivial⟩ rfl (fun hg => OpQ.g (q_loadO one_3 rfl rfl rfl)) ?_
          refine .guardG (b := (!(((decide (y2 < 0)) || (decide (y3 < 0))) || (decide (y4 < 0))))) (x := .d (cB (decide (y5 < 0)))) (env' := [(147, _)]) rfl rfl rfl ⟨.inr (.inl rfl), trivial⟩ rfl (fun hg => OpQ.g (q_lss rfl rfl)) ?_
          refine .q (x := .d (cB ((((decide (y2 < 0)) || (decide (y3 < 0))) || (decide (y4 < 0))) || (decide (y5 < 0))))) (q_pickOrB rfl rfl rfl) rfl ?_
          refine .q (x := .d (cB ((((decide (y2 < 0)) || (decide (y3 < 0))) || (decide (y4 < 0))) || (decide (y5 < 0))))) (q_move rfl) rfl ?_
          refine .guardG (b := (!((((decide (y2 < 0)) || (decide (y3 < 0))) || (decide (y4 < 0))) || (decide (y5 < 0))))) (x := .ref 1 7) (env' := [(4, _)]) rfl rfl rfl ⟨.inl rfl, trivial⟩ rfl (fun hg => OpQ.g (q_fieldRef fo_23_7 rfl)) ?_
          refine .guardG (b := (!((((decide (y2 < 0)) || (decide (y3 < 0))) || (decide (y4 < 0))) || (decide (y5 < 0))))) (x := .d (cI o1c7j2)) (env' := [(151, _)]) rfl rfl rfl ⟨.inr (.inl rfl), trivial⟩ rfl (fun hg => OpQ.g (q_loadO one_3 rfl rfl rfl)) ?_
          refine .guardG (b := (!((((decide (y2 < 0)) || (decide (y3 < 0))) || (decide (y4 < 0))) || (decide (y5 < 0))))) (x := .d (cB (decide (o1c7j2 < 0)))) (env' := [(152, _)]) rfl rfl rfl ⟨.inr (.inl rfl), trivial⟩ rfl (fun hg => OpQ.g (q_lss rfl rfl)) ?_
          refine .q (x := .d (cB (((((decide (y2 < 0)) || (decide (y3 < 0))) || (decide (y4 < 0))) || (decide (y5 < 0))) || (decide (o1c7j2 < 0))))) (q_pickOrB rfl rfl rfl) rfl ?_
          refine .q (x := .d (cB (((((decide (y2 < 0)) || (decide (y3 < 0))) || (decide (y4 < 0))) || (decide (y5 < 0))) || (decide (o1c7j2 < 0))))) (q_move rfl) rfl ?_
          refine .guardG (b := (!(((((decide (y2 < 0)) || (decide (y3 < 0))) || (decide (y4 < 0))) || (decide (y5 < 0))) || (decide (o1c7j2 < 0))))) (x := .ref 1 8) (env' := [(4, _)]) rfl rfl rfl ⟨.inl rfl, trivial⟩ rfl (fun hg => OpQ.g (q_fieldRef fo_23_8 rfl)) ?_
          refine .guardG (b := (!(((((decide (y2 < 0)) || (decide (y3 < 0))) || (decide (y4 < 0))) || (decide (y5 < 0))) || (decide (o1c7j2 < 0))))) (x := .d (cI o1c8j2)) (env' := [(156, _)]) rfl rfl rfl ⟨.inr (.inl rfl), trivial⟩ rfl (fun hg => OpQ.g (q_loadO one_3 rfl rfl rfl)) ?_
          refine .guardG (b := (!(((((decide (y2 < 0)) || (decide (y3 < 0))) || (decide (y4 < 0))) || (decide (y5 < 0))) || (decide (o1c7j2 < 0))))) (x := .d (cB (decide (o1c8j2 < 0)))) (env' := [(157, _)]) rfl rfl rfl ⟨.inr (.inl rfl), trivial⟩ rfl (fun hg => OpQ.g (q_lss rfl rfl)) ?_
          refine .q (x := .d (cB ((((((decide (y2 < 0)) || (decide (y3 < 0))) || (decide (y4 < 0))) || (decide (y5 < 0))) || (decide (o1c7j2 < 0))) || (decide (o1c8j2 < 0))))) (q_pickOrB rfl rfl rfl) rfl ?_
          refine .q (x := .d (cB ((((((decide (y2 < 0)) || (decide (y3 < 0))) || (decide (y4 < 0))) || (decide (y5 < 0))) || (decide (o1c7j2 < 0))) || (decide (o1c8j2 < 0))))) (q_move rfl) rfl ?_
          refine .guardG (b := (!((((((decide (y2 < 0)) || (decide (y3 < 0))) || (decide (y4 < 0))) || (decide (y5 < 0))) || (decide (o1c7j2 < 0))) || (decide (o1c8j2 < 0))))) (x := .ref 1 10) (env' := [(4, _)]) rfl rfl rfl ⟨.inl rfl, trivial⟩ rfl (fun hg => OpQ.g (q_fieldRef fo_23_10 rfl)) ?_
          refine .guardG (b := (!((((((decide (y2 < 0)) || (decide (y3 < 0))) || (decide (y4 < 0))) || (decide (y5 < 0))) || (decide (o1c7j2 < 0))) || (decide (o1c8j2 < 0))))) (x := .d (cI o1c10j3)) (env' := [(161, _)]) rfl rfl rfl ⟨.inr (.inl rfl), trivial⟩ rfl (fun hg => OpQ.g (q_loadO one_3 rfl rfl rfl)) ?_
          refine .guardG (b := (!((((((decide (y2 < 0)) || (decide (y3 < 0))) || (decide (y4 < 0))) || (decide (y5 < 0))) || (decide (o1c7j2 < 0))) || (decide (o1c8j2 < 0))))) (x := .d (cB (decide (o1c10j3 < 0)))) (env' := [(162, _)]) rfl rfl rfl ⟨.inr (.inl rfl), trivial⟩ rfl (fun hg => OpQ.g (q_lss rfl rfl)) ?_
          refine .q (x := .d (cB (((((((decide (y2 < 0)) || (decide (y3 < 0))) || (decide (y4 < 0))) || (decide (y5 < 0))) || (decide (o1c7j2 < 0))) || (decide (o1c8j2 < 0))) || (decide (o1c10j3 < 0))))) (q_pickOrB rfl rfl rfl) rfl ?_
          refine .q (x := .d (cB (((((((decide (y2 < 0)) || (decide (y3 < 0))) || (decide (y4 < 0))) || (decide (y5 < 0))) || (decide (o1c7j2 < 0))) || (decide (o1c8j2 < 0))) || (decide (o1c10j3 < 0))))) (q_assign rfl) rfl ?_
          refine .nil ?_
          refine .seq ?_
          refine .region ?_
          refine .q (x := .d (.agg (Record.row (⟨y2, y3, y1, nth v0 (Int.toNat (3)), o1c4j1, y4, y5, o1c7j2, o1c8j2, o1c9j2, o1c10j3, o1c11j3⟩ : Record)))) (q_loadOA one_23 sz_23 rfl rfl (Nat.le_of_ble_eq_true rfl) rfl) rfl ?_
          refine .q (x := .d (cI v5j3)) (q_move rfl) rfl ?_
          refine .q (x := .d (slOf 1 rS v0)) (q_move rfl) rfl ?_
          refine .q (x := .d (cI (v0.length : Int))) (q_lenL (l := v0) (row := rS) Tryd.underlying33 rfl rfl) rfl ?_
          refine .q (x := .d (cB (v5j3 == (v0.length : Int)))) (q_eql rfl rfl) rfl ?_
          refine .q (x := .d (cB (v5j3 == (v0.length : Int)))) (q_move rfl) rfl ?_
          refine .guardG (b := (v5j3 == (v0.length : Int))) (x := .ref 1 2) (env' := [(4, _)]) rfl rfl rfl ⟨.inl rfl, trivial⟩ rfl (fun hg => OpQ.g (q_fieldRef fo_23_2 rfl)) ?_
          refine .guardG (b := (v5j3 == (v0.length : Int))) (x := .d (cI y1)) (env' := [(171, _)]) rfl rfl rfl ⟨.inr (.inl rfl), trivial⟩ rfl (fun hg => OpQ.g (q_loadO one_3 rfl rfl rfl)) ?_
          refine .guardG (b := (v5j3 == (v0.length : Int))) (x := .d (cB (decide (y1 > 0)))) (env' := [(172, _)]) rfl rfl rfl ⟨.inr (.inl rfl), trivial⟩ rfl (fun hg => OpQ.g (q_gtr rfl rfl)) ?_
          refine .q (x := .d (cB ((v5j3 == (v0.length : Int)) && (decide (y1 > 0))))) (q_pickAndB rfl rfl rfl) rfl ?_
          refine .q (x := .d (cB ((v5j3 == (v0.length : Int)) && (decide (y1 > 0))))) (q_move rfl) rfl ?_
          refine .guardG (b := ((v5j3 == (v0.length : Int)) && (decide (y1 > 0)))) (x := .d (cB (((((((decide (y2 < 0)) || (decide (y3 < 0))) || (decide (y4 < 0))) || (decide (y5 < 0))) || (decide (o1c7j2 < 0))) || (decide (o1c8j2 < 0))) || (decide (o1c10j3 < 0))))) (env' := [(6, _)]) rfl rfl rfl ⟨.inl rfl, trivial⟩ rfl (fun hg => OpQ.g (q_move rfl)) ?_
          refine .guardG (b := ((v5j3 == (v0.length : Int)) && (decide (y1 > 0)))) (x := .d (cB (!(((((((decide (y2 < 0)) || (decide (y3 < 0))) || (decide (y4 < 0))) || (decide (y5 < 0))) || (decide (o1c7j2 < 0))) || (decide (o1c8j2 < 0))) || (decide (o1c10j3 < 0)))))) (env' := [(176, _)]) rfl rfl rfl ⟨.inr (.inl rfl), trivial⟩ rfl (fun hg => OpQ.g (q_not rfl)) ?_
          refine .q (x := .d (cB (((v5j3 == (v0.length : Int)) && (decide (y1 > 0))) && (!(((((((decide (y2 < 0)) || (decide (y3 < 0))) || (decide (y4 < 0))) || (decide (y5 < 0))) || (decide (o1c7j2 < 0))) || (decide (o1c8j2 < 0))) || (decide (o1c10j3 < 0))))))) (q_pickAndB rfl rfl rfl) rfl ?_
          refine .u (u_store rfl rfl rfl rfl (Nat.le_of_ble_eq_true rfl) sz_23) rfl ?_
          refine .withSt (st' := ⟨[.row 23 [.d (cI y2), .d (cI y3), .d (cI y1), .d (cS (nth v0 (Int.toNat (3)))), .d (cS o1c4j1), .d (cI y4), .d (cI y5), .d (cI o1c7j2), .d (cI o1c8j2), .d (cB o1c9j2), .d (cI o1c10j3), .d (cB o1c11j3)], .row 23 [.d (cI y2), .d (cI y3), .d (cI y1), .d (cS (nth v0 (Int.toNat (3)))), .d (cS o1c4j1), .d (cI y4), .d (cI y5), .d (cI o1c7j2), .d (cI o1c8j2), .d (cB o1c9j2), .d (cI o1c10j3), .d (cB o1c11j3)]], []⟩) rfl ?_
          refine .q (x := .d (cB (((v5j3 == (v0.length : Int)) && (decide (y1 > 0))) && (!(((((((decide (y2 < 0)) || (decide (y3 < 0))) || (decide (y4 < 0))) || (decide (y5 < 0))) || (decide (o1c7j2 < 0))) || (decide (o1c8j2 < 0))) || (decide (o1c10j3 < 0))))))) (q_assign rfl) rfl ?_
          refine .nil ?_
          refine .retN [.cell 2 23, .tmp 3] [.d (.agg (Record.row (⟨y2, y3, y1, nth v0 (Int.toNat (3)), o1c4j1, y4, y5, o1c7j2, o1c8j2, o1c9j2, o1c10j3, o1c11j3⟩ : Record))), .d (cB (((v5j3 == (v0.length : Int)) && (decide (y1 > 0))) && (!(((((((decide (y2 < 0)) || (decide (y3 < 0))) || (decide (y4 < 0))) || (decide (y5 < 0))) || (decide (o1c7j2 < 0))) || (decide (o1c8j2 < 0))) || (decide (o1c10j3 < 0))))))] Tryd.func30 Tryd.results30 ⟨⟨⟨_, _, rfl⟩, q_loadOA one_23 sz_23 rfl rfl (Nat.le_of_ble_eq_true rfl) rfl⟩, rfl, trivial⟩ ?_
          cases H
          exact ⟨_, EVle.tupL (ds := [.agg (Record.row (⟨y2, y3, y1, nth v0 (Int.toNat (3)), o1c4j1, y4, y5, o1c7j2, o1c8j2, o1c9j2, o1c10j3, o1c11j3⟩ : Record)), cB (((v5j3 == (v0.length : Int)) && (decide (y1 > 0))) && (!(((((((decide (y2 < 0)) || (decide (y3 < 0))) || (decide (y4 < 0))) || (decide (y5 < 0))) || (decide (o1c7j2 < 0))) || (decide (o1c8j2 < 0))) || (decide (o1c10j3 < 0)))))]) ⟨.rfl' _, .rfl' _, trivial⟩, rfl⟩
        · intro hj3
          refine .seq ?_
          refine .region ?_
          refine .q (x := .d (cI v5j2)) (q_move rfl) rfl ?_
          obtain ⟨hk10, H⟩ := ck_some H
          refine .q (x := .d (cI (v5j2 + 1))) (q_addI rfl rfl hk10.1 hk10.2) rfl ?_
          refine .q (x := .d (slOf 1 rS v0)) (q_move rfl) rfl ?_
          refine .q (x := .d (cI (v0.length : Int))) (q_lenL (l := v0) (row := rS) Tryd.underlying33 rfl rfl) rfl ?_
          refine .q (x := .d (cB (decide ((v5j2 + 1) < (v0.length : Int))))) (q_lss rfl rfl) rfl ?_
          refine .q (x := .d (cB (decide ((v5j2 + 1) < (v0.length : Int))))) (q_move rfl) rfl ?_
          refine .guardG (b := decide ((v5j2 + 1) < (v0.length : Int))) (x := .d (slOf 1 rS v0)) (env' := [(0, _)]) rfl rfl rfl ⟨.inl rfl, trivial⟩ rfl (fun hg => OpQ.g (q_move rfl)) ?_
          refine .guardG (b := decide ((v5j2 + 1) < (v0.length : Int))) (x := .d (cI v5j2)) (env' := [(5, _)]) rfl rfl rfl ⟨.inl rfl, trivial⟩ rfl (fun hg => OpQ.g (q_move rfl)) ?_
          obtain ⟨hk11, H⟩ := ck_some H
          refine .guardG (b := decide ((v5j2 + 1) < (v0.length : Int))) (x := .d (.ro (rS (nth v0 (Int.toNat (v5j2)))))) (env' := [(104, _), (105, _)]) rfl rfl rfl ⟨.inr (.inl rfl), ⟨.inr (.inl rfl), trivial⟩⟩ rfl (fun hg => OpQ.g (q_idxL (row := rS) (l := v0) (i := v5j2) Tryd.underlying33 hi9 hs9 rfl rfl rfl (hk11 hg))) ?_
          refine .guardG (b := decide ((v5j2 + 1) < (v0.length : Int))) (x := .d (cS (nth v0 (Int.toNat (v5j2))))) (env' := [(106, _)]) rfl rfl rfl ⟨.inr (.inl rfl), trivial⟩ rfl (fun hg => OpQ.g (q_load one_9 rfl)) ?_
          refine .guardG (b := decide ((v5j2 + 1) < (v0.length : Int))) (x := .d (cB ((nth v0 (Int.toNat (v5j2))) == ([105, 110] : List UInt8)))) (env' := [(107, _)]) rfl rfl rfl ⟨.inr (.inl rfl), trivial⟩ rfl (fun hg => OpQ.g (q_seql rfl rfl)) ?_
          refine .guardG (b := decide ((v5j2 + 1) < (v0.length : Int))) (x := .d (cB ((nth v0 (Int.toNat (v5j2))) == ([105, 110] : List UInt8)))) (env' := [(108, _)]) rfl rfl rfl ⟨.inr (.inl rfl), trivial⟩ rfl (fun hg => OpQ.g (q_move rfl)) ?_
          refine .guardG (b := ((decide ((v5j2 + 1) < (v0.length : Int))) && (!((nth v0 (Int.toNat (v5j2))) == ([105, 110] : List UInt8))))) (x := .d (slOf 1 rS v0)) (env' := [(0, _)]) rfl rfl rfl ⟨.inl rfl, trivial⟩ rfl (fun hg => OpQ.g (q_move rfl)) ?_
          refine .guardG (b := ((decide ((v5j2 + 1) < (v0.length : Int))) && (!((nth v0 (Int.toNat (v5j2))) == ([105, 110] : List UInt8))))) (x := .d (cI v5j2)) (env' := [(5, _)]) rfl rfl rfl ⟨.inl rfl, trivial⟩ rfl (fun hg => OpQ.g (q_move rfl)) ?_
          obtain ⟨hk12, H⟩ := ck_some H
          refine .guardG (b := ((decide ((v5j2 + 1) < (v0.length : Int))) && (!((nth v0 (Int.toNat (v5j2))) == ([105, 110] : List UInt8))))) (x := .d (.ro (rS (nth v0 (Int.toNat (v5j2)))))) (env' := [(110, _), (111, _)]) rfl rfl rfl ⟨.inr (.inl rfl), ⟨.inr (.inl rfl), trivial⟩⟩ rfl (fun hg => OpQ.g (q_idxL (row := rS) (l := v0) (i := v5j2) Tryd.underlying33 hi9 hs9 rfl rfl rfl (hk12 hg))) ?_
          refine .guardG (b := ((decide ((v5j2 + 1) < (v0.length : Int))) && (!((nth v0 (Int.toNat (v5j2))) == ([105, 110] : List UInt8))))) (x := .d (cS (nth v0 (Int.toNat (v5j2))))) (env' := [(112, _)]) rfl rfl rfl ⟨.inr (.inl rfl), trivial⟩ rfl (fun hg => OpQ.g (q_load one_9 rfl)) ?_
          refine .guardG (b := ((decide ((v5j2 + 1) < (v0.length : Int))) && (!((nth v0 (Int.toNat (v5j2))) == ([105, 110] : List UInt8))))) (x := .d (cB ((nth v0 (Int.toNat (v5j2))) == ([111, 117, 116] : List UInt8)))) (env' := [(113, _)]) rfl rfl rfl ⟨.inr (.inl rfl), trivial⟩ rfl (fun hg => OpQ.g (q_seql rfl rfl)) ?_
          refine .guardG (b := decide ((v5j2 + 1) < (v0.length : Int))) (x := .d (cB (((nth v0 (Int.toNat (v5j2))) == ([105, 110] : List UInt8)) || ((nth v0 (Int.toNat (v5j2))) == ([111, 117, 116] : List UInt8))))) (env' := [(109, _), (114, _)]) rfl rfl rfl ⟨.inr (.inl rfl), ⟨.inr (.inr ⟨_, _, rfl, rfl⟩), trivial⟩⟩ rfl (fun hg => OpQ.g (q_pickOrB rfl rfl rfl)) ?_
          refine .q (x := .d (cB ((decide ((v5j2 + 1) < (v0.length : Int))) && (((nth v0 (Int.toNat (v5j2))) == ([105, 110] : List UInt8)) || ((nth v0 (Int.toNat (v5j2))) == ([111, 117, 116] : List UInt8)))))) (q_pickAndB rfl rfl rfl) rfl ?_
          refine .nil ?_
          refine .cond rfl (fun hc => ?_) (fun hc => ?_)
          · replace H := ifT hc H; clear hc
            refine .seq ?_
            refine .region ?_
            refine .q (x := .d (slOf 1 rS v0)) (q_move rfl) rfl ?_
            refine .q (x := .d (cI v5j2)) (q_move rfl) rfl ?_
            obtain ⟨hk13, H⟩ := ck_some H
            refine .q (x := .d (.ro (rS (nth v0 (Int.toNat (v5j2)))))) (q_idxL (row := rS) (l := v0) (i := v5j2) Tryd.underlying33 hi9 hs9 rfl rfl rfl hk13) rfl ?_
            refine .q (x := .d (cS (nth v0 (Int.toNat (v5j2))))) (q_load one_9 rfl) rfl ?_
            refine .q (x := .d (cB ((nth v0 (Int.toNat (v5j2))) == ([105, 110] : List UInt8)))) (q_seql rfl rfl) rfl ?_
            refine .q (x := .ref 1 11) (q_fieldRef fo_23_11 rfl) rfl ?_
            refine .u (u_store rfl rfl rfl rfl (Nat.le_of_ble_eq_true rfl) sz_4) rfl ?_
            refine .withSt (st' := ⟨[.row 23 [.d (cI 0), .d (cI 0), .d (cI 0), .d (cS ([] : List UInt8)), .d (cS ([] : List UInt8)), .d (cI 0), .d (cI 0), .d (cI 0), .d (cI 0), .d (cB false), .d (cI 0), .d (cB false)], .row 23 [.d (cI y2), .d (cI y3), .d (cI y1), .d (cS (nth v0 (Int.toNat (3)))), .d (cS o1c4j1), .d (cI y4), .d (cI y5), .d (cI o1c7j2), .d (cI o1c8j2), .d (cB o1c9j2), .d (cI 0), .d (cB ((nth v0 (Int.toNat (v5j2))) == ([105, 110] : List UInt8)))]], []⟩) rfl ?_
            refine .nil ?_
            refine .seq ?_
            refine .region ?_
            refine .q (x := .d (slOf 1 rS v0)) (q_move rfl) rfl ?_
            refine .q (x := .d (cI v5j2)) (q_move rfl) rfl ?_
            obtain ⟨hk14, H⟩ := ck_some H
            refine .q (x := .d (cI (v5j2 + 1))) (q_addI rfl rfl hk14.1 hk14.2) rfl ?_
            obtain ⟨hk15, H⟩ := ck_some H
            refine .q (x := .d (.ro (rS (nth v0 (Int.toNat (v5j2 + 1)))))) (q_idxL (row := rS) (l := v0) (i := v5j2 + 1) Tryd.underlying33 hi9 hs9 rfl rfl rfl hk15) rfl ?_
            refine .q (x := .d (cS (nth v0 (Int.toNat (v5j2 + 1))))) (q_load one_9 rfl) rfl ?_
            obtain ⟨y6, hy6, H⟩ := bind_some' H
            refine .g (x := .d (cI y6)) (g_call en_45 rfl rfl (c_f_billingref09_Value (hy6))) rfl ?_
            refine .q (x := .ref 1 10) (q_fieldRef fo_23_10 rfl) rfl ?_
            refine .u (u_store rfl rfl rfl rfl (Nat.le_of_ble_eq_true rfl) sz_3) rfl ?_
            refine .withSt (st' := ⟨[.row 23 [.d (cI 0), .d (cI 0), .d (cI 0), .d (cS ([] : List UInt8)), .d (cS ([] : List UInt8)), .d (cI 0), .d (cI 0), .d (cI 0), .d (cI 0), .d (cB false), .d (cI 0), .d (cB false)], .row 23 [.d (cI y2), .d (cI y3), .d (cI y1), .d (cS (nth v0 (Int.toNat (3)))), .d (cS o1c4j1), .d (cI y4), .d (cI y5), .d (cI o1c7j2), .d (cI o1c8j2), .d (cB o1c9j2), .d (cI y6), .d (cB ((nth v0 (Int.toNat (v5j2))) == ([105, 110] : List UInt8)))]], []⟩) rfl ?_
            refine .nil ?_
            refine .region ?_
            refine .q (x := .d (cI v5j2)) (q_move rfl) rfl ?_
            obtain ⟨hk16, H⟩ := ck_some H
            refine .q (x := .d (cI (v5j2 + 2))) (q_addI rfl rfl hk16.1 hk16.2) rfl ?_
            refine .q (x := .d (cI (v5j2 + 2))) (q_assign rfl) rfl ?_
            refine .nil ?_
            exact .withSt (st' := ⟨[.row 23 [.d (cI 0), .d (cI 0), .d (cI 0), .d (cS ([] : List UInt8)), .d (cS ([] : List UInt8)), .d (cI 0), .d (cI 0), .d (cI 0), .d (cI 0), .d (cB false), .d (cI 0), .d (cB false)], .row 23 [.d (cI y2), .d (cI y3), .d (cI y1), .d (cS (nth v0 (Int.toNat (3)))), .d (cS o1c4j1), .d (cI y4), .d (cI y5), .d (cI o1c7j2), .d (cI o1c8j2), .d (cB o1c9j2), .d (cI y6), .d (cB ((nth v0 (Int.toNat (v5j2))) == ([105, 110] : List UInt8)))]], []⟩) rfl <| .sub (.cons rfl (.rfl' _) (.cons rfl (.rfl' _) (.cons rfl (.rfl' _) (.cons rfl (.rfl' _) (.nil))))) (hj3 (v5j2 + 2, y6, ((nth v0 (Int.toNat (v5j2))) == ([105, 110] : List UInt8))) H)
          · replace H := ifF hc H; clear hc
            refine .skip ?_
            exact .withSt (st' := ⟨[.row 23 [.d (cI 0), .d (cI 0), .d (cI 0), .d (cS ([] : List UInt8)), .d (cS ([] : List UInt8)), .d (cI 0), .d (cI 0), .d (cI 0), .d (cI 0), .d (cB false), .d (cI 0), .d (cB false)], .row 23 [.d (cI y2), .d (cI y3), .d (cI y1), .d (cS (nth v0 (Int.toNat (3)))), .d (cS o1c4j1), .d (cI y4), .d (cI y5), .d (cI o1c7j2), .d (cI o1c8j2), .d (cB o1c9j2), .d (cI 0), .d (cB false)]], []⟩) rfl <| .sub (.cons rfl (.rfl' _) (.cons rfl (.rfl' _) (.cons rfl (.rfl' _) (.cons rfl (.rfl' _) (.nil))))) (hj3 (v5j2, 0, false) H)
      · intro hj2
        refine .seq ?_
        refine .region ?_
        refine .q (x := .d (cI 7)) (q_move rfl) rfl ?_
        obtain ⟨hk17, H⟩ := ck_some H
        refine .q (x := .d (cI (7 + 2))) (q_addI rfl rfl hk17.1 hk17.2) rfl ?_
        refine .q (x := .d (slOf 1 rS v0)) (q_move rfl) rfl ?_
        refine .q (x := .d (cI (v0.length : Int))) (q_lenL (l := v0) (row := rS) Tryd.underlying33 rfl rfl) rfl ?_
        refine .q (x := .d (cB (decide ((7 + 2) < (v0.length : Int))))) (q_lss rfl rfl) rfl ?_
        refine .q (x := .d (cB (decide ((7 + 2) < (v0.length : Int))))) (q_move rfl) rfl ?_
        refine .guardG (b := decide ((7 + 2) < (v0.length : Int))) (x := .d (slOf 1 rS v0)) (env' := [(0, _)]) rfl rfl rfl ⟨.inl rfl, trivial⟩ rfl (fun hg => OpQ.g (q_move rfl)) ?_
        refine .guardG (b := decide ((7 + 2) < (v0.length : Int))) (x := .d (cI 7)) (env' := [(5, _)]) rfl rfl rfl ⟨.inl rfl, trivial⟩ rfl (fun hg => OpQ.g (q_move rfl)) ?_
        obtain ⟨hk18, H⟩ := ck_some H
        refine .guardG (b := decide ((7 + 2) < (v0.length : Int))) (x := .d (.ro (rS (nth v0 (Int.toNat (7)))))) (env' := [(62, _), (63, _)]) rfl rfl rfl ⟨.inr (.inl rfl), ⟨.inr (.inl rfl), trivial⟩⟩ rfl (fun hg => OpQ.g (q_idxL (row := rS) (l := v0) (i := 7) Tryd.underlying33 hi9 hs9 rfl rfl rfl (hk18 hg))) ?_
        refine .guardG (b := decide ((7 + 2) < (v0.length : Int))) (x := .d (cS (nth v0 (Int.toNat (7))))) (env' := [(64, _)]) rfl rfl rfl ⟨.inr (.inl rfl), trivial⟩ rfl (fun hg => OpQ.g (q_load one_9 rfl)) ?_
        refine .guardG (b := decide ((7 + 2) < (v0.length : Int))) (x := .d (cB ((nth v0 (Int.toNat (7))) == ([112, 97, 114, 116] : List UInt8)))) (env' := [(65, _)]) rfl rfl rfl ⟨.inr (.inl rfl), trivial⟩ rfl (fun hg => OpQ.g (q_seql rfl rfl)) ?_
        refine .q (x := .d (cB ((decide ((7 + 2) < (v0.length : Int))) && ((nth v0 (Int.toNat (7))) == ([112, 97, 114, 116] : List UInt8))))) (q_pickAndB rfl rfl rfl) rfl ?_
        refine .nil ?_
        refine .cond rfl (fun hc => ?_) (fun hc => ?_)
        · replace H := ifT hc H; clear hc
          refine .seq ?_
          refine .region ?_
          refine .q (x := .d (slOf 1 rS v0)) (q_move rfl) rfl ?_
          refine .q (x := .d (cI 7)) (q_move rfl) rfl ?_
          obtain ⟨hk19, H⟩ := ck_some H
          refine .q (x := .d (cI (7 + 1))) (q_addI rfl rfl hk19.1 hk19.2) rfl ?_
          obtain ⟨hk20, H⟩ := ck_some H
          refine .q (x := .d (.ro (rS (nth v0 (Int.toNat (7 + 1)))))) (q_idxL (row := rS) (l := v0) (i := 7 + 1) Tryd.underlying33 hi9 hs9 rfl rfl rfl hk20) rfl ?_
          refine .q (x := .d (cS (nth v0 (Int.toNat (7 + 1))))) (q_load one_9 rfl) rfl ?_
          obtain ⟨y7, hy7, H⟩ := bind_some' H
          refine .g (x := .d (cI y7)) (g_call en_45 rfl rfl (c_f_billingref09_Value (hy7))) rfl ?_
          refine .q (x := .ref 1 7) (q_fieldRef fo_23_7 rfl) rfl ?_
          refine .u (u_store rfl rfl rfl rfl (Nat.le_of_ble_eq_true rfl) sz_3) rfl ?_
          refine .withSt (st' := ⟨[.row 23 [.d (cI 0), .d (cI 0), .d (cI 0), .d (cS ([] : List UInt8)), .d (cS ([] : List UInt8)), .d (cI 0), .d (cI 0), .d (cI 0), .d (cI 0), .d (cB false), .d (cI 0), .d (cB false)], .row 23 [.d (cI y2), .d (cI y3), .d (cI y1), .d (cS (nth v0 (Int.toNat (3)))), .d (cS o1c4j1), .d (cI y4), .d (cI y5), .d (cI y7), .d (cI 0), .d (cB false), .d (cI 0), .d (cB false)]], []⟩) rfl ?_
          refine .nil ?_
          refine .seq ?_
          refine .region ?_
          refine .q (x := .d (slOf 1 rS v0)) (q_move rfl) rfl ?_
          refine .q (x := .d (cI 7)) (q_move rfl) rfl ?_
          obtain ⟨hk21, H⟩ := ck_some H
          refine .q (x := .d (cI (7 + 2))) (q_addI rfl rfl hk21.1 hk21.2) rfl ?_
          obtain ⟨hk22, H⟩ := ck_some H
          refine .q (x := .d (.ro (rS (nth v0 (Int.toNat (7 + 2)))))) (q_idxL (row := rS) (l := v0) (i := 7 + 2) Tryd.underlying33 hi9 hs9 rfl rfl rfl hk22) rfl ?_
          refine .q (x := .d (cS (nth v0 (Int.toNat (7 + 2))))) (q_load one_9 rfl) rfl ?_
          obtain ⟨y8, hy8, H⟩ := bind_some' H
          refine .g (x := .d (cI y8)) (g_call en_45 rfl rfl (c_f_billingref09_Value (hy8))) rfl ?_
          refine .q (x := .ref 1 8) (q_fieldRef fo_23_8 rfl) rfl ?_
          refine .u (u_store rfl rfl rfl rfl (Nat.le_of_ble_eq_true rfl) sz_3) rfl ?_
          refine .withSt (st' := ⟨[.row 23 [.d (cI 0), .d (cI 0), .d (cI 0), .d (cS ([] : List UInt8)), .d (cS ([] : List UInt8)), .d (cI 0), .d (cI 0), .d (cI 0), .d (cI 0), .d (cB false), .d (cI 0), .d (cB false)], .row 23 [.d (cI y2), .d (cI y3), .d (cI y1), .d (cS (nth v0 (Int.toNat (3)))), .d (cS o1c4j1), .d (cI y4), .d (cI y5), .d (cI y7), .d (cI y8), .d (cB false), .d (cI 0), .d (cB false)]], []⟩) rfl ?_
          refine .nil ?_
          refine .seq ?_
          refine .region ?_
          refine .q (x := .d (cI 7)) (q_move rfl) rfl ?_
          obtain ⟨hk23, H⟩ := ck_some H
          refine .q (x := .d (cI (7 + 3))) (q_addI rfl rfl hk23.1 hk23.2) rfl ?_
          refine .q (x := .d (cI (7 + 3))) (q_assign rfl) rfl ?_
          refine .nil ?_
          refine .seq ?_
          refine .region ?_
          refine .q (x := .d (cI (7 + 3))) (q_move rfl) rfl ?_
          refine .q (x := .d (slOf 1 rS v0)) (q_move rfl) rfl ?_
          refine .q (x := .d (cI (v0.length : Int))) (q_lenL (l := v0) (row := rS) Tryd.underlying33 rfl rfl) rfl ?_
          refine .q (x := .d (cB (decide ((7 + 3) < (v0.length : Int))))) (q_lss rfl rfl) rfl ?_
          refine .q (x := .d (cB (decide ((7 + 3) < (v0.length : Int))))) (q_move rfl) rfl ?_
          refine .guardG (b := decide ((7 + 3) < (v0.length : Int))) (x := .d (slOf 1 rS v0)) (env' := [(0, _)]) rfl rfl rfl ⟨.inl rfl, trivial⟩ rfl (fun hg => OpQ.g (q_move rfl)) ?_
          refine .guardG (b := decide ((7 + 3) < (v0.length : Int))) (x := .d (cI (7 + 3))) (env' := [(5, _)]) rfl rfl rfl ⟨.inl rfl, trivial⟩ rfl (fun hg => OpQ.g (q_move rfl)) ?_
          obtain ⟨hk24, H⟩ := ck_some H
          refine .guardG (b := decide ((7 + 3) < (v0.length : Int))) (x := .d (.ro (rS (nth v0 (Int.toNat (7 + 3)))))) (env' := [(89, _), (90, _)]) rfl rfl rfl ⟨.inr (.inl rfl), ⟨.inr (.inl rfl), trivial⟩⟩ rfl (fun hg => OpQ.g (q_idxL (row := rS) (l := v0) (i := 7 + 3) Tryd.underlying33 hi9 hs9 rfl rfl rfl (hk24 hg))) ?_
          refine .guardG (b := decide ((7 + 3) < (v0.length : Int))) (x := .d (cS (nth v0 (Int.toNat (7 + 3))))) (env' := [(91, _)]) rfl rfl rfl ⟨.inr (.inl rfl), trivial⟩ rfl (fun hg => OpQ.g (q_load one_9 rfl)) ?_
          refine .guardG (b := decide ((7 + 3) < (v0.length : Int))) (x := .d (cB ((nth v0 (Int.toNat (7 + 3))) == ([108, 97, 115, 116] : List UInt8)))) (env' := [(92, _)]) rfl rfl rfl ⟨.inr (.inl rfl), trivial⟩ rfl (fun hg => OpQ.g (q_seql rfl rfl)) ?_
          refine .q (x := .d (cB ((decide ((7 + 3) < (v0.length : Int))) && ((nth v0 (Int.toNat (7 + 3))) == ([108, 97, 115, 116] : List UInt8))))) (q_pickAndB rfl rfl rfl) rfl ?_
          refine .nil ?_
          refine .cond rfl (fun hc => ?_) (fun hc => ?_)
          · replace H := ifT hc H; clear hc
            refine .seq ?_
            refine .region ?_
            refine .q (x := .ref 1 9) (q_fieldRef fo_23_9 rfl) rfl ?_
            refine .u (u_store rfl rfl rfl rfl (Nat.le_of_ble_eq_true rfl) sz_4) rfl ?_
            refine .withSt (st' := ⟨[.row 23 [.d (cI 0), .d (cI 0), .d (cI 0), .d (cS ([] : List UInt8)), .d (cS ([] : List UInt8)), .d (cI 0), .d (cI 0), .d (cI 0), .d (cI 0), .d (cB false), .d (cI 0), .d (cB false)], .row 23 [.d (cI y2), .d (cI y3), .d (cI y1), .d (cS (nth v0 (Int.toNat (3)))), .d (cS o1c4j1), .d (cI y4), .d (cI y5), .d (cI y7), .d (cI y8), .d (cB true), .d (cI 0), .d (cB false)]], []⟩) rfl ?_
            refine .nil ?_
            refine .region ?_
            refine .q (x := .d (cI (7 + 3))) (q_move rfl) rfl ?_
            obtain ⟨hk25, H⟩ := ck_some H
            refine .q (x := .d (cI ((7 + 3) + 1))) (q_addI rfl rfl hk25.1 hk25.2) rfl ?_
            refine .q (x := .d (cI ((7 + 3) + 1))) (q_assign rfl) rfl ?_
            refine .nil ?_
            exact .withSt (st' := ⟨[.row 23 [.d (cI 0), .d (cI 0), .d (cI 0), .d (cS ([] : List UInt8)), .d (cS ([] : List UInt8)), .d (cI 0), .d (cI 0), .d (cI 0), .d (cI 0), .d (cB false), .d (cI 0), .d (cB false)], .row 23 [.d (cI y2), .d (cI y3), .d (cI y1), .d (cS (nth v0 (Int.toNat (3)))), .d (cS o1c4j1), .d (cI y4), .d (cI y5), .d (cI y7), .d (cI y8), .d (cB true), .d (cI 0), .d (cB false)]], []⟩) rfl <| .sub (.cons rfl (.rfl' _) (.cons rfl (.rfl' _) (.cons rfl (.rfl' _) (.cons rfl (.rfl' _) (.nil))))) (hj2 ((7 + 3) + 1, y7, y8, true) H)
          · replace H := ifF hc H; clear hc
            refine .skip ?_
            exact .withSt (st' := ⟨[.row 23 [.d (cI 0), .d (cI 0), .d (cI 0), .d (cS ([] : List UInt8)), .d (cS ([] : List UInt8)), .d (cI 0), .d (cI 0), .d (cI 0), .d (cI 0), .d (cB false), .d (cI 0), .d (cB false)], .row 23 [.d (cI y2), .d (cI y3), .d (cI y1), .d (cS (nth v0 (Int.toNat (3)))), .d (cS o1c4j1), .d (cI y4), .d (cI y5), .d (cI y7), .d (cI y8), .d (cB false), .d (cI 0), .d (cB false)]], []⟩) rfl <| .sub (.cons rfl (.rfl' _) (.cons rfl (.rfl' _) (.cons rfl (.rfl' _) (.cons rfl (.rfl' _) (.nil))))) (hj2 (7 + 3, y7, y8, false) H)
        · replace H := ifF hc H; clear hc
          refine .skip ?_
          exact .withSt (st' := ⟨[.row 23 [.d (cI 0), .d (cI 0), .d (cI 0), .d (cS ([] : List UInt8)), .d (cS ([] : List UInt8)), .d (cI 0), .d (cI 0), .d (cI 0), .d (cI 0), .d (cB false), .d (cI 0), .d (cB false)], .row 23 [.d (cI y2), .d (cI y3), .d (cI y1), .d (cS (nth v0 (Int.toNat (3)))), .d (cS o1c4j1), .d (cI y4), .d (cI y5), .d (cI 0), .d (cI 0), .d (cB false), .d (cI 0), .d (cB false)]], []⟩) rfl <| .sub (.cons rfl (.rfl' _) (.cons rfl (.rfl' _) (.cons rfl (.rfl' _) (.cons rfl (.rfl' _) (.nil))))) (hj2 (7, 0, 0, false) H)
    · intro hj1
      refine .seq ?_
      refine .region ?_
      refine .q (x := .ref 1 4) (q_fieldRef fo_23_4 rfl) rfl ?_
      refine .q (x := .d (cS (nth v0 (Int.toNat (4))))) (q_loadO one_9 rfl rfl rfl) rfl ?_
      refine .q (x := .d (cB ((nth v0 (Int.toNat (4))) == ([45] : List UInt8)))) (q_seql rfl rfl) rfl ?_
      refine .nil ?_
      refine .cond rfl (fun hc => ?_) (fun hc => ?_)
      · replace H := ifT hc H; clear hc
        refine .region ?_
        refine .q (x := .ref 1 4) (q_fieldRef fo_23_4 rfl) rfl ?_
        refine .u (u_store rfl rfl rfl rfl (Nat.le_of_ble_eq_true rfl) sz_9) rfl ?_
        refine .withSt (st' := ⟨[.row 23 [.d (cI 0), .d (cI 0), .d (cI 0), .d (cS ([] : List UInt8)), .d (cS ([] : List UInt8)), .d (cI 0), .d (cI 0), .d (cI 0), .d (cI 0), .d (cB false), .d (cI 0), .d (cB false)], .row 23 [.d (cI y2), .d (cI y3), .d (cI y1), .d (cS (nth v0 (Int.toNat (3)))), .d (cS ([] : List UInt8)), .d (cI y4), .d (cI y5), .d (cI 0), .d (cI 0), .d (cB false), .d (cI 0), .d (cB false)]], []⟩) rfl ?_
        refine .nil ?_
        exact .withSt (st' := ⟨[.row 23 [.d (cI 0), .d (cI 0), .d (cI 0), .d (cS ([] : List UInt8)), .d (cS ([] : List UInt8)), .d (cI 0), .d (cI 0), .d (cI 0), .d (cI 0), .d (cB false), .d (cI 0), .d (cB false)], .row 23 [.d (cI y2), .d (cI y3), .d (cI y1), .d (cS (nth v0 (Int.toNat (3)))), .d (cS ([] : List UInt8)), .d (cI y4), .d (cI y5), .d (cI 0), .d (cI 0), .d (cB false), .d (cI 0), .d (cB false)]], []⟩) rfl <| .sub (.cons rfl (.rfl' _) (.cons rfl (.rfl' _) (.cons rfl (.rfl' _) (.nil)))) (hj1 ([] : List UInt8) H)
      · replace H := ifF hc H; clear hc
        refine .skip ?_
        exact .withSt (st' := ⟨[.row 23 [.d (cI 0), .d (cI 0), .d (cI 0), .d (cS ([] : List UInt8)), .d (cS ([] : List UInt8)), .d (cI 0), .d (cI 0), .d (cI 0), .d (cI 0), .d (cB false), .d (cI 0), .d (cB false)], .row 23 [.d (cI y2), .d (cI y3), .d (cI y1), .d (cS (nth v0 (Int.toNat (3)))), .d (cS (nth v0 (Int.toNat (4)))), .d (cI y4), .d (cI y5), .d (cI 0), .d (cI 0), .d (cB false), .d (cI 0), .d (cB false)]], []⟩) rfl <| .sub (.cons rfl (.rfl' _) (.cons rfl (.rfl' _) (.cons rfl (.rfl' _) (.nil)))) (hj1 (nth v0 (Int.toNat (4))) H)

end Go.Proofs.YtoknjmclbfgkiaaDoor
