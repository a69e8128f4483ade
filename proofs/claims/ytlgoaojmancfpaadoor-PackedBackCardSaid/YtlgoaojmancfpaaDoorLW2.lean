import Derived.Test.YtlgoaojmancfpaaDoorLW1
import Derived.Test.YtlgoaojmancfpaaDoorLF
import Derived.Test.YtlgoaojmancfpaaDoorLX
set_option linter.unusedSimpArgs false
set_option linter.unusedVariables false
namespace Go.Proofs.YtlgoaojmancfpaaDoor
open Go.RowKit Go.Abs
set_option maxRecDepth 100000 in
set_option maxHeartbeats 1000000 in
theorem c_f_billingref02_Valid {v0s : List UInt8} {r : Bool} (H : f_billingref02_Valid v0s = some r) : ACall Tryd.prog 38 [cS v0s] (· = cB r) := by
  refine ACall.enter' Tryd.func38 rfl Tryd.ntmps38 rfl fun S hS => ?_
  unfold f_billingref02_Valid at H
  change ARun _ _ _ _ _ _ [(0, .d (cS v0s))] _
  refine .seq ?_
  refine .region ?_
  refine .q (x := .d (cB false)) (q_assign rfl) rfl ?_
  refine .nil ?_
  refine .seq ?_
  refine .seq ?_
  refine .region ?_
  refine .q (x := .d (cI 0)) (q_assign rfl) rfl ?_
  refine .nil ?_
  refine .blockJoin2 (ι := Unit) (fun s => [(0, .d (cS v0s))]) (fun s => ⟨[], []⟩) (fun s => f_billingref02_Valid_j1 v0s = some r) ?_ ?_
  · rintro _ H
    replace H : f_billingref02_Valid_j1 v0s = some r := H
    unfold f_billingref02_Valid_j1 at H
    change ARun _ _ _ _ _ _ [(0, .d (cS v0s))] ⟨[], []⟩
    refine .seq ?_
    refine .region ?_
    refine .q (x := .d (cS v0s)) (q_move rfl) rfl ?_
    refine .q (x := .d (cI (v0s.length : Int))) (q_lenS Tryd.underlying9 rfl) rfl ?_
    refine .q (x := .d (cB (decide ((v0s.length : Int) ≥ 1)))) (q_geq rfl rfl) rfl ?_
    refine .q (x := .d (cB (decide ((v0s.length : Int) ≥ 1)))) (q_move rfl) rfl ?_
    refine .guardG (b := decide ((v0s.length : Int) ≥ 1)) (x := .d (cS v0s)) (env' := [(0, _)]) rfl rfl rfl ⟨.inl rfl, trivial⟩ rfl (fun hg => OpQ.g (q_move rfl)) ?_
    refine .guardG (b := decide ((v0s.length : Int) ≥ 1)) (x := .d (cI (v0s.length : Int))) (env' := [(24, _)]) rfl rfl rfl ⟨.inr (.inl rfl), trivial⟩ rfl (fun hg => OpQ.g (q_lenS Tryd.underlying9 rfl)) ?_
    refine .guardG (b := decide ((v0s.length : Int) ≥ 1)) (x := .d (cB (decide ((v0s.length : Int) ≤ 15)))) (env' := [(25, _)]) rfl rfl rfl ⟨.inr (.inl rfl), trivial⟩ rfl (fun hg => OpQ.g (q_leq rfl rfl)) ?_
    refine .q (x := .d (cB ((decide ((v0s.length : Int) ≥ 1)) && (decide ((v0s.length : Int) ≤ 15))))) (q_pickAndB rfl rfl rfl) rfl ?_
    refine .q (x := .d (cB ((decide ((v0s.length : Int) ≥ 1)) && (decide ((v0s.length : Int) ≤ 15))))) (q_assign rfl) rfl ?_
    refine .nil ?_
    refine .retN [.tmp 2] [.d (cB ((decide ((v0s.length : Int) ≥ 1)) && (decide ((v0s.length : Int) ≤ 15))))] Tryd.func38 Tryd.results38 ⟨rfl, trivial⟩ ?_
    cases H
    exact ⟨_, .rfl' _, rfl⟩
  · intro hj1 hj1x
    obtain ⟨n1, H⟩ := loop_some H
    refine .loop (ι := Nat × (Int)) (fun p => [(0, .d (cS v0s)), (3, .d (cI p.2))]) (fun p => ⟨[], []⟩) (fun p => iter (fun s => f_billingref02_Valid_l1 v0s s) p.1 p.2 = some r) (·.1) (n1, 0) H (.cons rfl (.rfl' _) (.cons rfl (.rfl' _) (.nil))) rfl ?_
    rintro ⟨m1, v3il1⟩ HI ih1
    obtain ⟨n1, q1, hm1, H, HK1⟩ := iter_succ HI
    clear HI
    replace H : f_billingref02_Valid_l1 v0s v3il1 = some q1 := H
    unfold f_billingref02_Valid_l1 at H
    change ARun _ _ _ _ _ _ [(0, .d (cS v0s)), (3, .d (cI v3il1))] ⟨[], []⟩
    refine .seq ?_
    refine .seq ?_
    refine .region ?_
    refine .q (x := .d (cI v3il1)) (q_move rfl) rfl ?_
    refine .q (x := .d (cS v0s)) (q_move rfl) rfl ?_
    refine .q (x := .d (cI (v0s.length : Int))) (q_lenS Tryd.underlying9 rfl) rfl ?_
    refine .q (x := .d (cB (decide (v3il1 < (v0s.length : Int))))) (q_lss rfl rfl) rfl ?_
    refine .nil ?_
    refine .cond rfl (fun hc => ?_) (fun hc => ?_)
    · replace H := ifT hc H; clear hc
      refine .skip ?_
      refine .seq ?_
      refine .block ?_
      refine .seq ?_
      refine .region ?_
      refine .q (x := .d (cS v0s)) (q_move rfl) rfl ?_
      refine .q (x := .d (cI v3il1)) (q_move rfl) rfl ?_
      obtain ⟨hk1, H⟩ := ck_some H
      refine .q (x := .d (cU8 (nth v0s (Int.toNat (v3il1))))) (q_indexL (i := v3il1) Tryd.underlying9 rfl rfl hk1) rfl ?_
      refine .q (x := .d (cB (decide ((nth v0s (Int.toNat (v3il1))) < 48)))) (q8_lss (a := nth v0s (Int.toNat (v3il1))) (b := 48) rfl rfl) rfl ?_
      refine .q (x := .d (cB (decide ((nth v0s (Int.toNat (v3il1))) < 48)))) (q_move rfl) rfl ?_
      refine .guardG (b := (!(decide ((nth v0s (Int.toNat (v3il1))) < 48)))) (x := .d (cS v0s)) (env' := [(0, _)]) rfl rfl rfl ⟨.inl rfl, trivial⟩ rfl (fun hg => OpQ.g (q_move rfl)) ?_
      refine .guardG (b := (!(decide ((nth v0s (Int.toNat (v3il1))) < 48)))) (x := .d (cI v3il1)) (env' := [(3, _)]) rfl rfl rfl ⟨.inl rfl, trivial⟩ rfl (fun hg => OpQ.g (q_move rfl)) ?_
      obtain ⟨hk2, H⟩ := ck_some H
      refine .guardG (b := (!(decide ((nth v0s (Int.toNat (v3il1))) < 48)))) (x := .d (cU8 (nth v0s (Int.toNat (v3il1))))) (env' := [(15, _), (16, _)]) rfl rfl rfl ⟨.inr (.inl rfl), ⟨.inr (.inl rfl), trivial⟩⟩ rfl (fun hg => OpQ.g (q_indexL (i := v3il1) Tryd.underlying9 rfl rfl (hk2 hg))) ?_
      refine .guardG (b := (!(decide ((nth v0s (Int.toNat (v3il1))) < 48)))) (x := .d (cB (decide ((nth v0s (Int.toNat (v3il1))) > 57)))) (env' := [(17, _)]) rfl rfl rfl ⟨.inr (.inl rfl), trivial⟩ rfl (fun hg => OpQ.g (q8_gtr (a := nth v0s (Int.toNat (v3il1))) (b := 57) rfl rfl)) ?_
      refine .q (x := .d (cB ((decide ((nth v0s (Int.toNat (v3il1))) < 48)) || (decide ((nth v0s (Int.toNat (v3il1))) > 57))))) (q_pickOrB rfl rfl rfl) rfl ?_
      refine .nil ?_
      refine .cond rfl (fun hc => ?_) (fun hc => ?_)
      · replace H := ifT hc H; clear hc
        refine .seq ?_
        refine .region ?_
        refine .q (x := .d (cB false)) (q_assign rfl) rfl ?_
        refine .nil ?_
        refine .retN [.tmp 2] [.d (cB false)] Tryd.func38 Tryd.results38 ⟨rfl, trivial⟩ ?_
        cases H
        cases HK1
        exact ⟨_, .rfl' _, rfl⟩
      · replace H := ifF hc H; clear hc
        refine .skip ?_
        refine .inBlock ?_
        refine .region ?_
        refine .q (x := .d (cI v3il1)) (q_move rfl) rfl ?_
        obtain ⟨hk3, H⟩ := ck_some H
        refine .q (x := .d (cI (v3il1 + 1))) (q_addI rfl rfl hk3.1 hk3.2) rfl ?_
        refine .q (x := .d (cI (v3il1 + 1))) (q_assign rfl) rfl ?_
        refine .nil ?_
        cases H
        exact .sub (.cons rfl (.rfl' _) (.cons rfl (.rfl' _) (.nil))) (ih1 (n1, (v3il1 + 1)) HK1 hm1)
    · replace H := ifF hc H; clear hc
      refine .exit rfl ?_
      obtain ⟨q0, H9, hq0⟩ := map_some' H; clear H; cases hq0
      cases HK1
      have H := H9
      exact .sub (.cons rfl (.rfl' _) (.nil)) (hj1x () H)

set_option maxRecDepth 100000 in
set_option maxHeartbeats 1000000 in
theorem c_f_billingref09_Error {v0 : Record} {r : Int} (H : f_billingref09_Error v0 = some r) : ACall Tryd.prog 27 [.agg (Record.row v0)] (· = cI r) := by
  refine ACall.enter' Tryd.func27 rfl Tryd.ntmps27 rfl fun S hS => ?_
  unfold f_billingref09_Error at H
  change ARun _ _ _ _ _ _ [(0, .d (.agg (Record.row v0)))] _
  refine .seq ?_
  refine .region ?_
  refine .v (x := .ref 0 0) (v_box rfl rfl) rfl ?_
  refine .withSt (st' := ⟨[.row 31 [.d (cI v0.source), .d (cI v0.serial), .d (cI v0.kind), .d (cS v0.a), .d (cS v0.b), .d (cI v0.start), .d (cI v0.units), .d (cI v0.call), .d (cI v0.part), .d (cB v0.last), .d (cI v0.trunk), .d (cB v0.inbound)]], []⟩) rfl ?_
  refine .q (x := .d (cI 0)) (q_assign rfl) rfl ?_
  refine .nil ?_
  refine .seq ?_
  refine .block ?_
  refine .seq ?_
  refine .region ?_
  refine .q (x := .ref 0 0) (q_fieldRef fo_31_0 rfl) rfl ?_
  refine .q (x := .d (cI v0.source)) (q_loadO one_3 rfl rfl rfl) rfl ?_
  obtain ⟨y1, hy1, H⟩ := bind_some' H
  refine .g (x := .d (cB y1)) (g_call en_37 rfl rfl (c_f_billingref09_in (hy1))) rfl ?_
  refine .q (x := .d (cB (!y1))) (q_not rfl) rfl ?_
  refine .q (x := .d (cB (!y1))) (q_move rfl) rfl ?_
  refine .guardG (b := (!(!y1))) (x := .ref 0 1) (env' := [(1, _)]) rfl rfl rfl ⟨.inl rfl, trivial⟩ rfl (fun hg => OpQ.g (q_fieldRef fo_31_1 rfl)) ?_
  refine .guardG (b := (!(!y1))) (x := .d (cI v0.serial)) (env' := [(9, _)]) rfl rfl rfl ⟨.inr (.inl rfl), trivial⟩ rfl (fun hg => OpQ.g (q_loadO one_3 rfl rfl rfl)) ?_
  obtain ⟨y2, hy2, H⟩ := bind_some' H
  refine .guardG (b := (!(!y1))) (x := .d (cB y2)) (env' := [(10, _)]) rfl rfl rfl ⟨.inr (.inl rfl), trivial⟩ rfl (fun hg => (g_call en_37 rfl rfl (c_f_billingref09_in (gcall_some hy2 hg)))) ?_
  refine .guardG (b := (!(!y1))) (x := .d (cB (!y2))) (env' := [(11, _)]) rfl rfl rfl ⟨.inr (.inl rfl), trivial⟩ rfl (fun hg => OpQ.g (q_not rfl)) ?_
  refine .q (x := .d (cB ((!y1) || (!y2)))) (q_pickOrB rfl rfl rfl) rfl ?_
  refine .q (x := .d (cB ((!y1) || (!y2)))) (q_assign rfl) rfl ?_
  refine .nil ?_
  refine .cond rfl (fun hc => ?_) (fun hc => ?_)
  · replace H := ifT hc H; clear hc
    refine .seq ?_
    refine .region ?_
    refine .q (x := .d (cI 6)) (q_assign rfl) rfl ?_
    refine .nil ?_
    refine .retN [.tmp 2] [.d (cI 6)] Tryd.func27 Tryd.results27 ⟨rfl, trivial⟩ ?_
    cases H
    exact ⟨_, .rfl' _, rfl⟩
  · replace H := ifF hc H; clear hc
    refine .seq ?_
    refine .region ?_
    refine .q (x := .ref 0 2) (q_fieldRef fo_31_2 rfl) rfl ?_
    refine .q (x := .d (cI v0.kind)) (q_loadO one_3 rfl rfl rfl) rfl ?_
    obtain ⟨y3, hy3, H⟩ := bind_some' H
    refine .g (x := .d (cB y3)) (g_call en_37 rfl rfl (c_f_billingref09_in (hy3))) rfl ?_
    refine .q (x := .d (cB (!y3))) (q_not rfl) rfl ?_
    refine .q (x := .d (cB (!y3))) (q_assign rfl) rfl ?_
    refine .nil ?_
    refine .cond rfl (fun hc => ?_) (fun hc => ?_)
    · replace H := ifT hc H; clear hc
      refine .seq ?_
      refine .region ?_
      refine .q (x := .d (cI 7)) (q_assign rfl) rfl ?_
      refine .nil ?_
      refine .retN [.tmp 2] [.d (cI 7)] Tryd.func27 Tryd.results27 ⟨rfl, trivial⟩ ?_
      cases H
      exact ⟨_, .rfl' _, rfl⟩
    · replace H := ifF hc H; clear hc
      refine .seq ?_
      refine .region ?_
      refine .q (x := .ref 0 3) (q_fieldRef fo_31_3 rfl) rfl ?_
      refine .q (x := .d (cS v0.a)) (q_loadO one_9 rfl rfl rfl) rfl ?_
      obtain ⟨y4, hy4, H⟩ := bind_some' H
      refine .g (x := .d (cB y4)) (g_call en_38 rfl rfl (c_f_billingref02_Valid (hy4))) rfl ?_
      refine .q (x := .d (cB (!y4))) (q_not rfl) rfl ?_
      refine .q (x := .d (cB (!y4))) (q_assign rfl) rfl ?_
      refine .nil ?_
      refine .cond rfl (fun hc => ?_) (fun hc => ?_)
      · replace H := ifT hc H; clear hc
        refine .seq ?_
        refine .region ?_
        refine .q (x := .d (cI 12)) (q_assign rfl) rfl ?_
        refine .nil ?_
        refine .retN [.tmp 2] [.d (cI 12)] Tryd.func27 Tryd.results27 ⟨rfl, trivial⟩ ?_
        cases H
        exact ⟨_, .rfl' _, rfl⟩
      · replace H := ifF hc H; clear hc
        refine .seq ?_
        refine .region ?_
        refine .q (x := .ref 0 4) (q_fieldRef fo_31_4 rfl) rfl ?_
        refine .q (x := .d (cS v0.b)) (q_loadO one_9 rfl rfl rfl) rfl ?_
        obtain ⟨y5, hy5, H⟩ := bind_some' H
        refine .g (x := .d (cB y5)) (g_call en_38 rfl rfl (c_f_billingref02_Valid (hy5))) rfl ?_
        refine .q (x := .d (cB (!y5))) (q_not rfl) rfl ?_
        refine .q (x := .d (cB (!y5))) (q_move rfl) rfl ?_
        refine .guardG (b := (!y5)) (x := .ref 0 4) (env' := [(1, _)]) rfl rfl rfl ⟨.inl rfl, trivial⟩ rfl (fun hg => OpQ.g (q_fieldRef fo_31_4 rfl)) ?_
        refine .guardG (b := (!y5)) (x := .d (cS v0.b)) (env' := [(30, _)]) rfl rfl rfl ⟨.inr (.inl rfl), trivial⟩ rfl (fun hg => OpQ.g (q_loadO one_9 rfl rfl rfl)) ?_
        refine .guardG (b := (!y5)) (x := .d (cB (v0.b != ([] : List UInt8)))) (env' := [(31, _)]) rfl rfl rfl ⟨.inr (.inl rfl), trivial⟩ rfl (fun hg => OpQ.g (q_sneq rfl rfl)) ?_
        refine .guardG (b := (!y5)) (x := .d (cB (v0.b != ([] : List UInt8)))) (env' := [(32, _)]) rfl rfl rfl ⟨.inr (.inl rfl), trivial⟩ rfl (fun hg => OpQ.g (q_move rfl)) ?_
        refine .guardG (b := ((!y5) && (!(v0.b != ([] : List UInt8))))) (x := .ref 0 2) (env' := [(1, _)]) rfl rfl rfl ⟨.inl rfl, trivial⟩ rfl (fun hg => OpQ.g (q_fieldRef fo_31_2 rfl)) ?_
        refine .guardG (b := ((!y5) && (!(v0.b != ([] : List UInt8))))) (x := .d (cI v0.kind)) (env' := [(34, _)]) rfl rfl rfl ⟨.inr (.inl rfl), trivial⟩ rfl (fun hg => OpQ.g (q_loadO one_3 rfl rfl rfl)) ?_
        refine .guardG (b := ((!y5) && (!(v0.b != ([] : List UInt8))))) (x := .d (cB (v0.kind != 3))) (env' := [(35, _)]) rfl rfl rfl ⟨.inr (.inl rfl), trivial⟩ rfl (fun hg => OpQ.g (q_neq rfl rfl)) ?_
        refine .guardG (b := ((!y5) && (!(v0.b != ([] : List UInt8))))) (x := .d (cB (v0.kind != 3))) (env' := [(36, _)]) rfl rfl rfl ⟨.inr (.inl rfl), trivial⟩ rfl (fun hg => OpQ.g (q_move rfl)) ?_
        refine .guardG (b := (((!y5) && (!(v0.b != ([] : List UInt8)))) && (v0.kind != 3))) (x := .ref 0 2) (env' := [(1, _)]) rfl rfl rfl ⟨.inl rfl, trivial⟩ rfl (fun hg => OpQ.g (q_fieldRef fo_31_2 rfl)) ?_
        refine .guardG (b := (((!y5) && (!(v0.b != ([] : List UInt8)))) && (v0.kind != 3))) (x := .d (cI v0.kind)) (env' := [(38, _)]) rfl rfl rfl ⟨.inr (.inl rfl), trivial⟩ rfl (fun hg => OpQ.g (q_loadO one_3 rfl rfl rfl)) ?_
        refine .guardG (b := (((!y5) && (!(v0.b != ([] : List UInt8)))) && (v0.kind != 3))) (x := .d (cB (v0.kind != 4))) (env' := [(39, _)]) rfl rfl rfl ⟨.inr (.inl rfl), trivial⟩ rfl (fun hg => OpQ.g (q_neq rfl rfl)) ?_
        refine .guardG (b := ((!y5) && (!(v0.b != ([] : List UInt8))))) (x := .d (cB ((v0.kind != 3) && (v0.kind != 4)))) (env' := [(37, _), (40, _)]) rfl rfl rfl ⟨.inr (.inl rfl), ⟨.inr (.inr ⟨_, _, rfl, rfl⟩), trivial⟩⟩ rfl (fun hg => OpQ.g (q_pickAndB rfl rfl rfl)) ?_
        refine .guardG (b := (!y5)) (x := .d (cB ((v0.b != ([] : List UInt8)) || ((v0.kind != 3) && (v0.kind != 4))))) (env' := [(33, _), (41, _)]) rfl rfl rfl ⟨.inr (.inl rfl), ⟨.inr (.inr ⟨_, _, rfl, rfl⟩), trivial⟩⟩ rfl (fun hg => OpQ.g (q_pickOrB rfl rfl rfl)) ?_
        refine .q (x := .d (cB ((!y5) && ((v0.b != ([] : List UInt8)) || ((v0.kind != 3) && (v0.kind != 4)))))) (q_pickAndB rfl rfl rfl) rfl ?_
        refine .q (x := .d (cB ((!y5) && ((v0.b != ([] : List UInt8)) || ((v0.kind != 3) && (v0.kind != 4)))))) (q_assign rfl) rfl ?_
        refine .nil ?_
        refine .cond rfl (fun hc => ?_) (fun hc => ?_)
        · replace H := ifT hc H; clear hc
          refine .seq ?_
          refine .region ?_
          refine .q (x := .d (cI 12)) (q_assign rfl) rfl ?_
          refine .nil ?_
          refine .retN [.tmp 2] [.d (cI 12)] Tryd.func27 Tryd.results27 ⟨rfl, trivial⟩ ?_
          cases H
          exact ⟨_, .rfl' _, rfl⟩
        · replace H := ifF hc H; clear hc
          refine .seq ?_
          refine .region ?_
          refine .q (x := .ref 0 5) (q_fieldRef fo_31_5 rfl) rfl ?_
          refine .q (x := .d (cI v0.start)) (q_loadO one_3 rfl rfl rfl) rfl ?_
          obtain ⟨y6, hy6, H⟩ := bind_some' H
          refine .g (x := .d (cB y6)) (g_call en_37 rfl rfl (c_f_billingref09_in (hy6))) rfl ?_
          refine .q (x := .d (cB (!y6))) (q_not rfl) rfl ?_
          refine .q (x := .d (cB (!y6))) (q_assign rfl) rfl ?_
          refine .nil ?_
          refine .cond rfl (fun hc => ?_) (fun hc => ?_)
          · replace H := ifT hc H; clear hc
            refine .seq ?_
            refine .region ?_
            refine .q (x := .d (cI 15)) (q_assign rfl) rfl ?_
            refine .nil ?_
            refine .retN [.tmp 2] [.d (cI 15)] Tryd.func27 Tryd.results27 ⟨rfl, trivial⟩ ?_
            cases H
            exact ⟨_, .rfl' _, rfl⟩
          · replace H := ifF hc H; clear hc
            refine .seq ?_
            refine .region ?_
            refine .q (x := .ref 0 6) (q_fieldRef fo_31_6 rfl) rfl ?_
            refine .q (x := .d (cI v0.units)) (q_loadO one_3 rfl rfl rfl) rfl ?_
            obtain ⟨y7, hy7, H⟩ := bind_some' H
            refine .g (x := .d (cB y7)) (g_call en_37 rfl rfl (c_f_billingref09_in (hy7))) rfl ?_
            refine .q (x := .d (cB (!y7))) (q_not rfl) rfl ?_
            refine .q (x := .d (cB (!y7))) (q_move rfl) rfl ?_
            refine .guardG (b := (!(!y7))) (x := .ref 0 2) (env' := [(1, _)]) rfl rfl rfl ⟨.inl rfl, trivial⟩ rfl (fun hg => OpQ.g (q_fieldRef fo_31_2 rfl)) ?_
            refine .guardG (b := (!(!y7))) (x := .d (cI v0.kind)) (env' := [(55, _)]) rfl rfl rfl ⟨.inr (.inl rfl), trivial⟩ rfl (fun hg => OpQ.g (q_loadO one_3 rfl rfl rfl)) ?_
            refine .guardG (b := (!(!y7))) (x := .d (cB (v0.kind == 1))) (env' := [(56, _)]) rfl rfl rfl ⟨.inr (.inl rfl), trivial⟩ rfl (fun hg => OpQ.g (q_eql rfl rfl)) ?_
            refine .guardG (b := (!(!y7))) (x := .d (cB (v0.kind == 1))) (env' := [(57, _)]) rfl rfl rfl ⟨.inr (.inl rfl), trivial⟩ rfl (fun hg => OpQ.g (q_move rfl)) ?_
            refine .guardG (b := ((!(!y7)) && (v0.kind == 1))) (x := .ref 0 6) (env' := [(1, _)]) rfl rfl rfl ⟨.inl rfl, trivial⟩ rfl (fun hg => OpQ.g (q_fieldRef fo_31_6 rfl)) ?_
            refine .guardG (b := ((!(!y7)) && (v0.kind == 1))) (x := .d (cI v0.units)) (env' := [(59, _)]) rfl rfl rfl ⟨.inr (.inl rfl), trivial⟩ rfl (fun hg => OpQ.g (q_loadO one_3 rfl rfl rfl)) ?_
            refine .guardG (b := ((!(!y7)) && (v0.kind == 1))) (x := .d (cB (decide (v0.units > 604800)))) (env' := [(60, _)]) rfl rfl rfl ⟨.inr (.inl rfl), trivial⟩ rfl (fun hg => OpQ.g (q_gtr rfl rfl)) ?_
            refine .guardG (b := (!(!y7))) (x := .d (cB ((v0.kind == 1) && (decide (v0.units > 604800))))) (env' := [(58, _), (61, _)]) rfl rfl rfl ⟨.inr (.inl rfl), ⟨.inr (.inr ⟨_, _, rfl, rfl⟩), trivial⟩⟩ rfl (fun hg => OpQ.g (q_pickAndB rfl rfl rfl)) ?_
            refine .q (x := .d (cB ((!y7) || ((v0.kind == 1) && (decide (v0.units > 604800)))))) (q_pickOrB rfl rfl rfl) rfl ?_
            refine .q (x := .d (cB ((!y7) || ((v0.kind == 1) && (decide (v0.units > 604800)))))) (q_assign rfl) rfl ?_
            refine .nil ?_
            refine .cond rfl (fun hc => ?_) (fun hc => ?_)
            · replace H := ifT hc H; clear hc
              refine .seq ?_
              refine .region ?_
              refine .q (x := .d (cI 6)) (q_assign rfl) rfl ?_
              refine .nil ?_
              refine .retN [.tmp 2] [.d (cI 6)] Tryd.func27 Tryd.results27 ⟨rfl, trivial⟩ ?_
              cases H
              exact ⟨_, .rfl' _, rfl⟩
            · replace H := ifF hc H; clear hc
              refine .seq ?_
              refine .region ?_
              refine .q (x := .ref 0 2) (q_fieldRef fo_31_2 rfl) rfl ?_
              refine .q (x := .d (cI v0.kind)) (q_loadO one_3 rfl rfl rfl) rfl ?_
              refine .q (x := .d (cB (v0.kind == 1))) (q_eql rfl rfl) rfl ?_
              refine .q (x := .d (cB (v0.kind == 1))) (q_move rfl) rfl ?_
              refine .guardG (b := (v0.kind == 1)) (x := .ref 0 5) (env' := [(1, _)]) rfl rfl rfl ⟨.inl rfl, trivial⟩ rfl (fun hg => OpQ.g (q_fieldRef fo_31_5 rfl)) ?_
              refine .guardG (b := (v0.kind == 1)) (x := .d (cI v0.start)) (env' := [(69, _)]) rfl rfl rfl ⟨.inr (.inl rfl), trivial⟩ rfl (fun hg => OpQ.g (q_loadO one_3 rfl rfl rfl)) ?_
              refine .guardG (b := (v0.kind == 1)) (x := .ref 0 6) (env' := [(1, _)]) rfl rfl rfl ⟨.inl rfl, trivial⟩ rfl (fun hg => OpQ.g (q_fieldRef fo_31_6 rfl)) ?_
              refine .guardG (b := (v0.kind == 1)) (x := .d (cI v0.units)) (env' := [(71, _)]) rfl rfl rfl ⟨.inr (.inl rfl), trivial⟩ rfl (fun hg => OpQ.g (q_loadO one_3 rfl rfl rfl)) ?_
              obtain ⟨hk1, H⟩ := ck_some H
              refine .guardG (b := (v0.kind == 1)) (x := .d (cI (v0.start + v0.units))) (env' := [(70, _), (72, _)]) rfl rfl rfl ⟨.inr (.inl rfl), ⟨.inr (.inl rfl), trivial⟩⟩ rfl (fun hg => OpQ.g (q_addI rfl rfl (hk1 hg).1 (hk1 hg).2)) ?_
              refine .guardG (b := (v0.kind == 1)) (x := .d (cB (decide ((v0.start + v0.units) > 12622780800)))) (env' := [(73, _)]) rfl rfl rfl ⟨.inr (.inl rfl), trivial⟩ rfl (fun hg => OpQ.g (q_gtr rfl rfl)) ?_
              refine .q (x := .d (cB ((v0.kind == 1) && (decide ((v0.start + v0.units) > 12622780800))))) (q_pickAndB rfl rfl rfl) rfl ?_
              refine .q (x := .d (cB ((v0.kind == 1) && (decide ((v0.start + v0.units) > 12622780800))))) (q_assign rfl) rfl ?_
              refine .nil ?_
              refine .cond rfl (fun hc => ?_) (fun hc => ?_)
              · replace H := ifT hc H; clear hc
                refine .seq ?_
                refine .region ?_
                refine .q (x := .d (cI 15)) (q_assign rfl) rfl ?_
                refine .nil ?_
                refine .retN [.tmp 2] [.d (cI 15)] Tryd.func27 Tryd.results27 ⟨rfl, trivial⟩ ?_
                cases H
                exact ⟨_, .rfl' _, rfl⟩
              · replace H := ifF hc H; clear hc
                refine .seq ?_
                refine .region ?_
                refine .q (x := .ref 0 7) (q_fieldRef fo_31_7 rfl) rfl ?_
                refine .q (x := .d (cI v0.call)) (q_loadO one_3 rfl rfl rfl) rfl ?_
                obtain ⟨y8, hy8, H⟩ := bind_some' H
                refine .g (x := .d (cB y8)) (g_call en_37 rfl rfl (c_f_billingref09_in (hy8))) rfl ?_
                refine .q (x := .d (cB (!y8))) (q_not rfl) rfl ?_
                refine .q (x := .d (cB (!y8))) (q_move rfl) rfl ?_
                refine .guardG (b := (!(!y8))) (x := .ref 0 8) (env' := [(1, _)]) rfl rfl rfl ⟨.inl rfl, trivial⟩ rfl (fun hg => OpQ.g (q_fieldRef fo_31_8 rfl)) ?_
                refine .guardG (b := (!(!y8))) (x := .d (cI v0.part)) (env' := [(82, _)]) rfl rfl rfl ⟨.inr (.inl rfl), trivial⟩ rfl (fun hg => OpQ.g (q_loadO one_3 rfl rfl rfl)) ?_
                obtain ⟨y9, hy9, H⟩ := bind_some' H
                refine .guardG (b := (!(!y8))) (x := .d (cB y9)) (env' := [(83, _)]) rfl rfl rfl ⟨.inr (.inl rfl), trivial⟩ rfl (fun hg => (g_call en_37 rfl rfl (c_f_billingref09_in (gcall_some hy9 hg)))) ?_
                refine .guardG (b := (!(!y8))) (x := .d (cB (!y9))) (env' := [(84, _)]) rfl rfl rfl ⟨.inr (.inl rfl), trivial⟩ rfl (fun hg => OpQ.g (q_not rfl)) ?_
                refine .q (x := .d (cB ((!y8) || (!y9)))) (q_pickOrB rfl rfl rfl) rfl ?_
                refine .q (x := .d (cB ((!y8) || (!y9)))) (q_assign rfl) rfl ?_
                refine .nil ?_
                refine .cond rfl (fun hc => ?_) (fun hc => ?_)
                · replace H := ifT hc H; clear hc
                  refine .seq ?_
                  refine .region ?_
                  refine .q (x := .d (cI 6)) (q_assign rfl) rfl ?_
                  refine .nil ?_
                  refine .retN [.tmp 2] [.d (cI 6)] Tryd.func27 Tryd.results27 ⟨rfl, trivial⟩ ?_
                  cases H
                  exact ⟨_, .rfl' _, rfl⟩
                · replace H := ifF hc H; clear hc
                  refine .seq ?_
                  refine .region ?_
                  refine .q (x := .ref 0 8) (q_fieldRef fo_31_8 rfl) rfl ?_
                  refine .q (x := .d (cI v0.part)) (q_loadO one_3 rfl rfl rfl) rfl ?_
                  refine .q (x := .d (cB (v0.part == 0))) (q_eql rfl rfl) rfl ?_
                  refine .q (x := .ref 0 7) (q_fieldRef fo_31_7 rfl) rfl ?_
                  refine .q (x := .d (cI v0.call)) (q_loadO one_3 rfl rfl rfl) rfl ?_
                  refine .q (x := .d (cB (v0.call == 0))) (q_eql rfl rfl) rfl ?_
                  refine .q (x := .d (cB ((v0.part == 0) != (v0.call == 0)))) (q_bneq rfl Tryd.underlying4 rfl) rfl ?_
                  refine .q (x := .d (cB ((v0.part == 0) != (v0.call == 0)))) (q_move rfl) rfl ?_
                  refine .guardG (b := (!((v0.part == 0) != (v0.call == 0)))) (x := .ref 0 9) (env' := [(1, _)]) rfl rfl rfl ⟨.inl rfl, trivial⟩ rfl (fun hg => OpQ.g (q_fieldRef fo_31_9 rfl)) ?_
                  refine .guardG (b := (!((v0.part == 0) != (v0.call == 0)))) (x := .d (cB v0.last)) (env' := [(96, _)]) rfl rfl rfl ⟨.inr (.inl rfl), trivial⟩ rfl (fun hg => OpQ.g (q_loadO one_4 rfl rfl rfl)) ?_
                  refine .guardG (b := (!((v0.part == 0) != (v0.call == 0)))) (x := .d (cB v0.last)) (env' := [(97, _)]) rfl rfl rfl ⟨.inr (.inl rfl), trivial⟩ rfl (fun hg => OpQ.g (q_move rfl)) ?_
                  refine .guardG (b := ((!((v0.part == 0) != (v0.call == 0))) && v0.last)) (x := .ref 0 8) (env' := [(1, _)]) rfl rfl rfl ⟨.inl rfl, trivial⟩ rfl (fun hg => OpQ.g (q_fieldRef fo_31_8 rfl)) ?_
                  refine .guardG (b := ((!((v0.part == 0) != (v0.call == 0))) && v0.last)) (x := .d (cI v0.part)) (env' := [(99, _)]) rfl rfl rfl ⟨.inr (.inl rfl), trivial⟩ rfl (fun hg => OpQ.g (q_loadO one_3 rfl rfl rfl)) ?_
                  refine .guardG (b := ((!((v0.part == 0) != (v0.call == 0))) && v0.last)) (x := .d (cB (v0.part == 0))) (env' := [(100, _)]) rfl rfl rfl ⟨.inr (.inl rfl), trivial⟩ rfl (fun hg => OpQ.g (q_eql rfl rfl)) ?_
                  refine .guardG (b := (!((v0.part == 0) != (v0.call == 0)))) (x := .d (cB (v0.last && (v0.part == 0)))) (env' := [(98, _), (101, _)]) rfl rfl rfl ⟨.inr (.inl rfl), ⟨.inr (.inr ⟨_, _, rfl, rfl⟩), trivial⟩⟩ rfl (fun hg => OpQ.g (q_pickAndB rfl rfl rfl)) ?_
                  refine .q (x := .d (cB (((v0.part == 0) != (v0.call == 0)) || (v0.last && (v0.part == 0))))) (q_pickOrB rfl rfl rfl) rfl ?_
                  refine .q (x := .d (cB (((v0.part == 0) != (v0.call == 0)) || (v0.last && (v0.part == 0))))) (q_assign rfl) rfl ?_
                  refine .nil ?_
                  refine .cond rfl (fun hc => ?_) (fun hc => ?_)
                  · replace H := ifT hc H; clear hc
                    refine .seq ?_
                    refine .region ?_
                    refine .q (x := .d (cI 8)) (q_assign rfl) rfl ?_
                    refine .nil ?_
                    refine .retN [.tmp 2] [.d (cI 8)] Tryd.func27 Tryd.results27 ⟨rfl, trivial⟩ ?_
                    cases H
                    exact ⟨_, .rfl' _, rfl⟩
                  · replace H := ifF hc H; clear hc
                    refine .seq ?_
                    refine .region ?_
                    refine .q (x := .ref 0 10) (q_fieldRef fo_31_10 rfl) rfl ?_
                    refine .q (x := .d (cI v0.trunk)) (q_loadO one_3 rfl rfl rfl) rfl ?_
                    obtain ⟨y10, hy10, H⟩ := bind_some' H
                    refine .g (x := .d (cB y10)) (g_call en_37 rfl rfl (c_f_billingref09_in (hy10))) rfl ?_
                    refine .q (x := .d (cB (!y10))) (q_not rfl) rfl ?_
                    refine .q (x := .d (cB (!y10))) (q_assign rfl) rfl ?_
                    refine .nil ?_
                    refine .cond rfl (fun hc => ?_) (fun hc => ?_)
                    · replace H := ifT hc H; clear hc
                      refine .seq ?_
                      refine .region ?_
                      refine .q (x := .d (cI 6)) (q_assign rfl) rfl ?_
                      refine .nil ?_
                      refine .retN [.tmp 2] [.d (cI 6)] Tryd.func27 Tryd.results27 ⟨rfl, trivial⟩ ?_
                      cases H
                      exact ⟨_, .rfl' _, rfl⟩
                    · replace H := ifF hc H; clear hc
                      refine .seq ?_
                      refine .region ?_
                      refine .q (x := .ref 0 11) (q_fieldRef fo_31_11 rfl) rfl ?_
                      refine .q (x := .d (cB v0.inbound)) (q_loadO one_4 rfl rfl rfl) rfl ?_
                      refine .q (x := .d (cB v0.inbound)) (q_move rfl) rfl ?_
                      refine .guardG (b := v0.inbound) (x := .ref 0 10) (env' := [(1, _)]) rfl rfl rfl ⟨.inl rfl, trivial⟩ rfl (fun hg => OpQ.g (q_fieldRef fo_31_10 rfl)) ?_
                      refine .guardG (b := v0.inbound) (x := .d (cI v0.trunk)) (env' := [(113, _)]) rfl rfl rfl ⟨.inr (.inl rfl), trivial⟩ rfl (fun hg => OpQ.g (q_loadO one_3 rfl rfl rfl)) ?_
                      refine .guardG (b := v0.inbound) (x := .d (cB (v0.trunk == 0))) (env' := [(114, _)]) rfl rfl rfl ⟨.inr (.inl rfl), trivial⟩ rfl (fun hg => OpQ.g (q_eql rfl rfl)) ?_
                      refine .q (x := .d (cB (v0.inbound && (v0.trunk == 0)))) (q_pickAndB rfl rfl rfl) rfl ?_
                      refine .q (x := .d (cB (v0.inbound && (v0.trunk == 0)))) (q_assign rfl) rfl ?_
                      refine .nil ?_
                      refine .cond rfl (fun hc => ?_) (fun hc => ?_)
                      · replace H := ifT hc H; clear hc
                        refine .seq ?_
                        refine .region ?_
                        refine .q (x := .d (cI 8)) (q_assign rfl) rfl ?_
                        refine .nil ?_
                        refine .retN [.tmp 2] [.d (cI 8)] Tryd.func27 Tryd.results27 ⟨rfl, trivial⟩ ?_
                        cases H
                        exact ⟨_, .rfl' _, rfl⟩
                      · replace H := ifF hc H; clear hc
                        refine .skip ?_
                        refine .inBlock ?_
                        refine .seq ?_
                        refine .region ?_
                        refine .q (x := .d (cI 0)) (q_assign rfl) rfl ?_
                        refine .nil ?_
                        refine .retN [.tmp 2] [.d (cI 0)] Tryd.func27 Tryd.results27 ⟨rfl, trivial⟩ ?_
                        cases H
                        exact ⟨_, .rfl' _, rfl⟩

set_option maxRecDepth 100000 in
set_option maxHeartbeats 1000000 in
theorem c_f_billingref11_digits {v0s : List UInt8} {r : (List UInt8)} (H : f_billingref11_digits v0s = some r) : ACall Tryd.prog 28 [cS v0s] (· = slOf 1 rB8 r) := by
  obtain ⟨i5, hi5, hz5, hs5, hb5⟩ := in_5
  refine ACall.enter' Tryd.func28 rfl Tryd.ntmps28 rfl fun S hS => ?_
  unfold f_billingref11_digits at H
  change ARun _ _ _ _ _ _ [(0, .d (cS v0s))] _
  refine .seq ?_
  refine .region ?_
  refine .q (x := .d (nilD)) (q_assign rfl) rfl ?_
  refine .nil ?_
  refine .seq ?_
  refine .region ?_
  obtain ⟨hk1, H⟩ := ck_some H
  refine .v (x := .vc 0 ((List.replicate (Int.toNat (8)) 0 : List UInt8).length)) (v_makeV (row := rB8) (a := 8) (b := 8) (a0 := 0) Tryd.underlying22 hi5 hz5 hs5 rfl (by rw [hb5]; decide) rfl rfl rfl hk1) rfl ?_
  refine .withSt (st' := ⟨[], [⟨5, 1, ((List.replicate (Int.toNat (8)) 0 : List UInt8).length), some ((List.replicate (Int.toNat (8)) 0 : List UInt8).map rB8)⟩]⟩) rfl ?_
  refine .q (x := .vc 0 ((List.replicate (Int.toNat (8)) 0 : List UInt8).length)) (q_assign rfl) rfl ?_
  refine .nil ?_
  refine .seq ?_
  refine .region ?_
  refine .q (x := .vc 0 ((List.replicate (Int.toNat (8)) 0 : List UInt8).length)) (q_move rfl) rfl ?_
  refine .q (x := .d (cS v0s)) (q_move rfl) rfl ?_
  refine .q (x := .d (cI (v0s.length : Int))) (q_lenS Tryd.underlying9 rfl) rfl ?_
  obtain ⟨hk2, H⟩ := ck_some H
  refine .q (x := .d (cI ((v0s.length : Int) * 16))) (q_mulI rfl rfl hk2.1 hk2.2) rfl ?_
  refine .q (x := .d (cU8 (UInt8.ofInt ((v0s.length : Int) * 16)))) (q_conv8 Tryd.underlying3 Tryd.underlying5 rfl) rfl ?_
  obtain ⟨hk3, H⟩ := ck_some H
  refine .q (x := .vp 0 ((List.replicate (Int.toNat (8)) 0 : List UInt8).length) (Int.toNat (0)) 0) (q_idxV (l := (List.replicate (Int.toNat (8)) 0 : List UInt8)) (row := rB8) (i := 0) Tryd.underlying22 hi5 hs5 rfl rfl rfl hk3) rfl ?_
  obtain ⟨hk4, H⟩ := ck_some H
  refine .u (u_storeV (l := (List.replicate (Int.toNat (8)) 0 : List UInt8)) (row := rB8) (a := UInt8.ofInt ((v0s.length : Int) * 16)) rfl rfl hk4 rfl rfl sz_5 rfl (Nat.le_of_ble_eq_true rfl) rfl) rfl ?_
  refine .withSt (st' := ⟨[], [⟨5, 1, ((List.replicate (Int.toNat (8)) 0 : List UInt8).length), some (((List.replicate (Int.toNat (8)) 0 : List UInt8).set (Int.toNat (0)) (UInt8.ofInt ((v0s.length : Int) * 16))).map rB8)⟩]⟩) rfl ?_
  refine .nil ?_
  refine .seq ?_
  refine .seq ?_
  refine .region ?_
  refine .q (x := .d (cI 0)) (q_assign rfl) rfl ?_
  refine .nil ?_
  refine .block ?_
  obtain ⟨n1, H⟩ := loop_some H
  refine .normV (l := (List.replicate (Int.toNat (8)) 0 : List UInt8).set (Int.toNat (0)) (UInt8.ofInt ((v0s.length : Int) * 16))) (row := rB8) (tk := 0) (fun z => [(0, .d (cS v0s)), (3, .vc 0 z), (4, .d (cI 0))]) (fun z => ⟨[], [⟨5, 1, z, some (((List.replicate (Int.toNat (8)) 0 : List UInt8).set (Int.toNat (0)) (UInt8.ofInt ((v0s.length : Int) * 16))).map rB8)⟩]⟩) rfl (.cons rfl (.rfl' _) (.cons rfl (.rfl' _) (.cons rfl (.rfl' _) (.nil)))) rfl ?_
  refine .withSt (st' := ⟨[], [⟨5, 1, ((List.replicate (Int.toNat (8)) 0 : List UInt8).set (Int.toNat (0)) (UInt8.ofInt ((v0s.length : Int) * 16))).length, some (((List.replicate (Int.toNat (8)) 0 : List UInt8).set (Int.toNat (0)) (UInt8.ofInt ((v0s.length : Int) * 16))).map rB8)⟩]⟩) rfl <| .loop (ι := Nat × (List UInt8 × Int)) (fun p => [(0, .d (cS v0s)), (3, .vc 0 p.2.1.length), (4, .d (cI p.2.2))]) (fun p => ⟨[], [⟨5, 1, p.2.1.length, some (p.2.1.map rB8)⟩]⟩) (fun p => iter (fun s => f_billingref11_digits_l1 v0s s.1 s.2) p.1 p.2 = some r) (·.1) (n1, ((List.replicate (Int.toNat (8)) 0 : List UInt8).set (Int.toNat (0)) (UInt8.ofInt ((v0s.length : Int) * 16)), 0)) H (.cons rfl (.rfl' _) (.cons rfl (.rfl' _) (.cons rfl (.rfl' _) (.nil)))) rfl ?_
  rintro ⟨m1, y0tl1, v4il1⟩ HI ih1
  obtain ⟨n1, q1, hm1, H, HK1⟩ := iter_succ HI
  clear HI
  replace H : f_billingref11_digits_l1 v0s y0tl1 v4il1 = some q1 := H
  unfold f_billingref11_digits_l1 at H
  change ARun _ _ _ _ _ _ [(0, .d (cS v0s)), (3, .vc 0 y0tl1.length), (4, .d (cI v4il1))] ⟨[], [⟨5, 1, y0tl1.length, some (y0tl1.map rB8)⟩]⟩
  refine .seq ?_
  refine .seq ?_
  refine .region ?_
  refine .q (x := .d (cI v4il1)) (q_move rfl) rfl ?_
  refine .q (x := .d (cS v0s)) (q_move rfl) rfl ?_
  refine .q (x := .d (cI (v0s.length : Int))) (q_lenS Tryd.underlying9 rfl) rfl ?_
  refine .q (x := .d (cB (decide (v4il1 < (v0s.length : Int))))) (q_lss rfl rfl) rfl ?_
  refine .nil ?_
  refine .cond rfl (fun hc => ?_) (fun hc => ?_)
  · replace H := ifT hc H; clear hc
    refine .skip ?_
    refine .seq ?_
    refine .block ?_
    refine .seq ?_
    refine .region ?_
    refine .q (x := .d (cI v4il1)) (q_move rfl) rfl ?_
    obtain ⟨hk5, H⟩ := ck_some H
    refine .q (x := .d (cI (v4il1 + 1))) (q_addI rfl rfl hk5.1 hk5.2) rfl ?_
    refine .q (x := .d (cI (v4il1 + 1))) (q_assign rfl) rfl ?_
    refine .nil ?_
    refine .seq ?_
    refine .region ?_
    refine .q (x := .d (cI (v4il1 + 1))) (q_move rfl) rfl ?_
    obtain ⟨hk6, H⟩ := ck_some H
    refine .q (x := .d (cI (Int.tmod (v4il1 + 1) 2))) (q_remT rfl rfl hk6) rfl ?_
    refine .q (x := .d (cB ((Int.tmod (v4il1 + 1) 2) == 0))) (q_eql rfl rfl) rfl ?_
    refine .nil ?_
    refine .cond rfl (fun hc => ?_) (fun hc => ?_)
    · replace H := ifT hc H; clear hc
      refine .drawn 15 hMix (by kernel_rfl) ?_
      show DOps _ _ _ _ _ _ _ (_ :: _) _ _ _
      refine .q (x := .vc 0 y0tl1.length) (q_move rfl) rfl ?_
      refine .q (x := .d (cI (v4il1 + 1))) (q_move rfl) rfl ?_
      obtain ⟨hk7, H⟩ := ck_some H
      refine .q (x := .d (cI (Int.tdiv (v4il1 + 1) 2))) (q_quoT rfl rfl hk7) rfl ?_
      refine .q (x := .vc 0 y0tl1.length) (q_move rfl) rfl ?_
      refine .q (x := .d (cI (v4il1 + 1))) (q_move rfl) rfl ?_
      obtain ⟨hk8, H⟩ := ck_some H
      refine .q (x := .d (cI (Int.tdiv (v4il1 + 1) 2))) (q_quoT rfl rfl hk8) rfl ?_
      obtain ⟨hk9, H⟩ := ck_some H
      refine .q (x := .vp 0 y0tl1.length (Int.toNat (Int.tdiv (v4il1 + 1) 2)) 0) (q_idxV (l := y0tl1) (row := rB8) (i := Int.tdiv (v4il1 + 1) 2) Tryd.underlying22 hi5 hs5 rfl rfl rfl hk9) rfl ?_
      obtain ⟨hk10, H⟩ := ck_some H
      refine .q (x := .d (cU8 (nth y0tl1 (Int.toNat (Int.tdiv (v4il1 + 1) 2))))) (q_loadVp (l := y0tl1) (row := rB8) one_5 rfl rfl hk10 rfl) rfl ?_
      refine .q (x := .d (cS v0s)) (q_move rfl) rfl ?_
      refine .q (x := .d (cI v4il1)) (q_move rfl) rfl ?_
      obtain ⟨hk11, H⟩ := ck_some H
      refine .q (x := .d (cU8 (nth v0s (Int.toNat (v4il1))))) (q_indexL (i := v4il1) Tryd.underlying9 rfl rfl hk11) rfl ?_
      refine .q (x := .d (cU8 ((nth v0s (Int.toNat (v4il1))) - 48))) (q8_sub (a := nth v0s (Int.toNat (v4il1))) (b := 48) rfl rfl) rfl ?_
      refine .q (x := .d (cU8 (((nth v0s (Int.toNat (v4il1))) - 48) * 16))) (q8_mul (a := (nth v0s (Int.toNat (v4il1))) - 48) (b := 16) rfl rfl) rfl ?_
      refine .q (x := .d (cU8 ((nth y0tl1 (Int.toNat (Int.tdiv (v4il1 + 1) 2))) + (((nth v0s (Int.toNat (v4il1))) - 48) * 16)))) (q8_add (a := nth y0tl1 (Int.toNat (Int.tdiv (v4il1 + 1) 2))) (b := ((nth v0s (Int.toNat (v4il1))) - 48) * 16) rfl rfl) rfl ?_
      obtain ⟨hk12, H⟩ := ck_some H
      refine .q (x := .vp 0 y0tl1.length (Int.toNat (Int.tdiv (v4il1 + 1) 2)) 0) (q_idxV (l := y0tl1) (row := rB8) (i := Int.tdiv (v4il1 + 1) 2) Tryd.underlying22 hi5 hs5 rfl rfl rfl hk12) rfl ?_
      refine .nil ?_
      show AOps _ _ _ _ _ _ (_ :: _) _ _ _
      obtain ⟨hk13, H⟩ := ck_some H
      refine .u (u_storeV (l := y0tl1) (row := rB8) (a := (nth y0tl1 (Int.toNat (Int.tdiv (v4il1 + 1) 2))) + (((nth v0s (Int.toNat (v4il1))) - 48) * 16)) rfl rfl hk13 rfl rfl sz_5 rfl (Nat.le_of_ble_eq_true rfl) rfl) rfl ?_
      refine .withSt (st' := ⟨[], [⟨5, 1, y0tl1.length, some ((y0tl1.set (Int.toNat (Int.tdiv (v4il1 + 1) 2)) ((nth y0tl1 (Int.toNat (Int.tdiv (v4il1 + 1) 2))) + (((nth v0s (Int.toNat (v4il1))) - 48) * 16))).map rB8)⟩]⟩) rfl ?_
      refine .nil ?_
      refine .inBlock ?_
      refine .region ?_
      refine .q (x := .d (cI v4il1)) (q_move rfl) rfl ?_
      obtain ⟨hk14, H⟩ := ck_some H
      refine .q (x := .d (cI (v4il1 + 1))) (q_addI rfl rfl hk14.1 hk14.2) rfl ?_
      refine .q (x := .d (cI (v4il1 + 1))) (q_assign rfl) rfl ?_
      refine .nil ?_
      cases H
      refine .normV (l := y0tl1.set (Int.toNat (Int.tdiv (v4il1 + 1) 2)) ((nth y0tl1 (Int.toNat (Int.tdiv (v4il1 + 1) 2))) + (((nth v0s (Int.toNat (v4il1))) - 48) * 16))) (row := rB8) (tk := 0) (fun z => [(0, .d (cS v0s)), (3, .vc 0 z), (4, .d (cI (v4il1 + 1)))]) (fun z => ⟨[], [⟨5, 1, z, some ((y0tl1.set (Int.toNat (Int.tdiv (v4il1 + 1) 2)) ((nth y0tl1 (Int.toNat (Int.tdiv (v4il1 + 1) 2))) + (((nth v0s (Int.toNat (v4il1))) - 48) * 16))).map rB8)⟩]⟩) rfl (.cons rfl (.rfl' _) (.cons rfl (.rfl' _) (.cons rfl (.rfl' _) (.nil)))) rfl ?_
      exact .withSt (st' := ⟨[], [⟨5, 1, (y0tl1.set (Int.toNat (Int.tdiv (v4il1 + 1) 2)) ((nth y0tl1 (Int.toNat (Int.tdiv (v4il1 + 1) 2))) + (((nth v0s (Int.toNat (v4il1))) - 48) * 16))).length, some ((y0tl1.set (Int.toNat (Int.tdiv (v4il1 + 1) 2)) ((nth y0tl1 (Int.toNat (Int.tdiv (v4il1 + 1) 2))) + (((nth v0s (Int.toNat (v4il1))) - 48) * 16))).map rB8)⟩]⟩) rfl <| .sub (.cons rfl (.rfl' _) (.cons rfl (.rfl' _) (.cons rfl (.rfl' _) (.nil)))) (ih1 (n1, (y0tl1.set (Int.toNat (Int.tdiv (v4il1 + 1) 2)) ((nth y0tl1 (Int.toNat (Int.tdiv (v4il1 + 1) 2))) + (((nth v0s (Int.toNat (v4il1))) - 48) * 16)), v4il1 + 1)) HK1 hm1)
    · replace H := ifF hc H; clear hc
      refine .drawn 14 hMix (by kernel_rfl) ?_
      show DOps _ _ _ _ _ _ _ (_ :: _) _ _ _
      refine .q (x := .vc 0 y0tl1.length) (q_move rfl) rfl ?_
      refine .q (x := .d (cI (v4il1 + 1))) (q_move rfl) rfl ?_
      obtain ⟨hk15, H⟩ := ck_some H
      refine .q (x := .d (cI (Int.tdiv (v4il1 + 1) 2))) (q_quoT rfl rfl hk15) rfl ?_
      refine .q (x := .vc 0 y0tl1.length) (q_move rfl) rfl ?_
      refine .q (x := .d (cI (v4il1 + 1))) (q_move rfl) rfl ?_
      obtain ⟨hk16, H⟩ := ck_some H
      refine .q (x := .d (cI (Int.tdiv (v4il1 + 1) 2))) (q_quoT rfl rfl hk16) rfl ?_
      obtain ⟨hk17, H⟩ := ck_some H
      refine .q (x := .vp 0 y0tl1.length (Int.toNat (Int.tdiv (v4il1 + 1) 2)) 0) (q_idxV (l := y0tl1) (row := rB8) (i := Int.tdiv (v4il1 + 1) 2) Tryd.underlying22 hi5 hs5 rfl rfl rfl hk17) rfl ?_
      obtain ⟨hk18, H⟩ := ck_some H
      refine .q (x := .d (cU8 (nth y0tl1 (Int.toNat (Int.tdiv (v4il1 + 1) 2))))) (q_loadVp (l := y0tl1) (row := rB8) one_5 rfl rfl hk18 rfl) rfl ?_
      refine .q (x := .d (cS v0s)) (q_move rfl) rfl ?_
      refine .q (x := .d (cI v4il1)) (q_move rfl) rfl ?_
      obtain ⟨hk19, H⟩ := ck_some H
      refine .q (x := .d (cU8 (nth v0s (Int.toNat (v4il1))))) (q_indexL (i := v4il1) Tryd.underlying9 rfl rfl hk19) rfl ?_
      refine .q (x := .d (cU8 ((nth v0s (Int.toNat (v4il1))) - 48))) (q8_sub (a := nth v0s (Int.toNat (v4il1))) (b := 48) rfl rfl) rfl ?_
      refine .q (x := .d (cU8 ((nth y0tl1 (Int.toNat (Int.tdiv (v4il1 + 1) 2))) + ((nth v0s (Int.toNat (v4il1))) - 48)))) (q8_add (a := nth y0tl1 (Int.toNat (Int.tdiv (v4il1 + 1) 2))) (b := (nth v0s (Int.toNat (v4il1))) - 48) rfl rfl) rfl ?_
      obtain ⟨hk20, H⟩ := ck_some H
      refine .q (x := .vp 0 y0tl1.length (Int.toNat (Int.tdiv (v4il1 + 1) 2)) 0) (q_idxV (l := y0tl1) (row := rB8) (i := Int.tdiv (v4il1 + 1) 2) Tryd.underlying22 hi5 hs5 rfl rfl rfl hk20) rfl ?_
      refine .nil ?_
      show AOps _ _ _ _ _ _ (_ :: _) _ _ _
      obtain ⟨hk21, H⟩ := ck_some H
      refine .u (u_storeV (l := y0tl1) (row := rB8) (a := (nth y0tl1 (Int.toNat (Int.tdiv (v4il1 + 1) 2))) + ((nth v0s (Int.toNat (v4il1))) - 48)) rfl rfl hk21 rfl rfl sz_5 rfl (Nat.le_of_ble_eq_true rfl) rfl) rfl ?_
      refine .withSt (st' := ⟨[], [⟨5, 1, y0tl1.length, some ((y0tl1.set (Int.toNat (Int.tdiv (v4il1 + 1) 2)) ((nth y0tl1 (Int.toNat (Int.tdiv (v4il1 + 1) 2))) + ((nth v0s (Int.toNat (v4il1))) - 48))).map rB8)⟩]⟩) rfl ?_
      refine .nil ?_
      refine .inBlock ?_
      refine .region ?_
      refine .q (x := .d (cI v4il1)) (q_move rfl) rfl ?_
      obtain ⟨hk22, H⟩ := ck_some H
      refine .q (x := .d (cI (v4il1 + 1))) (q_addI rfl rfl hk22.1 hk22.2) rfl ?_
      refine .q (x := .d (cI (v4il1 + 1))) (q_assign rfl) rfl ?_
      refine .nil ?_
      cases H
      refine .normV (l := y0tl1.set (Int.toNat (Int.tdiv (v4il1 + 1) 2)) ((nth y0tl1 (Int.toNat (Int.tdiv (v4il1 + 1) 2))) + ((nth v0s (Int.toNat (v4il1))) - 48))) (row := rB8) (tk := 0) (fun z => [(0, .d (cS v0s)), (3, .vc 0 z), (4, .d (cI (v4il1 + 1)))]) (fun z => ⟨[], [⟨5, 1, z, some ((y0tl1.set (Int.toNat (Int.tdiv (v4il1 + 1) 2)) ((nth y0tl1 (Int.toNat (Int.tdiv (v4il1 + 1) 2))) + ((nth v0s (Int.toNat (v4il1))) - 48))).map rB8)⟩]⟩) rfl (.cons rfl (.rfl' _) (.cons rfl (.rfl' _) (.cons rfl (.rfl' _) (.nil)))) rfl ?_
      exact .withSt (st' := ⟨[], [⟨5, 1, (y0tl1.set (Int.toNat (Int.tdiv (v4il1 + 1) 2)) ((nth y0tl1 (Int.toNat (Int.tdiv (v4il1 + 1) 2))) + ((nth v0s (Int.toNat (v4il1))) - 48))).length, some ((y0tl1.set (Int.toNat (Int.tdiv (v4il1 + 1) 2)) ((nth y0tl1 (Int.toNat (Int.tdiv (v4il1 + 1) 2))) + ((nth v0s (Int.toNat (v4il1))) - 48))).map rB8)⟩]⟩) rfl <| .sub (.cons rfl (.rfl' _) (.cons rfl (.rfl' _) (.cons rfl (.rfl' _) (.nil)))) (ih1 (n1, (y0tl1.set (Int.toNat (Int.tdiv (v4il1 + 1) 2)) ((nth y0tl1 (Int.toNat (Int.tdiv (v4il1 + 1) 2))) + ((nth v0s (Int.toNat (v4il1))) - 48)), v4il1 + 1)) HK1 hm1)
  · replace H := ifF hc H; clear hc
    refine .exit rfl ?_
    refine .seq ?_
    refine .region ?_
    refine .q (x := .vc 0 y0tl1.length) (q_move rfl) rfl ?_
    refine .q (x := .vc 0 y0tl1.length) (q_assign rfl) rfl ?_
    refine .nil ?_
    refine .freezeL (l := y0tl1) (row := rB8) (i := 2) rfl rfl ?_
    refine .withSt (st' := ⟨[], [⟨5, 1, y0tl1.length, none⟩]⟩) rfl ?_
    refine .retN [.tmp 2] [.tsl 1 (y0tl1.map rB8) 0] Tryd.func28 Tryd.results28 ⟨rfl, trivial⟩ ?_
    cases H
    cases HK1
    exact ⟨_, .tsl _ _ _, rfl⟩

set_option maxRecDepth 100000 in
set_option maxHeartbeats 1000000 in
theorem c_f_billingref11_sum {v0b : List UInt8} {r : UInt8} (H : f_billingref11_sum v0b = some r) : ACall Tryd.prog 29 [slOf 1 rB8 v0b] (· = cU8 r) := by
  obtain ⟨i5, hi5, hz5, hs5, hb5⟩ := in_5
  refine ACall.enter' Tryd.func29 rfl Tryd.ntmps29 rfl fun S hS => ?_
  unfold f_billingref11_sum at H
  change ARun _ _ _ _ _ _ [(0, .d (slOf 1 rB8 v0b))] _
  refine .seq ?_
  refine .region ?_
  refine .q (x := .d (cU8 0)) (q_assign rfl) rfl ?_
  refine .nil ?_
  refine .seq ?_
  refine .region ?_
  refine .q (x := .d (cI 0)) (q_assign rfl) rfl ?_
  refine .nil ?_
  refine .seq ?_
  refine .seq ?_
  refine .region ?_
  refine .q (x := .d (cI 0)) (q_assign rfl) rfl ?_
  refine .nil ?_
  refine .block ?_
  obtain ⟨n1, H⟩ := loop_some H
  refine .loop (ι := Nat × (Int × Int)) (fun p => [(0, .d (slOf 1 rB8 v0b)), (3, .d (cI p.2.1)), (4, .d (cI p.2.2))]) (fun p => ⟨[], []⟩) (fun p => iter (fun s => f_billingref11_sum_l1 v0b s.1 s.2) p.1 p.2 = some r) (·.1) (n1, (0, 0)) H (.cons rfl (.rfl' _) (.cons rfl (.rfl' _) (.cons rfl (.rfl' _) (.nil)))) rfl ?_
  rintro ⟨m1, v3nl1, v4il1⟩ HI ih1
  obtain ⟨n1, q1, hm1, H, HK1⟩ := iter_succ HI
  clear HI
  replace H : f_billingref11_sum_l1 v0b v3nl1 v4il1 = some q1 := H
  unfold f_billingref11_sum_l1 at H
  change ARun _ _ _ _ _ _ [(0, .d (slOf 1 rB8 v0b)), (3, .d (cI v3nl1)), (4, .d (cI v4il1))] ⟨[], []⟩
  refine .seq ?_
  refine .seq ?_
  refine .region ?_
  refine .q (x := .d (cI v4il1)) (q_move rfl) rfl ?_
  refine .q (x := .d (slOf 1 rB8 v0b)) (q_move rfl) rfl ?_
  refine .q (x := .d (cI (v0b.length : Int))) (q_lenL (l := v0b) (row := rB8) Tryd.underlying22 rfl rfl) rfl ?_
  refine .q (x := .d (cB (decide (v4il1 < (v0b.length : Int))))) (q_lss rfl rfl) rfl ?_
  refine .nil ?_
  refine .cond rfl (fun hc => ?_) (fun hc => ?_)
  · replace H := ifT hc H; clear hc
    refine .skip ?_
    refine .seq ?_
    refine .block ?_
    refine .region ?_
    refine .q (x := .d (cI v3nl1)) (q_move rfl) rfl ?_
    refine .q (x := .d (slOf 1 rB8 v0b)) (q_move rfl) rfl ?_
    refine .q (x := .d (cI v4il1)) (q_move rfl) rfl ?_
    obtain ⟨hk1, H⟩ := ck_some H
    refine .q (x := .d (.ro (rB8 (nth v0b (Int.toNat (v4il1)))))) (q_idxL (row := rB8) (l := v0b) (i := v4il1) Tryd.underlying22 hi5 hs5 rfl rfl rfl hk1) rfl ?_
    refine .q (x := .d (cU8 (nth v0b (Int.toNat (v4il1))))) (q_load one_5 rfl) rfl ?_
    refine .q (x := .d (cI ((nth v0b (Int.toNat (v4il1))).toNat : Int))) (q_conv8i (a := nth v0b (Int.toNat (v4il1))) Tryd.underlying5 Tryd.underlying3 rfl) rfl ?_
    obtain ⟨hk2, H⟩ := ck_some H
    refine .q (x := .d (cI (v3nl1 + ((nth v0b (Int.toNat (v4il1))).toNat : Int)))) (q_addI rfl rfl hk2.1 hk2.2) rfl ?_
    obtain ⟨hk3, H⟩ := ck_some H
    refine .q (x := .d (cI (Int.tmod (v3nl1 + ((nth v0b (Int.toNat (v4il1))).toNat : Int)) 256))) (q_remT rfl rfl hk3) rfl ?_
    refine .q (x := .d (cI (Int.tmod (v3nl1 + ((nth v0b (Int.toNat (v4il1))).toNat : Int)) 256))) (q_assign rfl) rfl ?_
    refine .nil ?_
    refine .inBlock ?_
    refine .region ?_
    refine .q (x := .d (cI v4il1)) (q_move rfl) rfl ?_
    obtain ⟨hk4, H⟩ := ck_some H
    refine .q (x := .d (cI (v4il1 + 1))) (q_addI rfl rfl hk4.1 hk4.2) rfl ?_
    refine .q (x := .d (cI (v4il1 + 1))) (q_assign rfl) rfl ?_
    refine .nil ?_
    cases H
    exact .sub (.cons rfl (.rfl' _) (.cons rfl (.rfl' _) (.cons rfl (.rfl' _) (.nil)))) (ih1 (n1, (Int.tmod (v3nl1 + ((nth v0b (Int.toNat (v4il1))).toNat : Int)) 256, v4il1 + 1)) HK1 hm1)
  · replace H := ifF hc H; clear hc
    refine .exit rfl ?_
    refine .seq ?_
    refine .region ?_
    refine .q (x := .d (cI v3nl1)) (q_move rfl) rfl ?_
    refine .q (x := .d (cU8 (UInt8.ofInt v3nl1))) (q_conv8 Tryd.underlying3 Tryd.underlying5 rfl) rfl ?_
    refine .q (x := .d (cU8 (UInt8.ofInt v3nl1))) (q_assign rfl) rfl ?_
    refine .nil ?_
    refine .retN [.tmp 2] [.d (cU8 (UInt8.ofInt v3nl1))] Tryd.func29 Tryd.results29 ⟨rfl, trivial⟩ ?_
    cases H
    cases HK1
    exact ⟨_, .rfl' _, rfl⟩

set_option maxRecDepth 100000 in
set_option maxHeartbeats 1000000 in
theorem c_g_billingref11_PutDecimal {v0b : List UInt8} {v1n : Int} {v2size : Int} {r : (List UInt8) × Int} (H : f_billingref11_PutDecimal v0b v1n v2size = some r) : ACallS Tryd.prog 10 [.d (slOf 1 rB8 v0b), .d (cI v1n), .d (cI v2size)] ⟨[], []⟩ (QE (.tup [.tsl 1 (r.1.map rB8) 0, .d (cI r.2)]) ⟨[], [⟨5, 1, r.1.length, none⟩]⟩) := by
  obtain ⟨i5, hi5, hz5, hs5, hb5⟩ := in_5
  refine ACallS.keep ?_
  refine ACallS.enter Tryd.func10 rfl Tryd.ntmps10 rfl fun S hS => ?_
  unfold f_billingref11_PutDecimal at H
  change ARun _ _ _ _ _ _ [(0, .d (slOf 1 rB8 v0b)), (1, .d (cI v1n)), (2, .d (cI v2size))] _
  refine .seq ?_
  refine .region ?_
  refine .q (x := .d (nilD)) (q_assign rfl) rfl ?_
  refine .q (x := .d (cI 0)) (q_assign rfl) rfl ?_
  refine .nil ?_
  refine .seq ?_
  refine .seq ?_
  refine .region ?_
  refine .q (x := .d (cI v2size)) (q_move rfl) rfl ?_
  refine .q (x := .d (cB (decide (v2size < 1)))) (q_lss rfl rfl) rfl ?_
  refine .q (x := .d (cB (decide (v2size < 1)))) (q_move rfl) rfl ?_
  refine .guardG (b := (!(decide (v2size < 1)))) (x := .d (cI v2size)) (env' := [(2, _)]) rfl rfl rfl ⟨.inl rfl, trivial⟩ rfl (fun hg => OpQ.g (q_move rfl)) ?_
  refine .guardG (b := (!(decide (v2size < 1)))) (x := .d (cB (decide (v2size > 9)))) (env' := [(13, _)]) rfl rfl rfl ⟨.inr (.inl rfl), trivial⟩ rfl (fun hg => OpQ.g (q_gtr rfl rfl)) ?_
  refine .q (x := .d (cB ((decide (v2size < 1)) || (decide (v2size > 9))))) (q_pickOrB rfl rfl rfl) rfl ?_
  refine .q (x := .d (cB ((decide (v2size < 1)) || (decide (v2size > 9))))) (q_move rfl) rfl ?_
  refine .guardG (b := (!((decide (v2size < 1)) || (decide (v2size > 9))))) (x := .d (cI v1n)) (env' := [(1, _)]) rfl rfl rfl ⟨.inl rfl, trivial⟩ rfl (fun hg => OpQ.g (q_move rfl)) ?_
  refine .guardG (b := (!((decide (v2size < 1)) || (decide (v2size > 9))))) (x := .d (cB (decide (v1n < 0)))) (env' := [(17, _)]) rfl rfl rfl ⟨.inr (.inl rfl), trivial⟩ rfl (fun hg => OpQ.g (q_lss rfl rfl)) ?_
  refine .q (x := .d (cB (((decide (v2size < 1)) || (decide (v2size > 9))) || (decide (v1n < 0))))) (q_pickOrB rfl rfl rfl) rfl ?_
  refine .nil ?_
  refine .cond rfl (fun hc => ?_) (fun hc => ?_)
  · replace H := ifT hc H; clear hc
    refine .seq ?_
    refine .region ?_
    refine .q (x := .d (nilD)) (q_assign rfl) rfl ?_
    refine .q (x := .d (cI 6)) (q_assign rfl) rfl ?_
    refine .nil ?_
    refine .tok (i := 6) (e := 5) (sz := 1) rfl ?_
    refine .withSt (st' := ⟨[], [⟨5, 1, ([] : List UInt8).length, none⟩]⟩) rfl ?_
    refine .retN [.tmp 6, .tmp 7] [.tsl 1 (([] : List UInt8).map rB8) 0, .d (cI 6)] Tryd.func10 Tryd.results10 ⟨rfl, rfl, trivial⟩ ?_
    cases H
    exact ⟨[], [0], rfl, rfl, rfl, rfl, rfl, rfl, rfl, rfl, .tupE ⟨.rfl' _, .rfl' _, trivial⟩⟩
  · replace H := ifF hc H; clear hc
    refine .skip ?_
    refine .seq ?_
    refine .region ?_
    refine .q (x := .d (cI v2size)) (q_move rfl) rfl ?_
    obtain ⟨hk1, H⟩ := ck_some H
    refine .v (x := .vc 0 ((List.replicate (Int.toNat (v2size)) 0 : List UInt8).length)) (v_makeV (row := rB8) (a := v2size) (b := v2size) (a0 := 0) Tryd.underlying22 hi5 hz5 hs5 rfl (by rw [hb5]; decide) rfl rfl rfl hk1) rfl ?_
    refine .withSt (st' := ⟨[], [⟨5, 1, ((List.replicate (Int.toNat (v2size)) 0 : List UInt8).length), some ((List.replicate (Int.toNat (v2size)) 0 : List UInt8).map rB8)⟩]⟩) rfl ?_
    refine .q (x := .vc 0 ((List.replicate (Int.toNat (v2size)) 0 : List UInt8).length)) (q_assign rfl) rfl ?_
    refine .nil ?_
    refine .seq ?_
    refine .seq ?_
    refine .region ?_
    refine .q (x := .d (cI v2size)) (q_move rfl) rfl ?_
    obtain ⟨hk2, H⟩ := ck_some H
    refine .q (x := .d (cI (v2size - 1))) (q_subI rfl rfl hk2.1 hk2.2) rfl ?_
    refine .q (x := .d (cI (v2size - 1))) (q_assign rfl) rfl ?_
    refine .nil ?_
    refine .blockJoin2 (ι := List UInt8 × Int) (fun s => [(0, .d (slOf 1 rB8 v0b)), (1, .d (cI s.2)), (8, .vc 0 s.1.length)]) (fun s => ⟨[], [⟨5, 1, s.1.length, some (s.1.map rB8)⟩]⟩) (fun s => f_billingref11_PutDecimal_j1 v0b s.1 s.2 = some r) ?_ ?_
    · rintro ⟨y0tj1, v1nj1⟩ H
      replace H : f_billingref11_PutDecimal_j1 v0b y0tj1 v1nj1 = some r := H
      unfold f_billingref11_PutDecimal_j1 at H
      change ARun _ _ _ _ _ _ [(0, .d (slOf 1 rB8 v0b)), (1, .d (cI v1nj1)), (8, .vc 0 y0tj1.length)] ⟨[], [⟨5, 1, y0tj1.length, some (y0tj1.map rB8)⟩]⟩
      refine .seq ?_
      refine .seq ?_
      refine .region ?_
      refine .q (x := .d (cI v1nj1)) (q_move rfl) rfl ?_
      refine .q (x := .d (cB (decide (v1nj1 > 0)))) (q_gtr rfl rfl) rfl ?_
      refine .nil ?_
      refine .cond rfl (fun hc => ?_) (fun hc => ?_)
      · replace H := ifT hc H; clear hc
        refine .seq ?_
        refine .region ?_
        refine .q (x := .d (nilD)) (q_assign rfl) rfl ?_
        refine .q (x := .d (cI 6)) (q_assign rfl) rfl ?_
        refine .nil ?_
        refine .tok (i := 6) (e := 5) (sz := 1) rfl ?_
        refine .withSt (st' := ⟨[], [⟨5, 1, y0tj1.length, some (y0tj1.map rB8)⟩, ⟨5, 1, ([] : List UInt8).length, none⟩]⟩) rfl ?_
        refine .retN [.tmp 6, .tmp 7] [.tsl 1 (([] : List UInt8).map rB8) 1, .d (cI 6)] Tryd.func10 Tryd.results10 ⟨rfl, rfl, trivial⟩ ?_
        cases H
        exact ⟨[], [1], rfl, rfl, rfl, rfl, rfl, rfl, rfl, rfl, .tupE ⟨.rfl' _, .rfl' _, trivial⟩⟩
      · replace H := ifF hc H; clear hc
        refine .skip ?_
        refine .seq ?_
        refine .region ?_
        refine .v (x := .tsl 1 (([] : List UInt8).map rB8) 1) (v_build0T Tryd.underlying22 hi5 hs5) rfl ?_
        refine .withSt (st' := ⟨[], [⟨5, 1, y0tj1.length, some (y0tj1.map rB8)⟩, ⟨5, 1, ([] : List UInt8).length, none⟩]⟩) rfl ?_
        refine .q (x := .d (slOf 1 rB8 v0b)) (q_move rfl) rfl ?_
        obtain ⟨hk3, H⟩ := ck_some H
        refine .v (x := .tsl 1 ((([] : List UInt8) ++ v0b).map rB8) 1) (v_appendL (l := ([] : List UInt8)) (l' := v0b) (row := rB8) Tryd.underlying22 hi5 hz5 hs5 rfl (by rw [hb5]; decide) rfl rfl rfl rfl hk3) rfl ?_
        refine .withSt (st' := ⟨[], [⟨5, 1, y0tj1.length, some (y0tj1.map rB8)⟩, ⟨5, 1, (([] : List UInt8) ++ v0b).length, none⟩]⟩) rfl ?_
        refine .q (x := .vc 0 y0tj1.length) (q_move rfl) rfl ?_
        refine .freezeL (l := y0tj1) (row := rB8) (i := 46) rfl rfl ?_
        refine .withSt (st' := ⟨[], [⟨5, 1, y0tj1.length, none⟩, ⟨5, 1, (([] : List UInt8) ++ v0b).length, none⟩]⟩) rfl ?_
        obtain ⟨hk4, H⟩ := ck_some H
        refine .v (x := .tsl 1 (((([] : List UInt8) ++ v0b) ++ y0tj1).map rB8) 1) (v_appendL (l := ([] : List UInt8) ++ v0b) (l' := y0tj1) (row := rB8) Tryd.underlying22 hi5 hz5 hs5 rfl (by rw [hb5]; decide) rfl rfl rfl rfl hk4) rfl ?_
        refine .withSt (st' := ⟨[], [⟨5, 1, y0tj1.length, none⟩, ⟨5, 1, ((([] : List UInt8) ++ v0b) ++ y0tj1).length, none⟩]⟩) rfl ?_
        refine .q (x := .tsl 1 (((([] : List UInt8) ++ v0b) ++ y0tj1).map rB8) 1) (q_assign rfl) rfl ?_
        refine .q (x := .d (cI 0)) (q_assign rfl) rfl ?_
        refine .nil ?_
        refine .retN [.tmp 6, .tmp 7] [.tsl 1 (((([] : List UInt8) ++ v0b) ++ y0tj1).map rB8) 1, .d (cI 0)] Tryd.func10 Tryd.results10 ⟨rfl, rfl, trivial⟩ ?_
        cases H
        exact ⟨[], [1], rfl, rfl, rfl, rfl, rfl, rfl, rfl, rfl, .tupE ⟨.rfl' _, .rfl' _, trivial⟩⟩
    · intro hj1 hj1x
      obtain ⟨n1, H⟩ := loop_some H
      refine .withSt (st' := ⟨[], [⟨5, 1, (List.replicate (Int.toNat (v2size)) 0 : List UInt8).length, some ((List.replicate (Int.toNat (v2size)) 0 : List UInt8).map rB8)⟩]⟩) rfl <| .loop (ι := Nat × (List UInt8 × Int × Int)) (fun p => [(0, .d (slOf 1 rB8 v0b)), (1, .d (cI p.2.2.1)), (8, .vc 0 p.2.1.length), (9, .d (cI p.2.2.2))]) (fun p => ⟨[], [⟨5, 1, p.2.1.length, some (p.2.1.map rB8)⟩]⟩) (fun p => iter (fun s => f_billingref11_PutDecimal_l1 v0b s.1 s.2.1 s.2.2) p.1 p.2 = some r) (·.1) (n1, ((List.replicate (Int.toNat (v2size)) 0 : List UInt8), v1n, v2size - 1)) H (.cons rfl (.rfl' _) (.cons rfl (.rfl' _) (.cons rfl (.rfl' _) (.cons rfl (.rfl' _) (.nil))))) rfl ?_
      rintro ⟨m1, y0tl1, v1nl1, v9il1⟩ HI ih1
      obtain ⟨n1, q1, hm1, H, HK1⟩ := iter_succ HI
      clear HI
      replace H : f_billingref11_PutDecimal_l1 v0b y0tl1 v1nl1 v9il1 = some q1 := H
      unfold f_billingref11_PutDecimal_l1 at H
      change ARun _ _ _ _ _ _ [(0, .d (slOf 1 rB8 v0b)), (1, .d (cI v1nl1)), (8, .vc 0 y0tl1.length), (9, .d (cI v9il1))] ⟨[], [⟨5, 1, y0tl1.length, some (y0tl1.map rB8)⟩]⟩
      refine .seq ?_
      refine .seq ?_
      refine .region ?_
      refine .q (x := .d (cI v9il1)) (q_move rfl) rfl ?_
      refine .q (x := .d (cB (decide (v9il1 ≥ 0)))) (q_geq rfl rfl) rfl ?_
      refine .nil ?_
      refine .cond rfl (fun hc => ?_) (fun hc => ?_)
      · replace H := ifT hc H; clear hc
        refine .skip ?_
        refine .seq ?_
        refine .block ?_
        refine .seq ?_
        refine .region ?_
        refine .q (x := .vc 0 y0tl1.length) (q_move rfl) rfl ?_
        refine .q (x := .d (cI v9il1)) (q_move rfl) rfl ?_
        refine .q (x := .d (cI v1nl1)) (q_move rfl) rfl ?_
        obtain ⟨hk5, H⟩ := ck_some H
        refine .q (x := .d (cI (Int.tdiv v1nl1 10))) (q_quoT rfl rfl hk5) rfl ?_
        obtain ⟨hk6, H⟩ := ck_some H
        refine .q (x := .d (cI (Int.tmod (Int.tdiv v1nl1 10) 10))) (q_remT rfl rfl hk6) rfl ?_
        obtain ⟨hk7, H⟩ := ck_some H
        refine .q (x := .d (cI ((Int.tmod (Int.tdiv v1nl1 10) 10) * 16))) (q_mulI rfl rfl hk7.1 hk7.2) rfl ?_
        refine .q (x := .d (cI v1nl1)) (q_move rfl) rfl ?_
        obtain ⟨hk8, H⟩ := ck_some H
        refine .q (x := .d (cI (Int.tmod v1nl1 10))) (q_remT rfl rfl hk8) rfl ?_
        obtain ⟨hk9, H⟩ := ck_some H
        refine .q (x := .d (cI (((Int.tmod (Int.tdiv v1nl1 10) 10) * 16) + (Int.tmod v1nl1 10)))) (q_addI rfl rfl hk9.1 hk9.2) rfl ?_
        refine .q (x := .d (cU8 (UInt8.ofInt (((Int.tmod (Int.tdiv v1nl1 10) 10) * 16) + (Int.tmod v1nl1 10))))) (q_conv8 Tryd.underlying3 Tryd.underlying5 rfl) rfl ?_
        obtain ⟨hk10, H⟩ := ck_some H
        refine .q (x := .vp 0 y0tl1.length (Int.toNat (v9il1)) 0) (q_idxV (l := y0tl1) (row := rB8) (i := v9il1) Tryd.underlying22 hi5 hs5 rfl rfl rfl hk10) rfl ?_
        obtain ⟨hk11, H⟩ := ck_some H
        refine .u (u_storeV (l := y0tl1) (row := rB8) (a := UInt8.ofInt (((Int.tmod (Int.tdiv v1nl1 10) 10) * 16) + (Int.tmod v1nl1 10))) rfl rfl hk11 rfl rfl sz_5 rfl (Nat.le_of_ble_eq_true rfl) rfl) rfl ?_
        refine .withSt (st' := ⟨[], [⟨5, 1, y0tl1.length, some ((y0tl1.set (Int.toNat (v9il1)) (UInt8.ofInt (((Int.tmod (Int.tdiv v1nl1 10) 10) * 16) + (Int.tmod v1nl1 10)))).map rB8)⟩]⟩) rfl ?_
        refine .nil ?_
        refine .region ?_
        refine .q (x := .d (cI v1nl1)) (q_move rfl) rfl ?_
        obtain ⟨hk12, H⟩ := ck_some H
        refine .q (x := .d (cI (Int.tdiv v1nl1 100))) (q_quoT rfl rfl hk12) rfl ?_
        refine .q (x := .d (cI (Int.tdiv v1nl1 100))) (q_assign rfl) rfl ?_
        refine .nil ?_
        refine .inBlock ?_
        refine .region ?_
        refine .q (x := .d (cI v9il1)) (q_move rfl) rfl ?_
        obtain ⟨hk13, H⟩ := ck_some H
        refine .q (x := .d (cI (v9il1 - 1))) (q_subI rfl rfl hk13.1 hk13.2) rfl ?_
        refine .q (x := .d (cI (v9il1 - 1))) (q_assign rfl) rfl ?_
        refine .nil ?_
        cases H
        refine .normV (l := y0tl1.set (Int.toNat (v9il1)) (UInt8.ofInt (((Int.tmod (Int.tdiv v1nl1 10) 10) * 16) + (Int.tmod v1nl1 10)))) (row := rB8) (tk := 0) (fun z => [(0, .d (slOf 1 rB8 v0b)), (1, .d (cI (Int.tdiv v1nl1 100))), (8, .vc 0 z), (9, .d (cI (v9il1 - 1)))]) (fun z => ⟨[], [⟨5, 1, z, some ((y0tl1.set (Int.toNat (v9il1)) (UInt8.ofInt (((Int.tmod (Int.tdiv v1nl1 10) 10) * 16) + (Int.tmod v1nl1 10)))).map rB8)⟩]⟩) rfl (.cons rfl (.rfl' _) (.cons rfl (.rfl' _) (.cons rfl (.rfl' _) (.cons rfl (.rfl' _) (.nil))))) rfl ?_
        exact .withSt (st' := ⟨[], [⟨5, 1, (y0tl1.set (Int.toNat (v9il1)) (UInt8.ofInt (((Int.tmod (Int.tdiv v1nl1 10) 10) * 16) + (Int.tmod v1nl1 10)))).length, some ((y0tl1.set (Int.toNat (v9il1)) (UInt8.ofInt (((Int.tmod (Int.tdiv v1nl1 10) 10) * 16) + (Int.tmod v1nl1 10)))).map rB8)⟩]⟩) rfl <| .sub (.cons rfl (.rfl' _) (.cons rfl (.rfl' _) (.cons rfl (.rfl' _) (.cons rfl (.rfl' _) (.nil))))) (ih1 (n1, (y0tl1.set (Int.toNat (v9il1)) (UInt8.ofInt (((Int.tmod (Int.tdiv v1nl1 10) 10) * 16) + (Int.tmod v1nl1 10))), Int.tdiv v1nl1 100, v9il1 - 1)) HK1 hm1)
      · replace H := ifF hc H; clear hc
        refine .exit rfl ?_
        obtain ⟨q0, H9, hq0⟩ := map_some' H; clear H; cases hq0
        cases HK1
        have H := H9
        exact .withSt (st' := ⟨[], [⟨5, 1, y0tl1.length, some (y0tl1.map rB8)⟩]⟩) rfl <| .sub (.cons rfl (.rfl' _) (.cons rfl (.rfl' _) (.cons rfl (.rfl' _) (.nil)))) (hj1x (y0tl1, v1nl1) H)

set_option maxRecDepth 100000 in
set_option maxHeartbeats 1000000 in
theorem c_f_billingref11_Encode {v0 : Record} {r : (List UInt8) × Int} (H : f_billingref11_Encode v0 = some r) : ACall Tryd.prog 15 [.agg (Record.row v0)] (· = .tup [slOf 1 rB8 r.1, cI r.2]) := by
  obtain ⟨i5, hi5, hz5, hs5, hb5⟩ := in_5
  refine ACall.enter' Tryd.func15 rfl Tryd.ntmps15 rfl fun S hS => ?_
  unfold f_billingref11_Encode at H
  change ARun _ _ _ _ _ _ [(0, .d (.agg (Record.row v0)))] _
  refine .seq ?_
  refine .region ?_
  refine .v (x := .ref 0 0) (v_box rfl rfl) rfl ?_
  refine .withSt (st' := ⟨[.row 31 [.d (cI v0.source), .d (cI v0.serial), .d (cI v0.kind), .d (cS v0.a), .d (cS v0.b), .d (cI v0.start), .d (cI v0.units), .d (cI v0.call), .d (cI v0.part), .d (cB v0.last), .d (cI v0.trunk), .d (cB v0.inbound)]], []⟩) rfl ?_
  refine .q (x := .d (nilD)) (q_assign rfl) rfl ?_
  refine .q (x := .d (cI 0)) (q_assign rfl) rfl ?_
  refine .nil ?_
  refine .seq ?_
  refine .seq ?_
  refine .region ?_
  refine .q (x := .d (.agg (Record.row v0))) (q_loadOA one_31 sz_31 rfl rfl (Nat.le_of_ble_eq_true rfl) rfl) rfl ?_
  obtain ⟨y1, hy1, H⟩ := bind_some' H
  refine .g (x := .d (cI y1)) (g_call en_27 rfl rfl (c_f_billingref09_Error (hy1))) rfl ?_
  refine .q (x := .d (cI y1)) (q_assign rfl) rfl ?_
  refine .nil ?_
  refine .seq ?_
  refine .region ?_
  refine .q (x := .d (cI y1)) (q_move rfl) rfl ?_
  refine .q (x := .d (cB (y1 != 0))) (q_neq rfl rfl) rfl ?_
  refine .nil ?_
  refine .cond rfl (fun hc => ?_) (fun hc => ?_)
  · replace H := ifT hc H; clear hc
    refine .seq ?_
    refine .region ?_
    refine .q (x := .d (cI y1)) (q_move rfl) rfl ?_
    refine .q (x := .d (nilD)) (q_assign rfl) rfl ?_
    refine .q (x := .d (cI y1)) (q_assign rfl) rfl ?_
    refine .nil ?_
    refine .retN [.tmp 2, .tmp 3] [.d (nilD), .d (cI y1)] Tryd.func15 Tryd.results15 ⟨rfl, rfl, trivial⟩ ?_
    cases H
    exact ⟨_, EVle.tupL (ds := [slOf 1 rB8 ([] : List UInt8), cI y1]) ⟨.nil 1, .rfl' _, trivial⟩, rfl⟩
  · replace H := ifF hc H; clear hc
    refine .skip ?_
    refine .seq ?_
    refine .region ?_
    refine .q (x := .d (cI 0)) (q_assign rfl) rfl ?_
    refine .nil ?_
    refine .seqJoin (ι := Int) (fun s => [(1, .ref 0 0), (5, .d (cI s))]) (fun s => ⟨[.row 31 [.d (cI v0.source), .d (cI v0.serial), .d (cI v0.kind), .d (cS v0.a), .d (cS v0.b), .d (cI v0.start), .d (cI v0.units), .d (cI v0.call), .d (cI v0.part), .d (cB v0.last), .d (cI v0.trunk), .d (cB v0.inbound)]], []⟩) (fun s => f_billingref11_Encode_j1 v0 s = some r) ?_ ?_
    · rintro v5j1 H
      replace H : f_billingref11_Encode_j1 v0 v5j1 = some r := H
      unfold f_billingref11_Encode_j1 at H
      change ARun _ _ _ _ _ _ [(1, .ref 0 0), (5, .d (cI v5j1))] ⟨[.row 31 [.d (cI v0.source), .d (cI v0.serial), .d (cI v0.kind), .d (cS v0.a), .d (cS v0.b), .d (cI v0.start), .d (cI v0.units), .d (cI v0.call), .d (cI v0.part), .d (cB v0.last), .d (cI v0.trunk), .d (cB v0.inbound)]], []⟩
      refine .seqJoin (ι := Int) (fun s => [(1, .ref 0 0), (5, .d (cI s))]) (fun s => ⟨[.row 31 [.d (cI v0.source), .d (cI v0.serial), .d (cI v0.kind), .d (cS v0.a), .d (cS v0.b), .d (cI v0.start), .d (cI v0.units), .d (cI v0.call), .d (cI v0.part), .d (cB v0.last), .d (cI v0.trunk), .d (cB v0.inbound)]], []⟩) (fun s => f_billingref11_Encode_j2 v0 s = some r) ?_ ?_
      · rintro v5j2 H
        replace H : f_billingref11_Encode_j2 v0 v5j2 = some r := H
        unfold f_billingref11_Encode_j2 at H
        change ARun _ _ _ _ _ _ [(1, .ref 0 0), (5, .d (cI v5j2))] ⟨[.row 31 [.d (cI v0.source), .d (cI v0.serial), .d (cI v0.kind), .d (cS v0.a), .d (cS v0.b), .d (cI v0.start), .d (cI v0.units), .d (cI v0.call), .d (cI v0.part), .d (cB v0.last), .d (cI v0.trunk), .d (cB v0.inbound)]], []⟩
        refine .seq ?_
        refine .region ?_
        refine .q (x := .ref 0 0) (q_fieldRef fo_31_0 rfl) rfl ?_
        refine .q (x := .d (cI v0.source)) (q_loadO one_3 rfl rfl rfl) rfl ?_
        obtain ⟨y2, hy2, H⟩ := bind_some' H
        refine .callF en_10 rfl [] [] (x := .tup [.tsl 1 (y2.1.map rB8) 0, .d (cI y2.2)]) (st' := ⟨[.row 31 [.d (cI v0.source), .d (cI v0.serial), .d (cI v0.kind), .d (cS v0.a), .d (cS v0.b), .d (cI v0.start), .d (cI v0.units), .d (cI v0.call), .d (cI v0.part), .d (cB v0.last), .d (cI v0.trunk), .d (cB v0.inbound)]], [⟨5, 1, y2.1.length, none⟩]⟩) rfl (c_g_billingref11_PutDecimal (hy2)) ⟨.nil 1, .rfl' _, .rfl' _, trivial⟩ rfl rfl rfl rfl rfl rfl ?_
        refine .withSt (st' := ⟨[.row 31 [.d (cI v0.source), .d (cI v0.serial), .d (cI v0.kind), .d (cS v0.a), .d (cS v0.b), .d (cI v0.start), .d (cI v0.units), .d (cI v0.call), .d (cI v0.part), .d (cB v0.last), .d (cI v0.trunk), .d (cB v0.inbound)]], [⟨5, 1, y2.1.length, none⟩]⟩) rfl ?_
        refine .q (x := .tup [.tsl 1 (y2.1.map rB8) 0, .d (cI y2.2)]) (q_move rfl) rfl ?_
        refine .q (x := .tsl 1 (y2.1.map rB8) 0) (q_extractE rfl rfl) rfl ?_
        refine .q (x := .d (cI y2.2)) (q_extractE rfl rfl) rfl ?_
        refine .q (x := .tsl 1 (y2.1.map rB8) 0) (q_assign rfl) rfl ?_
        refine .q (x := .d (cI y2.2)) (q_assign rfl) rfl ?_
        refine .nil ?_
        refine .seq ?_
        refine .region ?_
        refine .q (x := .tsl 1 (y2.1.map rB8) 0) (q_move rfl) rfl ?_
        refine .q (x := .ref 0 1) (q_fieldRef fo_31_1 rfl) rfl ?_
        refine .q (x := .d (cI v0.serial)) (q_loadO one_3 rfl rfl rfl) rfl ?_
        obtain ⟨y3, hy3, H⟩ := bind_some' H
        refine .callF en_10 rfl [] [] (x := .tup [.tsl 1 (y3.1.map rB8) 1, .d (cI y3.2)]) (st' := ⟨[.row 31 [.d (cI v0.source), .d (cI v0.serial), .d (cI v0.kind), .d (cS v0.a), .d (cS v0.b), .d (cI v0.start), .d (cI v0.units), .d (cI v0.call), .d (cI v0.part), .d (cB v0.last), .d (cI v0.trunk), .d (cB v0.inbound)]], [⟨5, 1, y2.1.length, none⟩, ⟨5, 1, y3.1.length, none⟩]⟩) rfl (c_g_billingref11_PutDecimal (hy3)) ⟨.tsl _ _ _, .rfl' _, .rfl' _, trivial⟩ rfl rfl rfl rfl rfl rfl ?_
        refine .withSt (st' := ⟨[.row 31 [.d (cI v0.source), .d (cI v0.serial), .d (cI v0.kind), .d (cS v0.a), .d (cS v0.b), .d (cI v0.start), .d (cI v0.units), .d (cI v0.call), .d (cI v0.part), .d (cB v0.last), .d (cI v0.trunk), .d (cB v0.inbound)]], [⟨5, 1, y2.1.length, none⟩, ⟨5, 1, y3.1.length, none⟩]⟩) rfl ?_
        refine .q (x := .tup [.tsl 1 (y3.1.map rB8) 1, .d (cI y3.2)]) (q_move rfl) rfl ?_
        refine .q (x := .tsl 1 (y3.1.map rB8) 1) (q_extractE rfl rfl) rfl ?_
        refine .q (x := .d (cI y3.2)) (q_extractE rfl rfl) rfl ?_
        refine .q (x := .tsl 1 (y3.1.map rB8) 1) (q_assign rfl) rfl ?_
        refine .nil ?_
        refine .seq ?_
        refine .region ?_
        refine .q (x := .tsl 1 (y3.1.map rB8) 1) (q_move rfl) rfl ?_
        refine .q (x := .ref 0 2) (q_fieldRef fo_31_2 rfl) rfl ?_
        refine .q (x := .d (cI v0.kind)) (q_loadO one_3 rfl rfl rfl) rfl ?_
        obtain ⟨hk1, H⟩ := ck_some H
        refine .q (x := .d (cI (v0.kind * 16))) (q_mulI rfl rfl hk1.1 hk1.2) rfl ?_
        refine .q (x := .d (cI v5j2)) (q_move rfl) rfl ?_
        obtain ⟨hk2, H⟩ := ck_some H
        refine .q (x := .d (cI ((v0.kind * 16) + v5j2))) (q_addI rfl rfl hk2.1 hk2.2) rfl ?_
        refine .q (x := .d (cU8 (UInt8.ofInt ((v0.kind * 16) + v5j2)))) (q_conv8 Tryd.underlying3 Tryd.underlying5 rfl) rfl ?_
        refine .g (x := .d (slOf 1 rB8 ([UInt8.ofInt ((v0.kind * 16) + v5j2)] : List UInt8))) (g_buildSlice1 Tryd.underlying22 hi5 hs5 hz5 rfl rfl rfl rfl rfl) rfl ?_
        obtain ⟨hk3, H⟩ := ck_some H
        refine .v (x := .tsl 1 ((y3.1 ++ ([UInt8.ofInt ((v0.kind * 16) + v5j2)] : List UInt8)).map rB8) 1) (v_appendL (l := y3.1) (l' := ([UInt8.ofInt ((v0.kind * 16) + v5j2)] : List UInt8)) (row := rB8) Tryd.underlying22 hi5 hz5 hs5 rfl (by rw [hb5]; decide) rfl rfl rfl rfl hk3) rfl ?_
        refine .withSt (st' := ⟨[.row 31 [.d (cI v0.source), .d (cI v0.serial), .d (cI v0.kind), .d (cS v0.a), .d (cS v0.b), .d (cI v0.start), .d (cI v0.units), .d (cI v0.call), .d (cI v0.part), .d (cB v0.last), .d (cI v0.trunk), .d (cB v0.inbound)]], [⟨5, 1, y2.1.length, none⟩, ⟨5, 1, (y3.1 ++ ([UInt8.ofInt ((v0.kind * 16) + v5j2)] : List UInt8)).length, none⟩]⟩) rfl ?_
        refine .q (x := .tsl 1 ((y3.1 ++ ([UInt8.ofInt ((v0.kind * 16) + v5j2)] : List UInt8)).map rB8) 1) (q_assign rfl) rfl ?_
        refine .nil ?_
        refine .seq ?_
        refine .region ?_
        refine .q (x := .tsl 1 ((y3.1 ++ ([UInt8.ofInt ((v0.kind * 16) + v5j2)] : List UInt8)).map rB8) 1) (q_move rfl) rfl ?_
        refine .q (x := .ref 0 3) (q_fieldRef fo_31_3 rfl) rfl ?_
        refine .q (x := .d (cS v0.a)) (q_loadO one_9 rfl rfl rfl) rfl ?_
        obtain ⟨y4, hy4, H⟩ := bind_some' H
        refine .g (x := .d (slOf 1 rB8 y4)) (g_call en_28 rfl rfl (c_f_billingref11_digits (hy4))) rfl ?_
        obtain ⟨hk4, H⟩ := ck_some H
        refine .v (x := .tsl 1 (((y3.1 ++ ([UInt8.ofInt ((v0.kind * 16) + v5j2)] : List UInt8)) ++ y4).map rB8) 1) (v_appendL (l := y3.1 ++ ([UInt8.ofInt ((v0.kind * 16) + v5j2)] : List UInt8)) (l' := y4) (row := rB8) Tryd.underlying22 hi5 hz5 hs5 rfl (by rw [hb5]; decide) rfl rfl rfl rfl hk4) rfl ?_
        refine .withSt (st' := ⟨[.row 31 [.d (cI v0.source), .d (cI v0.serial), .d (cI v0.kind), .d (cS v0.a), .d (cS v0.b), .d (cI v0.start), .d (cI v0.units), .d (cI v0.call), .d (cI v0.part), .d (cB v0.last), .d (cI v0.trunk), .d (cB v0.inbound)]], [⟨5, 1, y2.1.length, none⟩, ⟨5, 1, ((y3.1 ++ ([UInt8.ofInt ((v0.kind * 16) + v5j2)] : List UInt8)) ++ y4).length, none⟩]⟩) rfl ?_
        refine .q (x := .tsl 1 (((y3.1 ++ ([UInt8.ofInt ((v0.kind * 16) + v5j2)] : List UInt8)) ++ y4).map rB8) 1) (q_assign rfl) rfl ?_
        refine .nil ?_
        refine .seq ?_
        refine .region ?_
        refine .q (x := .tsl 1 (((y3.1 ++ ([UInt8.ofInt ((v0.kind * 16) + v5j2)] : List UInt8)) ++ y4).map rB8) 1) (q_move rfl) rfl ?_
        refine .q (x := .ref 0 4) (q_fieldRef fo_31_4 rfl) rfl ?_
        refine .q (x := .d (cS v0.b)) (q_loadO one_9 rfl rfl rfl) rfl ?_
        obtain ⟨y5, hy5, H⟩ := bind_some' H
        refine .g (x := .d (slOf 1 rB8 y5)) (g_call en_28 rfl rfl (c_f_billingref11_digits (hy5))) rfl ?_
        obtain ⟨hk5, H⟩ := ck_some H
        refine .v (x := .tsl 1 ((((y3.1 ++ ([UInt8.ofInt ((v0.kind * 16) + v5j2)] : List UInt8)) ++ y4) ++ y5).map rB8) 1) (v_appendL (l := (y3.1 ++ ([UInt8.ofInt ((v0.kind * 16) + v5j2)] : List UInt8)) ++ y4) (l' := y5) (row := rB8) Tryd.underlying22 hi5 hz5 hs5 rfl (by rw [hb5]; decide) rfl rfl rfl rfl hk5) rfl ?_
        refine .withSt (st' := ⟨[.row 31 [.d (cI v0.source), .d (cI v0.serial), .d (cI v0.kind), .d (cS v0.a), .d (cS v0.b), .d (cI v0.start), .d (cI v0.units), .d (cI v0.call), .d (cI v0.part), .d (cB v0.last), .d (cI v0.trunk), .d (cB v0.inbound)]], [⟨5, 1, y2.1.length, none⟩, ⟨5, 1, (((y3.1 ++ ([UInt8.ofInt ((v0.kind * 16) + v5j2)] : List UInt8)) ++ y4) ++ y5).length, none⟩]⟩) rfl ?_
        refine .q (x := .tsl 1 ((((y3.1 ++ ([UInt8.ofInt ((v0.kind * 16) + v5j2)] : List UInt8)) ++ y4) ++ y5).map rB8) 1) (q_assign rfl) rfl ?_
        refine .nil ?_
        refine .seq ?_
        refine .region ?_
        refine .q (x := .tsl 1 ((((y3.1 ++ ([UInt8.ofInt ((v0.kind * 16) + v5j2)] : List UInt8)) ++ y4) ++ y5).map rB8) 1) (q_move rfl) rfl ?_
        refine .q (x := .ref 0 5) (q_fieldRef fo_31_5 rfl) rfl ?_
        refine .q (x := .d (cI v0.start)) (q_loadO one_3 rfl rfl rfl) rfl ?_
        obtain ⟨y6, hy6, H⟩ := bind_some' H
        refine .callF en_10 rfl [] [] (x := .tup [.tsl 1 (y6.1.map rB8) 2, .d (cI y6.2)]) (st' := ⟨[.row 31 [.d (cI v0.source), .d (cI v0.serial), .d (cI v0.kind), .d (cS v0.a), .d (cS v0.b), .d (cI v0.start), .d (cI v0.units), .d (cI v0.call), .d (cI v0.part), .d (cB v0.last), .d (cI v0.trunk), .d (cB v0.inbound)]], [⟨5, 1, y2.1.length, none⟩, ⟨5, 1, (((y3.1 ++ ([UInt8.ofInt ((v0.kind * 16) + v5j2)] : List UInt8)) ++ y4) ++ y5).length, none⟩, ⟨5, 1, y6.1.length, none⟩]⟩) rfl (c_g_billingref11_PutDecimal (hy6)) ⟨.tsl _ _ _, .rfl' _, .rfl' _, trivial⟩ rfl rfl rfl rfl rfl rfl ?_
        refine .withSt (st' := ⟨[.row 31 [.d (cI v0.source), .d (cI v0.serial), .d (cI v0.kind), .d (cS v0.a), .d (cS v0.b), .d (cI v0.start), .d (cI v0.units), .d (cI v0.call), .d (cI v0.part), .d (cB v0.last), .d (cI v0.trunk), .d (cB v0.inbound)]], [⟨5, 1, y2.1.length, none⟩, ⟨5, 1, (((y3.1 ++ ([UInt8.ofInt ((v0.kind * 16) + v5j2)] : List UInt8)) ++ y4) ++ y5).length, none⟩, ⟨5, 1, y6.1.length, none⟩]⟩) rfl ?_
        refine .q (x := .tup [.tsl 1 (y6.1.map rB8) 2, .d (cI y6.2)]) (q_move rfl) rfl ?_
        refine .q (x := .tsl 1 (y6.1.map rB8) 2) (q_extractE rfl rfl) rfl ?_
        refine .q (x := .d (cI y6.2)) (q_extractE rfl rfl) rfl ?_
        refine .q (x := .tsl 1 (y6.1.map rB8) 2) (q_assign rfl) rfl ?_
        refine .nil ?_
        refine .seq ?_
        refine .region ?_
        refine .q (x := .tsl 1 (y6.1.map rB8) 2) (q_move rfl) rfl ?_
        refine .q (x := .ref 0 6) (q_fieldRef fo_31_6 rfl) rfl ?_
        refine .q (x := .d (cI v0.units)) (q_loadO one_3 rfl rfl rfl) rfl ?_
        obtain ⟨y7, hy7, H⟩ := bind_some' H
        refine .callF en_10 rfl [] [] (x := .tup [.tsl 1 (y7.1.map rB8) 3, .d (cI y7.2)]) (st' := ⟨[.row 31 [.d (cI v0.source), .d (cI v0.serial), .d (cI v0.kind), .d (cS v0.a), .d (cS v0.b), .d (cI v0.start), .d (cI v0.units), .d (cI v0.call), .d (cI v0.part), .d (cB v0.last), .d (cI v0.trunk), .d (cB v0.inbound)]], [⟨5, 1, y2.1.length, none⟩, ⟨5, 1, (((y3.1 ++ ([UInt8.ofInt ((v0.kind * 16) + v5j2)] : List UInt8)) ++ y4) ++ y5).length, none⟩, ⟨5, 1, y6.1.length, none⟩, ⟨5, 1, y7.1.length, none⟩]⟩) rfl (c_g_billingref11_PutDecimal (hy7)) ⟨.tsl _ _ _, .rfl' _, .rfl' _, trivial⟩ rfl rfl rfl rfl rfl rfl ?_
        refine .withSt (st' := ⟨[.row 31 [.d (cI v0.source), .d (cI v0.serial), .d (cI v0.kind), .d (cS v0.a), .d (cS v0.b), .d (cI v0.start), .d (cI v0.units), .d (cI v0.call), .d (cI v0.part), .d (cB v0.last), .d (cI v0.trunk), .d (cB v0.inbound)]], [⟨5, 1, y2.1.length, none⟩, ⟨5, 1, (((y3.1 ++ ([UInt8.ofInt ((v0.kind * 16) + v5j2)] : List UInt8)) ++ y4) ++ y5).length, none⟩, ⟨5, 1, y6.1.length, none⟩, ⟨5, 1, y7.1.length, none⟩]⟩) rfl ?_
        refine .q (x := .tup [.tsl 1 (y7.1.map rB8) 3, .d (cI y7.2)]) (q_move rfl) rfl ?_
        refine .q (x := .tsl 1 (y7.1.map rB8) 3) (q_extractE rfl rfl) rfl ?_
        refine .q (x := .d (cI y7.2)) (q_extractE rfl rfl) rfl ?_
        refine .q (x := .tsl 1 (y7.1.map rB8) 3) (q_assign rfl) rfl ?_
        refine .nil ?_
        refine .seq ?_
        refine .region ?_
        refine .q (x := .tsl 1 (y7.1.map rB8) 3) (q_move rfl) rfl ?_
        refine .q (x := .ref 0 7) (q_fieldRef fo_31_7 rfl) rfl ?_
        refine .q (x := .d (cI v0.call)) (q_loadO one_3 rfl rfl rfl) rfl ?_
        obtain ⟨y8, hy8, H⟩ := bind_some' H
        refine .callF en_10 rfl [] [] (x := .tup [.tsl 1 (y8.1.map rB8) 4, .d (cI y8.2)]) (st' := ⟨[.row 31 [.d (cI v0.source), .d (cI v0.serial), .d (cI v0.kind), .d (cS v0.a), .d (cS v0.b), .d (cI v0.start), .d (cI v0.units), .d (cI v0.call), .d (cI v0.part), .d (cB v0.last), .d (cI v0.trunk), .d (cB v0.inbound)]], [⟨5, 1, y2.1.length, none⟩, ⟨5, 1, (((y3.1 ++ ([UInt8.ofInt ((v0.kind * 16) + v5j2)] : List UInt8)) ++ y4) ++ y5).length, none⟩, ⟨5, 1, y6.1.length, none⟩, ⟨5, 1, y7.1.length, none⟩, ⟨5, 1, y8.1.length, none⟩]⟩) rfl (c_g_billingref11_PutDecimal (hy8)) ⟨.tsl _ _ _, .rfl' _, .rfl' _, trivial⟩ rfl rfl rfl rfl rfl rfl ?_
        refine .withSt (st' := ⟨[.row 31 [.d (cI v0.source), .d (cI v0.serial), .d (cI v0.kind), .d (cS v0.a), .d (cS v0.b), .d (cI v0.start), .d (cI v0.units), .d (cI v0.call), .d (cI v0.part), .d (cB v0.last), .d (cI v0.trunk), .d (cB v0.inbound)]], [⟨5, 1, y2.1.length, none⟩, ⟨5, 1, (((y3.1 ++ ([UInt8.ofInt ((v0.kind * 16) + v5j2)] : List UInt8)) ++ y4) ++ y5).length, none⟩, ⟨5, 1, y6.1.length, none⟩, ⟨5, 1, y7.1.length, none⟩, ⟨5, 1, y8.1.length, none⟩]⟩) rfl ?_
        refine .q (x := .tup [.tsl 1 (y8.1.map rB8) 4, .d (cI y8.2)]) (q_move rfl) rfl ?_
        refine .q (x := .tsl 1 (y8.1.map rB8) 4) (q_extractE rfl rfl) rfl ?_
        refine .q (x := .d (cI y8.2)) (q_extractE rfl rfl) rfl ?_
        refine .q (x := .tsl 1 (y8.1.map rB8) 4) (q_assign rfl) rfl ?_
        refine .nil ?_
        refine .seq ?_
        refine .region ?_
        refine .q (x := .tsl 1 (y8.1.map rB8) 4) (q_move rfl) rfl ?_
        refine .q (x := .ref 0 8) (q_fieldRef fo_31_8 rfl) rfl ?_
        refine .q (x := .d (cI v0.part)) (q_loadO one_3 rfl rfl rfl) rfl ?_
        obtain ⟨y9, hy9, H⟩ := bind_some' H
        refine .callF en_10 rfl [] [] (x := .tup [.tsl 1 (y9.1.map rB8) 5, .d (cI y9.2)]) (st' := ⟨[.row 31 [.d (cI v0.source), .d (cI v0.serial), .d (cI v0.kind), .d (cS v0.a), .d (cS v0.b), .d (cI v0.start), .d (cI v0.units), .d (cI v0.call), .d (cI v0.part), .d (cB v0.last), .d (cI v0.trunk), .d (cB v0.inbound)]], [⟨5, 1, y2.1.length, none⟩, ⟨5, 1, (((y3.1 ++ ([UInt8.ofInt ((v0.kind * 16) + v5j2)] : List UInt8)) ++ y4) ++ y5).length, none⟩, ⟨5, 1, y6.1.length, none⟩, ⟨5, 1, y7.1.length, none⟩, ⟨5, 1, y8.1.length, none⟩, ⟨5, 1, y9.1.length, none⟩]⟩) rfl (c_g_billingref11_PutDecimal (hy9)) ⟨.tsl _ _ _, .rfl' _, .rfl' _, trivial⟩ rfl rfl rfl rfl rfl rfl ?_
        refine .withSt (st' := ⟨[.row 31 [.d (cI v0.source), .d (cI v0.serial), .d (cI v0.kind), .d (cS v0.a), .d (cS v0.b), .d (cI v0.start), .d (cI v0.units), .d (cI v0.call), .d (cI v0.part), .d (cB v0.last), .d (cI v0.trunk), .d (cB v0.inbound)]], [⟨5, 1, y2.1.length, none⟩, ⟨5, 1, (((y3.1 ++ ([UInt8.ofInt ((v0.kind * 16) + v5j2)] : List UInt8)) ++ y4) ++ y5).length, none⟩, ⟨5, 1, y6.1.length, none⟩, ⟨5, 1, y7.1.length, none⟩, ⟨5, 1, y8.1.length, none⟩, ⟨5, 1, y9.1.length, none⟩]⟩) rfl ?_
        refine .q (x := .tup [.tsl 1 (y9.1.map rB8) 5, .d (cI y9.2)]) (q_move rfl) rfl ?_
        refine .q (x := .tsl 1 (y9.1.map rB8) 5) (q_extractE rfl rfl) rfl ?_
        refine .q (x := .d (cI y9.2)) (q_extractE rfl rfl) rfl ?_
        refine .q (x := .tsl 1 (y9.1.map rB8) 5) (q_assign rfl) rfl ?_
        refine .nil ?_
        refine .seq ?_
        refine .region ?_
        refine .q (x := .tsl 1 (y9.1.map rB8) 5) (q_move rfl) rfl ?_
        refine .q (x := .ref 0 10) (q_fieldRef fo_31_10 rfl) rfl ?_
        refine .q (x := .d (cI v0.trunk)) (q_loadO one_3 rfl rfl rfl) rfl ?_
        obtain ⟨y10, hy10, H⟩ := bind_some' H
        refine .callF en_10 rfl [] [] (x := .tup [.tsl 1 (y10.1.map rB8) 6, .d (cI y10.2)]) (st' := ⟨[.row 31 [.d (cI v0.source), .d (cI v0.serial), .d (cI v0.kind), .d (cS v0.a), .d (cS v0.b), .d (cI v0.start), .d (cI v0.units), .d (cI v0.call), .d (cI v0.part), .d (cB v0.last), .d (cI v0.trunk), .d (cB v0.inbound)]], [⟨5, 1, y2.1.length, none⟩, ⟨5, 1, (((y3.1 ++ ([UInt8.ofInt ((v0.kind * 16) + v5j2)] : List UInt8)) ++ y4) ++ y5).length, none⟩, ⟨5, 1, y6.1.length, none⟩, ⟨5, 1, y7.1.length, none⟩, ⟨5, 1, y8.1.length, none⟩, ⟨5, 1, y9.1.length, none⟩, ⟨5, 1, y10.1.length, none⟩]⟩) rfl (c_g_billingref11_PutDecimal (hy10)) ⟨.tsl _ _ _, .rfl' _, .rfl' _, trivial⟩ rfl rfl rfl rfl rfl rfl ?_
        refine .withSt (st' := ⟨[.row 31 [.d (cI v0.source), .d (cI v0.serial), .d (cI v0.kind), .d (cS v0.a), .d (cS v0.b), .d (cI v0.start), .d (cI v0.units), .d (cI v0.call), .d (cI v0.part), .d (cB v0.last), .d (cI v0.trunk), .d (cB v0.inbound)]], [⟨5, 1, y2.1.length, none⟩, ⟨5, 1, (((y3.1 ++ ([UInt8.ofInt ((v0.kind * 16) + v5j2)] : List UInt8)) ++ y4) ++ y5).length, none⟩, ⟨5, 1, y6.1.length, none⟩, ⟨5, 1, y7.1.length, none⟩, ⟨5, 1, y8.1.length, none⟩, ⟨5, 1, y9.1.length, none⟩, ⟨5, 1, y10.1.length, none⟩]⟩) rfl ?_
        refine .q (x := .tup [.tsl 1 (y10.1.map rB8) 6, .d (cI y10.2)]) (q_move rfl) rfl ?_
        refine .q (x := .tsl 1 (y10.1.map rB8) 6) (q_extractE rfl rfl) rfl ?_
        refine .q (x := .d (cI y10.2)) (q_extractE rfl rfl) rfl ?_
        refine .q (x := .tsl 1 (y10.1.map rB8) 6) (q_assign rfl) rfl ?_
        refine .nil ?_
        refine .seq ?_
        refine .region ?_
        refine .q (x := .tsl 1 (y10.1.map rB8) 6) (q_move rfl) rfl ?_
        refine .q (x := .tsl 1 (y10.1.map rB8) 6) (q_move rfl) rfl ?_
        obtain ⟨y11, hy11, H⟩ := bind_some' H
        refine .g (x := .d (cU8 y11)) (g_call en_29 rfl rfl (c_f_billingref11_sum (hy11))) rfl ?_
        refine .g (x := .d (slOf 1 rB8 ([y11] : List UInt8))) (g_buildSlice1 Tryd.underlying22 hi5 hs5 hz5 rfl rfl rfl rfl rfl) rfl ?_
        obtain ⟨hk6, H⟩ := ck_some H
        refine .v (x := .tsl 1 ((y10.1 ++ ([y11] : List UInt8)).map rB8) 6) (v_appendL (l := y10.1) (l' := ([y11] : List UInt8)) (row := rB8) Tryd.underlying22 hi5 hz5 hs5 rfl (by rw [hb5]; decide) rfl rfl rfl rfl hk6) rfl ?_
        refine .withSt (st' := ⟨[.row 31 [.d (cI v0.source), .d (cI v0.serial), .d (cI v0.kind), .d (cS v0.a), .d (cS v0.b), .d (cI v0.start), .d (cI v0.units), .d (cI v0.call), .d (cI v0.part), .d (cB v0.last), .d (cI v0.trunk), .d (cB v0.inbound)]], [⟨5, 1, y2.1.length, none⟩, ⟨5, 1, (((y3.1 ++ ([UInt8.ofInt ((v0.kind * 16) + v5j2)] : List UInt8)) ++ y4) ++ y5).length, none⟩, ⟨5, 1, y6.1.length, none⟩, ⟨5, 1, y7.1.length, none⟩, ⟨5, 1, y8.1.length, none⟩, ⟨5, 1, y9.1.length, none⟩, ⟨5, 1, (y10.1 ++ ([y11] : List UInt8)).length, none⟩]⟩) rfl ?_
        refine .q (x := .tsl 1 ((y10.1 ++ ([y11] : List UInt8)).map rB8) 6) (q_assign rfl) rfl ?_
        refine .q (x := .d (cI 0)) (q_assign rfl) rfl ?_
        refine .nil ?_
        refine .retN [.tmp 2, .tmp 3] [.tsl 1 ((y10.1 ++ ([y11] : List UInt8)).map rB8) 6, .d (cI 0)] Tryd.func15 Tryd.results15 ⟨rfl, rfl, trivial⟩ ?_
        cases H
        exact ⟨_, EVle.tupL (ds := [slOf 1 rB8 (y10.1 ++ ([y11] : List UInt8)), cI 0]) ⟨.tsl _ _ _, .rfl' _, trivial⟩, rfl⟩
      · intro hj2
        refine .seq ?_
        refine .region ?_
        refine .q (x := .ref 0 11) (q_fieldRef fo_31_11 rfl) rfl ?_
        refine .q (x := .d (cB v0.inbound)) (q_loadO one_4 rfl rfl rfl) rfl ?_
        refine .nil ?_
        refine .cond rfl (fun hc => ?_) (fun hc => ?_)
        · replace H := ifT hc H; clear hc
          refine .region ?_
          refine .q (x := .d (cI v5j1)) (q_move rfl) rfl ?_
          obtain ⟨hk7, H⟩ := ck_some H
          refine .q (x := .d (cI (v5j1 + 2))) (q_addI rfl rfl hk7.1 hk7.2) rfl ?_
          refine .q (x := .d (cI (v5j1 + 2))) (q_assign rfl) rfl ?_
          refine .nil ?_
          exact .sub (.cons rfl (.rfl' _) (.cons rfl (.rfl' _) (.nil))) (hj2 (v5j1 + 2) H)
        · replace H := ifF hc H; clear hc
          refine .skip ?_
          exact .sub (.cons rfl (.rfl' _) (.cons rfl (.rfl' _) (.nil))) (hj2 v5j1 H)
    · intro hj1
      refine .seq ?_
      refine .region ?_
      refine .q (x := .ref 0 9) (q_fieldRef fo_31_9 rfl) rfl ?_
      refine .q (x := .d (cB v0.last)) (q_loadO one_4 rfl rfl rfl) rfl ?_
      refine .nil ?_
      refine .cond rfl (fun hc => ?_) (fun hc => ?_)
      · replace H := ifT hc H; clear hc
        refine .region ?_
        refine .q (x := .d (cI 0)) (q_move rfl) rfl ?_
        obtain ⟨hk8, H⟩ := ck_some H
        refine .q (x := .d (cI (0 + 1))) (q_addI rfl rfl hk8.1 hk8.2) rfl ?_
        refine .q (x := .d (cI (0 + 1))) (q_assign rfl) rfl ?_
        refine .nil ?_
        exact .sub (.cons rfl (.rfl' _) (.cons rfl (.rfl' _) (.nil))) (hj1 (0 + 1) H)
      · replace H := ifF hc H; clear hc
        refine .skip ?_
        exact .sub (.cons rfl (.rfl' _) (.cons rfl (.rfl' _) (.nil))) (hj1 0 H)

set_option maxRecDepth 100000 in
set_option maxHeartbeats 1000000 in
theorem c_f_billinglaw11_PackedEncodes {v0r : Record} {r : Bool} (H : f_billinglaw11_PackedEncodes v0r = some r) : ACall Tryd.prog 4 [.agg (Record.row v0r)] (· = cB r) := by
  refine ACall.enter' Tryd.func4 rfl Tryd.ntmps4 rfl fun S hS => ?_
  unfold f_billinglaw11_PackedEncodes at H
  change ARun _ _ _ _ _ _ [(0, .d (.agg (Record.row v0r)))] _
  refine .seq ?_
  refine .region ?_
  refine .v (x := .ref 0 0) (v_box rfl rfl) rfl ?_
  refine .withSt (st' := ⟨[.row 31 [.d (cI v0r.source), .d (cI v0r.serial), .d (cI v0r.kind), .d (cS v0r.a), .d (cS v0r.b), .d (cI v0r.start), .d (cI v0r.units), .d (cI v0r.call), .d (cI v0r.part), .d (cB v0r.last), .d (cI v0r.trunk), .d (cB v0r.inbound)]], []⟩) rfl ?_
  refine .q (x := .d (cB false)) (q_assign rfl) rfl ?_
  refine .nil ?_
  refine .seq ?_
  refine .seq ?_
  refine .region ?_
  refine .q (x := .d (.agg (Record.row v0r))) (q_loadOA one_31 sz_31 rfl rfl (Nat.le_of_ble_eq_true rfl) rfl) rfl ?_
  obtain ⟨y1, hy1, H⟩ := bind_some' H
  refine .g (x := .d (cB y1)) (g_call en_13 rfl rfl (c_f_billinglaw11_short (hy1))) rfl ?_
  refine .q (x := .d (cB (!y1))) (q_not rfl) rfl ?_
  refine .nil ?_
  refine .cond rfl (fun hc => ?_) (fun hc => ?_)
  · replace H := ifT hc H; clear hc
    refine .seq ?_
    refine .region ?_
    obtain ⟨y2, hy2, H⟩ := bind_some' H
    refine .g (x := .d (cB y2)) (g_call en_8 rfl rfl (c_f_billinglaw11_awake (hy2))) rfl ?_
    refine .q (x := .d (cB y2)) (q_assign rfl) rfl ?_
    refine .nil ?_
    refine .retN [.tmp 2] [.d (cB y2)] Tryd.func4 Tryd.results4 ⟨rfl, trivial⟩ ?_
    cases H
    exact ⟨_, .rfl' _, rfl⟩
  · replace H := ifF hc H; clear hc
    refine .skip ?_
    refine .seq ?_
    refine .region ?_
    refine .q (x := .d (.agg (Record.row v0r))) (q_loadOA one_31 sz_31 rfl rfl (Nat.le_of_ble_eq_true rfl) rfl) rfl ?_
    obtain ⟨y3, hy3, H⟩ := bind_some' H
    refine .g (x := .d (.tup [slOf 1 rB8 y3.1, cI y3.2])) (g_call en_14 rfl rfl (c_f_packed_Encode (hy3))) rfl ?_
    refine .q (x := .d (.tup [slOf 1 rB8 y3.1, cI y3.2])) (q_move rfl) rfl ?_
    refine .q (x := .d (slOf 1 rB8 y3.1)) (q_extract rfl rfl) rfl ?_
    refine .q (x := .d (cI y3.2)) (q_extract rfl rfl) rfl ?_
    refine .q (x := .d (slOf 1 rB8 y3.1)) (q_assign rfl) rfl ?_
    refine .q (x := .d (cI y3.2)) (q_assign rfl) rfl ?_
    refine .nil ?_
    refine .seq ?_
    refine .region ?_
    refine .q (x := .d (.agg (Record.row v0r))) (q_loadOA one_31 sz_31 rfl rfl (Nat.le_of_ble_eq_true rfl) rfl) rfl ?_
    obtain ⟨y4, hy4, H⟩ := bind_some' H
    refine .g (x := .d (.tup [slOf 1 rB8 y4.1, cI y4.2])) (g_call en_15 rfl rfl (c_f_billingref11_Encode (hy4))) rfl ?_
    refine .q (x := .d (.tup [slOf 1 rB8 y4.1, cI y4.2])) (q_move rfl) rfl ?_
    refine .q (x := .d (slOf 1 rB8 y4.1)) (q_extract rfl rfl) rfl ?_
    refine .q (x := .d (cI y4.2)) (q_extract rfl rfl) rfl ?_
    refine .q (x := .d (slOf 1 rB8 y4.1)) (q_assign rfl) rfl ?_
    refine .q (x := .d (cI y4.2)) (q_assign rfl) rfl ?_
    refine .nil ?_
    refine .seq ?_
    refine .region ?_
    refine .q (x := .d (slOf 1 rB8 y3.1)) (q_move rfl) rfl ?_
    refine .q (x := .d (cS y3.1)) (q_bytesStrL (a := y3.1) Tryd.underlying22 Tryd.underlying5 Tryd.underlying9 rfl rfl) rfl ?_
    refine .q (x := .d (slOf 1 rB8 y4.1)) (q_move rfl) rfl ?_
    refine .q (x := .d (cS y4.1)) (q_bytesStrL (a := y4.1) Tryd.underlying22 Tryd.underlying5 Tryd.underlying9 rfl rfl) rfl ?_
    refine .q (x := .d (cB (y3.1 == y4.1))) (q_seql rfl rfl) rfl ?_
    refine .q (x := .d (cB (y3.1 == y4.1))) (q_move rfl) rfl ?_
    refine .guardG (b := (y3.1 == y4.1)) (x := .d (cI y3.2)) (env' := [(4, _)]) rfl rfl rfl ⟨.inl rfl, trivial⟩ rfl (fun hg => OpQ.g (q_move rfl)) ?_
    refine .guardG (b := (y3.1 == y4.1)) (x := .d (cI y4.2)) (env' := [(6, _)]) rfl rfl rfl ⟨.inl rfl, trivial⟩ rfl (fun hg => OpQ.g (q_move rfl)) ?_
    refine .guardG (b := (y3.1 == y4.1)) (x := .d (cB (y3.2 == y4.2))) (env' := [(27, _), (28, _)]) rfl rfl rfl ⟨.inr (.inl rfl), ⟨.inr (.inl rfl), trivial⟩⟩ rfl (fun hg => OpQ.g (q_eql rfl rfl)) ?_
    refine .q (x := .d (cB ((y3.1 == y4.1) && (y3.2 == y4.2)))) (q_pickAndB rfl rfl rfl) rfl ?_
    refine .q (x := .d (cB ((y3.1 == y4.1) && (y3.2 == y4.2)))) (q_move rfl) rfl ?_
    obtain ⟨y5, hy5, H⟩ := bind_some' H
    refine .guardG (b := ((y3.1 == y4.1) && (y3.2 == y4.2))) (x := .d (cB y5)) (env' := []) rfl rfl rfl trivial rfl (fun hg => (g_call en_8 rfl rfl (c_f_billinglaw11_awake (gcall_some hy5 hg)))) ?_
    refine .q (x := .d (cB (((y3.1 == y4.1) && (y3.2 == y4.2)) && y5))) (q_pickAndB rfl rfl rfl) rfl ?_
    refine .q (x := .d (cB (((y3.1 == y4.1) && (y3.2 == y4.2)) && y5))) (q_assign rfl) rfl ?_
    refine .nil ?_
    refine .retN [.tmp 2] [.d (cB (((y3.1 == y4.1) && (y3.2 == y4.2)) && y5))] Tryd.func4 Tryd.results4 ⟨rfl, trivial⟩ ?_
    cases H
    exact ⟨_, .rfl' _, rfl⟩

set_option maxRecDepth 100000 in
set_option maxHeartbeats 1000000 in
theorem c_f_packed_number {v0field : List UInt8} {r : (List UInt8) × Bool} (H : f_packed_number v0field = some r) : ACall Tryd.prog 39 [slOf 1 rB8 v0field] (· = .tup [cS r.1, cB r.2]) := by
  obtain ⟨i5, hi5, hz5, hs5, hb5⟩ := in_5
  refine ACall.enter' Tryd.func39 rfl Tryd.ntmps39 rfl fun S hS => ?_
  unfold f_packed_number at H
  change ARun _ _ _ _ _ _ [(0, .d (slOf 1 rB8 v0field))] _
  refine .seq ?_
  refine .region ?_
  refine .q (x := .d (cS ([] : List UInt8))) (q_assign rfl) rfl ?_
  refine .q (x := .d (cB false)) (q_assign rfl) rfl ?_
  refine .nil ?_
  refine .seq ?_
  refine .region ?_
  refine .q (x := .d (slOf 1 rB8 v0field)) (q_move rfl) rfl ?_
  obtain ⟨hk1, H⟩ := ck_some H
  refine .q (x := .d (.ro (rB8 (nth v0field (Int.toNat (0)))))) (q_idxL (row := rB8) (l := v0field) (i := 0) Tryd.underlying22 hi5 hs5 rfl rfl rfl hk1) rfl ?_
  refine .q (x := .d (cU8 (nth v0field (Int.toNat (0))))) (q_load one_5 rfl) rfl ?_
  obtain ⟨hk2, H⟩ := ck_some H
  refine .q (x := .d (cU8 (u8shr (nth v0field (Int.toNat (0))) 4))) (q8_shr (a := nth v0field (Int.toNat (0))) (n := 4) rfl rfl hk2) rfl ?_
  refine .q (x := .d (cI ((u8shr (nth v0field (Int.toNat (0))) 4).toNat : Int))) (q_conv8i (a := u8shr (nth v0field (Int.toNat (0))) 4) Tryd.underlying5 Tryd.underlying3 rfl) rfl ?_
  refine .q (x := .d (cI ((u8shr (nth v0field (Int.toNat (0))) 4).toNat : Int))) (q_assign rfl) rfl ?_
  refine .nil ?_
  refine .seq ?_
  refine .region ?_
  refine .q (x := .d (nilD)) (q_assign rfl) rfl ?_
  refine .nil ?_
  refine .seq ?_
  refine .seq ?_
  refine .region ?_
  refine .q (x := .d (cI 0)) (q_move rfl) rfl ?_
  refine .nil ?_
  refine .block ?_
  refine .tok (i := 5) (e := 5) (sz := 1) rfl ?_
  refine .withSt (st' := ⟨[], [⟨5, 1, ([] : List UInt8).length, none⟩]⟩) rfl ?_
  obtain ⟨n1, H⟩ := loop_some H
  refine .withSt (st' := ⟨[], [⟨5, 1, ([] : List UInt8).length, none⟩]⟩) rfl <| .loop (ι := Nat × (List UInt8 × Int)) (fun p => [(0, .d (slOf 1 rB8 v0field)), (4, .d (cI ((u8shr (nth v0field (Int.toNat (0))) 4).toNat : Int))), (5, .tsl 1 (p.2.1.map rB8) 0), (13, .d (cI p.2.2))]) (fun p => ⟨[], [⟨5, 1, p.2.1.length, none⟩]⟩) (fun p => iter (fun s => f_packed_number_l1 v0field s.1 s.2) p.1 p.2 = some r) (·.1) (n1, (([] : List UInt8), 0)) H (.cons rfl (.rfl' _) (.cons rfl (.rfl' _) (.cons rfl (.rfl' _) (.cons rfl (.rfl' _) (.nil))))) rfl ?_
  rintro ⟨m1, v5outl1, v13l1⟩ HI ih1
  obtain ⟨n1, q1, hm1, H, HK1⟩ := iter_succ HI
  clear HI
  replace H : f_packed_number_l1 v0field v5outl1 v13l1 = some q1 := H
  unfold f_packed_number_l1 at H
  change ARun _ _ _ _ _ _ [(0, .d (slOf 1 rB8 v0field)), (4, .d (cI ((u8shr (nth v0field (Int.toNat (0))) 4).toNat : Int))), (5, .tsl 1 (v5outl1.map rB8) 0), (13, .d (cI v13l1))] ⟨[], [⟨5, 1, v5outl1.length, none⟩]⟩
  refine .seq ?_
  refine .region ?_
  refine .q (x := .d (cB (decide (v13l1 < 15)))) (q_lss rfl rfl) rfl ?_
  refine .nil ?_
  refine .seq ?_
  refine .cond rfl (fun hc => ?_) (fun hc => ?_)
  · replace H := ifT hc H; clear hc
    refine .skip ?_
    refine .seq ?_
    refine .block ?_
    refine .seq ?_
    refine .region ?_
    refine .q (x := .d (cI v13l1)) (q_move rfl) rfl ?_
    refine .q (x := .d (cI v13l1)) (q_assign rfl) rfl ?_
    refine .nil ?_
    refine .seq ?_
    refine .region ?_
    refine .q (x := .d (slOf 1 rB8 v0field)) (q_move rfl) rfl ?_
    refine .q (x := .d (cI v13l1)) (q_move rfl) rfl ?_
    obtain ⟨hk3, H⟩ := ck_some H
    refine .q (x := .d (cI (v13l1 + 1))) (q_addI rfl rfl hk3.1 hk3.2) rfl ?_
    obtain ⟨hk4, H⟩ := ck_some H
    refine .q (x := .d (cI (Int.tdiv (v13l1 + 1) 2))) (q_quoT rfl rfl hk4) rfl ?_
    obtain ⟨hk5, H⟩ := ck_some H
    refine .q (x := .d (.ro (rB8 (nth v0field (Int.toNat (Int.tdiv (v13l1 + 1) 2)))))) (q_idxL (row := rB8) (l := v0field) (i := Int.tdiv (v13l1 + 1) 2) Tryd.underlying22 hi5 hs5 rfl rfl rfl hk5) rfl ?_
    refine .q (x := .d (cU8 (nth v0field (Int.toNat (Int.tdiv (v13l1 + 1) 2))))) (q_load one_5 rfl) rfl ?_
    obtain ⟨hk6, H⟩ := ck_some H
    refine .q (x := .d (cU8 (u8shr (nth v0field (Int.toNat (Int.tdiv (v13l1 + 1) 2))) 4))) (q8_shr (a := nth v0field (Int.toNat (Int.tdiv (v13l1 + 1) 2))) (n := 4) rfl rfl hk6) rfl ?_
    refine .q (x := .d (cU8 (u8shr (nth v0field (Int.toNat (Int.tdiv (v13l1 + 1) 2))) 4))) (q_assign rfl) rfl ?_
    refine .nil ?_
    refine .seqJoin (ι := UInt8) (fun s => [(0, .d (slOf 1 rB8 v0field)), (4, .d (cI ((u8shr (nth v0field (Int.toNat (0))) 4).toNat : Int))), (5, .tsl 1 (v5outl1.map rB8) 0), (6, .d (cI v13l1)), (7, .d (cU8 s)), (13, .d (cI v13l1))]) (fun s => ⟨[], [⟨5, 1, v5outl1.length, none⟩]⟩) (fun s => f_packed_number_j1 v0field v5outl1 v13l1 s = some q1) ?_ ?_
    · rintro v7digitj1 H
      replace H : f_packed_number_j1 v0field v5outl1 v13l1 v7digitj1 = some q1 := H
      unfold f_packed_number_j1 at H
      change ARun _ _ _ _ _ _ [(0, .d (slOf 1 rB8 v0field)), (4, .d (cI ((u8shr (nth v0field (Int.toNat (0))) 4).toNat : Int))), (5, .tsl 1 (v5outl1.map rB8) 0), (6, .d (cI v13l1)), (7, .d (cU8 v7digitj1)), (13, .d (cI v13l1))] ⟨[], [⟨5, 1, v5outl1.length, none⟩]⟩
      refine .block ?_
      refine .seq ?_
      refine .region ?_
      refine .q (x := .d (cI v13l1)) (q_move rfl) rfl ?_
      refine .q (x := .d (cI ((u8shr (nth v0field (Int.toNat (0))) 4).toNat : Int))) (q_move rfl) rfl ?_
      refine .q (x := .d (cB (decide (v13l1 < ((u8shr (nth v0field (Int.toNat (0))) 4).toNat : Int))))) (q_lss rfl rfl) rfl ?_
      refine .q (x := .d (cB (decide (v13l1 < ((u8shr (nth v0field (Int.toNat (0))) 4).toNat : Int))))) (q_move rfl) rfl ?_
      refine .guardG (b := decide (v13l1 < ((u8shr (nth v0field (Int.toNat (0))) 4).toNat : Int))) (x := .d (cU8 v7digitj1)) (env' := [(7, _)]) rfl rfl rfl ⟨.inl rfl, trivial⟩ rfl (fun hg => OpQ.g (q_move rfl)) ?_
      refine .guardG (b := decide (v13l1 < ((u8shr (nth v0field (Int.toNat (0))) 4).toNat : Int))) (x := .d (cB (decide (v7digitj1 ≤ 9)))) (env' := [(37, _)]) rfl rfl rfl ⟨.inr (.inl rfl), trivial⟩ rfl (fun hg => OpQ.g (q8_leq (a := v7digitj1) (b := 9) rfl rfl)) ?_
      refine .q (x := .d (cB ((decide (v13l1 < ((u8shr (nth v0field (Int.toNat (0))) 4).toNat : Int))) && (decide (v7digitj1 ≤ 9))))) (q_pickAndB rfl rfl rfl) rfl ?_
      refine .q (x := .d (cB ((decide (v13l1 < ((u8shr (nth v0field (Int.toNat (0))) 4).toNat : Int))) && (decide (v7digitj1 ≤ 9))))) (q_assign rfl) rfl ?_
      refine .nil ?_
      refine .cond rfl (fun hc => ?_) (fun hc => ?_)
      · replace H := ifT hc H; clear hc
        refine .region ?_
        refine .q (x := .tsl 1 (v5outl1.map rB8) 0) (q_move rfl) rfl ?_
        refine .q (x := .d (cU8 v7digitj1)) (q_move rfl) rfl ?_
        refine .q (x := .d (cU8 (48 + v7digitj1))) (q8_add (a := 48) (b := v7digitj1) rfl rfl) rfl ?_
        refine .g (x := .d (slOf 1 rB8 ([48 + v7digitj1] : List UInt8))) (g_buildSlice1 Tryd.underlying22 hi5 hs5 hz5 rfl rfl rfl rfl rfl) rfl ?_
        obtain ⟨hk7, H⟩ := ck_some H
        refine .v (x := .tsl 1 ((v5outl1 ++ ([48 + v7digitj1] : List UInt8)).map rB8) 0) (v_appendL (l := v5outl1) (l' := ([48 + v7digitj1] : List UInt8)) (row := rB8) Tryd.underlying22 hi5 hz5 hs5 rfl (by rw [hb5]; decide) rfl rfl rfl rfl hk7) rfl ?_
        refine .withSt (st' := ⟨[], [⟨5, 1, (v5outl1 ++ ([48 + v7digitj1] : List UInt8)).length, none⟩]⟩) rfl ?_
        refine .q (x := .tsl 1 ((v5outl1 ++ ([48 + v7digitj1] : List UInt8)).map rB8) 0) (q_assign rfl) rfl ?_
        refine .nil ?_
        refine .inBlock ?_
        refine .inBlock ?_
        refine .region ?_
        obtain ⟨hk8, H⟩ := ck_some H
        refine .q (x := .d (cI (v13l1 + 1))) (q_addI rfl rfl hk8.1 hk8.2) rfl ?_
        refine .q (x := .d (cI (v13l1 + 1))) (q_move rfl) rfl ?_
        refine .nil ?_
        cases H
        exact .withSt (st' := ⟨[], [⟨5, 1, (v5outl1 ++ ([48 + v7digitj1] : List UInt8)).length, none⟩]⟩) rfl <| .sub (.cons rfl (.rfl' _) (.cons rfl (.rfl' _) (.cons rfl (.rfl' _) (.cons rfl (.rfl' _) (.nil))))) (ih1 (n1, (v5outl1 ++ ([48 + v7digitj1] : List UInt8), v13l1 + 1)) HK1 hm1)
      · replace H := ifF hc H; clear hc
        refine .seq ?_
        refine .region ?_
        refine .q (x := .d (cI v13l1)) (q_move rfl) rfl ?_
        refine .q (x := .d (cI ((u8shr (nth v0field (Int.toNat (0))) 4).toNat : Int))) (q_move rfl) rfl ?_
        refine .q (x := .d (cB (decide (v13l1 < ((u8shr (nth v0field (Int.toNat (0))) 4).toNat : Int))))) (q_lss rfl rfl) rfl ?_
        refine .q (x := .d (cB (decide (v13l1 < ((u8shr (nth v0field (Int.toNat (0))) 4).toNat : Int))))) (q_move rfl) rfl ?_
        refine .guardG (b := (!(decide (v13l1 < ((u8shr (nth v0field (Int.toNat (0))) 4).toNat : Int))))) (x := .d (cU8 v7digitj1)) (env' := [(7, _)]) rfl rfl rfl ⟨.inl rfl, trivial⟩ rfl (fun hg => OpQ.g (q_move rfl)) ?_
        refine .guardG (b := (!(decide (v13l1 < ((u8shr (nth v0field (Int.toNat (0))) 4).toNat : Int))))) (x := .d (cB (v7digitj1 != 0))) (env' := [(50, _)]) rfl rfl rfl ⟨.inr (.inl rfl), trivial⟩ rfl (fun hg => OpQ.g (q8_neq (a := v7digitj1) (b := 0) rfl rfl)) ?_
        refine .q (x := .d (cB ((decide (v13l1 < ((u8shr (nth v0field (Int.toNat (0))) 4).toNat : Int))) || (v7digitj1 != 0)))) (q_pickOrB rfl rfl rfl) rfl ?_
        refine .q (x := .d (cB ((decide (v13l1 < ((u8shr (nth v0field (Int.toNat (0))) 4).toNat : Int))) || (v7digitj1 != 0)))) (q_assign rfl) rfl ?_
        refine .nil ?_
        refine .cond rfl (fun hc => ?_) (fun hc => ?_)
        · replace H := ifT hc H; clear hc
          refine .seq ?_
          refine .region ?_
          refine .q (x := .d (cS ([] : List UInt8))) (q_assign rfl) rfl ?_
          refine .q (x := .d (cB false)) (q_assign rfl) rfl ?_
          refine .nil ?_
          refine .retN [.tmp 2, .tmp 3] [.d (cS ([] : List UInt8)), .d (cB false)] Tryd.func39 Tryd.results39 ⟨rfl, rfl, trivial⟩ ?_
          cases H
          cases HK1
          exact ⟨_, EVle.tupL (ds := [cS ([] : List UInt8), cB false]) ⟨.rfl' _, .rfl' _, trivial⟩, rfl⟩
        · replace H := ifF hc H; clear hc
          refine .skip ?_
          refine .inBlock ?_
          refine .inBlock ?_
          refine .region ?_
          obtain ⟨hk9, H⟩ := ck_some H
          refine .q (x := .d (cI (v13l1 + 1))) (q_addI rfl rfl hk9.1 hk9.2) rfl ?_
          refine .q (x := .d (cI (v13l1 + 1))) (q_move rfl) rfl ?_
          refine .nil ?_
          cases H
          exact .sub (.cons rfl (.rfl' _) (.cons rfl (.rfl' _) (.cons rfl (.rfl' _) (.cons rfl (.rfl' _) (.nil))))) (ih1 (n1, (v5outl1, v13l1 + 1)) HK1 hm1)
    · intro hj1
      refine .seq ?_
      refine .region ?_
      refine .q (x := .d (cI v13l1)) (q_move rfl) rfl ?_
      obtain ⟨hk10, H⟩ := ck_some H
      refine .q (x := .d (cI (Int.tmod v13l1 2))) (q_remT rfl rfl hk10) rfl ?_
      refine .q (x := .d (cB ((Int.tmod v13l1 2) == 0))) (q_eql rfl rfl) rfl ?_
      refine .nil ?_
      refine .cond rfl (fun hc => ?_) (fun hc => ?_)
      · replace H := ifT hc H; clear hc
        refine .region ?_
        refine .q (x := .d (slOf 1 rB8 v0field)) (q_move rfl) rfl ?_
        refine .q (x := .d (cI v13l1)) (q_move rfl) rfl ?_
        obtain ⟨hk11, H⟩ := ck_some H
        refine .q (x := .d (cI (Int.tdiv v13l1 2))) (q_quoT rfl rfl hk11) rfl ?_
        obtain ⟨hk12, H⟩ := ck_some H
        refine .q (x := .d (.ro (rB8 (nth v0field (Int.toNat (Int.tdiv v13l1 2)))))) (q_idxL (row := rB8) (l := v0field) (i := Int.tdiv v13l1 2) Tryd.underlying22 hi5 hs5 rfl rfl rfl hk12) rfl ?_
        refine .q (x := .d (cU8 (nth v0field (Int.toNat (Int.tdiv v13l1 2))))) (q_load one_5 rfl) rfl ?_
        refine .q (x := .d (cU8 ((nth v0field (Int.toNat (Int.tdiv v13l1 2))) &&& 15))) (q8_and (a := nth v0field (Int.toNat (Int.tdiv v13l1 2))) (b := 15) rfl rfl) rfl ?_
        refine .q (x := .d (cU8 ((nth v0field (Int.toNat (Int.tdiv v13l1 2))) &&& 15))) (q_assign rfl) rfl ?_
        refine .nil ?_
        exact .sub (.cons rfl (.rfl' _) (.cons rfl (.rfl' _) (.cons rfl (.rfl' _) (.cons rfl (.rfl' _) (.cons rfl (.rfl' _) (.cons rfl (.rfl' _) (.nil))))))) (hj1 ((nth v0field (Int.toNat (Int.tdiv v13l1 2))) &&& 15) H)
      · replace H := ifF hc H; clear hc
        refine .skip ?_
        exact .sub (.cons rfl (.rfl' _) (.cons rfl (.rfl' _) (.cons rfl (.rfl' _) (.cons rfl (.rfl' _) (.cons rfl (.rfl' _) (.cons rfl (.rfl' _) (.nil))))))) (hj1 (u8shr (nth v0field (Int.toNat (Int.tdiv (v13l1 + 1) 2))) 4) H)
  · replace H := ifF hc H; clear hc
    refine .exit rfl ?_
    refine .seq ?_
    refine .region ?_
    refine .q (x := .tsl 1 (v5outl1.map rB8) 0) (q_move rfl) rfl ?_
    refine .q (x := .d (cS v5outl1)) (q_bytesStrL (a := v5outl1) Tryd.underlying22 Tryd.underlying5 Tryd.underlying9 rfl rfl) rfl ?_
    refine .q (x := .d (cS v5outl1)) (q_assign rfl) rfl ?_
    refine .q (x := .d (cB true)) (q_assign rfl) rfl ?_
    refine .nil ?_
    refine .retN [.tmp 2, .tmp 3] [.d (cS v5outl1), .d (cB true)] Tryd.func39 Tryd.results39 ⟨rfl, rfl, trivial⟩ ?_
    cases H
    cases HK1
    exact ⟨_, EVle.tupL (ds := [cS v5outl1, cB true]) ⟨.rfl' _, .rfl' _, trivial⟩, rfl⟩

set_option maxRecDepth 100000 in
set_option maxHeartbeats 1000000 in
theorem c_g_packed_reader_field {v1size : Int} {o0c0p : PackedReader} {r : (List UInt8) × PackedReader} (H : g_packed_reader_field v1size o0c0p = some r) : ACallS Tryd.prog 31 [.ref 0 0, .d (cI v1size)] ⟨[.row 57 [.d (slOf 1 rB8 o0c0p.b), .d (cB o0c0p.bad)]], []⟩ (QE (.d (slOf 1 rB8 r.1)) ⟨[.row 57 [.d (slOf 1 rB8 r.2.b), .d (cB r.2.bad)]], []⟩) := by
  obtain ⟨i5, hi5, hz5, hs5, hb5⟩ := in_5
  refine ACallS.keep ?_
  refine ACallS.enter Tryd.func31 rfl Tryd.ntmps31 rfl fun S hS => ?_
  unfold g_packed_reader_field at H
  change ARun _ _ _ _ _ _ [(0, .ref 0 0), (1, .d (cI v1size))] _
  refine .seq ?_
  refine .region ?_
  refine .q (x := .d (nilD)) (q_assign rfl) rfl ?_
  refine .nil ?_
  refine .seq ?_
  refine .region ?_
  refine .q (x := .ref 0 0) (q_move rfl) rfl ?_
  refine .q (x := .ref 0 0) (q_nilRef rfl) rfl ?_
  refine .q (x := .ref 0 0) (q_fieldRef fo_57_0 rfl) rfl ?_
  refine .q (x := .d (slOf 1 rB8 o0c0p.b)) (q_loadO one_22 rfl rfl rfl) rfl ?_
  refine .q (x := .d (cI v1size)) (q_move rfl) rfl ?_
  refine .q (x := .d (cI v1size)) (q_move rfl) rfl ?_
  obtain ⟨hk1, H⟩ := ck_some H
  refine .q (x := .d (slOf 1 rB8 (o0c0p.b.take (Int.toNat (v1size))))) (q_slHML (l := o0c0p.b) (row := rB8) Tryd.underlying22 hi5 hs5 rfl rfl rfl rfl hk1) rfl ?_
  refine .q (x := .d (slOf 1 rB8 (o0c0p.b.take (Int.toNat (v1size))))) (q_assign rfl) rfl ?_
  refine .nil ?_
  refine .seq ?_
  refine .region ?_
  refine .q (x := .ref 0 0) (q_move rfl) rfl ?_
  refine .q (x := .ref 0 0) (q_move rfl) rfl ?_
  refine .q (x := .ref 0 0) (q_nilRef rfl) rfl ?_
  refine .q (x := .ref 0 0) (q_fieldRef fo_57_0 rfl) rfl ?_
  refine .q (x := .d (slOf 1 rB8 o0c0p.b)) (q_loadO one_22 rfl rfl rfl) rfl ?_
  refine .q (x := .d (cI v1size)) (q_move rfl) rfl ?_
  obtain ⟨hk2, H⟩ := ck_some H
  refine .q (x := .d (slOf 1 rB8 (o0c0p.b.drop (Int.toNat (v1size))))) (q_slLL (l := o0c0p.b) (row := rB8) Tryd.underlying22 hi5 hs5 rfl rfl rfl hk2) rfl ?_
  refine .q (x := .ref 0 0) (q_nilRef rfl) rfl ?_
  refine .q (x := .ref 0 0) (q_fieldRef fo_57_0 rfl) rfl ?_
  refine .u (u_store rfl rfl rfl rfl (Nat.le_of_ble_eq_true rfl) sz_22) rfl ?_
  refine .withSt (st' := ⟨[.row 57 [.d (slOf 1 rB8 (o0c0p.b.drop (Int.toNat (v1size)))), .d (cB o0c0p.bad)]], []⟩) rfl ?_
  refine .nil ?_
  refine .seq ?_
  refine .region ?_
  refine .q (x := .d (slOf 1 rB8 (o0c0p.b.take (Int.toNat (v1size))))) (q_move rfl) rfl ?_
  refine .q (x := .d (slOf 1 rB8 (o0c0p.b.take (Int.toNat (v1size))))) (q_assign rfl) rfl ?_
  refine .nil ?_
  refine .retN [.tmp 4] [.d (slOf 1 rB8 (o0c0p.b.take (Int.toNat (v1size))))] Tryd.func31 Tryd.results31 ⟨rfl, trivial⟩ ?_
  cases H
  exact ⟨[0], [], rfl, rfl, rfl, rfl, rfl, rfl, rfl, rfl, .rfl' _⟩

set_option maxRecDepth 100000 in
set_option maxHeartbeats 1000000 in
theorem c_g_packed_reader_decimal {v1size : Int} {o0c0p : PackedReader} {r : Int × PackedReader} (H : g_packed_reader_decimal v1size o0c0p = some r) : ACallS Tryd.prog 30 [.ref 0 0, .d (cI v1size)] ⟨[.row 57 [.d (slOf 1 rB8 o0c0p.b), .d (cB o0c0p.bad)]], []⟩ (QE (.d (cI r.1)) ⟨[.row 57 [.d (slOf 1 rB8 r.2.b), .d (cB r.2.bad)]], []⟩) := by
  refine ACallS.keep ?_
  refine ACallS.enter Tryd.func30 rfl Tryd.ntmps30 rfl fun S hS => ?_
  unfold g_packed_reader_decimal at H
  change ARun _ _ _ _ _ _ [(0, .ref 0 0), (1, .d (cI v1size))] _
  refine .seq ?_
  refine .region ?_
  refine .q (x := .d (cI 0)) (q_assign rfl) rfl ?_
  refine .nil ?_
  refine .seq ?_
  refine .region ?_
  refine .q (x := .ref 0 0) (q_move rfl) rfl ?_
  refine .q (x := .d (cI v1size)) (q_move rfl) rfl ?_
  obtain ⟨y1, hy1, H⟩ := bind_some' H
  refine .callF en_31 rfl [0] [] (x := .d (slOf 1 rB8 y1.1)) (st' := ⟨[.row 57 [.d (slOf 1 rB8 y1.2.b), .d (cB y1.2.bad)]], []⟩) rfl (c_g_packed_reader_field (hy1)) ⟨.rfl' _, .rfl' _, trivial⟩ rfl rfl rfl rfl rfl rfl ?_
  refine .withSt (st' := ⟨[.row 57 [.d (slOf 1 rB8 y1.2.b), .d (cB y1.2.bad)]], []⟩) rfl ?_
  obtain ⟨y2, hy2, H⟩ := bind_some' H
  refine .g (x := .d (.tup [cI y2.1, cI y2.2])) (g_call en_11 rfl rfl (c_f_packed_Decimal (hy2))) rfl ?_
  refine .q (x := .d (.tup [cI y2.1, cI y2.2])) (q_move rfl) rfl ?_
  refine .q (x := .d (cI y2.1)) (q_extract rfl rfl) rfl ?_
  refine .q (x := .d (cI y2.2)) (q_extract rfl rfl) rfl ?_
  refine .q (x := .d (cI y2.1)) (q_assign rfl) rfl ?_
  refine .q (x := .d (cI y2.2)) (q_assign rfl) rfl ?_
  refine .nil ?_
  refine .seq ?_
  refine .region ?_
  refine .q (x := .ref 0 0) (q_move rfl) rfl ?_
  refine .q (x := .ref 0 0) (q_move rfl) rfl ?_
  refine .q (x := .ref 0 0) (q_nilRef rfl) rfl ?_
  refine .q (x := .ref 0 1) (q_fieldRef fo_57_1 rfl) rfl ?_
  refine .q (x := .d (cB y1.2.bad)) (q_loadO one_4 rfl rfl rfl) rfl ?_
  refine .q (x := .d (cB y1.2.bad)) (q_move rfl) rfl ?_
  refine .guardG (b := (!y1.2.bad)) (x := .d (cI y2.2)) (env' := [(6, _)]) rfl rfl rfl ⟨.inl rfl, trivial⟩ rfl (fun hg => OpQ.g (q_move rfl)) ?_
  refine .guardG (b := (!y1.2.bad)) (x := .d (cB (y2.2 != 0))) (env' := [(20, _)]) rfl rfl rfl ⟨.inr (.inl rfl), trivial⟩ rfl (fun hg => OpQ.g (q_neq rfl rfl)) ?_
  refine .q (x := .d (cB (y1.2.bad || (y2.2 != 0)))) (q_pickOrB rfl rfl rfl) rfl ?_
  refine .q (x := .ref 0 0) (q_nilRef rfl) rfl ?_
  refine .q (x := .ref 0 1) (q_fieldRef fo_57_1 rfl) rfl ?_
  refine .u (u_store rfl rfl rfl rfl (Nat.le_of_ble_eq_true rfl) sz_4) rfl ?_
  refine .withSt (st' := ⟨[.row 57 [.d (slOf 1 rB8 y1.2.b), .d (cB (y1.2.bad || (y2.2 != 0)))]], []⟩) rfl ?_
  refine .nil ?_
  refine .seq ?_
  refine .region ?_
  refine .q (x := .d (cI y2.1)) (q_move rfl) rfl ?_
  refine .q (x := .d (cI y2.1)) (q_assign rfl) rfl ?_
  refine .nil ?_
  refine .retN [.tmp 4] [.d (cI y2.1)] Tryd.func30 Tryd.results30 ⟨rfl, trivial⟩ ?_
  cases H
  exact ⟨[0], [], rfl, rfl, rfl, rfl, rfl, rfl, rfl, rfl, .rfl' _⟩

end Go.Proofs.YtlgoaojmancfpaaDoor
