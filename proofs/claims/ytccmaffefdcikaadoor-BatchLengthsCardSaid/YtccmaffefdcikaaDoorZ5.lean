/- Our own texts LW6 R1 U2 C1 C2 C3 of this seat in one. -/
import Derived.Test.YtccmaffefdcikaaDoorZ4
import Derived.Lib.ItoaLen
import Derived.Deep.Slices
import Derived.ChangeArms
import Derived.ProofKit
import Derived.Below
import Derived.ChangeSame
set_option linter.unusedSimpArgs false
set_option linter.unusedVariables false
namespace Go.Proofs.YtccmaffefdcikaaDoor
open Go.RowKit Go.Abs
set_option maxRecDepth 100000 in
set_option maxHeartbeats 1000000 in
theorem c_f_billinglaw12_BatchLengths {v0b : Batch} {v1r : Record} {v2more : Int} {r : Bool} (H : f_billinglaw12_BatchLengths v0b v1r v2more = some r) : ACall Tryd.prog 5 [.agg (Batch.row v0b), .agg (Record.row v1r), cI v2more] (· = cB r) := by
  obtain ⟨i39, hi39, hz39, hs39, hb39⟩ := in_39
  refine ACall.enter' Tryd.func5 rfl Tryd.ntmps5 rfl fun S hS => ?_
  unfold f_billinglaw12_BatchLengths at H
  change ARun _ _ _ _ _ _ [(0, .d (.agg (Batch.row v0b))), (1, .d (.agg (Record.row v1r))), (2, .d (cI v2more))] _
  refine .seq ?_
  refine .region ?_
  refine .v (x := .ref 0 0) (v_box rfl rfl) rfl ?_
  refine .withSt (st' := ⟨[.row 31 [.d (cI v0b.source), .d (cI v0b.number), .d (cI v0b.format), .d (slOf 12 Record.row v0b.records)]], []⟩) rfl ?_
  refine .v (x := .ref 1 0) (v_box rfl rfl) rfl ?_
  refine .withSt (st' := ⟨[.row 31 [.d (cI v0b.source), .d (cI v0b.number), .d (cI v0b.format), .d (slOf 12 Record.row v0b.records)], .row 39 [.d (cI v1r.source), .d (cI v1r.serial), .d (cI v1r.kind), .d (cS v1r.a), .d (cS v1r.b), .d (cI v1r.start), .d (cI v1r.units), .d (cI v1r.call), .d (cI v1r.part), .d (cB v1r.last), .d (cI v1r.trunk), .d (cB v1r.inbound)]], []⟩) rfl ?_
  refine .q (q_assign rfl) rfl ?_
  refine .nil ?_
  refine .seq ?_
  refine .seq ?_
  refine .region ?_
  refine .q (q_fieldRef fo_31_3 rfl) rfl ?_
  refine .q (x := .d (slOf 12 Record.row v0b.records)) (q_loadO one_22 rfl rfl rfl) rfl ?_
  refine .q (q_lenL (l := v0b.records) (row := Record.row) Tryd.underlying22 rfl rfl) rfl ?_
  refine .q (q_gtr rfl rfl) rfl ?_
  refine .q (q_move rfl) rfl ?_
  refine .guardG (env' := [(2, _)]) rfl rfl rfl ⟨.inl rfl, trivial⟩ rfl (fun hg => OpQ.g (q_move rfl)) ?_
  refine .guardG (env' := [(14, _)]) rfl rfl rfl ⟨.inr (.inl rfl), trivial⟩ rfl (fun hg => OpQ.g (q_lss rfl rfl)) ?_
  refine .q (q_pickOrB rfl rfl rfl) rfl ?_
  refine .q (q_move rfl) rfl ?_
  refine .guardG (env' := [(2, _)]) rfl rfl rfl ⟨.inl rfl, trivial⟩ rfl (fun hg => OpQ.g (q_move rfl)) ?_
  refine .guardG (env' := [(18, _)]) rfl rfl rfl ⟨.inr (.inl rfl), trivial⟩ rfl (fun hg => OpQ.g (q_gtr rfl rfl)) ?_
  refine .q (q_pickOrB rfl rfl rfl) rfl ?_
  refine .q (q_move rfl) rfl ?_
  refine .guardG (env' := [(4, _)]) rfl rfl rfl ⟨.inl rfl, trivial⟩ rfl (fun hg => OpQ.g (q_fieldRef fo_39_3 rfl)) ?_
  refine .guardG (b := (!(((decide ((v0b.records.length : Int) > 0)) || (decide (v2more < (-2)))) || (decide (v2more > 2))))) (x := .d (cS v1r.a)) (env' := [(22, _)]) rfl rfl rfl ⟨.inr (.inl rfl), trivial⟩ rfl (fun hg => OpQ.g (q_loadO one_9 rfl rfl rfl)) ?_
  refine .guardG (env' := [(23, _)]) rfl rfl rfl ⟨.inr (.inl rfl), trivial⟩ rfl (fun hg => OpQ.g (q_lenS Tryd.underlying9 rfl)) ?_
  refine .guardG (env' := [(24, _)]) rfl rfl rfl ⟨.inr (.inl rfl), trivial⟩ rfl (fun hg => OpQ.g (q_gtr rfl rfl)) ?_
  refine .q (q_pickOrB rfl rfl rfl) rfl ?_
  refine .q (q_move rfl) rfl ?_
  refine .guardG (env' := [(4, _)]) rfl rfl rfl ⟨.inl rfl, trivial⟩ rfl (fun hg => OpQ.g (q_fieldRef fo_39_4 rfl)) ?_
  refine .guardG (b := (!((((decide ((v0b.records.length : Int) > 0)) || (decide (v2more < (-2)))) || (decide (v2more > 2))) || (decide ((v1r.a.length : Int) > 20))))) (x := .d (cS v1r.b)) (env' := [(28, _)]) rfl rfl rfl ⟨.inr (.inl rfl), trivial⟩ rfl (fun hg => OpQ.g (q_loadO one_9 rfl rfl rfl)) ?_
  refine .guardG (env' := [(29, _)]) rfl rfl rfl ⟨.inr (.inl rfl), trivial⟩ rfl (fun hg => OpQ.g (q_lenS Tryd.underlying9 rfl)) ?_
  refine .guardG (env' := [(30, _)]) rfl rfl rfl ⟨.inr (.inl rfl), trivial⟩ rfl (fun hg => OpQ.g (q_gtr rfl rfl)) ?_
  refine .q (q_pickOrB rfl rfl rfl) rfl ?_
  refine .nil ?_
  refine .cond rfl (fun hc => ?_) (fun hc => ?_)
  · replace H := ifT hc H; clear hc
    refine .seq ?_
    refine .region ?_
    obtain ⟨y1, hy1, H⟩ := bind_some' H
    refine .g (x := .d (cB y1)) (g_call en_7 rfl rfl (c_f_billinglaw12_awake (hy1))) rfl ?_
    refine .q (q_assign rfl) rfl ?_
    refine .nil ?_
    refine .retN [.tmp 6] [.d (cB y1)] Tryd.func5 Tryd.results5 ⟨rfl, trivial⟩ ?_
    cases H
    exact ⟨_, .rfl' _, rfl⟩
  · replace H := ifF hc H; clear hc
    refine .skip ?_
    refine .seq ?_
    refine .region ?_
    refine .q (q_move rfl) rfl ?_
    obtain ⟨hk1, H⟩ := ck_some H
    refine .q (q_addI rfl rfl hk1.1 hk1.2) rfl ?_
    obtain ⟨hk2, H⟩ := ck_some H
    refine .v (x := .vc 0 ((List.replicate (Int.toNat (4096 + v2more)) (⟨0, 0, 0, ([] : List UInt8), ([] : List UInt8), 0, 0, 0, 0, false, 0, false⟩ : Record) : List Record).length)) (v_makeV (row := Record.row) (a := 4096 + v2more) (b := 4096 + v2more) (a0 := (⟨0, 0, 0, ([] : List UInt8), ([] : List UInt8), 0, 0, 0, 0, false, 0, false⟩ : Record)) Tryd.underlying22 hi39 hz39 hs39 rfl (by rw [hb39]; decide) rfl rfl rfl hk2) rfl ?_
    refine .withSt (st' := ⟨[.row 31 [.d (cI v0b.source), .d (cI v0b.number), .d (cI v0b.format), .d (slOf 12 Record.row v0b.records)], .row 39 [.d (cI v1r.source), .d (cI v1r.serial), .d (cI v1r.kind), .d (cS v1r.a), .d (cS v1r.b), .d (cI v1r.start), .d (cI v1r.units), .d (cI v1r.call), .d (cI v1r.part), .d (cB v1r.last), .d (cI v1r.trunk), .d (cB v1r.inbound)]], [⟨39, 12, ((List.replicate (Int.toNat (4096 + v2more)) (⟨0, 0, 0, ([] : List UInt8), ([] : List UInt8), 0, 0, 0, 0, false, 0, false⟩ : Record) : List Record).length), some ((List.replicate (Int.toNat (4096 + v2more)) (⟨0, 0, 0, ([] : List UInt8), ([] : List UInt8), 0, 0, 0, 0, false, 0, false⟩ : Record) : List Record).map Record.row)⟩]⟩) rfl ?_
    refine .q (q_assign rfl) rfl ?_
    refine .nil ?_
    refine .seq ?_
    refine .seq ?_
    refine .region ?_
    refine .q (q_assign rfl) rfl ?_
    refine .nil ?_
    refine .blockJoin2 (ι := List Record) (fun s => [(3, .ref 0 0), (7, .vc 0 s.length)]) (fun s => ⟨[.row 31 [.d (cI v0b.source), .d (cI v0b.number), .d (cI v0b.format), .d (slOf 12 Record.row v0b.records)], .row 39 [.d (cI v1r.source), .d (cI v1r.serial), .d (cI v1r.kind), .d (cS v1r.a), .d (cS v1r.b), .d (cI v1r.start), .d (cI v1r.units), .d (cI v1r.call), .d (cI v1r.part), .d (cB v1r.last), .d (cI v1r.trunk), .d (cB v1r.inbound)]], [⟨39, 12, s.length, some (s.map Record.row)⟩]⟩) (fun s => f_billinglaw12_BatchLengths_j1 v0b s = some r) ?_ ?_
    · rintro y0tj1 H
      replace H : f_billinglaw12_BatchLengths_j1 v0b y0tj1 = some r := H
      unfold f_billinglaw12_BatchLengths_j1 at H
      change ARun _ _ _ _ _ _ [(3, .ref 0 0), (7, .vc 0 y0tj1.length)] ⟨[.row 31 [.d (cI v0b.source), .d (cI v0b.number), .d (cI v0b.format), .d (slOf 12 Record.row v0b.records)], .row 39 [.d (cI v1r.source), .d (cI v1r.serial), .d (cI v1r.kind), .d (cS v1r.a), .d (cS v1r.b), .d (cI v1r.start), .d (cI v1r.units), .d (cI v1r.call), .d (cI v1r.part), .d (cB v1r.last), .d (cI v1r.trunk), .d (cB v1r.inbound)]], [⟨39, 12, y0tj1.length, some (y0tj1.map Record.row)⟩]⟩
      refine .seq ?_
      refine .region ?_
      refine .q (q_move rfl) rfl ?_
      refine .q (q_fieldRef fo_31_3 rfl) rfl ?_
      refine .u (u_store rfl rfl rfl rfl (Nat.le_of_ble_eq_true rfl) sz_22) rfl ?_
      refine .withSt (st' := ⟨[.row 31 [.d (cI v0b.source), .d (cI v0b.number), .d (cI v0b.format), .vc 0 y0tj1.length], .row 39 [.d (cI v1r.source), .d (cI v1r.serial), .d (cI v1r.kind), .d (cS v1r.a), .d (cS v1r.b), .d (cI v1r.start), .d (cI v1r.units), .d (cI v1r.call), .d (cI v1r.part), .d (cB v1r.last), .d (cI v1r.trunk), .d (cB v1r.inbound)]], [⟨39, 12, y0tj1.length, some (y0tj1.map Record.row)⟩]⟩) rfl ?_
      refine .nil ?_
      refine .seq ?_
      refine .freezeCell (l := y0tj1) (row := Record.row) 0 3 rfl rfl rfl ?_
      refine .withSt (st' := ⟨[.row 31 [.d (cI v0b.source), .d (cI v0b.number), .d (cI v0b.format), .d (slOf 12 Record.row y0tj1)], .row 39 [.d (cI v1r.source), .d (cI v1r.serial), .d (cI v1r.kind), .d (cS v1r.a), .d (cS v1r.b), .d (cI v1r.start), .d (cI v1r.units), .d (cI v1r.call), .d (cI v1r.part), .d (cB v1r.last), .d (cI v1r.trunk), .d (cB v1r.inbound)]], [⟨39, 12, y0tj1.length, none⟩]⟩) rfl ?_
      refine .drawn 9 hMix (by kernel_rfl) ?_
      show DOps _ _ _ _ _ _ _ (_ :: _) _ _ _
      refine .q (x := .d (.agg (Batch.row (⟨v0b.source, v0b.number, v0b.format, y0tj1⟩ : Batch)))) (q_loadOA one_31 sz_31 rfl rfl (Nat.le_of_ble_eq_true rfl) rfl) rfl ?_
      obtain ⟨y2, hy2, H⟩ := bind_some' H
      refine .g (x := .d (cI y2)) (g_call en_12 rfl rfl (c_f_batch_Check (hy2))) rfl ?_
      refine .q (x := .d (.agg (Batch.row (⟨v0b.source, v0b.number, v0b.format, y0tj1⟩ : Batch)))) (q_loadOA one_31 sz_31 rfl rfl (Nat.le_of_ble_eq_true rfl) rfl) rfl ?_
      obtain ⟨y3, hy3, H⟩ := bind_some' H
      refine .g (x := .d (cI y3)) (g_call en_13 rfl rfl (c_f_billingref12_Check (hy3))) rfl ?_
      refine .q (q_eql rfl rfl) rfl ?_
      refine .q (q_move rfl) rfl ?_
      obtain ⟨y4, hy4, H⟩ := bind_some' H
      refine .guardG (b := (y2 == y3)) (x := .d (cB y4)) (env' := []) rfl rfl rfl trivial rfl (fun hg => (g_call en_7 rfl rfl (c_f_billinglaw12_awake (gcall_some hy4 hg)))) ?_
      refine .q (q_pickAndB rfl rfl rfl) rfl ?_
      refine .q (q_assign rfl) rfl ?_
      refine .nil ?_
      show AOps _ _ _ _ _ _ [] _ _ _
      refine .nil ?_
      refine .retN [.tmp 6] [.d (cB ((y2 == y3) && y4))] Tryd.func5 Tryd.results5 ⟨rfl, trivial⟩ ?_
      cases H
      exact ⟨_, .rfl' _, rfl⟩
    · intro hj1 hj1x
      obtain ⟨n1, H⟩ := loop_some H
      refine .withSt (st' := ⟨[.row 31 [.d (cI v0b.source), .d (cI v0b.number), .d (cI v0b.format), .d (slOf 12 Record.row v0b.records)], .row 39 [.d (cI v1r.source), .d (cI v1r.serial), .d (cI v1r.kind), .d (cS v1r.a), .d (cS v1r.b), .d (cI v1r.start), .d (cI v1r.units), .d (cI v1r.call), .d (cI v1r.part), .d (cB v1r.last), .d (cI v1r.trunk), .d (cB v1r.inbound)]], [⟨39, 12, (List.replicate (Int.toNat (4096 + v2more)) (⟨0, 0, 0, ([] : List UInt8), ([] : List UInt8), 0, 0, 0, 0, false, 0, false⟩ : Record) : List Record).length, some ((List.replicate (Int.toNat (4096 + v2more)) (⟨0, 0, 0, ([] : List UInt8), ([] : List UInt8), 0, 0, 0, 0, false, 0, false⟩ : Record) : List Record).map Record.row)⟩]⟩) rfl <| .loop (ι := Nat × (List Record × Int)) (fun p => [(3, .ref 0 0), (4, .ref 1 0), (7, .vc 0 p.2.1.length), (8, .d (cI p.2.2))]) (fun p => ⟨[.row 31 [.d (cI v0b.source), .d (cI v0b.number), .d (cI v0b.format), .d (slOf 12 Record.row v0b.records)], .row 39 [.d (cI v1r.source), .d (cI v1r.serial), .d (cI v1r.kind), .d (cS v1r.a), .d (cS v1r.b), .d (cI v1r.start), .d (cI v1r.units), .d (cI v1r.call), .d (cI v1r.part), .d (cB v1r.last), .d (cI v1r.trunk), .d (cB v1r.inbound)]], [⟨39, 12, p.2.1.length, some (p.2.1.map Record.row)⟩]⟩) (fun p => iter (fun s => f_billinglaw12_BatchLengths_l1 v0b v1r s.1 s.2) p.1 p.2 = some r) (·.1) (n1, ((List.replicate (Int.toNat (4096 + v2more)) (⟨0, 0, 0, ([] : List UInt8), ([] : List UInt8), 0, 0, 0, 0, false, 0, false⟩ : Record) : List Record), 0)) H (.cons rfl (.rfl' _) (.cons rfl (.rfl' _) (.cons rfl (.rfl' _) (.cons rfl (.rfl' _) (.nil))))) rfl ?_
      rintro ⟨m1, y0tl1, v8il1⟩ HI ih1
      obtain ⟨n1, q1, hm1, H, HK1⟩ := iter_succ HI
      clear HI
      replace H : f_billinglaw12_BatchLengths_l1 v0b v1r y0tl1 v8il1 = some q1 := H
      unfold f_billinglaw12_BatchLengths_l1 at H
      change ARun _ _ _ _ _ _ [(3, .ref 0 0), (4, .ref 1 0), (7, .vc 0 y0tl1.length), (8, .d (cI v8il1))] ⟨[.row 31 [.d (cI v0b.source), .d (cI v0b.number), .d (cI v0b.format), .d (slOf 12 Record.row v0b.records)], .row 39 [.d (cI v1r.source), .d (cI v1r.serial), .d (cI v1r.kind), .d (cS v1r.a), .d (cS v1r.b), .d (cI v1r.start), .d (cI v1r.units), .d (cI v1r.call), .d (cI v1r.part), .d (cB v1r.last), .d (cI v1r.trunk), .d (cB v1r.inbound)]], [⟨39, 12, y0tl1.length, some (y0tl1.map Record.row)⟩]⟩
      refine .seq ?_
      refine .seq ?_
      refine .region ?_
      refine .q (q_move rfl) rfl ?_
      refine .q (q_move rfl) rfl ?_
      refine .q (x := .d (cI (y0tl1.length : Int))) (q_lenV (l := y0tl1) (row := Record.row) Tryd.underlying22 rfl rfl) rfl ?_
      refine .q (q_lss rfl rfl) rfl ?_
      refine .nil ?_
      refine .cond rfl (fun hc => ?_) (fun hc => ?_)
      · replace H := ifT hc H; clear hc
        refine .skip ?_
        refine .seq ?_
        refine .block ?_
        refine .region ?_
        refine .q (q_move rfl) rfl ?_
        refine .q (q_move rfl) rfl ?_
        refine .q (x := .d (.agg (Record.row v1r))) (q_loadOA one_39 sz_39 rfl rfl (Nat.le_of_ble_eq_true rfl) rfl) rfl ?_
        obtain ⟨hk3, H⟩ := ck_some H
        refine .q (x := .vp 0 y0tl1.length (Int.toNat (v8il1)) 0) (q_idxV (l := y0tl1) (row := Record.row) (i := v8il1) Tryd.underlying22 hi39 hs39 rfl rfl rfl hk3) rfl ?_
        obtain ⟨hk4, H⟩ := ck_some H
        refine .u (u_storeV (l := y0tl1) (row := Record.row) (a := v1r) rfl rfl hk4 rfl rfl sz_39 rfl (Nat.le_of_ble_eq_true rfl) rfl) rfl ?_
        refine .withSt (st' := ⟨[.row 31 [.d (cI v0b.source), .d (cI v0b.number), .d (cI v0b.format), .d (slOf 12 Record.row v0b.records)], .row 39 [.d (cI v1r.source), .d (cI v1r.serial), .d (cI v1r.kind), .d (cS v1r.a), .d (cS v1r.b), .d (cI v1r.start), .d (cI v1r.units), .d (cI v1r.call), .d (cI v1r.part), .d (cB v1r.last), .d (cI v1r.trunk), .d (cB v1r.inbound)]], [⟨39, 12, y0tl1.length, some ((y0tl1.set (Int.toNat (v8il1)) v1r).map Record.row)⟩]⟩) rfl ?_
        refine .nil ?_
        refine .inBlock ?_
        refine .region ?_
        refine .q (q_move rfl) rfl ?_
        obtain ⟨hk5, H⟩ := ck_some H
        refine .q (q_addI rfl rfl hk5.1 hk5.2) rfl ?_
        refine .q (q_assign rfl) rfl ?_
        refine .nil ?_
        cases H
        refine .normV (l := y0tl1.set (Int.toNat (v8il1)) v1r) (row := Record.row) (tk := 0) (fun z => [(3, .ref 0 0), (4, .ref 1 0), (7, .vc 0 z), (8, .d (cI (v8il1 + 1)))]) (fun z => ⟨[.row 31 [.d (cI v0b.source), .d (cI v0b.number), .d (cI v0b.format), .d (slOf 12 Record.row v0b.records)], .row 39 [.d (cI v1r.source), .d (cI v1r.serial), .d (cI v1r.kind), .d (cS v1r.a), .d (cS v1r.b), .d (cI v1r.start), .d (cI v1r.units), .d (cI v1r.call), .d (cI v1r.part), .d (cB v1r.last), .d (cI v1r.trunk), .d (cB v1r.inbound)]], [⟨39, 12, z, some ((y0tl1.set (Int.toNat (v8il1)) v1r).map Record.row)⟩]⟩) rfl (.cons rfl (.rfl' _) (.cons rfl (.rfl' _) (.cons rfl (.rfl' _) (.cons rfl (.rfl' _) (.nil))))) rfl ?_
        exact .withSt (st' := ⟨[.row 31 [.d (cI v0b.source), .d (cI v0b.number), .d (cI v0b.format), .d (slOf 12 Record.row v0b.records)], .row 39 [.d (cI v1r.source), .d (cI v1r.serial), .d (cI v1r.kind), .d (cS v1r.a), .d (cS v1r.b), .d (cI v1r.start), .d (cI v1r.units), .d (cI v1r.call), .d (cI v1r.part), .d (cB v1r.last), .d (cI v1r.trunk), .d (cB v1r.inbound)]], [⟨39, 12, (y0tl1.set (Int.toNat (v8il1)) v1r).length, some ((y0tl1.set (Int.toNat (v8il1)) v1r).map Record.row)⟩]⟩) rfl <| .sub (.cons rfl (.rfl' _) (.cons rfl (.rfl' _) (.cons rfl (.rfl' _) (.cons rfl (.rfl' _) (.nil))))) (ih1 (n1, (y0tl1.set (Int.toNat (v8il1)) v1r, v8il1 + 1)) HK1 hm1)
      · replace H := ifF hc H; clear hc
        refine .exit rfl ?_
        obtain ⟨q0, H9, hq0⟩ := map_some' H; clear H; cases hq0
        cases HK1
        have H := H9
        exact .withSt (st' := ⟨[.row 31 [.d (cI v0b.source), .d (cI v0b.number), .d (cI v0b.format), .d (slOf 12 Record.row v0b.records)], .row 39 [.d (cI v1r.source), .d (cI v1r.serial), .d (cI v1r.kind), .d (cS v1r.a), .d (cS v1r.b), .d (cI v1r.start), .d (cI v1r.units), .d (cI v1r.call), .d (cI v1r.part), .d (cB v1r.last), .d (cI v1r.trunk), .d (cB v1r.inbound)]], [⟨39, 12, y0tl1.length, some (y0tl1.map Record.row)⟩]⟩) rfl <| .sub (.cons rfl (.rfl' _) (.cons rfl (.rfl' _) (.nil))) (hj1x y0tl1 H)

set_option maxRecDepth 100000 in
set_option maxHeartbeats 1000000 in
theorem c_f_billingref09_Number {v0n : Int} {r : (List UInt8)} (H : f_billingref09_Number v0n = some r) : ACall Tryd.prog 62 [cI v0n] (· = cS r) := by
  obtain ⟨i5, hi5, hz5, hs5, hb5⟩ := in_5
  refine ACall.enter' Tryd.func62 rfl Tryd.ntmps62 rfl fun S hS => ?_
  unfold f_billingref09_Number at H
  change ARun _ _ _ _ _ _ [(0, .d (cI v0n))] _
  refine .seq ?_
  refine .region ?_
  refine .q (q_assign rfl) rfl ?_
  refine .nil ?_
  refine .seq ?_
  refine .region ?_
  refine .q (q_move rfl) rfl ?_
  obtain ⟨hk1, H⟩ := ck_some H
  refine .q (x := .d (cI (Int.tmod v0n 10))) (q_remT rfl rfl hk1) rfl ?_
  obtain ⟨hk2, H⟩ := ck_some H
  refine .q (q_addI rfl rfl hk2.1 hk2.2) rfl ?_
  refine .q (x := .d (cU8 (UInt8.ofInt (48 + (Int.tmod v0n 10))))) (q_conv8 Tryd.underlying3 Tryd.underlying5 rfl) rfl ?_
  refine .g (x := .d (slOf 1 rB8 ([UInt8.ofInt (48 + (Int.tmod v0n 10))] : List UInt8))) (g_buildSlice1 Tryd.underlying32 hi5 hs5 hz5 rfl rfl rfl rfl rfl) rfl ?_
  refine .q (x := .d (cS ([UInt8.ofInt (48 + (Int.tmod v0n 10))] : List UInt8))) (q_bytesStrL (a := ([UInt8.ofInt (48 + (Int.tmod v0n 10))] : List UInt8)) Tryd.underlying32 Tryd.underlying5 Tryd.underlying9 rfl rfl) rfl ?_
  refine .q (q_assign rfl) rfl ?_
  refine .nil ?_
  refine .seq ?_
  refine .seq ?_
  refine .region ?_
  refine .q (q_move rfl) rfl ?_
  obtain ⟨hk3, H⟩ := ck_some H
  refine .q (x := .d (cI (Int.tdiv v0n 10))) (q_quoT rfl rfl hk3) rfl ?_
  refine .q (q_assign rfl) rfl ?_
  refine .nil ?_
  refine .block ?_
  obtain ⟨n1, H⟩ := loop_some H
  refine .loop (ι := Nat × (Int × List UInt8)) (fun p => [(0, .d (cI p.2.1)), (3, .d (cS p.2.2))]) (fun p => ⟨[], []⟩) (fun p => iter (fun s => f_billingref09_Number_l1 s.1 s.2) p.1 p.2 = some r) (·.1) (n1, (Int.tdiv v0n 10, ([UInt8.ofInt (48 + (Int.tmod v0n 10))] : List UInt8))) H (.cons rfl (.rfl' _) (.cons rfl (.rfl' _) (.nil))) rfl ?_
  rintro ⟨m1, v0nl1, v3sl1⟩ HI ih1
  obtain ⟨n1, q1, hm1, H, HK1⟩ := iter_succ HI
  clear HI
  replace H : f_billingref09_Number_l1 v0nl1 v3sl1 = some q1 := H
  unfold f_billingref09_Number_l1 at H
  change ARun _ _ _ _ _ _ [(0, .d (cI v0nl1)), (3, .d (cS v3sl1))] ⟨[], []⟩
  refine .seq ?_
  refine .seq ?_
  refine .region ?_
  refine .q (q_move rfl) rfl ?_
  refine .q (q_gtr rfl rfl) rfl ?_
  refine .nil ?_
  refine .cond rfl (fun hc => ?_) (fun hc => ?_)
  · replace H := ifT hc H; clear hc
    refine .skip ?_
    refine .seq ?_
    refine .block ?_
    refine .region ?_
    refine .q (q_move rfl) rfl ?_
    obtain ⟨hk4, H⟩ := ck_some H
    refine .q (x := .d (cI (Int.tmod v0nl1 10))) (q_remT rfl rfl hk4) rfl ?_
    obtain ⟨hk5, H⟩ := ck_some H
    refine .q (q_addI rfl rfl hk5.1 hk5.2) rfl ?_
    refine .q (x := .d (cU8 (UInt8.ofInt (48 + (Int.tmod v0nl1 10))))) (q_conv8 Tryd.underlying3 Tryd.underlying5 rfl) rfl ?_
    refine .g (x := .d (slOf 1 rB8 ([UInt8.ofInt (48 + (Int.tmod v0nl1 10))] : List UInt8))) (g_buildSlice1 Tryd.underlying32 hi5 hs5 hz5 rfl rfl rfl rfl rfl) rfl ?_
    refine .q (x := .d (cS ([UInt8.ofInt (48 + (Int.tmod v0nl1 10))] : List UInt8))) (q_bytesStrL (a := ([UInt8.ofInt (48 + (Int.tmod v0nl1 10))] : List UInt8)) Tryd.underlying32 Tryd.underlying5 Tryd.underlying9 rfl rfl) rfl ?_
    refine .q (q_move rfl) rfl ?_
    obtain ⟨hk6, H⟩ := ck_some H
    refine .q (x := .d (cS (([UInt8.ofInt (48 + (Int.tmod v0nl1 10))] : List UInt8) ++ v3sl1))) (q_sadd rfl rfl hk6) rfl ?_
    refine .q (q_assign rfl) rfl ?_
    refine .nil ?_
    refine .inBlock ?_
    refine .region ?_
    refine .q (q_move rfl) rfl ?_
    obtain ⟨hk7, H⟩ := ck_some H
    refine .q (x := .d (cI (Int.tdiv v0nl1 10))) (q_quoT rfl rfl hk7) rfl ?_
    refine .q (q_assign rfl) rfl ?_
    refine .nil ?_
    cases H
    exact .sub (.cons rfl (.rfl' _) (.cons rfl (.rfl' _) (.nil))) (ih1 (n1, (Int.tdiv v0nl1 10, ([UInt8.ofInt (48 + (Int.tmod v0nl1 10))] : List UInt8) ++ v3sl1)) HK1 hm1)
  · replace H := ifF hc H; clear hc
    refine .exit rfl ?_
    refine .seq ?_
    refine .region ?_
    refine .q (q_move rfl) rfl ?_
    refine .q (q_assign rfl) rfl ?_
    refine .nil ?_
    refine .retN [.tmp 2] [.d (cS v3sl1)] Tryd.func62 Tryd.results62 ⟨rfl, trivial⟩ ?_
    cases H
    cases HK1
    exact ⟨_, .rfl' _, rfl⟩

set_option maxRecDepth 100000 in
set_option maxHeartbeats 1000000 in
theorem c_f_billingref09_Encode {v0 : Record} {r : (List UInt8) × Int} (H : f_billingref09_Encode v0 = some r) : ACall Tryd.prog 36 [.agg (Record.row v0)] (· = .tup [cS r.1, cI r.2]) := by
  refine ACall.enter' Tryd.func36 rfl Tryd.ntmps36 rfl fun S hS => ?_
  unfold f_billingref09_Encode at H
  change ARun _ _ _ _ _ _ [(0, .d (.agg (Record.row v0)))] _
  refine .seq ?_
  refine .region ?_
  refine .v (x := .ref 0 0) (v_box rfl rfl) rfl ?_
  refine .withSt (st' := ⟨[.row 39 [.d (cI v0.source), .d (cI v0.serial), .d (cI v0.kind), .d (cS v0.a), .d (cS v0.b), .d (cI v0.start), .d (cI v0.units), .d (cI v0.call), .d (cI v0.part), .d (cB v0.last), .d (cI v0.trunk), .d (cB v0.inbound)]], []⟩) rfl ?_
  refine .q (q_assign rfl) rfl ?_
  refine .q (q_assign rfl) rfl ?_
  refine .nil ?_
  refine .seq ?_
  refine .seq ?_
  refine .region ?_
  refine .q (x := .d (.agg (Record.row v0))) (q_loadOA one_39 sz_39 rfl rfl (Nat.le_of_ble_eq_true rfl) rfl) rfl ?_
  obtain ⟨y1, hy1, H⟩ := bind_some' H
  refine .g (x := .d (cI y1)) (g_call en_26 rfl rfl (c_f_billingref09_Error (hy1))) rfl ?_
  refine .q (q_assign rfl) rfl ?_
  refine .nil ?_
  refine .seq ?_
  refine .region ?_
  refine .q (q_move rfl) rfl ?_
  refine .q (q_neq rfl rfl) rfl ?_
  refine .nil ?_
  refine .cond rfl (fun hc => ?_) (fun hc => ?_)
  · replace H := ifT hc H; clear hc
    refine .seq ?_
    refine .region ?_
    refine .q (q_move rfl) rfl ?_
    refine .q (q_assign rfl) rfl ?_
    refine .q (q_assign rfl) rfl ?_
    refine .nil ?_
    refine .retN [.tmp 2, .tmp 3] [.d (cS ([] : List UInt8)), .d (cI y1)] Tryd.func36 Tryd.results36 ⟨rfl, rfl, trivial⟩ ?_
    cases H
    exact ⟨_, EVle.tupL (ds := [cS ([] : List UInt8), cI y1]) ⟨.rfl' _, .rfl' _, trivial⟩, rfl⟩
  · replace H := ifF hc H; clear hc
    refine .skip ?_
    refine .seq ?_
    refine .drawn 4 hMix (by kernel_rfl) ?_
    show DOps _ _ _ _ _ _ _ (_ :: _) _ _ _
    refine .q (q_fieldRef fo_39_4 rfl) rfl ?_
    refine .q (x := .d (cS v0.b)) (q_loadO one_9 rfl rfl rfl) rfl ?_
    refine .q (q_assign rfl) rfl ?_
    refine .q (q_assign rfl) rfl ?_
    refine .nil ?_
    show AOps _ _ _ _ _ _ [] _ _ _
    refine .nil ?_
    refine .seqJoin (ι := List UInt8) (fun s => [(1, .ref 0 0), (5, .d (cS ([118, 116, 100, 99] : List UInt8))), (6, .d (cS s))]) (fun s => ⟨[.row 39 [.d (cI v0.source), .d (cI v0.serial), .d (cI v0.kind), .d (cS v0.a), .d (cS v0.b), .d (cI v0.start), .d (cI v0.units), .d (cI v0.call), .d (cI v0.part), .d (cB v0.last), .d (cI v0.trunk), .d (cB v0.inbound)]], []⟩) (fun s => f_billingref09_Encode_j1 v0 s = some r) ?_ ?_
    · rintro v6j1 H
      replace H : f_billingref09_Encode_j1 v0 v6j1 = some r := H
      unfold f_billingref09_Encode_j1 at H
      change ARun _ _ _ _ _ _ [(1, .ref 0 0), (5, .d (cS ([118, 116, 100, 99] : List UInt8))), (6, .d (cS v6j1))] ⟨[.row 39 [.d (cI v0.source), .d (cI v0.serial), .d (cI v0.kind), .d (cS v0.a), .d (cS v0.b), .d (cI v0.start), .d (cI v0.units), .d (cI v0.call), .d (cI v0.part), .d (cB v0.last), .d (cI v0.trunk), .d (cB v0.inbound)]], []⟩
      refine .seq ?_
      refine .drawn 35 hMix (by kernel_rfl) ?_
      show DOps _ _ _ _ _ _ _ (_ :: _) _ _ _
      refine .q (q_move rfl) rfl ?_
      refine .q (q_fieldRef fo_39_2 rfl) rfl ?_
      refine .q (x := .d (cI v0.kind)) (q_loadO one_3 rfl rfl rfl) rfl ?_
      obtain ⟨hk1, H⟩ := ck_some H
      refine .q (q_subI rfl rfl hk1.1 hk1.2) rfl ?_
      refine .q (q_fieldRef fo_39_2 rfl) rfl ?_
      refine .q (x := .d (cI v0.kind)) (q_loadO one_3 rfl rfl rfl) rfl ?_
      obtain ⟨hk2, H⟩ := ck_some H
      refine .q (x := .d (cS ((([118, 116, 100, 99] : List UInt8).take (Int.toNat (v0.kind))).drop (Int.toNat (v0.kind - 1))))) (q_strLHL Tryd.underlying9 rfl rfl rfl hk2) rfl ?_
      obtain ⟨hk3, H⟩ := ck_some H
      refine .q (x := .d (cS (((([118, 116, 100, 99] : List UInt8).take (Int.toNat (v0.kind))).drop (Int.toNat (v0.kind - 1))) ++ ([32] : List UInt8)))) (q_sadd rfl rfl hk3) rfl ?_
      refine .q (q_fieldRef fo_39_0 rfl) rfl ?_
      refine .q (x := .d (cI v0.source)) (q_loadO one_3 rfl rfl rfl) rfl ?_
      obtain ⟨y2, hy2, H⟩ := bind_some' H
      refine .g (x := .d (cS y2)) (g_call en_62 rfl rfl (c_f_billingref09_Number (hy2))) rfl ?_
      obtain ⟨hk4, H⟩ := ck_some H
      refine .q (x := .d (cS ((((([118, 116, 100, 99] : List UInt8).take (Int.toNat (v0.kind))).drop (Int.toNat (v0.kind - 1))) ++ ([32] : List UInt8)) ++ y2))) (q_sadd rfl rfl hk4) rfl ?_
      obtain ⟨hk5, H⟩ := ck_some H
      refine .q (x := .d (cS (((((([118, 116, 100, 99] : List UInt8).take (Int.toNat (v0.kind))).drop (Int.toNat (v0.kind - 1))) ++ ([32] : List UInt8)) ++ y2) ++ ([32] : List UInt8)))) (q_sadd rfl rfl hk5) rfl ?_
      refine .q (q_fieldRef fo_39_1 rfl) rfl ?_
      refine .q (x := .d (cI v0.serial)) (q_loadO one_3 rfl rfl rfl) rfl ?_
      obtain ⟨y3, hy3, H⟩ := bind_some' H
      refine .g (x := .d (cS y3)) (g_call en_62 rfl rfl (c_f_billingref09_Number (hy3))) rfl ?_
      obtain ⟨hk6, H⟩ := ck_some H
      refine .q (x := .d (cS ((((((([118, 116, 100, 99] : List UInt8).take (Int.toNat (v0.kind))).drop (Int.toNat (v0.kind - 1))) ++ ([32] : List UInt8)) ++ y2) ++ ([32] : List UInt8)) ++ y3))) (q_sadd rfl rfl hk6) rfl ?_
      obtain ⟨hk7, H⟩ := ck_some H
      refine .q (x := .d (cS (((((((([118, 116, 100, 99] : List UInt8).take (Int.toNat (v0.kind))).drop (Int.toNat (v0.kind - 1))) ++ ([32] : List UInt8)) ++ y2) ++ ([32] : List UInt8)) ++ y3) ++ ([32] : List UInt8)))) (q_sadd rfl rfl hk7) rfl ?_
      refine .q (q_fieldRef fo_39_3 rfl) rfl ?_
      refine .q (x := .d (cS v0.a)) (q_loadO one_9 rfl rfl rfl) rfl ?_
      obtain ⟨hk8, H⟩ := ck_some H
      refine .q (x := .d (cS ((((((((([118, 116, 100, 99] : List UInt8).take (Int.toNat (v0.kind))).drop (Int.toNat (v0.kind - 1))) ++ ([32] : List UInt8)) ++ y2) ++ ([32] : List UInt8)) ++ y3) ++ ([32] : List UInt8)) ++ v0.a))) (q_sadd rfl rfl hk8) rfl ?_
      obtain ⟨hk9, H⟩ := ck_some H
      refine .q (x := .d (cS (((((((((([118, 116, 100, 99] : List UInt8).take (Int.toNat (v0.kind))).drop (Int.toNat (v0.kind - 1))) ++ ([32] : List UInt8)) ++ y2) ++ ([32] : List UInt8)) ++ y3) ++ ([32] : List UInt8)) ++ v0.a) ++ ([32] : List UInt8)))) (q_sadd rfl rfl hk9) rfl ?_
      refine .q (q_move rfl) rfl ?_
      obtain ⟨hk10, H⟩ := ck_some H
      refine .q (x := .d (cS ((((((((((([118, 116, 100, 99] : List UInt8).take (Int.toNat (v0.kind))).drop (Int.toNat (v0.kind - 1))) ++ ([32] : List UInt8)) ++ y2) ++ ([32] : List UInt8)) ++ y3) ++ ([32] : List UInt8)) ++ v0.a) ++ ([32] : List UInt8)) ++ v6j1))) (q_sadd rfl rfl hk10) rfl ?_
      obtain ⟨hk11, H⟩ := ck_some H
      refine .q (x := .d (cS (((((((((((([118, 116, 100, 99] : List UInt8).take (Int.toNat (v0.kind))).drop (Int.toNat (v0.kind - 1))) ++ ([32] : List UInt8)) ++ y2) ++ ([32] : List UInt8)) ++ y3) ++ ([32] : List UInt8)) ++ v0.a) ++ ([32] : List UInt8)) ++ v6j1) ++ ([32] : List UInt8)))) (q_sadd rfl rfl hk11) rfl ?_
      refine .q (q_fieldRef fo_39_5 rfl) rfl ?_
      refine .q (x := .d (cI v0.start)) (q_loadO one_3 rfl rfl rfl) rfl ?_
      obtain ⟨y4, hy4, H⟩ := bind_some' H
      refine .g (x := .d (cS y4)) (g_call en_62 rfl rfl (c_f_billingref09_Number (hy4))) rfl ?_
      obtain ⟨hk12, H⟩ := ck_some H
      refine .q (x := .d (cS ((((((((((((([118, 116, 100, 99] : List UInt8).take (Int.toNat (v0.kind))).drop (Int.toNat (v0.kind - 1))) ++ ([32] : List UInt8)) ++ y2) ++ ([32] : List UInt8)) ++ y3) ++ ([32] : List UInt8)) ++ v0.a) ++ ([32] : List UInt8)) ++ v6j1) ++ ([32] : List UInt8)) ++ y4))) (q_sadd rfl rfl hk12) rfl ?_
      obtain ⟨hk13, H⟩ := ck_some H
      refine .q (x := .d (cS (((((((((((((([118, 116, 100, 99] : List UInt8).take (Int.toNat (v0.kind))).drop (Int.toNat (v0.kind - 1))) ++ ([32] : List UInt8)) ++ y2) ++ ([32] : List UInt8)) ++ y3) ++ ([32] : List UInt8)) ++ v0.a) ++ ([32] : List UInt8)) ++ v6j1) ++ ([32] : List UInt8)) ++ y4) ++ ([32] : List UInt8)))) (q_sadd rfl rfl hk13) rfl ?_
      refine .q (q_fieldRef fo_39_6 rfl) rfl ?_
      refine .q (x := .d (cI v0.units)) (q_loadO one_3 rfl rfl rfl) rfl ?_
      obtain ⟨y5, hy5, H⟩ := bind_some' H
      refine .g (x := .d (cS y5)) (g_call en_62 rfl rfl (c_f_billingref09_Number (hy5))) rfl ?_
      obtain ⟨hk14, H⟩ := ck_some H
      refine .q (x := .d (cS ((((((((((((((([118, 116, 100, 99] : List UInt8).take (Int.toNat (v0.kind))).drop (Int.toNat (v0.kind - 1))) ++ ([32] : List UInt8)) ++ y2) ++ ([32] : List UInt8)) ++ y3) ++ ([32] : List UInt8)) ++ v0.a) ++ ([32] : List UInt8)) ++ v6j1) ++ ([32] : List UInt8)) ++ y4) ++ ([32] : List UInt8)) ++ y5))) (q_sadd rfl rfl hk14) rfl ?_
      refine .q (q_assign rfl) rfl ?_
      refine .nil ?_
      show AOps _ _ _ _ _ _ [] _ _ _
      refine .nil ?_
      refine .seqJoin (ι := List UInt8) (fun s => [(1, .ref 0 0), (7, .d (cS s))]) (fun s => ⟨[.row 39 [.d (cI v0.source), .d (cI v0.serial), .d (cI v0.kind), .d (cS v0.a), .d (cS v0.b), .d (cI v0.start), .d (cI v0.units), .d (cI v0.call), .d (cI v0.part), .d (cB v0.last), .d (cI v0.trunk), .d (cB v0.inbound)]], []⟩) (fun s => f_billingref09_Encode_j2 v0 s = some r) ?_ ?_
      · rintro v7j2 H
        replace H : f_billingref09_Encode_j2 v0 v7j2 = some r := H
        unfold f_billingref09_Encode_j2 at H
        change ARun _ _ _ _ _ _ [(1, .ref 0 0), (7, .d (cS v7j2))] ⟨[.row 39 [.d (cI v0.source), .d (cI v0.serial), .d (cI v0.kind), .d (cS v0.a), .d (cS v0.b), .d (cI v0.start), .d (cI v0.units), .d (cI v0.call), .d (cI v0.part), .d (cB v0.last), .d (cI v0.trunk), .d (cB v0.inbound)]], []⟩
        refine .seqJoin (ι := List UInt8) (fun s => [(1, .ref 0 0), (7, .d (cS s))]) (fun s => ⟨[.row 39 [.d (cI v0.source), .d (cI v0.serial), .d (cI v0.kind), .d (cS v0.a), .d (cS v0.b), .d (cI v0.start), .d (cI v0.units), .d (cI v0.call), .d (cI v0.part), .d (cB v0.last), .d (cI v0.trunk), .d (cB v0.inbound)]], []⟩) (fun s => f_billingref09_Encode_j3 v0 s = some r) ?_ ?_
        · rintro v7j3 H
          replace H : f_billingref09_Encode_j3 v0 v7j3 = some r := H
          unfold f_billingref09_Encode_j3 at H
          change ARun _ _ _ _ _ _ [(1, .ref 0 0), (7, .d (cS v7j3))] ⟨[.row 39 [.d (cI v0.source), .d (cI v0.serial), .d (cI v0.kind), .d (cS v0.a), .d (cS v0.b), .d (cI v0.start), .d (cI v0.units), .d (cI v0.call), .d (cI v0.part), .d (cB v0.last), .d (cI v0.trunk), .d (cB v0.inbound)]], []⟩
          refine .seqJoin (ι := List UInt8) (fun s => [(1, .ref 0 0), (7, .d (cS s))]) (fun s => ⟨[.row 39 [.d (cI v0.source), .d (cI v0.serial), .d (cI v0.kind), .d (cS v0.a), .d (cS v0.b), .d (cI v0.start), .d (cI v0.units), .d (cI v0.call), .d (cI v0.part), .d (cB v0.last), .d (cI v0.trunk), .d (cB v0.inbound)]], []⟩) (fun s => f_billingref09_Encode_j4 v0 s = some r) ?_ ?_
          · rintro v7j4 H
            replace H : f_billingref09_Encode_j4 v0 v7j4 = some r := H
            unfold f_billingref09_Encode_j4 at H
            change ARun _ _ _ _ _ _ [(1, .ref 0 0), (7, .d (cS v7j4))] ⟨[.row 39 [.d (cI v0.source), .d (cI v0.serial), .d (cI v0.kind), .d (cS v0.a), .d (cS v0.b), .d (cI v0.start), .d (cI v0.units), .d (cI v0.call), .d (cI v0.part), .d (cB v0.last), .d (cI v0.trunk), .d (cB v0.inbound)]], []⟩
            refine .seq ?_
            refine .seq ?_
            refine .region ?_
            refine .q (q_fieldRef fo_39_10 rfl) rfl ?_
            refine .q (x := .d (cI v0.trunk)) (q_loadO one_3 rfl rfl rfl) rfl ?_
            refine .q (q_gtr rfl rfl) rfl ?_
            refine .q (q_move rfl) rfl ?_
            refine .guardG (env' := [(1, _)]) rfl rfl rfl ⟨.inl rfl, trivial⟩ rfl (fun hg => OpQ.g (q_fieldRef fo_39_11 rfl)) ?_
            refine .guardG (b := decide (v0.trunk > 0)) (x := .d (cB v0.inbound)) (env' := [(86, _)]) rfl rfl rfl ⟨.inr (.inl rfl), trivial⟩ rfl (fun hg => OpQ.g (q_loadO one_4 rfl rfl rfl)) ?_
            refine .guardG (env' := [(87, _)]) rfl rfl rfl ⟨.inr (.inl rfl), trivial⟩ rfl (fun hg => OpQ.g (q_not rfl)) ?_
            refine .q (q_pickAndB rfl rfl rfl) rfl ?_
            refine .nil ?_
            refine .cond rfl (fun hc => ?_) (fun hc => ?_)
            · replace H := ifT hc H; clear hc
              refine .region ?_
              refine .q (q_move rfl) rfl ?_
              obtain ⟨hk15, H⟩ := ck_some H
              refine .q (x := .d (cS (v7j4 ++ ([32, 111, 117, 116, 32] : List UInt8)))) (q_sadd rfl rfl hk15) rfl ?_
              refine .q (q_fieldRef fo_39_10 rfl) rfl ?_
              refine .q (x := .d (cI v0.trunk)) (q_loadO one_3 rfl rfl rfl) rfl ?_
              obtain ⟨y6, hy6, H⟩ := bind_some' H
              refine .g (x := .d (cS y6)) (g_call en_62 rfl rfl (c_f_billingref09_Number (hy6))) rfl ?_
              obtain ⟨hk16, H⟩ := ck_some H
              refine .q (x := .d (cS ((v7j4 ++ ([32, 111, 117, 116, 32] : List UInt8)) ++ y6))) (q_sadd rfl rfl hk16) rfl ?_
              refine .q (q_assign rfl) rfl ?_
              refine .nil ?_
              refine .seq ?_
              refine .region ?_
              refine .q (q_move rfl) rfl ?_
              refine .q (q_assign rfl) rfl ?_
              refine .q (q_assign rfl) rfl ?_
              refine .nil ?_
              refine .retN [.tmp 2, .tmp 3] [.d (cS ((v7j4 ++ ([32, 111, 117, 116, 32] : List UInt8)) ++ y6)), .d (cI 0)] Tryd.func36 Tryd.results36 ⟨rfl, rfl, trivial⟩ ?_
              cases H
              exact ⟨_, EVle.tupL (ds := [cS ((v7j4 ++ ([32, 111, 117, 116, 32] : List UInt8)) ++ y6), cI 0]) ⟨.rfl' _, .rfl' _, trivial⟩, rfl⟩
            · replace H := ifF hc H; clear hc
              refine .skip ?_
              refine .seq ?_
              refine .region ?_
              refine .q (q_move rfl) rfl ?_
              refine .q (q_assign rfl) rfl ?_
              refine .q (q_assign rfl) rfl ?_
              refine .nil ?_
              refine .retN [.tmp 2, .tmp 3] [.d (cS v7j4), .d (cI 0)] Tryd.func36 Tryd.results36 ⟨rfl, rfl, trivial⟩ ?_
              cases H
              exact ⟨_, EVle.tupL (ds := [cS v7j4, cI 0]) ⟨.rfl' _, .rfl' _, trivial⟩, rfl⟩
          · intro hj4
            refine .seq ?_
            refine .region ?_
            refine .q (q_fieldRef fo_39_10 rfl) rfl ?_
            refine .q (x := .d (cI v0.trunk)) (q_loadO one_3 rfl rfl rfl) rfl ?_
            refine .q (q_gtr rfl rfl) rfl ?_
            refine .q (q_move rfl) rfl ?_
            refine .guardG (env' := [(1, _)]) rfl rfl rfl ⟨.inl rfl, trivial⟩ rfl (fun hg => OpQ.g (q_fieldRef fo_39_11 rfl)) ?_
            refine .guardG (b := decide (v0.trunk > 0)) (x := .d (cB v0.inbound)) (env' := [(73, _)]) rfl rfl rfl ⟨.inr (.inl rfl), trivial⟩ rfl (fun hg => OpQ.g (q_loadO one_4 rfl rfl rfl)) ?_
            refine .q (q_pickAndB rfl rfl rfl) rfl ?_
            refine .nil ?_
            refine .cond rfl (fun hc => ?_) (fun hc => ?_)
            · replace H := ifT hc H; clear hc
              refine .region ?_
              refine .q (q_move rfl) rfl ?_
              obtain ⟨hk17, H⟩ := ck_some H
              refine .q (x := .d (cS (v7j3 ++ ([32, 105, 110, 32] : List UInt8)))) (q_sadd rfl rfl hk17) rfl ?_
              refine .q (q_fieldRef fo_39_10 rfl) rfl ?_
              refine .q (x := .d (cI v0.trunk)) (q_loadO one_3 rfl rfl rfl) rfl ?_
              obtain ⟨y7, hy7, H⟩ := bind_some' H
              refine .g (x := .d (cS y7)) (g_call en_62 rfl rfl (c_f_billingref09_Number (hy7))) rfl ?_
              obtain ⟨hk18, H⟩ := ck_some H
              refine .q (x := .d (cS ((v7j3 ++ ([32, 105, 110, 32] : List UInt8)) ++ y7))) (q_sadd rfl rfl hk18) rfl ?_
              refine .q (q_assign rfl) rfl ?_
              refine .nil ?_
              exact .sub (.cons rfl (.rfl' _) (.cons rfl (.rfl' _) (.nil))) (hj4 ((v7j3 ++ ([32, 105, 110, 32] : List UInt8)) ++ y7) H)
            · replace H := ifF hc H; clear hc
              refine .skip ?_
              exact .sub (.cons rfl (.rfl' _) (.cons rfl (.rfl' _) (.nil))) (hj4 v7j3 H)
        · intro hj3
          refine .seq ?_
          refine .region ?_
          refine .q (q_fieldRef fo_39_9 rfl) rfl ?_
          refine .q (x := .d (cB v0.last)) (q_loadO one_4 rfl rfl rfl) rfl ?_
          refine .nil ?_
          refine .cond rfl (fun hc => ?_) (fun hc => ?_)
          · replace H := ifT hc H; clear hc
            refine .region ?_
            refine .q (q_move rfl) rfl ?_
            obtain ⟨hk19, H⟩ := ck_some H
            refine .q (x := .d (cS (v7j2 ++ ([32, 108, 97, 115, 116] : List UInt8)))) (q_sadd rfl rfl hk19) rfl ?_
            refine .q (q_assign rfl) rfl ?_
            refine .nil ?_
            exact .sub (.cons rfl (.rfl' _) (.cons rfl (.rfl' _) (.nil))) (hj3 (v7j2 ++ ([32, 108, 97, 115, 116] : List UInt8)) H)
          · replace H := ifF hc H; clear hc
            refine .skip ?_
            exact .sub (.cons rfl (.rfl' _) (.cons rfl (.rfl' _) (.nil))) (hj3 v7j2 H)
      · intro hj2
        refine .seq ?_
        refine .region ?_
        refine .q (q_fieldRef fo_39_8 rfl) rfl ?_
        refine .q (x := .d (cI v0.part)) (q_loadO one_3 rfl rfl rfl) rfl ?_
        refine .q (q_gtr rfl rfl) rfl ?_
        refine .nil ?_
        refine .cond rfl (fun hc => ?_) (fun hc => ?_)
        · replace H := ifT hc H; clear hc
          refine .drawn 12 hMix (by kernel_rfl) ?_
          show DOps _ _ _ _ _ _ _ (_ :: _) _ _ _
          refine .q (q_move rfl) rfl ?_
          obtain ⟨hk20, H⟩ := ck_some H
          refine .q (x := .d (cS (((((((((((((((([118, 116, 100, 99] : List UInt8).take (Int.toNat (v0.kind))).drop (Int.toNat (v0.kind - 1))) ++ ([32] : List UInt8)) ++ y2) ++ ([32] : List UInt8)) ++ y3) ++ ([32] : List UInt8)) ++ v0.a) ++ ([32] : List UInt8)) ++ v6j1) ++ ([32] : List UInt8)) ++ y4) ++ ([32] : List UInt8)) ++ y5) ++ ([32, 112, 97, 114, 116, 32] : List UInt8)))) (q_sadd rfl rfl hk20) rfl ?_
          refine .q (q_fieldRef fo_39_7 rfl) rfl ?_
          refine .q (x := .d (cI v0.call)) (q_loadO one_3 rfl rfl rfl) rfl ?_
          obtain ⟨y8, hy8, H⟩ := bind_some' H
          refine .g (x := .d (cS y8)) (g_call en_62 rfl rfl (c_f_billingref09_Number (hy8))) rfl ?_
          obtain ⟨hk21, H⟩ := ck_some H
          refine .q (x := .d (cS ((((((((((((((((([118, 116, 100, 99] : List UInt8).take (Int.toNat (v0.kind))).drop (Int.toNat (v0.kind - 1))) ++ ([32] : List UInt8)) ++ y2) ++ ([32] : List UInt8)) ++ y3) ++ ([32] : List UInt8)) ++ v0.a) ++ ([32] : List UInt8)) ++ v6j1) ++ ([32] : List UInt8)) ++ y4) ++ ([32] : List UInt8)) ++ y5) ++ ([32, 112, 97, 114, 116, 32] : List UInt8)) ++ y8))) (q_sadd rfl rfl hk21) rfl ?_
          obtain ⟨hk22, H⟩ := ck_some H
          refine .q (x := .d (cS (((((((((((((((((([118, 116, 100, 99] : List UInt8).take (Int.toNat (v0.kind))).drop (Int.toNat (v0.kind - 1))) ++ ([32] : List UInt8)) ++ y2) ++ ([32] : List UInt8)) ++ y3) ++ ([32] : List UInt8)) ++ v0.a) ++ ([32] : List UInt8)) ++ v6j1) ++ ([32] : List UInt8)) ++ y4) ++ ([32] : List UInt8)) ++ y5) ++ ([32, 112, 97, 114, 116, 32] : List UInt8)) ++ y8) ++ ([32] : List UInt8)))) (q_sadd rfl rfl hk22) rfl ?_
          refine .q (q_fieldRef fo_39_8 rfl) rfl ?_
          refine .q (x := .d (cI v0.part)) (q_loadO one_3 rfl rfl rfl) rfl ?_
          obtain ⟨y9, hy9, H⟩ := bind_some' H
          refine .g (x := .d (cS y9)) (g_call en_62 rfl rfl (c_f_billingref09_Number (hy9))) rfl ?_
          obtain ⟨hk23, H⟩ := ck_some H
          refine .q (x := .d (cS ((((((((((((((((((([118, 116, 100, 99] : List UInt8).take (Int.toNat (v0.kind))).drop (Int.toNat (v0.kind - 1))) ++ ([32] : List UInt8)) ++ y2) ++ ([32] : List UInt8)) ++ y3) ++ ([32] : List UInt8)) ++ v0.a) ++ ([32] : List UInt8)) ++ v6j1) ++ ([32] : List UInt8)) ++ y4) ++ ([32] : List UInt8)) ++ y5) ++ ([32, 112, 97, 114, 116, 32] : List UInt8)) ++ y8) ++ ([32] : List UInt8)) ++ y9))) (q_sadd rfl rfl hk23) rfl ?_
          refine .q (q_assign rfl) rfl ?_
          refine .nil ?_
          show AOps _ _ _ _ _ _ [] _ _ _
          refine .nil ?_
          exact .sub (.cons rfl (.rfl' _) (.cons rfl (.rfl' _) (.nil))) (hj2 ((((((((((((((((((([118, 116, 100, 99] : List UInt8).take (Int.toNat (v0.kind))).drop (Int.toNat (v0.kind - 1))) ++ ([32] : List UInt8)) ++ y2) ++ ([32] : List UInt8)) ++ y3) ++ ([32] : List UInt8)) ++ v0.a) ++ ([32] : List UInt8)) ++ v6j1) ++ ([32] : List UInt8)) ++ y4) ++ ([32] : List UInt8)) ++ y5) ++ ([32, 112, 97, 114, 116, 32] : List UInt8)) ++ y8) ++ ([32] : List UInt8)) ++ y9) H)
        · replace H := ifF hc H; clear hc
          refine .skip ?_
          exact .sub (.cons rfl (.rfl' _) (.cons rfl (.rfl' _) (.nil))) (hj2 ((((((((((((((([118, 116, 100, 99] : List UInt8).take (Int.toNat (v0.kind))).drop (Int.toNat (v0.kind - 1))) ++ ([32] : List UInt8)) ++ y2) ++ ([32] : List UInt8)) ++ y3) ++ ([32] : List UInt8)) ++ v0.a) ++ ([32] : List UInt8)) ++ v6j1) ++ ([32] : List UInt8)) ++ y4) ++ ([32] : List UInt8)) ++ y5) H)
    · intro hj1
      refine .seq ?_
      refine .region ?_
      refine .q (q_move rfl) rfl ?_
      refine .q (q_seql rfl rfl) rfl ?_
      refine .nil ?_
      refine .cond rfl (fun hc => ?_) (fun hc => ?_)
      · replace H := ifT hc H; clear hc
        refine .region ?_
        refine .q (q_assign rfl) rfl ?_
        refine .nil ?_
        exact .sub (.cons rfl (.rfl' _) (.cons rfl (.rfl' _) (.cons rfl (.rfl' _) (.nil)))) (hj1 ([45] : List UInt8) H)
      · replace H := ifF hc H; clear hc
        refine .skip ?_
        exact .sub (.cons rfl (.rfl' _) (.cons rfl (.rfl' _) (.cons rfl (.rfl' _) (.nil)))) (hj1 v0.b H)

set_option maxRecDepth 100000 in
set_option maxHeartbeats 1000000 in
theorem c_f_billingref02_Pack {v0s : List UInt8} {r : (List UInt8) × Int} (H : f_billingref02_Pack v0s = some r) : ACall Tryd.prog 63 [cS v0s] (· = .tup [slOf 1 rB8 r.1, cI r.2]) := by
  obtain ⟨i5, hi5, hz5, hs5, hb5⟩ := in_5
  refine ACall.enter' Tryd.func63 rfl Tryd.ntmps63 rfl fun S hS => ?_
  unfold f_billingref02_Pack at H
  change ARun _ _ _ _ _ _ [(0, .d (cS v0s))] _
  refine .seq ?_
  refine .region ?_
  refine .q (q_assign rfl) rfl ?_
  refine .q (q_assign rfl) rfl ?_
  refine .nil ?_
  refine .seq ?_
  refine .seq ?_
  refine .region ?_
  refine .q (q_move rfl) rfl ?_
  obtain ⟨y1, hy1, H⟩ := bind_some' H
  refine .g (x := .d (cB y1)) (g_call en_44 rfl rfl (c_f_billingref02_Valid (hy1))) rfl ?_
  refine .q (q_not rfl) rfl ?_
  refine .nil ?_
  refine .cond rfl (fun hc => ?_) (fun hc => ?_)
  · replace H := ifT hc H; clear hc
    refine .seq ?_
    refine .region ?_
    refine .q (q_assign rfl) rfl ?_
    refine .q (q_assign rfl) rfl ?_
    refine .nil ?_
    refine .retN [.tmp 2, .tmp 3] [.d (nilD), .d (cI 12)] Tryd.func63 Tryd.results63 ⟨rfl, rfl, trivial⟩ ?_
    cases H
    exact ⟨_, EVle.tupL (ds := [slOf 1 rB8 ([] : List UInt8), cI 12]) ⟨.nil 1, .rfl' _, trivial⟩, rfl⟩
  · replace H := ifF hc H; clear hc
    refine .skip ?_
    refine .seq ?_
    refine .region ?_
    refine .v (x := .tsl 1 (([] : List UInt8).map rB8) 0) (v_build0T Tryd.underlying32 hi5 hs5) rfl ?_
    refine .withSt (st' := ⟨[], [⟨5, 1, ([] : List UInt8).length, none⟩]⟩) rfl ?_
    refine .q (q_assign rfl) rfl ?_
    refine .nil ?_
    refine .seq ?_
    refine .seq ?_
    refine .region ?_
    refine .q (q_assign rfl) rfl ?_
    refine .nil ?_
    refine .block ?_
    obtain ⟨n1, H⟩ := loop_some H
    refine .withSt (st' := ⟨[], [⟨5, 1, ([] : List UInt8).length, none⟩]⟩) rfl <| .loop (ι := Nat × (List UInt8 × Int)) (fun p => [(0, .d (cS v0s)), (4, .tsl 1 (p.2.1.map rB8) 0), (5, .d (cI p.2.2))]) (fun p => ⟨[], [⟨5, 1, p.2.1.length, none⟩]⟩) (fun p => iter (fun s => f_billingref02_Pack_l1 v0s s.1 s.2) p.1 p.2 = some r) (·.1) (n1, (([] : List UInt8), 0)) H (.cons rfl (.rfl' _) (.cons rfl (.rfl' _) (.cons rfl (.rfl' _) (.nil)))) rfl ?_
    rintro ⟨m1, v4outl1, v5il1⟩ HI ih1
    obtain ⟨n1, q1, hm1, H, HK1⟩ := iter_succ HI
    clear HI
    replace H : f_billingref02_Pack_l1 v0s v4outl1 v5il1 = some q1 := H
    unfold f_billingref02_Pack_l1 at H
    change ARun _ _ _ _ _ _ [(0, .d (cS v0s)), (4, .tsl 1 (v4outl1.map rB8) 0), (5, .d (cI v5il1))] ⟨[], [⟨5, 1, v4outl1.length, none⟩]⟩
    refine .seq ?_
    refine .seq ?_
    refine .region ?_
    refine .q (q_move rfl) rfl ?_
    refine .q (q_move rfl) rfl ?_
    refine .q (q_lenS Tryd.underlying9 rfl) rfl ?_
    refine .q (q_lss rfl rfl) rfl ?_
    refine .nil ?_
    refine .cond rfl (fun hc => ?_) (fun hc => ?_)
    · replace H := ifT hc H; clear hc
      refine .skip ?_
      refine .seq ?_
      refine .block ?_
      refine .seq ?_
      refine .region ?_
      refine .q (q_assign rfl) rfl ?_
      refine .nil ?_
      refine .seqJoin (ι := UInt8) (fun s => [(0, .d (cS v0s)), (4, .tsl 1 (v4outl1.map rB8) 0), (5, .d (cI v5il1)), (6, .d (cU8 s))]) (fun s => ⟨[], [⟨5, 1, v4outl1.length, none⟩]⟩) (fun s => f_billingref02_Pack_j1 v0s v4outl1 v5il1 s = some q1) ?_ ?_
      · rintro v6lowj1 H
        replace H : f_billingref02_Pack_j1 v0s v4outl1 v5il1 v6lowj1 = some q1 := H
        unfold f_billingref02_Pack_j1 at H
        change ARun _ _ _ _ _ _ [(0, .d (cS v0s)), (4, .tsl 1 (v4outl1.map rB8) 0), (5, .d (cI v5il1)), (6, .d (cU8 v6lowj1))] ⟨[], [⟨5, 1, v4outl1.length, none⟩]⟩
        refine .region ?_
        refine .q (q_move rfl) rfl ?_
        refine .q (q_move rfl) rfl ?_
        refine .q (q_move rfl) rfl ?_
        obtain ⟨hk1, H⟩ := ck_some H
        refine .q (x := .d (cU8 (nth v0s (Int.toNat (v5il1))))) (q_indexL (i := v5il1) Tryd.underlying9 rfl rfl hk1) rfl ?_
        refine .q (x := .d (cU8 ((nth v0s (Int.toNat (v5il1))) - 48))) (q8_sub (a := nth v0s (Int.toNat (v5il1))) (b := 48) rfl rfl) rfl ?_
        obtain ⟨hk2, H⟩ := ck_some H
        refine .q (x := .d (cU8 (u8shl ((nth v0s (Int.toNat (v5il1))) - 48) 4))) (q8_shl (a := (nth v0s (Int.toNat (v5il1))) - 48) (n := 4) rfl rfl hk2) rfl ?_
        refine .q (q_move rfl) rfl ?_
        refine .q (x := .d (cU8 ((u8shl ((nth v0s (Int.toNat (v5il1))) - 48) 4) ||| v6lowj1))) (q8_or (a := u8shl ((nth v0s (Int.toNat (v5il1))) - 48) 4) (b := v6lowj1) rfl rfl) rfl ?_
        refine .g (x := .d (slOf 1 rB8 ([(u8shl ((nth v0s (Int.toNat (v5il1))) - 48) 4) ||| v6lowj1] : List UInt8))) (g_buildSlice1 Tryd.underlying32 hi5 hs5 hz5 rfl rfl rfl rfl rfl) rfl ?_
        obtain ⟨hk3, H⟩ := ck_some H
        refine .v (x := .tsl 1 ((v4outl1 ++ ([(u8shl ((nth v0s (Int.toNat (v5il1))) - 48) 4) ||| v6lowj1] : List UInt8)).map rB8) 0) (v_appendL (l := v4outl1) (l' := ([(u8shl ((nth v0s (Int.toNat (v5il1))) - 48) 4) ||| v6lowj1] : List UInt8)) (row := rB8) Tryd.underlying32 hi5 hz5 hs5 rfl (by rw [hb5]; decide) rfl rfl rfl rfl hk3) rfl ?_
        refine .withSt (st' := ⟨[], [⟨5, 1, (v4outl1 ++ ([(u8shl ((nth v0s (Int.toNat (v5il1))) - 48) 4) ||| v6lowj1] : List UInt8)).length, none⟩]⟩) rfl ?_
        refine .q (q_assign rfl) rfl ?_
        refine .nil ?_
        refine .inBlock ?_
        refine .region ?_
        refine .q (q_move rfl) rfl ?_
        obtain ⟨hk4, H⟩ := ck_some H
        refine .q (q_addI rfl rfl hk4.1 hk4.2) rfl ?_
        refine .q (q_assign rfl) rfl ?_
        refine .nil ?_
        cases H
        exact .withSt (st' := ⟨[], [⟨5, 1, (v4outl1 ++ ([(u8shl ((nth v0s (Int.toNat (v5il1))) - 48) 4) ||| v6lowj1] : List UInt8)).length, none⟩]⟩) rfl <| .sub (.cons rfl (.rfl' _) (.cons rfl (.rfl' _) (.cons rfl (.rfl' _) (.nil)))) (ih1 (n1, (v4outl1 ++ ([(u8shl ((nth v0s (Int.toNat (v5il1))) - 48) 4) ||| v6lowj1] : List UInt8), v5il1 + 2)) HK1 hm1)
      · intro hj1
        refine .seq ?_
        refine .region ?_
        refine .q (q_move rfl) rfl ?_
        obtain ⟨hk5, H⟩ := ck_some H
        refine .q (q_addI rfl rfl hk5.1 hk5.2) rfl ?_
        refine .q (q_move rfl) rfl ?_
        refine .q (q_lenS Tryd.underlying9 rfl) rfl ?_
        refine .q (q_lss rfl rfl) rfl ?_
        refine .nil ?_
        refine .cond rfl (fun hc => ?_) (fun hc => ?_)
        · replace H := ifT hc H; clear hc
          refine .region ?_
          refine .q (q_move rfl) rfl ?_
          refine .q (q_move rfl) rfl ?_
          obtain ⟨hk6, H⟩ := ck_some H
          refine .q (q_addI rfl rfl hk6.1 hk6.2) rfl ?_
          obtain ⟨hk7, H⟩ := ck_some H
          refine .q (x := .d (cU8 (nth v0s (Int.toNat (v5il1 + 1))))) (q_indexL (i := v5il1 + 1) Tryd.underlying9 rfl rfl hk7) rfl ?_
          refine .q (x := .d (cU8 ((nth v0s (Int.toNat (v5il1 + 1))) - 48))) (q8_sub (a := nth v0s (Int.toNat (v5il1 + 1))) (b := 48) rfl rfl) rfl ?_
          refine .q (q_assign rfl) rfl ?_
          refine .nil ?_
          exact .sub (.cons rfl (.rfl' _) (.cons rfl (.rfl' _) (.cons rfl (.rfl' _) (.cons rfl (.rfl' _) (.nil))))) (hj1 ((nth v0s (Int.toNat (v5il1 + 1))) - 48) H)
        · replace H := ifF hc H; clear hc
          refine .skip ?_
          exact .sub (.cons rfl (.rfl' _) (.cons rfl (.rfl' _) (.cons rfl (.rfl' _) (.cons rfl (.rfl' _) (.nil))))) (hj1 15 H)
    · replace H := ifF hc H; clear hc
      refine .exit rfl ?_
      refine .seq ?_
      refine .region ?_
      refine .q (q_move rfl) rfl ?_
      refine .q (q_assign rfl) rfl ?_
      refine .q (q_assign rfl) rfl ?_
      refine .nil ?_
      refine .retN [.tmp 2, .tmp 3] [.tsl 1 (v4outl1.map rB8) 0, .d (cI 0)] Tryd.func63 Tryd.results63 ⟨rfl, rfl, trivial⟩ ?_
      cases H
      cases HK1
      exact ⟨_, EVle.tupL (ds := [slOf 1 rB8 v4outl1, cI 0]) ⟨.tsl _ _ _, .rfl' _, trivial⟩, rfl⟩

set_option maxRecDepth 100000 in
set_option maxHeartbeats 1000000 in
theorem c_f_billingref10_shortest {v0n : Int} {r : (List UInt8)} (H : f_billingref10_shortest v0n = some r) : ACall Tryd.prog 64 [cI v0n] (· = slOf 1 rB8 r) := by
  obtain ⟨i5, hi5, hz5, hs5, hb5⟩ := in_5
  refine ACall.enter' Tryd.func64 rfl Tryd.ntmps64 rfl fun S hS => ?_
  unfold f_billingref10_shortest at H
  change ARun _ _ _ _ _ _ [(0, .d (cI v0n))] _
  refine .seq ?_
  refine .region ?_
  refine .q (q_assign rfl) rfl ?_
  refine .nil ?_
  refine .seq ?_
  refine .region ?_
  refine .q (q_assign rfl) rfl ?_
  refine .nil ?_
  refine .seq ?_
  refine .block ?_
  obtain ⟨n1, H⟩ := loop_some H
  refine .loop (ι := Nat × (Int × List UInt8)) (fun p => [(0, .d (cI p.2.1)), (3, .d (slOf 1 rB8 p.2.2))]) (fun p => ⟨[], []⟩) (fun p => iter (fun s => f_billingref10_shortest_l1 s.1 s.2) p.1 p.2 = some r) (·.1) (n1, (v0n, [])) H (.cons rfl (.rfl' _) (.cons rfl (.nil 1) (.nil))) rfl ?_
  rintro ⟨m1, v0nl1, v3outl1⟩ HI ih1
  obtain ⟨n1, q1, hm1, H, HK1⟩ := iter_succ HI
  clear HI
  replace H : f_billingref10_shortest_l1 v0nl1 v3outl1 = some q1 := H
  unfold f_billingref10_shortest_l1 at H
  change ARun _ _ _ _ _ _ [(0, .d (cI v0nl1)), (3, .d (slOf 1 rB8 v3outl1))] ⟨[], []⟩
  refine .seq ?_
  refine .seq ?_
  refine .region ?_
  refine .q (q_move rfl) rfl ?_
  refine .q (q_gtr rfl rfl) rfl ?_
  refine .nil ?_
  refine .cond rfl (fun hc => ?_) (fun hc => ?_)
  · replace H := ifT hc H; clear hc
    refine .skip ?_
    refine .seq ?_
    refine .block ?_
    refine .region ?_
    refine .q (q_move rfl) rfl ?_
    obtain ⟨hk1, H⟩ := ck_some H
    refine .q (x := .d (cI (Int.tmod v0nl1 256))) (q_remT rfl rfl hk1) rfl ?_
    refine .q (x := .d (cU8 (UInt8.ofInt (Int.tmod v0nl1 256)))) (q_conv8 Tryd.underlying3 Tryd.underlying5 rfl) rfl ?_
    refine .v (x := .tsl 1 (([UInt8.ofInt (Int.tmod v0nl1 256)] : List UInt8).map rB8) 0) (v_buildSliceT (n := 1) Tryd.underlying32 hi5 hs5 hz5 rfl rfl rfl rfl rfl) rfl ?_
    refine .withSt (st' := ⟨[], [⟨5, 1, ([UInt8.ofInt (Int.tmod v0nl1 256)] : List UInt8).length, none⟩]⟩) rfl ?_
    refine .q (q_move rfl) rfl ?_
    obtain ⟨hk2, H⟩ := ck_some H
    refine .v (x := .tsl 1 ((([UInt8.ofInt (Int.tmod v0nl1 256)] : List UInt8) ++ v3outl1).map rB8) 0) (v_appendL (l := ([UInt8.ofInt (Int.tmod v0nl1 256)] : List UInt8)) (l' := v3outl1) (row := rB8) Tryd.underlying32 hi5 hz5 hs5 rfl (by rw [hb5]; decide) rfl rfl rfl rfl hk2) rfl ?_
    refine .withSt (st' := ⟨[], [⟨5, 1, (([UInt8.ofInt (Int.tmod v0nl1 256)] : List UInt8) ++ v3outl1).length, none⟩]⟩) rfl ?_
    refine .q (q_assign rfl) rfl ?_
    refine .nil ?_
    refine .inBlock ?_
    refine .region ?_
    refine .q (q_move rfl) rfl ?_
    obtain ⟨hk3, H⟩ := ck_some H
    refine .q (x := .d (cI (Int.tdiv v0nl1 256))) (q_quoT rfl rfl hk3) rfl ?_
    refine .q (q_assign rfl) rfl ?_
    refine .nil ?_
    cases H
    exact .to 0 0 (env' := [(0, .d (cI (Int.tdiv v0nl1 256))), (3, .d (slOf 1 rB8 (([UInt8.ofInt (Int.tmod v0nl1 256)] : List UInt8) ++ v3outl1)))]) (st' := ⟨[], []⟩) (.cons rfl (.rfl' _) (.cons rfl (.tsl _ _ _) .nil)) rfl rfl rfl rfl rfl (by rw [hS]; exact Nat.le_of_ble_eq_true rfl) (by rw [hS]; exact Nat.le_of_ble_eq_true rfl) <| .sub (.cons rfl (.rfl' _) (.cons rfl (.rfl' _) (.nil))) (ih1 (n1, (Int.tdiv v0nl1 256, ([UInt8.ofInt (Int.tmod v0nl1 256)] : List UInt8) ++ v3outl1)) HK1 hm1)
  · replace H := ifF hc H; clear hc
    refine .exit rfl ?_
    refine .seq ?_
    refine .region ?_
    refine .q (q_move rfl) rfl ?_
    refine .q (q_assign rfl) rfl ?_
    refine .nil ?_
    refine .retN [.tmp 2] [.d (slOf 1 rB8 v3outl1)] Tryd.func64 Tryd.results64 ⟨rfl, trivial⟩ ?_
    cases H
    cases HK1
    exact ⟨_, .rfl' _, rfl⟩

set_option maxRecDepth 100000 in
set_option maxHeartbeats 1000000 in
theorem c_f_billingref10_flags {v0r : Record} {r : Int} (H : f_billingref10_flags v0r = some r) : ACall Tryd.prog 65 [.agg (Record.row v0r)] (· = cI r) := by
  refine ACall.enter' Tryd.func65 rfl Tryd.ntmps65 rfl fun S hS => ?_
  unfold f_billingref10_flags at H
  change ARun _ _ _ _ _ _ [(0, .d (.agg (Record.row v0r)))] _
  refine .seq ?_
  refine .region ?_
  refine .v (x := .ref 0 0) (v_box rfl rfl) rfl ?_
  refine .withSt (st' := ⟨[.row 39 [.d (cI v0r.source), .d (cI v0r.serial), .d (cI v0r.kind), .d (cS v0r.a), .d (cS v0r.b), .d (cI v0r.start), .d (cI v0r.units), .d (cI v0r.call), .d (cI v0r.part), .d (cB v0r.last), .d (cI v0r.trunk), .d (cB v0r.inbound)]], []⟩) rfl ?_
  refine .q (q_assign rfl) rfl ?_
  refine .nil ?_
  refine .seq ?_
  refine .region ?_
  refine .q (q_assign rfl) rfl ?_
  refine .nil ?_
  refine .seqJoin (ι := Int) (fun s => [(1, .ref 0 0), (3, .d (cI s))]) (fun s => ⟨[.row 39 [.d (cI v0r.source), .d (cI v0r.serial), .d (cI v0r.kind), .d (cS v0r.a), .d (cS v0r.b), .d (cI v0r.start), .d (cI v0r.units), .d (cI v0r.call), .d (cI v0r.part), .d (cB v0r.last), .d (cI v0r.trunk), .d (cB v0r.inbound)]], []⟩) (fun s => f_billingref10_flags_j1 v0r s = some r) ?_ ?_
  · rintro v3nj1 H
    replace H : f_billingref10_flags_j1 v0r v3nj1 = some r := H
    unfold f_billingref10_flags_j1 at H
    change ARun _ _ _ _ _ _ [(1, .ref 0 0), (3, .d (cI v3nj1))] ⟨[.row 39 [.d (cI v0r.source), .d (cI v0r.serial), .d (cI v0r.kind), .d (cS v0r.a), .d (cS v0r.b), .d (cI v0r.start), .d (cI v0r.units), .d (cI v0r.call), .d (cI v0r.part), .d (cB v0r.last), .d (cI v0r.trunk), .d (cB v0r.inbound)]], []⟩
    refine .seq ?_
    refine .seq ?_
    refine .region ?_
    refine .q (q_fieldRef fo_39_11 rfl) rfl ?_
    refine .q (x := .d (cB v0r.inbound)) (q_loadO one_4 rfl rfl rfl) rfl ?_
    refine .nil ?_
    refine .cond rfl (fun hc => ?_) (fun hc => ?_)
    · replace H := ifT hc H; clear hc
      refine .region ?_
      refine .q (q_move rfl) rfl ?_
      obtain ⟨hk1, H⟩ := ck_some H
      refine .q (q_addI rfl rfl hk1.1 hk1.2) rfl ?_
      refine .q (q_assign rfl) rfl ?_
      refine .nil ?_
      refine .seq ?_
      refine .region ?_
      refine .q (q_move rfl) rfl ?_
      refine .q (q_assign rfl) rfl ?_
      refine .nil ?_
      refine .retN [.tmp 2] [.d (cI (v3nj1 + 2))] Tryd.func65 Tryd.results65 ⟨rfl, trivial⟩ ?_
      cases H
      exact ⟨_, .rfl' _, rfl⟩
    · replace H := ifF hc H; clear hc
      refine .skip ?_
      refine .seq ?_
      refine .region ?_
      refine .q (q_move rfl) rfl ?_
      refine .q (q_assign rfl) rfl ?_
      refine .nil ?_
      refine .retN [.tmp 2] [.d (cI v3nj1)] Tryd.func65 Tryd.results65 ⟨rfl, trivial⟩ ?_
      cases H
      exact ⟨_, .rfl' _, rfl⟩
  · intro hj1
    refine .seq ?_
    refine .region ?_
    refine .q (q_fieldRef fo_39_9 rfl) rfl ?_
    refine .q (x := .d (cB v0r.last)) (q_loadO one_4 rfl rfl rfl) rfl ?_
    refine .nil ?_
    refine .cond rfl (fun hc => ?_) (fun hc => ?_)
    · replace H := ifT hc H; clear hc
      refine .region ?_
      refine .q (q_move rfl) rfl ?_
      obtain ⟨hk2, H⟩ := ck_some H
      refine .q (q_addI rfl rfl hk2.1 hk2.2) rfl ?_
      refine .q (q_assign rfl) rfl ?_
      refine .nil ?_
      exact .sub (.cons rfl (.rfl' _) (.cons rfl (.rfl' _) (.nil))) (hj1 (0 + 1) H)
    · replace H := ifF hc H; clear hc
      refine .skip ?_
      exact .sub (.cons rfl (.rfl' _) (.cons rfl (.rfl' _) (.nil))) (hj1 0 H)

set_option maxRecDepth 100000 in
set_option maxHeartbeats 1000000 in
theorem c_f_billingref10_Build {v0list : List Element} {r : (List UInt8) × Int} (H : f_billingref10_Build v0list = some r) : ACall Tryd.prog 66 [slOf 2 Element.row v0list] (· = .tup [slOf 1 rB8 r.1, cI r.2]) := by
  obtain ⟨i5, hi5, hz5, hs5, hb5⟩ := in_5
  obtain ⟨i92, hi92, hz92, hs92, hb92⟩ := in_92
  refine ACall.enter' Tryd.func66 rfl Tryd.ntmps66 rfl fun S hS => ?_
  unfold f_billingref10_Build at H
  change ARun _ _ _ _ _ _ [(0, .d (slOf 2 Element.row v0list))] _
  refine .seq ?_
  refine .region ?_
  refine .q (q_assign rfl) rfl ?_
  refine .q (q_assign rfl) rfl ?_
  refine .nil ?_
  refine .seq ?_
  refine .region ?_
  refine .q (q_assign rfl) rfl ?_
  refine .nil ?_
  refine .seq ?_
  refine .region ?_
  refine .q (q_assign rfl) rfl ?_
  refine .nil ?_
  refine .seq ?_
  refine .seq ?_
  refine .region ?_
  refine .q (q_assign rfl) rfl ?_
  refine .nil ?_
  refine .block ?_
  refine .tok (i := 4) (e := 5) (sz := 1) rfl ?_
  refine .withSt (st' := ⟨[], [⟨5, 1, ([] : List UInt8).length, none⟩]⟩) rfl ?_
  obtain ⟨n1, H⟩ := loop_some H
  refine .withSt (st' := ⟨[], [⟨5, 1, ([] : List UInt8).length, none⟩]⟩) rfl <| .loop (ι := Nat × (List UInt8 × Int × Int)) (fun p => [(0, .d (slOf 2 Element.row v0list)), (4, .tsl 1 (p.2.1.map rB8) 0), (5, .d (cI p.2.2.1)), (6, .d (cI p.2.2.2))]) (fun p => ⟨[], [⟨5, 1, p.2.1.length, none⟩]⟩) (fun p => iter (fun s => f_billingref10_Build_l1 v0list s.1 s.2.1 s.2.2) p.1 p.2 = some r) (·.1) (n1, (([] : List UInt8), 0, 0)) H (.cons rfl (.rfl' _) (.cons rfl (.rfl' _) (.cons rfl (.rfl' _) (.cons rfl (.rfl' _) (.nil))))) rfl ?_
  rintro ⟨m1, v4outl1, v5lastl1, v6il1⟩ HI ih1
  obtain ⟨n1, q1, hm1, H, HK1⟩ := iter_succ HI
  clear HI
  replace H : f_billingref10_Build_l1 v0list v4outl1 v5lastl1 v6il1 = some q1 := H
  unfold f_billingref10_Build_l1 at H
  change ARun _ _ _ _ _ _ [(0, .d (slOf 2 Element.row v0list)), (4, .tsl 1 (v4outl1.map rB8) 0), (5, .d (cI v5lastl1)), (6, .d (cI v6il1))] ⟨[], [⟨5, 1, v4outl1.length, none⟩]⟩
  refine .seq ?_
  refine .seq ?_
  refine .region ?_
  refine .q (q_move rfl) rfl ?_
  refine .q (q_move rfl) rfl ?_
  refine .q (q_lenL (l := v0list) (row := Element.row) Tryd.underlying90 rfl rfl) rfl ?_
  refine .q (q_lss rfl rfl) rfl ?_
  refine .nil ?_
  refine .cond rfl (fun hc => ?_) (fun hc => ?_)
  · replace H := ifT hc H; clear hc
    refine .skip ?_
    refine .seq ?_
    refine .block ?_
    refine .seq ?_
    refine .region ?_
    refine .q (q_move rfl) rfl ?_
    refine .q (q_move rfl) rfl ?_
    obtain ⟨hk1, H⟩ := ck_some H
    refine .q (x := .d (.ro (Element.row (nth v0list (Int.toNat (v6il1)))))) (q_idxL (row := Element.row) (l := v0list) (i := v6il1) Tryd.underlying90 hi92 hs92 rfl rfl rfl hk1) rfl ?_
    refine .q (x := .d (.agg (Element.row (nth v0list (Int.toNat (v6il1)))))) (q_loadAll one_92 sz_92 rfl rfl) rfl ?_
    refine .v (x := .ref 0 0) (v_alloc zr_92 rfl) rfl ?_
    refine .withSt (st' := ⟨[.row 92 [.d (cI 0), .d (nilD)]], [⟨5, 1, v4outl1.length, none⟩]⟩) rfl ?_
    refine .u (u_store rfl rfl rfl rfl (Nat.le_of_ble_eq_true rfl) sz_92) rfl ?_
    refine .withSt (st' := ⟨[.row 92 [.d (cI ((nth v0list (Int.toNat (v6il1))).tag)), .d (slOf 1 rB8 ((nth v0list (Int.toNat (v6il1))).value))]], [⟨5, 1, v4outl1.length, none⟩]⟩) rfl ?_
    refine .nil ?_
    refine .seq ?_
    refine .seq ?_
    refine .region ?_
    refine .q (q_fieldRef fo_92_0 rfl) rfl ?_
    refine .q (x := .d (cI ((nth v0list (Int.toNat (v6il1))).tag))) (q_loadO one_3 rfl rfl rfl) rfl ?_
    refine .q (q_lss rfl rfl) rfl ?_
    refine .q (q_move rfl) rfl ?_
    refine .guardG (env' := [(7, _)]) rfl rfl rfl ⟨.inl rfl, trivial⟩ rfl (fun hg => OpQ.g (q_fieldRef fo_92_0 rfl)) ?_
    refine .guardG (b := (!(decide (((nth v0list (Int.toNat (v6il1))).tag) < 1)))) (x := .d (cI ((nth v0list (Int.toNat (v6il1))).tag))) (env' := [(22, _)]) rfl rfl rfl ⟨.inr (.inl rfl), trivial⟩ rfl (fun hg => OpQ.g (q_loadO one_3 rfl rfl rfl)) ?_
    refine .guardG (env' := [(23, _)]) rfl rfl rfl ⟨.inr (.inl rfl), trivial⟩ rfl (fun hg => OpQ.g (q_gtr rfl rfl)) ?_
    refine .q (q_pickOrB rfl rfl rfl) rfl ?_
    refine .nil ?_
    refine .cond rfl (fun hc => ?_) (fun hc => ?_)
    · replace H := ifT hc H; clear hc
      refine .seq ?_
      refine .region ?_
      refine .q (q_assign rfl) rfl ?_
      refine .q (q_assign rfl) rfl ?_
      refine .nil ?_
      refine .retN [.tmp 2, .tmp 3] [.d (nilD), .d (cI 6)] Tryd.func66 Tryd.results66 ⟨rfl, rfl, trivial⟩ ?_
      cases H
      cases HK1
      exact ⟨_, EVle.tupL (ds := [slOf 1 rB8 ([] : List UInt8), cI 6]) ⟨.nil 1, .rfl' _, trivial⟩, rfl⟩
    · replace H := ifF hc H; clear hc
      refine .skip ?_
      refine .seq ?_
      refine .seq ?_
      refine .region ?_
      refine .q (q_fieldRef fo_92_0 rfl) rfl ?_
      refine .q (x := .d (cI ((nth v0list (Int.toNat (v6il1))).tag))) (q_loadO one_3 rfl rfl rfl) rfl ?_
      refine .q (q_move rfl) rfl ?_
      refine .q (q_leq rfl rfl) rfl ?_
      refine .nil ?_
      refine .cond rfl (fun hc => ?_) (fun hc => ?_)
      · replace H := ifT hc H; clear hc
        refine .seq ?_
        refine .region ?_
        refine .q (q_assign rfl) rfl ?_
        refine .q (q_assign rfl) rfl ?_
        refine .nil ?_
        refine .retN [.tmp 2, .tmp 3] [.d (nilD), .d (cI 9)] Tryd.func66 Tryd.results66 ⟨rfl, rfl, trivial⟩ ?_
        cases H
        cases HK1
        exact ⟨_, EVle.tupL (ds := [slOf 1 rB8 ([] : List UInt8), cI 9]) ⟨.nil 1, .rfl' _, trivial⟩, rfl⟩
      · replace H := ifF hc H; clear hc
        refine .skip ?_
        refine .seq ?_
        refine .seq ?_
        refine .region ?_
        refine .q (q_fieldRef fo_92_1 rfl) rfl ?_
        refine .q (x := .d (slOf 1 rB8 ((nth v0list (Int.toNat (v6il1))).value))) (q_loadO one_32 rfl rfl rfl) rfl ?_
        refine .q (q_lenL (l := (nth v0list (Int.toNat (v6il1))).value) (row := rB8) Tryd.underlying32 rfl rfl) rfl ?_
        refine .q (q_gtr rfl rfl) rfl ?_
        refine .nil ?_
        refine .cond rfl (fun hc => ?_) (fun hc => ?_)
        · replace H := ifT hc H; clear hc
          refine .seq ?_
          refine .region ?_
          refine .q (q_assign rfl) rfl ?_
          refine .q (q_assign rfl) rfl ?_
          refine .nil ?_
          refine .retN [.tmp 2, .tmp 3] [.d (nilD), .d (cI 5)] Tryd.func66 Tryd.results66 ⟨rfl, rfl, trivial⟩ ?_
          cases H
          cases HK1
          exact ⟨_, EVle.tupL (ds := [slOf 1 rB8 ([] : List UInt8), cI 5]) ⟨.nil 1, .rfl' _, trivial⟩, rfl⟩
        · replace H := ifF hc H; clear hc
          refine .skip ?_
          refine .seq ?_
          refine .region ?_
          refine .q (q_move rfl) rfl ?_
          refine .q (q_fieldRef fo_92_0 rfl) rfl ?_
          refine .q (x := .d (cI ((nth v0list (Int.toNat (v6il1))).tag))) (q_loadO one_3 rfl rfl rfl) rfl ?_
          refine .q (x := .d (cU8 (UInt8.ofInt ((nth v0list (Int.toNat (v6il1))).tag)))) (q_conv8 Tryd.underlying3 Tryd.underlying5 rfl) rfl ?_
          refine .q (q_fieldRef fo_92_1 rfl) rfl ?_
          refine .q (x := .d (slOf 1 rB8 ((nth v0list (Int.toNat (v6il1))).value))) (q_loadO one_32 rfl rfl rfl) rfl ?_
          refine .q (q_lenL (l := (nth v0list (Int.toNat (v6il1))).value) (row := rB8) Tryd.underlying32 rfl rfl) rfl ?_
          refine .q (x := .d (cU8 (UInt8.ofInt (((nth v0list (Int.toNat (v6il1))).value).length : Int)))) (q_conv8 Tryd.underlying3 Tryd.underlying5 rfl) rfl ?_
          refine .g (x := .d (slOf 1 rB8 ([UInt8.ofInt ((nth v0list (Int.toNat (v6il1))).tag), UInt8.ofInt (((nth v0list (Int.toNat (v6il1))).value).length : Int)] : List UInt8))) (g_buildSliceN (n := 2) (rows := ([UInt8.ofInt ((nth v0list (Int.toNat (v6il1))).tag), UInt8.ofInt (((nth v0list (Int.toNat (v6il1))).value).length : Int)] : List UInt8).map rB8) Tryd.underlying32 hi5 hs5 hz5 rfl rfl rfl rfl rfl) rfl ?_
          obtain ⟨hk2, H⟩ := ck_some H
          refine .v (x := .tsl 1 ((v4outl1 ++ ([UInt8.ofInt ((nth v0list (Int.toNat (v6il1))).tag), UInt8.ofInt (((nth v0list (Int.toNat (v6il1))).value).length : Int)] : List UInt8)).map rB8) 0) (v_appendL (l := v4outl1) (l' := ([UInt8.ofInt ((nth v0list (Int.toNat (v6il1))).tag), UInt8.ofInt (((nth v0list (Int.toNat (v6il1))).value).length : Int)] : List UInt8)) (row := rB8) Tryd.underlying32 hi5 hz5 hs5 rfl (by rw [hb5]; decide) rfl rfl rfl rfl hk2) rfl ?_
          refine .withSt (st' := ⟨[.row 92 [.d (cI ((nth v0list (Int.toNat (v6il1))).tag)), .d (slOf 1 rB8 ((nth v0list (Int.toNat (v6il1))).value))]], [⟨5, 1, (v4outl1 ++ ([UInt8.ofInt ((nth v0list (Int.toNat (v6il1))).tag), UInt8.ofInt (((nth v0list (Int.toNat (v6il1))).value).length : Int)] : List UInt8)).length, none⟩]⟩) rfl ?_
          refine .q (q_assign rfl) rfl ?_
          refine .nil ?_
          refine .seq ?_
          refine .region ?_
          refine .q (q_move rfl) rfl ?_
          refine .q (q_fieldRef fo_92_1 rfl) rfl ?_
          refine .q (x := .d (slOf 1 rB8 ((nth v0list (Int.toNat (v6il1))).value))) (q_loadO one_32 rfl rfl rfl) rfl ?_
          obtain ⟨hk3, H⟩ := ck_some H
          refine .v (x := .tsl 1 (((v4outl1 ++ ([UInt8.ofInt ((nth v0list (Int.toNat (v6il1))).tag), UInt8.ofInt (((nth v0list (Int.toNat (v6il1))).value).length : Int)] : List UInt8)) ++ ((nth v0list (Int.toNat (v6il1))).value)).map rB8) 0) (v_appendL (l := v4outl1 ++ ([UInt8.ofInt ((nth v0list (Int.toNat (v6il1))).tag), UInt8.ofInt (((nth v0list (Int.toNat (v6il1))).value).length : Int)] : List UInt8)) (l' := (nth v0list (Int.toNat (v6il1))).value) (row := rB8) Tryd.underlying32 hi5 hz5 hs5 rfl (by rw [hb5]; decide) rfl rfl rfl rfl hk3) rfl ?_
          refine .withSt (st' := ⟨[.row 92 [.d (cI ((nth v0list (Int.toNat (v6il1))).tag)), .d (slOf 1 rB8 ((nth v0list (Int.toNat (v6il1))).value))]], [⟨5, 1, ((v4outl1 ++ ([UInt8.ofInt ((nth v0list (Int.toNat (v6il1))).tag), UInt8.ofInt (((nth v0list (Int.toNat (v6il1))).value).length : Int)] : List UInt8)) ++ ((nth v0list (Int.toNat (v6il1))).value)).length, none⟩]⟩) rfl ?_
          refine .q (q_assign rfl) rfl ?_
          refine .nil ?_
          refine .region ?_
          refine .q (q_fieldRef fo_92_0 rfl) rfl ?_
          refine .q (x := .d (cI ((nth v0list (Int.toNat (v6il1))).tag))) (q_loadO one_3 rfl rfl rfl) rfl ?_
          refine .q (q_assign rfl) rfl ?_
          refine .nil ?_
          refine .inBlock ?_
          refine .region ?_
          refine .q (q_move rfl) rfl ?_
          obtain ⟨hk4, H⟩ := ck_some H
          refine .q (q_addI rfl rfl hk4.1 hk4.2) rfl ?_
          refine .q (q_assign rfl) rfl ?_
          refine .nil ?_
          cases H
          exact .to 0 1 (env' := [(0, .d (slOf 2 Element.row v0list)), (4, .tsl 1 (((v4outl1 ++ ([UInt8.ofInt ((nth v0list (Int.toNat (v6il1))).tag), UInt8.ofInt (((nth v0list (Int.toNat (v6il1))).value).length : Int)] : List UInt8)) ++ ((nth v0list (Int.toNat (v6il1))).value)).map rB8) 0), (5, .d (cI ((nth v0list (Int.toNat (v6il1))).tag))), (6, .d (cI (v6il1 + 1)))]) (st' := ⟨[], [⟨5, 1, ((v4outl1 ++ ([UInt8.ofInt ((nth v0list (Int.toNat (v6il1))).tag), UInt8.ofInt (((nth v0list (Int.toNat (v6il1))).value).length : Int)] : List UInt8)) ++ ((nth v0list (Int.toNat (v6il1))).value)).length, none⟩]⟩) (.cons rfl (.rfl' _) (.cons rfl (.rfl' _) (.cons rfl (.rfl' _) (.cons rfl (.rfl' _) (.nil))))) rfl rfl rfl rfl rfl (by rw [hS]; exact Nat.le_of_ble_eq_true rfl) (by rw [hS]; exact Nat.le_of_ble_eq_true rfl) <| .sub (.cons rfl (.rfl' _) (.cons rfl (.rfl' _) (.cons rfl (.rfl' _) (.cons rfl (.rfl' _) (.nil))))) (ih1 (n1, ((v4outl1 ++ ([UInt8.ofInt ((nth v0list (Int.toNat (v6il1))).tag), UInt8.ofInt (((nth v0list (Int.toNat (v6il1))).value).length : Int)] : List UInt8)) ++ ((nth v0list (Int.toNat (v6il1))).value), (nth v0list (Int.toNat (v6il1))).tag, v6il1 + 1)) HK1 hm1)
  · replace H := ifF hc H; clear hc
    refine .exit rfl ?_
    refine .seq ?_
    refine .region ?_
    refine .q (q_move rfl) rfl ?_
    refine .q (q_assign rfl) rfl ?_
    refine .q (q_assign rfl) rfl ?_
    refine .nil ?_
    refine .retN [.tmp 2, .tmp 3] [.tsl 1 (v4outl1.map rB8) 0, .d (cI 0)] Tryd.func66 Tryd.results66 ⟨rfl, rfl, trivial⟩ ?_
    cases H
    cases HK1
    exact ⟨_, EVle.tupL (ds := [slOf 1 rB8 v4outl1, cI 0]) ⟨.tsl _ _ _, .rfl' _, trivial⟩, rfl⟩

set_option maxRecDepth 100000 in
set_option maxHeartbeats 1000000 in
theorem c_f_billingref10_Encode {v0 : Record} {r : (List UInt8) × Int} (H : f_billingref10_Encode v0 = some r) : ACall Tryd.prog 37 [.agg (Record.row v0)] (· = .tup [slOf 1 rB8 r.1, cI r.2]) := by
  obtain ⟨i5, hi5, hz5, hs5, hb5⟩ := in_5
  obtain ⟨i32, hi32, hz32, hs32, hb32⟩ := in_32
  obtain ⟨i92, hi92, hz92, hs92, hb92⟩ := in_92
  refine ACall.enter' Tryd.func37 rfl Tryd.ntmps37 rfl fun S hS => ?_
  unfold f_billingref10_Encode at H
  change ARun _ _ _ _ _ _ [(0, .d (.agg (Record.row v0)))] _
  refine .seq ?_
  refine .region ?_
  refine .v (x := .ref 0 0) (v_box rfl rfl) rfl ?_
  refine .withSt (st' := ⟨[.row 39 [.d (cI v0.source), .d (cI v0.serial), .d (cI v0.kind), .d (cS v0.a), .d (cS v0.b), .d (cI v0.start), .d (cI v0.units), .d (cI v0.call), .d (cI v0.part), .d (cB v0.last), .d (cI v0.trunk), .d (cB v0.inbound)]], []⟩) rfl ?_
  refine .q (q_assign rfl) rfl ?_
  refine .q (q_assign rfl) rfl ?_
  refine .nil ?_
  refine .seq ?_
  refine .seq ?_
  refine .region ?_
  refine .q (x := .d (.agg (Record.row v0))) (q_loadOA one_39 sz_39 rfl rfl (Nat.le_of_ble_eq_true rfl) rfl) rfl ?_
  obtain ⟨y1, hy1, H⟩ := bind_some' H
  refine .g (x := .d (cI y1)) (g_call en_26 rfl rfl (c_f_billingref09_Error (hy1))) rfl ?_
  refine .q (q_assign rfl) rfl ?_
  refine .nil ?_
  refine .seq ?_
  refine .region ?_
  refine .q (q_move rfl) rfl ?_
  refine .q (q_neq rfl rfl) rfl ?_
  refine .nil ?_
  refine .cond rfl (fun hc => ?_) (fun hc => ?_)
  · replace H := ifT hc H; clear hc
    refine .seq ?_
    refine .region ?_
    refine .q (q_move rfl) rfl ?_
    refine .q (q_assign rfl) rfl ?_
    refine .q (q_assign rfl) rfl ?_
    refine .nil ?_
    refine .retN [.tmp 2, .tmp 3] [.d (nilD), .d (cI y1)] Tryd.func37 Tryd.results37 ⟨rfl, rfl, trivial⟩ ?_
    cases H
    exact ⟨_, EVle.tupL (ds := [slOf 1 rB8 ([] : List UInt8), cI y1]) ⟨.nil 1, .rfl' _, trivial⟩, rfl⟩
  · replace H := ifF hc H; clear hc
    refine .skip ?_
    refine .seq ?_
    refine .region ?_
    refine .q (q_fieldRef fo_39_3 rfl) rfl ?_
    refine .q (x := .d (cS v0.a)) (q_loadO one_9 rfl rfl rfl) rfl ?_
    obtain ⟨y2, hy2, H⟩ := bind_some' H
    refine .g (x := .d (.tup [slOf 1 rB8 y2.1, cI y2.2])) (g_call en_63 rfl rfl (c_f_billingref02_Pack (hy2))) rfl ?_
    refine .q (q_move rfl) rfl ?_
    refine .q (q_extract rfl rfl) rfl ?_
    refine .q (q_extract rfl rfl) rfl ?_
    refine .q (q_assign rfl) rfl ?_
    refine .q (q_assign rfl) rfl ?_
    refine .nil ?_
    refine .seq ?_
    refine .region ?_
    refine .q (q_assign rfl) rfl ?_
    refine .nil ?_
    refine .seqJoin (ι := List UInt8) (fun s => [(1, .ref 0 0), (5, .d (slOf 1 rB8 y2.1)), (7, .d (slOf 1 rB8 s))]) (fun s => ⟨[.row 39 [.d (cI v0.source), .d (cI v0.serial), .d (cI v0.kind), .d (cS v0.a), .d (cS v0.b), .d (cI v0.start), .d (cI v0.units), .d (cI v0.call), .d (cI v0.part), .d (cB v0.last), .d (cI v0.trunk), .d (cB v0.inbound)]], []⟩) (fun s => f_billingref10_Encode_j1 v0 y2 s = some r) ?_ ?_
    · rintro v7j1 H
      replace H : f_billingref10_Encode_j1 v0 y2 v7j1 = some r := H
      unfold f_billingref10_Encode_j1 at H
      change ARun _ _ _ _ _ _ [(1, .ref 0 0), (5, .d (slOf 1 rB8 y2.1)), (7, .d (slOf 1 rB8 v7j1))] ⟨[.row 39 [.d (cI v0.source), .d (cI v0.serial), .d (cI v0.kind), .d (cS v0.a), .d (cS v0.b), .d (cI v0.start), .d (cI v0.units), .d (cI v0.call), .d (cI v0.part), .d (cB v0.last), .d (cI v0.trunk), .d (cB v0.inbound)]], []⟩
      refine .seq ?_
      refine .drawn 31 hMix (by kernel_rfl) ?_
      show DOps _ _ _ _ _ _ _ (_ :: _) _ _ _
      refine .q (q_fieldRef fo_39_2 rfl) rfl ?_
      refine .q (x := .d (cI v0.kind)) (q_loadO one_3 rfl rfl rfl) rfl ?_
      obtain ⟨y3, hy3, H⟩ := bind_some' H
      refine .g (x := .d (slOf 1 rB8 y3)) (g_call en_64 rfl rfl (c_f_billingref10_shortest (hy3))) rfl ?_
      refine .q (q_fieldRef fo_39_0 rfl) rfl ?_
      refine .q (x := .d (cI v0.source)) (q_loadO one_3 rfl rfl rfl) rfl ?_
      obtain ⟨y4, hy4, H⟩ := bind_some' H
      refine .g (x := .d (slOf 1 rB8 y4)) (g_call en_64 rfl rfl (c_f_billingref10_shortest (hy4))) rfl ?_
      refine .q (q_fieldRef fo_39_1 rfl) rfl ?_
      refine .q (x := .d (cI v0.serial)) (q_loadO one_3 rfl rfl rfl) rfl ?_
      obtain ⟨y5, hy5, H⟩ := bind_some' H
      refine .g (x := .d (slOf 1 rB8 y5)) (g_call en_64 rfl rfl (c_f_billingref10_shortest (hy5))) rfl ?_
      refine .q (q_move rfl) rfl ?_
      refine .q (q_move rfl) rfl ?_
      refine .q (q_fieldRef fo_39_5 rfl) rfl ?_
      refine .q (x := .d (cI v0.start)) (q_loadO one_3 rfl rfl rfl) rfl ?_
      obtain ⟨y6, hy6, H⟩ := bind_some' H
      refine .g (x := .d (slOf 1 rB8 y6)) (g_call en_64 rfl rfl (c_f_billingref10_shortest (hy6))) rfl ?_
      refine .q (q_fieldRef fo_39_6 rfl) rfl ?_
      refine .q (x := .d (cI v0.units)) (q_loadO one_3 rfl rfl rfl) rfl ?_
      obtain ⟨y7, hy7, H⟩ := bind_some' H
      refine .g (x := .d (slOf 1 rB8 y7)) (g_call en_64 rfl rfl (c_f_billingref10_shortest (hy7))) rfl ?_
      refine .q (q_fieldRef fo_39_7 rfl) rfl ?_
      refine .q (x := .d (cI v0.call)) (q_loadO one_3 rfl rfl rfl) rfl ?_
      obtain ⟨y8, hy8, H⟩ := bind_some' H
      refine .g (x := .d (slOf 1 rB8 y8)) (g_call en_64 rfl rfl (c_f_billingref10_shortest (hy8))) rfl ?_
      refine .q (q_fieldRef fo_39_8 rfl) rfl ?_
      refine .q (x := .d (cI v0.part)) (q_loadO one_3 rfl rfl rfl) rfl ?_
      obtain ⟨y9, hy9, H⟩ := bind_some' H
      refine .g (x := .d (slOf 1 rB8 y9)) (g_call en_64 rfl rfl (c_f_billingref10_shortest (hy9))) rfl ?_
      refine .q (q_fieldRef fo_39_10 rfl) rfl ?_
      refine .q (x := .d (cI v0.trunk)) (q_loadO one_3 rfl rfl rfl) rfl ?_
      obtain ⟨y10, hy10, H⟩ := bind_some' H
      refine .g (x := .d (slOf 1 rB8 y10)) (g_call en_64 rfl rfl (c_f_billingref10_shortest (hy10))) rfl ?_
      refine .q (x := .d (.agg (Record.row v0))) (q_loadOA one_39 sz_39 rfl rfl (Nat.le_of_ble_eq_true rfl) rfl) rfl ?_
      obtain ⟨y11, hy11, H⟩ := bind_some' H
      refine .g (x := .d (cI y11)) (g_call en_65 rfl rfl (c_f_billingref10_flags (hy11))) rfl ?_
      obtain ⟨y12, hy12, H⟩ := bind_some' H
      refine .g (x := .d (slOf 1 rB8 y12)) (g_call en_64 rfl rfl (c_f_billingref10_shortest (hy12))) rfl ?_
      refine .g (x := .d (slOf 1 (rSl 1 rB8) ([([] : List UInt8), y3, y4, y5, y2.1, v7j1, y6, y7, y8, y9, y10, y12] : List (List UInt8)))) (OpG.le (g_buildSliceN (n := 12) (rows := [[nilD], [slOf 1 rB8 y3], [slOf 1 rB8 y4], [slOf 1 rB8 y5], [slOf 1 rB8 y2.1], [slOf 1 rB8 v7j1], [slOf 1 rB8 y6], [slOf 1 rB8 y7], [slOf 1 rB8 y8], [slOf 1 rB8 y9], [slOf 1 rB8 y10], [slOf 1 rB8 y12]]) Tryd.underlying52 hi32 hs32 hz32 rfl rfl rfl (by kernel_rfl) rfl) (EVle.d (.sl ⟨⟨.nil 1, trivial⟩, ⟨.rfl' _, trivial⟩, ⟨.rfl' _, trivial⟩, ⟨.rfl' _, trivial⟩, ⟨.rfl' _, trivial⟩, ⟨.rfl' _, trivial⟩, ⟨.rfl' _, trivial⟩, ⟨.rfl' _, trivial⟩, ⟨.rfl' _, trivial⟩, ⟨.rfl' _, trivial⟩, ⟨.rfl' _, trivial⟩, ⟨.rfl' _, trivial⟩, trivial⟩))) rfl ?_
      refine .q (q_assign rfl) rfl ?_
      refine .nil ?_
      show AOps _ _ _ _ _ _ [] _ _ _
      refine .nil ?_
      refine .seq ?_
      refine .region ?_
      refine .q (q_assign rfl) rfl ?_
      refine .nil ?_
      refine .seq ?_
      refine .seq ?_
      refine .region ?_
      refine .q (q_assign rfl) rfl ?_
      refine .nil ?_
      refine .tok (i := 9) (e := 92) (sz := 2) rfl ?_
      refine .withSt (st' := ⟨[.row 39 [.d (cI v0.source), .d (cI v0.serial), .d (cI v0.kind), .d (cS v0.a), .d (cS v0.b), .d (cI v0.start), .d (cI v0.units), .d (cI v0.call), .d (cI v0.part), .d (cB v0.last), .d (cI v0.trunk), .d (cB v0.inbound)]], [⟨92, 2, ([] : List Element).length, none⟩]⟩) rfl ?_
      refine .blockJoin2 (ι := List Element) (fun s => [(9, .tsl 2 (s.map Element.row) 0)]) (fun s => ⟨[.row 39 [.d (cI v0.source), .d (cI v0.serial), .d (cI v0.kind), .d (cS v0.a), .d (cS v0.b), .d (cI v0.start), .d (cI v0.units), .d (cI v0.call), .d (cI v0.part), .d (cB v0.last), .d (cI v0.trunk), .d (cB v0.inbound)]], [⟨92, 2, s.length, none⟩]⟩) (fun s => f_billingref10_Encode_j2 s = some r) ?_ ?_
      · rintro v9j2 H
        replace H : f_billingref10_Encode_j2 v9j2 = some r := H
        unfold f_billingref10_Encode_j2 at H
        change ARun _ _ _ _ _ _ [(9, .tsl 2 (v9j2.map Element.row) 0)] ⟨[.row 39 [.d (cI v0.source), .d (cI v0.serial), .d (cI v0.kind), .d (cS v0.a), .d (cS v0.b), .d (cI v0.start), .d (cI v0.units), .d (cI v0.call), .d (cI v0.part), .d (cB v0.last), .d (cI v0.trunk), .d (cB v0.inbound)]], [⟨92, 2, v9j2.length, none⟩]⟩
        refine .seq ?_
        refine .region ?_
        refine .q (q_move rfl) rfl ?_
        obtain ⟨y13, hy13, H⟩ := bind_some' H
        refine .g (x := .d (.tup [slOf 1 rB8 y13.1, cI y13.2])) (g_call en_66 rfl rfl (c_f_billingref10_Build (hy13))) rfl ?_
        refine .q (q_move rfl) rfl ?_
        refine .q (q_extract rfl rfl) rfl ?_
        refine .q (q_extract rfl rfl) rfl ?_
        refine .q (q_assign rfl) rfl ?_
        refine .q (q_assign rfl) rfl ?_
        refine .nil ?_
        refine .seq ?_
        refine .region ?_
        refine .q (q_move rfl) rfl ?_
        refine .q (q_lenL (l := y13.1) (row := rB8) Tryd.underlying32 rfl rfl) rfl ?_
        obtain ⟨hk1, H⟩ := ck_some H
        refine .q (x := .d (cI (Int.tdiv (y13.1.length : Int) 256))) (q_quoT rfl rfl hk1) rfl ?_
        refine .q (x := .d (cU8 (UInt8.ofInt (Int.tdiv (y13.1.length : Int) 256)))) (q_conv8 Tryd.underlying3 Tryd.underlying5 rfl) rfl ?_
        refine .q (q_move rfl) rfl ?_
        refine .q (q_lenL (l := y13.1) (row := rB8) Tryd.underlying32 rfl rfl) rfl ?_
        obtain ⟨hk2, H⟩ := ck_some H
        refine .q (x := .d (cI (Int.tmod (y13.1.length : Int) 256))) (q_remT rfl rfl hk2) rfl ?_
        refine .q (x := .d (cU8 (UInt8.ofInt (Int.tmod (y13.1.length : Int) 256)))) (q_conv8 Tryd.underlying3 Tryd.underlying5 rfl) rfl ?_
        refine .v (x := .tsl 1 (([UInt8.ofInt (Int.tdiv (y13.1.length : Int) 256), UInt8.ofInt (Int.tmod (y13.1.length : Int) 256)] : List UInt8).map rB8) 1) (v_buildSliceT (n := 2) Tryd.underlying32 hi5 hs5 hz5 rfl rfl rfl rfl rfl) rfl ?_
        refine .withSt (st' := ⟨[.row 39 [.d (cI v0.source), .d (cI v0.serial), .d (cI v0.kind), .d (cS v0.a), .d (cS v0.b), .d (cI v0.start), .d (cI v0.units), .d (cI v0.call), .d (cI v0.part), .d (cB v0.last), .d (cI v0.trunk), .d (cB v0.inbound)]], [⟨92, 2, v9j2.length, none⟩, ⟨5, 1, ([UInt8.ofInt (Int.tdiv (y13.1.length : Int) 256), UInt8.ofInt (Int.tmod (y13.1.length : Int) 256)] : List UInt8).length, none⟩]⟩) rfl ?_
        refine .q (q_move rfl) rfl ?_
        obtain ⟨hk3, H⟩ := ck_some H
        refine .v (x := .tsl 1 ((([UInt8.ofInt (Int.tdiv (y13.1.length : Int) 256), UInt8.ofInt (Int.tmod (y13.1.length : Int) 256)] : List UInt8) ++ y13.1).map rB8) 1) (v_appendL (l := ([UInt8.ofInt (Int.tdiv (y13.1.length : Int) 256), UInt8.ofInt (Int.tmod (y13.1.length : Int) 256)] : List UInt8)) (l' := y13.1) (row := rB8) Tryd.underlying32 hi5 hz5 hs5 rfl (by rw [hb5]; decide) rfl rfl rfl rfl hk3) rfl ?_
        refine .withSt (st' := ⟨[.row 39 [.d (cI v0.source), .d (cI v0.serial), .d (cI v0.kind), .d (cS v0.a), .d (cS v0.b), .d (cI v0.start), .d (cI v0.units), .d (cI v0.call), .d (cI v0.part), .d (cB v0.last), .d (cI v0.trunk), .d (cB v0.inbound)]], [⟨92, 2, v9j2.length, none⟩, ⟨5, 1, (([UInt8.ofInt (Int.tdiv (y13.1.length : Int) 256), UInt8.ofInt (Int.tmod (y13.1.length : Int) 256)] : List UInt8) ++ y13.1).length, none⟩]⟩) rfl ?_
        refine .q (q_assign rfl) rfl ?_
        refine .q (q_assign rfl) rfl ?_
        refine .nil ?_
        refine .retN [.tmp 2, .tmp 3] [.tsl 1 ((([UInt8.ofInt (Int.tdiv (y13.1.length : Int) 256), UInt8.ofInt (Int.tmod (y13.1.length : Int) 256)] : List UInt8) ++ y13.1).map rB8) 1, .d (cI 0)] Tryd.func37 Tryd.results37 ⟨rfl, rfl, trivial⟩ ?_
        cases H
        exact ⟨_, EVle.tupL (ds := [slOf 1 rB8 (([UInt8.ofInt (Int.tdiv (y13.1.length : Int) 256), UInt8.ofInt (Int.tmod (y13.1.length : Int) 256)] : List UInt8) ++ y13.1), cI 0]) ⟨.tsl _ _ _, .rfl' _, trivial⟩, rfl⟩
      · intro hj2 hj2x
        obtain ⟨n1, H⟩ := loop_some H
        refine .withSt (st' := ⟨[.row 39 [.d (cI v0.source), .d (cI v0.serial), .d (cI v0.kind), .d (cS v0.a), .d (cS v0.b), .d (cI v0.start), .d (cI v0.units), .d (cI v0.call), .d (cI v0.part), .d (cB v0.last), .d (cI v0.trunk), .d (cB v0.inbound)]], [⟨92, 2, ([] : List Element).length, none⟩]⟩) rfl <| .loop (ι := Nat × (List Element × Int)) (fun p => [(8, .d (slOf 1 (rSl 1 rB8) ([([] : List UInt8), y3, y4, y5, y2.1, v7j1, y6, y7, y8, y9, y10, y12] : List (List UInt8)))), (9, .tsl 2 (p.2.1.map Element.row) 0), (10, .d (cI p.2.2))]) (fun p => ⟨[.row 39 [.d (cI v0.source), .d (cI v0.serial), .d (cI v0.kind), .d (cS v0.a), .d (cS v0.b), .d (cI v0.start), .d (cI v0.units), .d (cI v0.call), .d (cI v0.part), .d (cB v0.last), .d (cI v0.trunk), .d (cB v0.inbound)]], [⟨92, 2, p.2.1.length, none⟩]⟩) (fun p => iter (fun s => f_billingref10_Encode_l1 y2 v7j1 y3 y4 y5 y6 y7 y8 y9 y10 y12 s.1 s.2) p.1 p.2 = some r) (·.1) (n1, (([] : List Element), 1)) H (.cons rfl (.rfl' _) (.cons rfl (.rfl' _) (.cons rfl (.rfl' _) (.nil)))) rfl ?_
        rintro ⟨m1, v9l1, v10l1⟩ HI ih1
        obtain ⟨n1, q1, hm1, H, HK1⟩ := iter_succ HI
        clear HI
        replace H : f_billingref10_Encode_l1 y2 v7j1 y3 y4 y5 y6 y7 y8 y9 y10 y12 v9l1 v10l1 = some q1 := H
        unfold f_billingref10_Encode_l1 at H
        change ARun _ _ _ _ _ _ [(8, .d (slOf 1 (rSl 1 rB8) ([([] : List UInt8), y3, y4, y5, y2.1, v7j1, y6, y7, y8, y9, y10, y12] : List (List UInt8)))), (9, .tsl 2 (v9l1.map Element.row) 0), (10, .d (cI v10l1))] ⟨[.row 39 [.d (cI v0.source), .d (cI v0.serial), .d (cI v0.kind), .d (cS v0.a), .d (cS v0.b), .d (cI v0.start), .d (cI v0.units), .d (cI v0.call), .d (cI v0.part), .d (cB v0.last), .d (cI v0.trunk), .d (cB v0.inbound)]], [⟨92, 2, v9l1.length, none⟩]⟩
        refine .seq ?_
        refine .seq ?_
        refine .region ?_
        refine .q (q_move rfl) rfl ?_
        refine .q (q_move rfl) rfl ?_
        refine .q (q_lenL (l := ([([] : List UInt8), y3, y4, y5, y2.1, v7j1, y6, y7, y8, y9, y10, y12] : List (List UInt8))) (row := (rSl 1 rB8)) Tryd.underlying52 rfl rfl) rfl ?_
        refine .q (q_lss rfl rfl) rfl ?_
        refine .nil ?_
        refine .cond rfl (fun hc => ?_) (fun hc => ?_)
        · replace H := ifT hc H; clear hc
          refine .skip ?_
          refine .seq ?_
          refine .block ?_
          refine .seq ?_
          refine .region ?_
          refine .q (q_move rfl) rfl ?_
          refine .q (q_move rfl) rfl ?_
          obtain ⟨hk4, H⟩ := ck_some H
          refine .q (x := .d (.ro ((rSl 1 rB8) (nth ([([] : List UInt8), y3, y4, y5, y2.1, v7j1, y6, y7, y8, y9, y10, y12] : List (List UInt8)) (Int.toNat (v10l1)))))) (q_idxL (row := (rSl 1 rB8)) (l := ([([] : List UInt8), y3, y4, y5, y2.1, v7j1, y6, y7, y8, y9, y10, y12] : List (List UInt8))) (i := v10l1) Tryd.underlying52 hi32 hs32 rfl rfl rfl hk4) rfl ?_
          refine .q (x := .d (slOf 1 rB8 (nth ([([] : List UInt8), y3, y4, y5, y2.1, v7j1, y6, y7, y8, y9, y10, y12] : List (List UInt8)) (Int.toNat (v10l1))))) (q_load one_32 rfl) rfl ?_
          refine .q (q_lenL (l := nth ([([] : List UInt8), y3, y4, y5, y2.1, v7j1, y6, y7, y8, y9, y10, y12] : List (List UInt8)) (Int.toNat (v10l1))) (row := rB8) Tryd.underlying32 rfl rfl) rfl ?_
          refine .q (q_gtr rfl rfl) rfl ?_
          refine .nil ?_
          refine .cond rfl (fun hc => ?_) (fun hc => ?_)
          · replace H := ifT hc H; clear hc
            refine .region ?_
            refine .q (q_move rfl) rfl ?_
            refine .q (q_move rfl) rfl ?_
            refine .q (q_move rfl) rfl ?_
            refine .q (q_move rfl) rfl ?_
            obtain ⟨hk5, H⟩ := ck_some H
            refine .q (x := .d (.ro ((rSl 1 rB8) (nth ([([] : List UInt8), y3, y4, y5, y2.1, v7j1, y6, y7, y8, y9, y10, y12] : List (List UInt8)) (Int.toNat (v10l1)))))) (q_idxL (row := (rSl 1 rB8)) (l := ([([] : List UInt8), y3, y4, y5, y2.1, v7j1, y6, y7, y8, y9, y10, y12] : List (List UInt8))) (i := v10l1) Tryd.underlying52 hi32 hs32 rfl rfl rfl hk5) rfl ?_
            refine .q (x := .d (slOf 1 rB8 (nth ([([] : List UInt8), y3, y4, y5, y2.1, v7j1, y6, y7, y8, y9, y10, y12] : List (List UInt8)) (Int.toNat (v10l1))))) (q_load one_32 rfl) rfl ?_
            refine .q (x := .d (.agg (Element.row (⟨v10l1, nth ([([] : List UInt8), y3, y4, y5, y2.1, v7j1, y6, y7, y8, y9, y10, y12] : List (List UInt8)) (Int.toNat (v10l1))⟩ : Element)))) (q_buildP pl_92 hi92 hz92 rfl rfl) rfl ?_
            refine .g (x := .d (slOf 2 Element.row ([(⟨v10l1, nth ([([] : List UInt8), y3, y4, y5, y2.1, v7j1, y6, y7, y8, y9, y10, y12] : List (List UInt8)) (Int.toNat (v10l1))⟩ : Element)] : List Element))) (g_buildSlice1 Tryd.underlying90 hi92 hs92 hz92 rfl rfl rfl rfl rfl) rfl ?_
            obtain ⟨hk6, H⟩ := ck_some H
            refine .v (x := .tsl 2 ((v9l1 ++ ([(⟨v10l1, nth ([([] : List UInt8), y3, y4, y5, y2.1, v7j1, y6, y7, y8, y9, y10, y12] : List (List UInt8)) (Int.toNat (v10l1))⟩ : Element)] : List Element)).map Element.row) 0) (v_appendL (l := v9l1) (l' := ([(⟨v10l1, nth ([([] : List UInt8), y3, y4, y5, y2.1, v7j1, y6, y7, y8, y9, y10, y12] : List (List UInt8)) (Int.toNat (v10l1))⟩ : Element)] : List Element)) (row := Element.row) Tryd.underlying90 hi92 hz92 hs92 rfl (by rw [hb92]; decide) rfl rfl rfl rfl hk6) rfl ?_
            refine .withSt (st' := ⟨[.row 39 [.d (cI v0.source), .d (cI v0.serial), .d (cI v0.kind), .d (cS v0.a), .d (cS v0.b), .d (cI v0.start), .d (cI v0.units), .d (cI v0.call), .d (cI v0.part), .d (cB v0.last), .d (cI v0.trunk), .d (cB v0.inbound)]], [⟨92, 2, (v9l1 ++ ([(⟨v10l1, nth ([([] : List UInt8), y3, y4, y5, y2.1, v7j1, y6, y7, y8, y9, y10, y12] : List (List UInt8)) (Int.toNat (v10l1))⟩ : Element)] : List Element)).length, none⟩]⟩) rfl ?_
            refine .q (q_assign rfl) rfl ?_
            refine .nil ?_
            refine .inBlock ?_
            refine .region ?_
            refine .q (q_move rfl) rfl ?_
            obtain ⟨hk7, H⟩ := ck_some H
            refine .q (q_addI rfl rfl hk7.1 hk7.2) rfl ?_
            refine .q (q_assign rfl) rfl ?_
            refine .nil ?_
            cases H
            exact .withSt (st' := ⟨[.row 39 [.d (cI v0.source), .d (cI v0.serial), .d (cI v0.kind), .d (cS v0.a), .d (cS v0.b), .d (cI v0.start), .d (cI v0.units), .d (cI v0.call), .d (cI v0.part), .d (cB v0.last), .d (cI v0.trunk), .d (cB v0.inbound)]], [⟨92, 2, (v9l1 ++ ([(⟨v10l1, nth ([([] : List UInt8), y3, y4, y5, y2.1, v7j1, y6, y7, y8, y9, y10, y12] : List (List UInt8)) (Int.toNat (v10l1))⟩ : Element)] : List Element)).length, none⟩]⟩) rfl <| .sub (.cons rfl (.rfl' _) (.cons rfl (.rfl' _) (.cons rfl (.rfl' _) (.nil)))) (ih1 (n1, (v9l1 ++ ([(⟨v10l1, nth ([([] : List UInt8), y3, y4, y5, y2.1, v7j1, y6, y7, y8, y9, y10, y12] : List (List UInt8)) (Int.toNat (v10l1))⟩ : Element)] : List Element), v10l1 + 1)) HK1 hm1)
          · replace H := ifF hc H; clear hc
            refine .skip ?_
            refine .inBlock ?_
            refine .region ?_
            refine .q (q_move rfl) rfl ?_
            obtain ⟨hk8, H⟩ := ck_some H
            refine .q (q_addI rfl rfl hk8.1 hk8.2) rfl ?_
            refine .q (q_assign rfl) rfl ?_
            refine .nil ?_
            cases H
            exact .sub (.cons rfl (.rfl' _) (.cons rfl (.rfl' _) (.cons rfl (.rfl' _) (.nil)))) (ih1 (n1, (v9l1, v10l1 + 1)) HK1 hm1)
        · replace H := ifF hc H; clear hc
          refine .exit rfl ?_
          obtain ⟨q0, H9, hq0⟩ := map_some' H; clear H; cases hq0
          cases HK1
          have H := H9
          exact .withSt (st' := ⟨[.row 39 [.d (cI v0.source), .d (cI v0.serial), .d (cI v0.kind), .d (cS v0.a), .d (cS v0.b), .d (cI v0.start), .d (cI v0.units), .d (cI v0.call), .d (cI v0.part), .d (cB v0.last), .d (cI v0.trunk), .d (cB v0.inbound)]], [⟨92, 2, v9l1.length, none⟩]⟩) rfl <| .sub (.cons rfl (.rfl' _) (.nil)) (hj2x v9l1 H)
    · intro hj1
      refine .seq ?_
      refine .region ?_
      refine .q (q_fieldRef fo_39_4 rfl) rfl ?_
      refine .q (x := .d (cS v0.b)) (q_loadO one_9 rfl rfl rfl) rfl ?_
      refine .q (q_sneq rfl rfl) rfl ?_
      refine .nil ?_
      refine .cond rfl (fun hc => ?_) (fun hc => ?_)
      · replace H := ifT hc H; clear hc
        refine .region ?_
        refine .q (q_fieldRef fo_39_4 rfl) rfl ?_
        refine .q (x := .d (cS v0.b)) (q_loadO one_9 rfl rfl rfl) rfl ?_
        obtain ⟨y14, hy14, H⟩ := bind_some' H
        refine .g (x := .d (.tup [slOf 1 rB8 y14.1, cI y14.2])) (g_call en_63 rfl rfl (c_f_billingref02_Pack (hy14))) rfl ?_
        refine .q (q_move rfl) rfl ?_
        refine .q (q_extract rfl rfl) rfl ?_
        refine .q (q_extract rfl rfl) rfl ?_
        refine .q (q_assign rfl) rfl ?_
        refine .nil ?_
        exact .sub (.cons rfl (.rfl' _) (.cons rfl (.rfl' _) (.cons rfl (.rfl' _) (.nil)))) (hj1 y14.1 H)
      · replace H := ifF hc H; clear hc
        refine .skip ?_
        exact .sub (.cons rfl (.rfl' _) (.cons rfl (.rfl' _) (.cons rfl (.nil 1) (.nil)))) (hj1 [] H)

set_option maxRecDepth 100000 in
set_option maxHeartbeats 1000000 in
theorem c_f_billingref11_PutDecimal {v0b : List UInt8} {v1n : Int} {v2size : Int} {r : (List UInt8) × Int} (H : f_billingref11_PutDecimal v0b v1n v2size = some r) : ACall Tryd.prog 67 [slOf 1 rB8 v0b, cI v1n, cI v2size] (· = .tup [slOf 1 rB8 r.1, cI r.2]) := by
  obtain ⟨i5, hi5, hz5, hs5, hb5⟩ := in_5
  refine ACall.enter' Tryd.func67 rfl Tryd.ntmps67 rfl fun S hS => ?_
  unfold f_billingref11_PutDecimal at H
  change ARun _ _ _ _ _ _ [(0, .d (slOf 1 rB8 v0b)), (1, .d (cI v1n)), (2, .d (cI v2size))] _
  refine .seq ?_
  refine .region ?_
  refine .q (q_assign rfl) rfl ?_
  refine .q (q_assign rfl) rfl ?_
  refine .nil ?_
  refine .seq ?_
  refine .seq ?_
  refine .region ?_
  refine .q (q_move rfl) rfl ?_
  refine .q (q_lss rfl rfl) rfl ?_
  refine .q (q_move rfl) rfl ?_
  refine .guardG (env' := [(2, _)]) rfl rfl rfl ⟨.inl rfl, trivial⟩ rfl (fun hg => OpQ.g (q_move rfl)) ?_
  refine .guardG (env' := [(13, _)]) rfl rfl rfl ⟨.inr (.inl rfl), trivial⟩ rfl (fun hg => OpQ.g (q_gtr rfl rfl)) ?_
  refine .q (q_pickOrB rfl rfl rfl) rfl ?_
  refine .q (q_move rfl) rfl ?_
  refine .guardG (env' := [(1, _)]) rfl rfl rfl ⟨.inl rfl, trivial⟩ rfl (fun hg => OpQ.g (q_move rfl)) ?_
  refine .guardG (env' := [(17, _)]) rfl rfl rfl ⟨.inr (.inl rfl), trivial⟩ rfl (fun hg => OpQ.g (q_lss rfl rfl)) ?_
  refine .q (q_pickOrB rfl rfl rfl) rfl ?_
  refine .nil ?_
  refine .cond rfl (fun hc => ?_) (fun hc => ?_)
  · replace H := ifT hc H; clear hc
    refine .seq ?_
    refine .region ?_
    refine .q (q_assign rfl) rfl ?_
    refine .q (q_assign rfl) rfl ?_
    refine .nil ?_
    refine .retN [.tmp 6, .tmp 7] [.d (nilD), .d (cI 6)] Tryd.func67 Tryd.results67 ⟨rfl, rfl, trivial⟩ ?_
    cases H
    exact ⟨_, EVle.tupL (ds := [slOf 1 rB8 ([] : List UInt8), cI 6]) ⟨.nil 1, .rfl' _, trivial⟩, rfl⟩
  · replace H := ifF hc H; clear hc
    refine .skip ?_
    refine .seq ?_
    refine .region ?_
    refine .q (q_move rfl) rfl ?_
    obtain ⟨hk1, H⟩ := ck_some H
    refine .v (x := .vc 0 ((List.replicate (Int.toNat (v2size)) 0 : List UInt8).length)) (v_makeV (row := rB8) (a := v2size) (b := v2size) (a0 := 0) Tryd.underlying32 hi5 hz5 hs5 rfl (by rw [hb5]; decide) rfl rfl rfl hk1) rfl ?_
    refine .withSt (st' := ⟨[], [⟨5, 1, ((List.replicate (Int.toNat (v2size)) 0 : List UInt8).length), some ((List.replicate (Int.toNat (v2size)) 0 : List UInt8).map rB8)⟩]⟩) rfl ?_
    refine .q (q_assign rfl) rfl ?_
    refine .nil ?_
    refine .seq ?_
    refine .seq ?_
    refine .region ?_
    refine .q (q_move rfl) rfl ?_
    obtain ⟨hk2, H⟩ := ck_some H
    refine .q (q_subI rfl rfl hk2.1 hk2.2) rfl ?_
    refine .q (q_assign rfl) rfl ?_
    refine .nil ?_
    refine .blockJoin2 (ι := List UInt8 × Int) (fun s => [(0, .d (slOf 1 rB8 v0b)), (1, .d (cI s.2)), (8, .vc 0 s.1.length)]) (fun s => ⟨[], [⟨5, 1, s.1.length, some (s.1.map rB8)⟩]⟩) (fun s => f_billingref11_PutDecimal_j1 v0b s.1 s.2 = some r) ?_ ?_
    · rintro ⟨y0tj1, v1nj1⟩ H
      replace H : f_billingref11_PutDecimal_j1 v0b y0tj1 v1nj1 = some r := H
      unfold f_billingref11_PutDecimal_j1 at H
      change ARun _ _ _ _ _ _ [(0, .d (slOf 1 rB8 v0b)), (1, .d (cI v1nj1)), (8, .vc 0 y0tj1.length)] ⟨[], [⟨5, 1, y0tj1.length, some (y0tj1.map rB8)⟩]⟩
      refine .seq ?_
      refine .seq ?_
      refine .region ?_
      refine .q (q_move rfl) rfl ?_
      refine .q (q_gtr rfl rfl) rfl ?_
      refine .nil ?_
      refine .cond rfl (fun hc => ?_) (fun hc => ?_)
      · replace H := ifT hc H; clear hc
        refine .seq ?_
        refine .region ?_
        refine .q (q_assign rfl) rfl ?_
        refine .q (q_assign rfl) rfl ?_
        refine .nil ?_
        refine .retN [.tmp 6, .tmp 7] [.d (nilD), .d (cI 6)] Tryd.func67 Tryd.results67 ⟨rfl, rfl, trivial⟩ ?_
        cases H
        exact ⟨_, EVle.tupL (ds := [slOf 1 rB8 ([] : List UInt8), cI 6]) ⟨.nil 1, .rfl' _, trivial⟩, rfl⟩
      · replace H := ifF hc H; clear hc
        refine .skip ?_
        refine .seq ?_
        refine .region ?_
        refine .v (x := .tsl 1 (([] : List UInt8).map rB8) 1) (v_build0T Tryd.underlying32 hi5 hs5) rfl ?_
        refine .withSt (st' := ⟨[], [⟨5, 1, y0tj1.length, some (y0tj1.map rB8)⟩, ⟨5, 1, ([] : List UInt8).length, none⟩]⟩) rfl ?_
        refine .q (q_move rfl) rfl ?_
        obtain ⟨hk3, H⟩ := ck_some H
        refine .v (x := .tsl 1 ((([] : List UInt8) ++ v0b).map rB8) 1) (v_appendL (l := ([] : List UInt8)) (l' := v0b) (row := rB8) Tryd.underlying32 hi5 hz5 hs5 rfl (by rw [hb5]; decide) rfl rfl rfl rfl hk3) rfl ?_
        refine .withSt (st' := ⟨[], [⟨5, 1, y0tj1.length, some (y0tj1.map rB8)⟩, ⟨5, 1, (([] : List UInt8) ++ v0b).length, none⟩]⟩) rfl ?_
        refine .q (q_move rfl) rfl ?_
        refine .freezeL (l := y0tj1) (row := rB8) (i := 46) rfl rfl ?_
        refine .withSt (st' := ⟨[], [⟨5, 1, y0tj1.length, none⟩, ⟨5, 1, (([] : List UInt8) ++ v0b).length, none⟩]⟩) rfl ?_
        obtain ⟨hk4, H⟩ := ck_some H
        refine .v (x := .tsl 1 (((([] : List UInt8) ++ v0b) ++ y0tj1).map rB8) 1) (v_appendL (l := ([] : List UInt8) ++ v0b) (l' := y0tj1) (row := rB8) Tryd.underlying32 hi5 hz5 hs5 rfl (by rw [hb5]; decide) rfl rfl rfl rfl hk4) rfl ?_
        refine .withSt (st' := ⟨[], [⟨5, 1, y0tj1.length, none⟩, ⟨5, 1, ((([] : List UInt8) ++ v0b) ++ y0tj1).length, none⟩]⟩) rfl ?_
        refine .q (q_assign rfl) rfl ?_
        refine .q (q_assign rfl) rfl ?_
        refine .nil ?_
        refine .retN [.tmp 6, .tmp 7] [.tsl 1 (((([] : List UInt8) ++ v0b) ++ y0tj1).map rB8) 1, .d (cI 0)] Tryd.func67 Tryd.results67 ⟨rfl, rfl, trivial⟩ ?_
        cases H
        exact ⟨_, EVle.tupL (ds := [slOf 1 rB8 ((([] : List UInt8) ++ v0b) ++ y0tj1), cI 0]) ⟨.tsl _ _ _, .rfl' _, trivial⟩, rfl⟩
    · intro hj1 hj1x
      obtain ⟨n1, H⟩ := loop_some H
      refine .withSt (st' := ⟨[], [⟨5, 1, (List.replicate (Int.toNat (v2size)) 0 : List UInt8).length, some ((List.replicate (Int.toNat (v2size)) 0 : List UInt8).map rB8)⟩]⟩) rfl <| .loop (ι := Nat × (List UInt8 × Int × Int)) (fun p => [(0, .d (slOf 1 rB8 v0b)), (1, .d (cI p.2.2.1)), (8, .vc 0 p.2.1.length), (9, .d (cI p.2.2.2))]) (fun p => ⟨[], [⟨5, 1, p.2.1.length, some (p.2.1.map rB8)⟩]⟩) (fun p => iter (fun s => f_billingref11_PutDecimal_l1 v0b s.1 s.2.1 s.2.2) p.1 p.2 = some r) (·.1) (n1, ((List.replicate (Int.toNat (v2size)) 0 : List UInt8), v1n, v2size - 1)) H (.cons rfl (.rfl' _) (.cons rfl (.rfl' _) (.cons rfl (.rfl' _) (.cons rfl (.rfl' _) (.nil))))) rfl ?_
      rintro ⟨m1, y0tl1, v1nl1, v9il1⟩ HI ih1
      obtain ⟨n1, q1, hm1, H, HK1⟩ := iter_succ HI
      clear HI
      replace H : f_billingref11_PutDecimal_l1 v0b y0tl1 v1nl1 v9il1 = some q1 := H
      unfold f_billingref11_PutDecimal_l1 at H
      change ARun _ _ _ _ _ _ [(0, .d (slOf 1 rB8 v0b)), (1, .d (cI v1nl1)), (8, .vc 0 y0tl1.length), (9, .d (cI v9il1))] ⟨[], [⟨5, 1, y0tl1.length, some (y0tl1.map rB8)⟩]⟩
      refine .seq ?_
      refine .seq ?_
      refine .region ?_
      refine .q (q_move rfl) rfl ?_
      refine .q (q_geq rfl rfl) rfl ?_
      refine .nil ?_
      refine .cond rfl (fun hc => ?_) (fun hc => ?_)
      · replace H := ifT hc H; clear hc
        refine .skip ?_
        refine .seq ?_
        refine .block ?_
        refine .seq ?_
        refine .region ?_
        refine .q (q_move rfl) rfl ?_
        refine .q (q_move rfl) rfl ?_
        refine .q (q_move rfl) rfl ?_
        obtain ⟨hk5, H⟩ := ck_some H
        refine .q (x := .d (cI (Int.tdiv v1nl1 10))) (q_quoT rfl rfl hk5) rfl ?_
        obtain ⟨hk6, H⟩ := ck_some H
        refine .q (x := .d (cI (Int.tmod (Int.tdiv v1nl1 10) 10))) (q_remT rfl rfl hk6) rfl ?_
        obtain ⟨hk7, H⟩ := ck_some H
        refine .q (q_mulI rfl rfl hk7.1 hk7.2) rfl ?_
        refine .q (q_move rfl) rfl ?_
        obtain ⟨hk8, H⟩ := ck_some H
        refine .q (x := .d (cI (Int.tmod v1nl1 10))) (q_remT rfl rfl hk8) rfl ?_
        obtain ⟨hk9, H⟩ := ck_some H
        refine .q (q_addI rfl rfl hk9.1 hk9.2) rfl ?_
        refine .q (x := .d (cU8 (UInt8.ofInt (((Int.tmod (Int.tdiv v1nl1 10) 10) * 16) + (Int.tmod v1nl1 10))))) (q_conv8 Tryd.underlying3 Tryd.underlying5 rfl) rfl ?_
        obtain ⟨hk10, H⟩ := ck_some H
        refine .q (x := .vp 0 y0tl1.length (Int.toNat (v9il1)) 0) (q_idxV (l := y0tl1) (row := rB8) (i := v9il1) Tryd.underlying32 hi5 hs5 rfl rfl rfl hk10) rfl ?_
        obtain ⟨hk11, H⟩ := ck_some H
        refine .u (u_storeV (l := y0tl1) (row := rB8) (a := UInt8.ofInt (((Int.tmod (Int.tdiv v1nl1 10) 10) * 16) + (Int.tmod v1nl1 10))) rfl rfl hk11 rfl rfl sz_5 rfl (Nat.le_of_ble_eq_true rfl) rfl) rfl ?_
        refine .withSt (st' := ⟨[], [⟨5, 1, y0tl1.length, some ((y0tl1.set (Int.toNat (v9il1)) (UInt8.ofInt (((Int.tmod (Int.tdiv v1nl1 10) 10) * 16) + (Int.tmod v1nl1 10)))).map rB8)⟩]⟩) rfl ?_
        refine .nil ?_
        refine .region ?_
        refine .q (q_move rfl) rfl ?_
        obtain ⟨hk12, H⟩ := ck_some H
        refine .q (x := .d (cI (Int.tdiv v1nl1 100))) (q_quoT rfl rfl hk12) rfl ?_
        refine .q (q_assign rfl) rfl ?_
        refine .nil ?_
        refine .inBlock ?_
        refine .region ?_
        refine .q (q_move rfl) rfl ?_
        obtain ⟨hk13, H⟩ := ck_some H
        refine .q (q_subI rfl rfl hk13.1 hk13.2) rfl ?_
        refine .q (q_assign rfl) rfl ?_
        refine .nil ?_
        cases H
        refine .normV (l := y0tl1.set (Int.toNat (v9il1)) (UInt8.ofInt (((Int.tmod (Int.tdiv v1nl1 10) 10) * 16) + (Int.tmod v1nl1 10)))) (row := rB8) (tk := 0) (fun z => [(0, .d (slOf 1 rB8 v0b)), (1, .d (cI (Int.tdiv v1nl1 100))), (8, .vc 0 z), (9, .d (cI (v9il1 - 1)))]) (fun z => ⟨[], [⟨5, 1, z, some ((y0tl1.set (Int.toNat (v9il1)) (UInt8.ofInt (((Int.tmod (Int.tdiv v1nl1 10) 10) * 16) + (Int.tmod v1nl1 10)))).map rB8)⟩]⟩) rfl (.cons rfl (.rfl' _) (.cons rfl (.rfl' _) (.cons rfl (.rfl' _) (.cons rfl (.rfl' _) (.nil))))) rfl ?_
        exact .withSt (st' := ⟨[], [⟨5, 1, (y0tl1.set (Int.toNat (v9il1)) (UInt8.ofInt (((Int.tmod (Int.tdiv v1nl1 10) 10) * 16) + (Int.tmod v1nl1 10)))).length, some ((y0tl1.set (Int.toNat (v9il1)) (UInt8.ofInt (((Int.tmod (Int.tdiv v1nl1 10) 10) * 16) + (Int.tmod v1nl1 10)))).map rB8)⟩]⟩) rfl <| .sub (.cons rfl (.rfl' _) (.cons rfl (.rfl' _) (.cons rfl (.rfl' _) (.cons rfl (.rfl' _) (.nil))))) (ih1 (n1, (y0tl1.set (Int.toNat (v9il1)) (UInt8.ofInt (((Int.tmod (Int.tdiv v1nl1 10) 10) * 16) + (Int.tmod v1nl1 10))), Int.tdiv v1nl1 100, v9il1 - 1)) HK1 hm1)
      · replace H := ifF hc H; clear hc
        refine .exit rfl ?_
        obtain ⟨q0, H9, hq0⟩ := map_some' H; clear H; cases hq0
        cases HK1
        have H := H9
        exact .withSt (st' := ⟨[], [⟨5, 1, y0tl1.length, some (y0tl1.map rB8)⟩]⟩) rfl <| .sub (.cons rfl (.rfl' _) (.cons rfl (.rfl' _) (.cons rfl (.rfl' _) (.nil)))) (hj1x (y0tl1, v1nl1) H)

set_option maxRecDepth 100000 in
set_option maxHeartbeats 1000000 in
theorem c_f_billingref11_digits {v0s : List UInt8} {r : (List UInt8)} (H : f_billingref11_digits v0s = some r) : ACall Tryd.prog 68 [cS v0s] (· = slOf 1 rB8 r) := by
  obtain ⟨i5, hi5, hz5, hs5, hb5⟩ := in_5
  refine ACall.enter' Tryd.func68 rfl Tryd.ntmps68 rfl fun S hS => ?_
  unfold f_billingref11_digits at H
  change ARun _ _ _ _ _ _ [(0, .d (cS v0s))] _
  refine .seq ?_
  refine .region ?_
  refine .q (q_assign rfl) rfl ?_
  refine .nil ?_
  refine .seq ?_
  refine .region ?_
  obtain ⟨hk1, H⟩ := ck_some H
  refine .v (x := .vc 0 ((List.replicate (Int.toNat (8)) 0 : List UInt8).length)) (v_makeV (row := rB8) (a := 8) (b := 8) (a0 := 0) Tryd.underlying32 hi5 hz5 hs5 rfl (by rw [hb5]; decide) rfl rfl rfl hk1) rfl ?_
  refine .withSt (st' := ⟨[], [⟨5, 1, ((List.replicate (Int.toNat (8)) 0 : List UInt8).length), some ((List.replicate (Int.toNat (8)) 0 : List UInt8).map rB8)⟩]⟩) rfl ?_
  refine .q (q_assign rfl) rfl ?_
  refine .nil ?_
  refine .seq ?_
  refine .region ?_
  refine .q (q_move rfl) rfl ?_
  refine .q (q_move rfl) rfl ?_
  refine .q (q_lenS Tryd.underlying9 rfl) rfl ?_
  obtain ⟨hk2, H⟩ := ck_some H
  refine .q (q_mulI rfl rfl hk2.1 hk2.2) rfl ?_
  refine .q (x := .d (cU8 (UInt8.ofInt ((v0s.length : Int) * 16)))) (q_conv8 Tryd.underlying3 Tryd.underlying5 rfl) rfl ?_
  obtain ⟨hk3, H⟩ := ck_some H
  refine .q (x := .vp 0 ((List.replicate (Int.toNat (8)) 0 : List UInt8).length) (Int.toNat (0)) 0) (q_idxV (l := (List.replicate (Int.toNat (8)) 0 : List UInt8)) (row := rB8) (i := 0) Tryd.underlying32 hi5 hs5 rfl rfl rfl hk3) rfl ?_
  obtain ⟨hk4, H⟩ := ck_some H
  refine .u (u_storeV (l := (List.replicate (Int.toNat (8)) 0 : List UInt8)) (row := rB8) (a := UInt8.ofInt ((v0s.length : Int) * 16)) rfl rfl hk4 rfl rfl sz_5 rfl (Nat.le_of_ble_eq_true rfl) rfl) rfl ?_
  refine .withSt (st' := ⟨[], [⟨5, 1, ((List.replicate (Int.toNat (8)) 0 : List UInt8).length), some (((List.replicate (Int.toNat (8)) 0 : List UInt8).set (Int.toNat (0)) (UInt8.ofInt ((v0s.length : Int) * 16))).map rB8)⟩]⟩) rfl ?_
  refine .nil ?_
  refine .seq ?_
  refine .seq ?_
  refine .region ?_
  refine .q (q_assign rfl) rfl ?_
  refine .nil ?_
  refine .block ?_
  obtain ⟨n1, H⟩ := loop_some H
  refine .normV (l := (List.replicate (Int.toNat (8)) 0 : List UInt8).set (Int.toNat (0)) (UInt8.ofInt ((v0s.length : Int) * 16))) (row := rB8) (tk := 0) (fun z => [(0, .d (cS v0s)), (3, .vc 0 z), (4, .d (cI 0))]) (fun z => ⟨[], [⟨5, 1, z, some (((List.replicate (Int.toNat (8)) 0 : List UInt8).set (Int.toNat (0)) (UInt8.ofInt ((v0s.length : Int) * 16))).map rB8)⟩]⟩) rfl (.cons rfl (.rfl' _) (.cons rfl (.rfl' _) (.cons rfl (.rfl' _) (.nil)))) rfl ?_
  refine .withSt (st' := ⟨[], [⟨5, 1, ((List.replicate (Int.toNat (8)) 0 : List UInt8).set (Int.toNat (0)) (UInt8.ofInt ((v0s.length : Int) * 16))).length, some (((List.replicate (Int.toNat (8)) 0 : List UInt8).set (Int.toNat (0)) (UInt8.ofInt ((v0s.length : Int) * 16))).map rB8)⟩]⟩) rfl <| .loop (ι := Nat × (List UInt8 × Int)) (fun p => [(0, .d (cS v0s)), (3, .vc 0 p.2.1.length), (4, .d (cI p.2.2))]) (fun p => ⟨[], [⟨5, 1, p.2.1.length, some (p.2.1.map rB8)⟩]⟩) (fun p => iter (fun s => f_billingref11_digits_l1 v0s s.1 s.2) p.1 p.2 = some r) (·.1) (n1, ((List.replicate (Int.toNat (8)) 0 : List UInt8).set (Int.toNat (0)) (UInt8.ofInt ((v0s.length : Int) * 16)), 0)) H (.cons rfl (.rfl' _) (.cons rfl (.rfl' _) (.cons rfl (.rfl' _) (.nil)))) rfl ?_
  rintro ⟨m1, y0tl1, v4il1⟩ HI ih1
  obtain ⟨n1, q1, hm1, H, HK1⟩ := iter_succ HI
  clear HI
  replace H : f_billingref11_digits_l1 v0s y0tl1 v4il1 = some q1 := H
  unfold f_billingref11_digits_l1 at H
  change ARun _ _ _ _ _ _ [(0, .d (cS v0s)), (3, .vc 0 y0tl1.length), (4, .d (cI v4il1))] ⟨[], [⟨5, 1, y0tl1.length, some (y0tl1.map rB8)⟩]⟩
  refine .seq ?_
  refine .seq ?_
  refine .region ?_
  refine .q (q_move rfl) rfl ?_
  refine .q (q_move rfl) rfl ?_
  refine .q (q_lenS Tryd.underlying9 rfl) rfl ?_
  refine .q (q_lss rfl rfl) rfl ?_
  refine .nil ?_
  refine .cond rfl (fun hc => ?_) (fun hc => ?_)
  · replace H := ifT hc H; clear hc
    refine .skip ?_
    refine .seq ?_
    refine .block ?_
    refine .seq ?_
    refine .region ?_
    refine .q (q_move rfl) rfl ?_
    obtain ⟨hk5, H⟩ := ck_some H
    refine .q (q_addI rfl rfl hk5.1 hk5.2) rfl ?_
    refine .q (q_assign rfl) rfl ?_
    refine .nil ?_
    refine .seq ?_
    refine .region ?_
    refine .q (q_move rfl) rfl ?_
    obtain ⟨hk6, H⟩ := ck_some H
    refine .q (x := .d (cI (Int.tmod (v4il1 + 1) 2))) (q_remT rfl rfl hk6) rfl ?_
    refine .q (q_eql rfl rfl) rfl ?_
    refine .nil ?_
    refine .cond rfl (fun hc => ?_) (fun hc => ?_)
    · replace H := ifT hc H; clear hc
      refine .drawn 15 hMix (by kernel_rfl) ?_
      show DOps _ _ _ _ _ _ _ (_ :: _) _ _ _
      refine .q (q_move rfl) rfl ?_
      refine .q (q_move rfl) rfl ?_
      obtain ⟨hk7, H⟩ := ck_some H
      refine .q (x := .d (cI (Int.tdiv (v4il1 + 1) 2))) (q_quoT rfl rfl hk7) rfl ?_
      refine .q (q_move rfl) rfl ?_
      refine .q (q_move rfl) rfl ?_
      obtain ⟨hk8, H⟩ := ck_some H
      refine .q (x := .d (cI (Int.tdiv (v4il1 + 1) 2))) (q_quoT rfl rfl hk8) rfl ?_
      obtain ⟨hk9, H⟩ := ck_some H
      refine .q (x := .vp 0 y0tl1.length (Int.toNat (Int.tdiv (v4il1 + 1) 2)) 0) (q_idxV (l := y0tl1) (row := rB8) (i := Int.tdiv (v4il1 + 1) 2) Tryd.underlying32 hi5 hs5 rfl rfl rfl hk9) rfl ?_
      obtain ⟨hk10, H⟩ := ck_some H
      refine .q (x := .d (cU8 (nth y0tl1 (Int.toNat (Int.tdiv (v4il1 + 1) 2))))) (q_loadVp (l := y0tl1) (row := rB8) one_5 rfl rfl hk10 rfl) rfl ?_
      refine .q (q_move rfl) rfl ?_
      refine .q (q_move rfl) rfl ?_
      obtain ⟨hk11, H⟩ := ck_some H
      refine .q (x := .d (cU8 (nth v0s (Int.toNat (v4il1))))) (q_indexL (i := v4il1) Tryd.underlying9 rfl rfl hk11) rfl ?_
      refine .q (x := .d (cU8 ((nth v0s (Int.toNat (v4il1))) - 48))) (q8_sub (a := nth v0s (Int.toNat (v4il1))) (b := 48) rfl rfl) rfl ?_
      refine .q (x := .d (cU8 (((nth v0s (Int.toNat (v4il1))) - 48) * 16))) (q8_mul (a := (nth v0s (Int.toNat (v4il1))) - 48) (b := 16) rfl rfl) rfl ?_
      refine .q (x := .d (cU8 ((nth y0tl1 (Int.toNat (Int.tdiv (v4il1 + 1) 2))) + (((nth v0s (Int.toNat (v4il1))) - 48) * 16)))) (q8_add (a := nth y0tl1 (Int.toNat (Int.tdiv (v4il1 + 1) 2))) (b := ((nth v0s (Int.toNat (v4il1))) - 48) * 16) rfl rfl) rfl ?_
      obtain ⟨hk12, H⟩ := ck_some H
      refine .q (x := .vp 0 y0tl1.length (Int.toNat (Int.tdiv (v4il1 + 1) 2)) 0) (q_idxV (l := y0tl1) (row := rB8) (i := Int.tdiv (v4il1 + 1) 2) Tryd.underlying32 hi5 hs5 rfl rfl rfl hk12) rfl ?_
      refine .nil ?_
      show AOps _ _ _ _ _ _ (_ :: _) _ _ _
      obtain ⟨hk13, H⟩ := ck_some H
      refine .u (u_storeV (l := y0tl1) (row := rB8) (a := (nth y0tl1 (Int.toNat (Int.tdiv (v4il1 + 1) 2))) + (((nth v0s (Int.toNat (v4il1))) - 48) * 16)) rfl rfl hk13 rfl rfl sz_5 rfl (Nat.le_of_ble_eq_true rfl) rfl) rfl ?_
      refine .withSt (st' := ⟨[], [⟨5, 1, y0tl1.length, some ((y0tl1.set (Int.toNat (Int.tdiv (v4il1 + 1) 2)) ((nth y0tl1 (Int.toNat (Int.tdiv (v4il1 + 1) 2))) + (((nth v0s (Int.toNat (v4il1))) - 48) * 16))).map rB8)⟩]⟩) rfl ?_
      refine .nil ?_
      refine .inBlock ?_
      refine .region ?_
      refine .q (q_move rfl) rfl ?_
      obtain ⟨hk14, H⟩ := ck_some H
      refine .q (q_addI rfl rfl hk14.1 hk14.2) rfl ?_
      refine .q (q_assign rfl) rfl ?_
      refine .nil ?_
      cases H
      refine .normV (l := y0tl1.set (Int.toNat (Int.tdiv (v4il1 + 1) 2)) ((nth y0tl1 (Int.toNat (Int.tdiv (v4il1 + 1) 2))) + (((nth v0s (Int.toNat (v4il1))) - 48) * 16))) (row := rB8) (tk := 0) (fun z => [(0, .d (cS v0s)), (3, .vc 0 z), (4, .d (cI (v4il1 + 1)))]) (fun z => ⟨[], [⟨5, 1, z, some ((y0tl1.set (Int.toNat (Int.tdiv (v4il1 + 1) 2)) ((nth y0tl1 (Int.toNat (Int.tdiv (v4il1 + 1) 2))) + (((nth v0s (Int.toNat (v4il1))) - 48) * 16))).map rB8)⟩]⟩) rfl (.cons rfl (.rfl' _) (.cons rfl (.rfl' _) (.cons rfl (.rfl' _) (.nil)))) rfl ?_
      exact .withSt (st' := ⟨[], [⟨5, 1, (y0tl1.set (Int.toNat (Int.tdiv (v4il1 + 1) 2)) ((nth y0tl1 (Int.toNat (Int.tdiv (v4il1 + 1) 2))) + (((nth v0s (Int.toNat (v4il1))) - 48) * 16))).length, some ((y0tl1.set (Int.toNat (Int.tdiv (v4il1 + 1) 2)) ((nth y0tl1 (Int.toNat (Int.tdiv (v4il1 + 1) 2))) + (((nth v0s (Int.toNat (v4il1))) - 48) * 16))).map rB8)⟩]⟩) rfl <| .sub (.cons rfl (.rfl' _) (.cons rfl (.rfl' _) (.cons rfl (.rfl' _) (.nil)))) (ih1 (n1, (y0tl1.set (Int.toNat (Int.tdiv (v4il1 + 1) 2)) ((nth y0tl1 (Int.toNat (Int.tdiv (v4il1 + 1) 2))) + (((nth v0s (Int.toNat (v4il1))) - 48) * 16)), v4il1 + 1)) HK1 hm1)
    · replace H := ifF hc H; clear hc
      refine .drawn 14 hMix (by kernel_rfl) ?_
      show DOps _ _ _ _ _ _ _ (_ :: _) _ _ _
      refine .q (q_move rfl) rfl ?_
      refine .q (q_move rfl) rfl ?_
      obtain ⟨hk15, H⟩ := ck_some H
      refine .q (x := .d (cI (Int.tdiv (v4il1 + 1) 2))) (q_quoT rfl rfl hk15) rfl ?_
      refine .q (q_move rfl) rfl ?_
      refine .q (q_move rfl) rfl ?_
      obtain ⟨hk16, H⟩ := ck_some H
      refine .q (x := .d (cI (Int.tdiv (v4il1 + 1) 2))) (q_quoT rfl rfl hk16) rfl ?_
      obtain ⟨hk17, H⟩ := ck_some H
      refine .q (x := .vp 0 y0tl1.length (Int.toNat (Int.tdiv (v4il1 + 1) 2)) 0) (q_idxV (l := y0tl1) (row := rB8) (i := Int.tdiv (v4il1 + 1) 2) Tryd.underlying32 hi5 hs5 rfl rfl rfl hk17) rfl ?_
      obtain ⟨hk18, H⟩ := ck_some H
      refine .q (x := .d (cU8 (nth y0tl1 (Int.toNat (Int.tdiv (v4il1 + 1) 2))))) (q_loadVp (l := y0tl1) (row := rB8) one_5 rfl rfl hk18 rfl) rfl ?_
      refine .q (q_move rfl) rfl ?_
      refine .q (q_move rfl) rfl ?_
      obtain ⟨hk19, H⟩ := ck_some H
      refine .q (x := .d (cU8 (nth v0s (Int.toNat (v4il1))))) (q_indexL (i := v4il1) Tryd.underlying9 rfl rfl hk19) rfl ?_
      refine .q (x := .d (cU8 ((nth v0s (Int.toNat (v4il1))) - 48))) (q8_sub (a := nth v0s (Int.toNat (v4il1))) (b := 48) rfl rfl) rfl ?_
      refine .q (x := .d (cU8 ((nth y0tl1 (Int.toNat (Int.tdiv (v4il1 + 1) 2))) + ((nth v0s (Int.toNat (v4il1))) - 48)))) (q8_add (a := nth y0tl1 (Int.toNat (Int.tdiv (v4il1 + 1) 2))) (b := (nth v0s (Int.toNat (v4il1))) - 48) rfl rfl) rfl ?_
      obtain ⟨hk20, H⟩ := ck_some H
      refine .q (x := .vp 0 y0tl1.length (Int.toNat (Int.tdiv (v4il1 + 1) 2)) 0) (q_idxV (l := y0tl1) (row := rB8) (i := Int.tdiv (v4il1 + 1) 2) Tryd.underlying32 hi5 hs5 rfl rfl rfl hk20) rfl ?_
      refine .nil ?_
      show AOps _ _ _ _ _ _ (_ :: _) _ _ _
      obtain ⟨hk21, H⟩ := ck_some H
      refine .u (u_storeV (l := y0tl1) (row := rB8) (a := (nth y0tl1 (Int.toNat (Int.tdiv (v4il1 + 1) 2))) + ((nth v0s (Int.toNat (v4il1))) - 48)) rfl rfl hk21 rfl rfl sz_5 rfl (Nat.le_of_ble_eq_true rfl) rfl) rfl ?_
      refine .withSt (st' := ⟨[], [⟨5, 1, y0tl1.length, some ((y0tl1.set (Int.toNat (Int.tdiv (v4il1 + 1) 2)) ((nth y0tl1 (Int.toNat (Int.tdiv (v4il1 + 1) 2))) + ((nth v0s (Int.toNat (v4il1))) - 48))).map rB8)⟩]⟩) rfl ?_
      refine .nil ?_
      refine .inBlock ?_
      refine .region ?_
      refine .q (q_move rfl) rfl ?_
      obtain ⟨hk22, H⟩ := ck_some H
      refine .q (q_addI rfl rfl hk22.1 hk22.2) rfl ?_
      refine .q (q_assign rfl) rfl ?_
      refine .nil ?_
      cases H
      refine .normV (l := y0tl1.set (Int.toNat (Int.tdiv (v4il1 + 1) 2)) ((nth y0tl1 (Int.toNat (Int.tdiv (v4il1 + 1) 2))) + ((nth v0s (Int.toNat (v4il1))) - 48))) (row := rB8) (tk := 0) (fun z => [(0, .d (cS v0s)), (3, .vc 0 z), (4, .d (cI (v4il1 + 1)))]) (fun z => ⟨[], [⟨5, 1, z, some ((y0tl1.set (Int.toNat (Int.tdiv (v4il1 + 1) 2)) ((nth y0tl1 (Int.toNat (Int.tdiv (v4il1 + 1) 2))) + ((nth v0s (Int.toNat (v4il1))) - 48))).map rB8)⟩]⟩) rfl (.cons rfl (.rfl' _) (.cons rfl (.rfl' _) (.cons rfl (.rfl' _) (.nil)))) rfl ?_
      exact .withSt (st' := ⟨[], [⟨5, 1, (y0tl1.set (Int.toNat (Int.tdiv (v4il1 + 1) 2)) ((nth y0tl1 (Int.toNat (Int.tdiv (v4il1 + 1) 2))) + ((nth v0s (Int.toNat (v4il1))) - 48))).length, some ((y0tl1.set (Int.toNat (Int.tdiv (v4il1 + 1) 2)) ((nth y0tl1 (Int.toNat (Int.tdiv (v4il1 + 1) 2))) + ((nth v0s (Int.toNat (v4il1))) - 48))).map rB8)⟩]⟩) rfl <| .sub (.cons rfl (.rfl' _) (.cons rfl (.rfl' _) (.cons rfl (.rfl' _) (.nil)))) (ih1 (n1, (y0tl1.set (Int.toNat (Int.tdiv (v4il1 + 1) 2)) ((nth y0tl1 (Int.toNat (Int.tdiv (v4il1 + 1) 2))) + ((nth v0s (Int.toNat (v4il1))) - 48)), v4il1 + 1)) HK1 hm1)
  · replace H := ifF hc H; clear hc
    refine .exit rfl ?_
    refine .seq ?_
    refine .region ?_
    refine .q (q_move rfl) rfl ?_
    refine .q (q_assign rfl) rfl ?_
    refine .nil ?_
    refine .freezeL (l := y0tl1) (row := rB8) (i := 2) rfl rfl ?_
    refine .withSt (st' := ⟨[], [⟨5, 1, y0tl1.length, none⟩]⟩) rfl ?_
    refine .retN [.tmp 2] [.tsl 1 (y0tl1.map rB8) 0] Tryd.func68 Tryd.results68 ⟨rfl, trivial⟩ ?_
    cases H
    cases HK1
    exact ⟨_, .tsl _ _ _, rfl⟩

end Go.Proofs.YtccmaffefdcikaaDoor

set_option linter.unusedSimpArgs false
set_option linter.unusedVariables false
namespace Go.Proofs.YtccmaffefdcikaaDoor
open Go.RowKit Go.Abs
theorem gcall_mk {α : Type} [Inhabited α] {b : Bool} {x : α} : gcall b (some x) = some (if b = true then x else default) := by
  unfold gcall; split <;> rfl
theorem loop_count {R : Type} {step : Int → Option (Int ⊕ R)} (n : Nat) (hn : n < 18446744073709551616) (Q : R → Prop) (h : ∀ i, 0 ≤ i → i ≤ (n : Int) → (∃ r, step i = some (.inr r) ∧ Q r) ∨ (step i = some (.inl (i + 1)) ∧ i < (n : Int))) : ∃ r, loop step 0 = some r ∧ Q r := by
  refine loop_post Q (fun i : Int => 0 ≤ i ∧ i ≤ (n : Int)) (fun i => ((n : Int) - i).toNat) (fun i hI => ?_) ⟨by omega, by omega⟩ (by omega)
  rcases h i hI.1 hI.2 with h | ⟨h1, h2⟩
  · exact .inl h
  · exact .inr ⟨i + 1, h1, ⟨by omega, by omega⟩, by omega⟩
/-- A loop over a list that stops at the first element that is not as wanted. -/
theorem loop_all {α R : Type} [Inhabited α] {step : Int → Option (Int ⊕ R)} (l : List α) (p : α → Bool) (fin bad : R) (hl : l.length < 18446744073709551616)
    (h1 : ∀ i : Int, 0 ≤ i → i < (l.length : Int) → step i = some (if p (nth l i.toNat) = true then .inl (i + 1) else .inr bad)) (h2 : ∀ i : Int, i = (l.length : Int) → step i = some (.inr fin)) : loop step 0 = some (if l.all p = true then fin else bad) := by
  have := loop_spec (step := step) (fun i : Int => some (if (l.drop i.toNat).all p = true then fin else bad)) (fun i => 0 ≤ i ∧ i ≤ (l.length : Int)) (fun i => ((l.length : Int) - i).toNat) (fun i hI => by
    by_cases hi : i < (l.length : Int)
    · have hd := drop_nth (l := l) (k := i.toNat) (by omega)
      rw [h1 i hI.1 hi]
      by_cases hp : p (nth l i.toNat) = true
      · rw [if_pos hp]
        refine .inr ⟨i + 1, rfl, ⟨by omega, by omega⟩, by omega, ?_⟩
        rw [show (i + 1).toNat = i.toNat + 1 from by omega, hd]
        simp [hp]
      · rw [if_neg hp]
        refine .inl ⟨bad, rfl, ?_⟩
        rw [hd]
        simp [hp]
    · have : i = (l.length : Int) := by omega
      refine .inl ⟨fin, h2 i this, ?_⟩
      rw [List.drop_of_length_le (by omega)]
      simp) (s := 0) ⟨by omega, by omega⟩ (by omega)
  simpa using this

/-! ### numbers -/
def isDig (c : UInt8) : Bool := decide (48 ≤ c) && decide (c ≤ 57)
def validB (s : List UInt8) : Bool := s.all isDig && decide (1 ≤ s.length) && decide (s.length ≤ 15)
theorem p_Valid (s : List UInt8) (hl : s.length < 1000000000) : f_digits_Valid s = some (validB s) := by
  unfold f_digits_Valid
  rw [loop_all s isDig (decide ((s.length : Int) ≥ 1) && decide ((s.length : Int) ≤ 15)) false (by omega) (fun i h0 h1 => ?_) (fun i hi => ?_)]
  · unfold validB
    cases s.all isDig <;> simp
    rw [Bool.eq_iff_iff]; simp; omega
  · unfold f_digits_Valid_l1 f_digits_digit
    rw [if_pos (by simpa using h1), ck_pos (by omega)]
    simp only [Option.bind_some]
    rw [ck_pos (by omega)]
    unfold isDig
    simp only [ge_iff_le]
    cases decide (48 ≤ nth s i.toNat) <;> cases decide (nth s i.toNat ≤ 57) <;> rfl
  · unfold f_digits_Valid_l1 f_digits_Valid_j1
    rw [if_neg (by simp; omega)]
    rfl
theorem p_rValid (s : List UInt8) (hl : s.length < 1000000000) : f_billingref02_Valid s = some (validB s) := by
  unfold f_billingref02_Valid
  rw [loop_all s isDig (decide ((s.length : Int) ≥ 1) && decide ((s.length : Int) ≤ 15)) false (by omega) (fun i h0 h1 => ?_) (fun i hi => ?_)]
  · unfold validB
    cases s.all isDig <;> simp
    rw [Bool.eq_iff_iff]; simp; omega
  · unfold f_billingref02_Valid_l1
    rw [if_pos (by simpa using h1), ck_pos (by omega), ck_pos (by omega), ck_pos (by omega)]
    unfold isDig
    have e1 : decide (nth s i.toNat < 48) = !decide (48 ≤ nth s i.toNat) := by rw [← decide_not]; simp
    have e2 : decide (nth s i.toNat > 57) = !decide (nth s i.toNat ≤ 57) := by rw [← decide_not]; simp
    rw [e1, e2]
    cases decide (48 ≤ nth s i.toNat) <;> cases decide (nth s i.toNat ≤ 57) <;> rfl
  · unfold f_billingref02_Valid_l1 f_billingref02_Valid_j1
    rw [if_neg (by simp; omega)]
    rfl

/-! ### the error of a record -/
def errF (r : Record) : Int :=
  if ¬(1 ≤ r.source ∧ r.source ≤ 99 ∧ 1 ≤ r.serial ∧ r.serial ≤ 999999999) then 6
  else if ¬(1 ≤ r.kind ∧ r.kind ≤ 4) then 7
  else if validB r.a = false ∨ (validB r.b = false ∧ ¬((r.kind = 3 ∨ r.kind = 4) ∧ r.b = [])) then 12
  else if ¬(0 ≤ r.start ∧ r.start ≤ 12622780799) then 15
  else if ¬(0 ≤ r.units ∧ r.units ≤ 1099511627776) ∨ (r.kind = 1 ∧ r.units > 604800) then 6
  else if r.kind = 1 ∧ r.start + r.units > 12622780800 then 15
  else if ¬(0 ≤ r.call ∧ r.call ≤ 999999999 ∧ 0 ≤ r.part ∧ r.part ≤ 99) then 6
  else if ¬(r.part = 0 ↔ r.call = 0) ∨ (r.last = true ∧ r.part = 0) then 8
  else if ¬(0 ≤ r.trunk ∧ r.trunk ≤ 999) then 6
  else if r.inbound = true ∧ r.trunk = 0 then 8
  else 0
theorem ite_same {α : Type} {b : Bool} {p : Prop} [Decidable p] {x y x' y' : α} (h : b = true ↔ p) (hx : p → x = x') (hy : ¬p → y = y') : (if b = true then x else y) = if p then x' else y' := by
  by_cases hp : p
  · rw [if_pos hp, if_pos (h.2 hp), hx hp]
  · rw [if_neg hp, if_neg (fun hb => hp (h.1 hb)), hy hp]
theorem ite_some {α : Type} {p : Prop} [Decidable p] {x y : α} : (if p then some x else some y) = some (if p then x else y) := by split <;> rfl
theorem p_check (r : Record) (ha : r.a.length < 1000000000) (hb : r.b.length < 1000000000) : f_textual_check r = some (errF r) := by
  have key : ∀ m, (m = 1099511627776 ∧ r.kind ≠ 1) ∨ (m = 604800 ∧ r.kind = 1) → f_textual_check_j1 r m = some (errF r) := by
    intro m hm
    unfold f_textual_check_j1 errF
    simp only [f_textual_within, p_Valid _ ha, p_Valid _ hb, Option.bind_some, gcall_mk]
    simp only [← ite_some]
    refine ite_same (by simp; grind) (fun _ => rfl) (fun h1 => ?_)
    refine ite_same (by simp; grind) (fun _ => rfl) (fun h2 => ?_)
    refine ite_same (by simp; grind) (fun _ => rfl) (fun h3 => ?_)
    refine ite_same (by simp; grind) (fun _ => rfl) (fun h4 => ?_)
    refine ite_same (by simp; grind) (fun _ => rfl) (fun h5 => ?_)
    rw [ck_pos (by omega)]
    refine ite_same (by simp) (fun _ => rfl) (fun h6 => ?_)
    refine ite_same (by simp; grind) (fun _ => rfl) (fun h7 => ?_)
    refine ite_same (by simp; grind) (fun _ => rfl) (fun h8 => ?_)
    refine ite_same (by simp; grind) (fun _ => rfl) (fun h9 => ?_)
    refine ite_same (by simp) (fun _ => rfl) (fun h10 => rfl)
  unfold f_textual_check
  split
  · rename_i h
    exact key _ (.inr ⟨rfl, by simpa using h⟩)
  · rename_i h
    exact key _ (.inl ⟨rfl, by simpa using h⟩)
theorem p_rError (r : Record) (ha : r.a.length < 1000000000) (hb : r.b.length < 1000000000) : f_billingref09_Error r = some (errF r) := by
  unfold f_billingref09_Error errF
  simp only [f_billingref09_in, p_rValid _ ha, p_rValid _ hb, Option.bind_some, gcall_mk]
  simp only [← ite_some]
  refine ite_same (by simp; grind) (fun _ => rfl) (fun h1 => ?_)
  refine ite_same (by simp; grind) (fun _ => rfl) (fun h2 => ?_)
  by_cases hva : validB r.a = true
  · rw [if_neg (by simp [hva])]
    refine ite_same (by simp [hva]; grind) (fun _ => rfl) (fun h3 => ?_)
    refine ite_same (by simp; grind) (fun _ => rfl) (fun h4 => ?_)
    refine ite_same (by simp; grind) (fun _ => rfl) (fun h5 => ?_)
    rw [ck_pos (by omega)]
    refine ite_same (by simp) (fun _ => rfl) (fun h6 => ?_)
    refine ite_same (by simp; grind) (fun _ => rfl) (fun h7 => ?_)
    refine ite_same (by simp; grind) (fun _ => rfl) (fun h8 => ?_)
    refine ite_same (by simp; grind) (fun _ => rfl) (fun h9 => ?_)
    refine ite_same (by simp) (fun _ => rfl) (fun h10 => rfl)
  · rw [if_pos (by simp [hva]), if_pos (by simp [hva])]
structure Good (r : Record) : Prop where
  source : 1 ≤ r.source ∧ r.source ≤ 99
  serial : 1 ≤ r.serial ∧ r.serial ≤ 999999999
  kind : 1 ≤ r.kind ∧ r.kind ≤ 4
  a : validB r.a = true
  b : validB r.b = true ∨ (r.kind = 3 ∨ r.kind = 4) ∧ r.b = []
  start : 0 ≤ r.start ∧ r.start ≤ 12622780799
  units : 0 ≤ r.units ∧ r.units ≤ 1099511627776
  call : 0 ≤ r.call ∧ r.call ≤ 999999999
  part : 0 ≤ r.part ∧ r.part ≤ 99
  trunk : 0 ≤ r.trunk ∧ r.trunk ≤ 999
theorem errF_good {r : Record} (h : errF r = 0) : Good r := by
  unfold errF at h
  split at h; · cases h
  split at h; · cases h
  split at h; · cases h
  split at h; · cases h
  split at h; · cases h
  split at h; · cases h
  split at h; · cases h
  split at h; · cases h
  split at h; · cases h
  split at h; · cases h
  rename_i h1 h2 h3 h4 h5 h6 h7 h8 h9 h10
  refine ⟨by omega, by omega, by omega, ?_, ?_, by omega, by omega, by omega, by omega, by omega⟩
  · cases hv : validB r.a with
    | true => rfl
    | false => exact absurd (.inl hv) h3
  · cases hv : validB r.b with
    | true => exact .inl rfl
    | false =>
      right
      by_cases hh : (r.kind = 3 ∨ r.kind = 4) ∧ r.b = []
      · exact hh
      · exact absurd (.inr ⟨hv, hh⟩) h3
theorem validB_len {s : List UInt8} (h : validB s = true) : s.length ≤ 15 := by
  unfold validB at h
  simp at h
  exact h.2
/-- The words of a line. -/
def headF (r : Record) : List (List UInt8) := [(([118, 116, 100, 99] : List UInt8).take r.kind.toNat).drop (r.kind - 1).toNat, Go.Lib.itoa r.source, Go.Lib.itoa r.serial, r.a, if r.b = [] then [45] else r.b, Go.Lib.itoa r.start, Go.Lib.itoa r.units]
def partF (r : Record) : List (List UInt8) := if r.part = 0 then [] else [[112, 97, 114, 116], Go.Lib.itoa r.call, Go.Lib.itoa r.part] ++ if r.last = true then [[108, 97, 115, 116]] else []
def trunkF (r : Record) : List (List UInt8) := if r.trunk = 0 then [] else [if r.inbound = true then [105, 110] else [111, 117, 116], Go.Lib.itoa r.trunk]
def wordsF (r : Record) : List (List UInt8) := headF r ++ partF r ++ trunkF r
def lineF (r : Record) : List UInt8 := Go.Lib.join (wordsF r) [32]
theorem join_len (sep : List UInt8) (xs : List (List UInt8)) (m : Nat) (h : ∀ x, x ∈ xs → x.length ≤ m) : (Go.Lib.join xs sep).length ≤ xs.length * (m + sep.length) := by
  cases xs with
  | nil => simp [Go.Lib.join]
  | cons x r =>
    rw [Go.Lib.join_cons]
    have h1 : ∀ (r : List (List UInt8)), (∀ x, x ∈ r → x.length ≤ m) → (Go.Lib.joinTail sep r).length ≤ r.length * (m + sep.length) := by
      intro r
      induction r with
      | nil => simp [Go.Lib.joinTail]
      | cons y r ih =>
        intro hr
        have := ih fun z hz => hr z (List.mem_cons_of_mem _ hz)
        have h2 := hr y List.mem_cons_self
        simp only [Go.Lib.joinTail, List.map_cons, List.flatten_cons, List.length_append, List.length_cons, Nat.add_mul] at *
        omega
    have h3 := h1 r fun z hz => h z (List.mem_cons_of_mem _ hz)
    have h4 := h x List.mem_cons_self
    simp only [List.length_append, List.length_cons, Nat.add_mul] at *
    omega
theorem itoa_le {n : Int} (h0 : 0 ≤ n) (h1 : n ≤ 9223372036854775807) : (Go.Lib.itoa n).length ≤ 21 := Go.Lib.itoa_length_le n (by omega) h1
theorem words_le {r : Record} (g : Good r) : (wordsF r).length ≤ 13 ∧ ∀ x, x ∈ wordsF r → x.length ≤ 21 := by
  have ha := validB_len g.a
  have hb : r.b.length ≤ 15 := by
    rcases g.b with h | h
    · exact validB_len h
    · rw [h.2]; simp
  obtain ⟨gs, ge, gk, _, _, gst, gu, gc, gp, gt⟩ := g
  refine ⟨?_, fun x hx => ?_⟩
  · have h1 : (partF r).length ≤ 4 := by unfold partF; split; simp; split <;> simp
    have h2 : (trunkF r).length ≤ 2 := by unfold trunkF; split <;> simp
    have h3 : (headF r).length = 7 := rfl
    simp only [wordsF, List.length_append]; omega
  · unfold wordsF at hx
    rcases List.mem_append.1 hx with hx | hx
    · rcases List.mem_append.1 hx with hx | hx
      · unfold headF at hx
        simp only [List.mem_cons, List.not_mem_nil, or_false] at hx
        rcases hx with rfl | rfl | rfl | rfl | rfl | rfl | rfl
        · simp; omega
        · exact itoa_le (by omega) (by omega)
        · exact itoa_le (by omega) (by omega)
        · omega
        · split
          · simp
          · omega
        · exact itoa_le (by omega) (by omega)
        · exact itoa_le (by omega) (by omega)
      · unfold partF at hx
        split at hx
        · cases hx
        · rcases List.mem_append.1 hx with hx | hx
          · simp only [List.mem_cons, List.not_mem_nil, or_false] at hx
            rcases hx with rfl | rfl | rfl
            · simp
            · exact itoa_le (by omega) (by omega)
            · exact itoa_le (by omega) (by omega)
          · split at hx
            · simp only [List.mem_cons, List.not_mem_nil, or_false] at hx
              subst hx; simp
            · cases hx
    · unfold trunkF at hx
      split at hx
      · cases hx
      · simp only [List.mem_cons, List.not_mem_nil, or_false] at hx
        rcases hx with rfl | rfl
        · split <;> simp
        · exact itoa_le (by omega) (by omega)
theorem p_Itoa {n : Int} (h0 : 0 ≤ n) (h1 : n ≤ 9223372036854775807) : x_Itoa n = some (Go.Lib.itoa n) := by
  unfold x_Itoa; rw [ck_pos (by omega)]
theorem p_Encode_ok (r : Record) (h : errF r = 0) : f_textual_Encode r = some (lineF r, 0) := by
  have g := errF_good h
  have ha := validB_len g.a
  have hb : r.b.length ≤ 15 := by
    rcases g.b with h | h
    · exact validB_len h
    · rw [h.2]; simp
  have hj3 : ∀ ws, ws = wordsF r → f_textual_Encode_j3 ws = some (lineF r, 0) := by
    rintro ws rfl
    unfold f_textual_Encode_j3 x_Join
    obtain ⟨w1, w2⟩ := words_le g
    have := join_len [32] (wordsF r) 21 w2
    simp only [List.length_cons, List.length_nil] at this
    have h3 : (wordsF r).length * 22 ≤ 13 * 22 := Nat.mul_le_mul_right _ w1
    rw [ck_pos ⟨by omega, by omega⟩]
    rfl
  have hj2 : ∀ ws, ws = headF r ++ partF r → ws.length ≤ 11 → f_textual_Encode_j2 r ws = some (lineF r, 0) := by
    intro ws hw hl
    unfold f_textual_Encode_j2
    by_cases ht : r.trunk = 0
    · rw [if_neg (by simp [ht])]
      exact hj3 _ (by rw [hw, wordsF, trunkF, if_pos ht]; simp)
    · rw [if_pos (by simp [ht])]
      unfold f_textual_Encode_j4
      rw [p_Itoa g.trunk.1 (by have := g.trunk.2; omega)]
      simp only [Option.bind_some]
      split
      · rename_i hi
        rw [ck_pos (by simp; omega)]
        exact hj3 _ (by rw [hw, wordsF, trunkF, if_neg ht, if_pos hi])
      · rename_i hi
        rw [ck_pos (by simp; omega)]
        exact hj3 _ (by rw [hw, wordsF, trunkF, if_neg ht, if_neg hi])
  have hj1 : ∀ b, b = (if r.b = [] then [45] else r.b) → f_textual_Encode_j1 r b = some (lineF r, 0) := by
    rintro b rfl
    unfold f_textual_Encode_j1
    have gk := g.kind
    rw [ck_pos (by omega), ck_pos (by simp; omega), p_Itoa (by have := g.source; omega) (by have := g.source; omega), p_Itoa (by have := g.serial; omega) (by have := g.serial; omega), p_Itoa g.start.1 (by have := g.start; omega), p_Itoa g.units.1 (by have := g.units; omega)]
    simp only [Option.bind_some]
    by_cases hp : r.part = 0
    · rw [if_neg (by simp [hp])]
      exact hj2 _ (by rw [partF, if_pos hp]; simp [headF]) (by simp)
    · rw [if_pos (by simp [hp]), p_Itoa g.call.1 (by have := g.call; omega), p_Itoa g.part.1 (by have := g.part; omega)]
      simp only [Option.bind_some]
      rw [ck_pos (by simp)]
      split
      · rename_i hl
        rw [ck_pos (by simp)]
        exact hj2 _ (by rw [partF, if_neg hp, if_pos hl]; simp [headF]) (by simp)
      · rename_i hl
        exact hj2 _ (by rw [partF, if_neg hp, if_neg hl]; simp [headF]) (by simp)
  unfold f_textual_Encode
  rw [p_check r (by omega) (by omega), h]
  simp only [Option.bind_some]
  rw [if_neg (by simp)]
  split
  · rename_i hb0
    exact hj1 _ (by rw [if_pos (by simpa using hb0)])
  · rename_i hb0
    exact hj1 _ (by rw [if_neg (by simpa using hb0)])
theorem p_Encode (r : Record) (ha : r.a.length < 1000000000) (hb : r.b.length < 1000000000) : f_textual_Encode r = some (if errF r = 0 then lineF r else [], errF r) := by
  by_cases h : errF r = 0
  · rw [p_Encode_ok r h, if_pos h, h]
  · unfold f_textual_Encode
    rw [p_check r ha hb, if_neg h]
    simp only [Option.bind_some]
    rw [if_pos (by simpa using h)]
end Go.Proofs.YtccmaffefdcikaaDoor

set_option linter.unusedSimpArgs false
set_option linter.unusedVariables false
namespace Go.Proofs.YtccmaffefdcikaaDoor
open Go.RowKit Go.Abs
theorem awake_true : f_billinglaw12_awake = some true := by kernel_rfl
/-! ### whether a batch is valid -/
def chkL (src : Int) : List Record → Int
  | [] => 0
  | r :: l => if errF r = 0 then (if r.source = src then chkL src l else 8) else errF r
def hdF (s n f : Int) : Int := if (s < 1 ∨ 99 < s) ∨ (n < 1 ∨ 999999999 < n) then 6 else if f < 1 ∨ 3 < f then 7 else 0
def chkF (b : Batch) : Int := if hdF b.source b.number b.format = 0 then (if 4096 < b.records.length then 5 else chkL b.source b.records) else hdF b.source b.number b.format
def SmL (l : List Record) : Prop := ∀ r, r ∈ l → r.a.length < 1000000000 ∧ r.b.length < 1000000000
theorem SmL.nth {l : List Record} (h : SmL l) {k : Nat} (hk : k < l.length) : (Go.Abs.nth l k).a.length < 1000000000 ∧ (Go.Abs.nth l k).b.length < 1000000000 := by
  rw [nth_eq hk]; exact h _ (List.getElem_mem hk)
theorem p_checkL (b : Batch) (h : SmL b.records) (hl : b.records.length ≤ 4096) : loop (fun s => f_batch_Check_l1 b s) 0 = some (chkL b.source b.records) := by
  have := loop_spec (step := fun s => f_batch_Check_l1 b s) (fun i : Int => some (chkL b.source (b.records.drop i.toNat))) (fun i => 0 ≤ i ∧ i ≤ (b.records.length : Int)) (fun i => ((b.records.length : Int) - i).toNat) (fun i hI => by
    obtain ⟨h0, h1⟩ := hI
    show (∃ r, f_batch_Check_l1 b i = _ ∧ _) ∨ ∃ s', f_batch_Check_l1 b i = _ ∧ _
    unfold f_batch_Check_l1
    by_cases hi : i < (b.records.length : Int)
    · have hd := drop_nth (l := b.records) (k := i.toNat) (by omega)
      have hs := h.nth (k := i.toNat) (by omega)
      rw [if_pos (by simpa using hi), ck_pos ⟨h0, hi⟩, p_Encode _ hs.1 hs.2, hd]
      generalize Go.Abs.nth b.records i.toNat = r at *
      simp only [Option.bind_some, chkL]
      by_cases he : errF r = 0
      · rw [if_neg (by simp [he]), if_pos he]
        by_cases hsrc : r.source = b.source
        · rw [if_neg (by simp [hsrc]), if_pos hsrc, ck_pos (by omega)]
          refine .inr ⟨i + 1, rfl, ⟨by omega, by omega⟩, by omega, ?_⟩
          rw [show (i + 1).toNat = i.toNat + 1 from by omega]
        · rw [if_pos (by simpa using hsrc), if_neg hsrc]
          exact .inl ⟨_, rfl, rfl⟩
      · rw [if_pos (by simpa using he), if_neg he]
        exact .inl ⟨_, rfl, rfl⟩
    · rw [if_neg (by simpa using hi), List.drop_of_length_le (by omega)]
      exact .inl ⟨_, rfl, rfl⟩) (s := 0) ⟨by omega, by omega⟩ (by omega)
  simpa using this
theorem p_rcheckL (b : Batch) (h : SmL b.records) (hl : b.records.length ≤ 4096) : loop (fun s => f_billingref12_Check_l1 b s) 0 = some (chkL b.source b.records) := by
  have := loop_spec (step := fun s => f_billingref12_Check_l1 b s) (fun i : Int => some (chkL b.source (b.records.drop i.toNat))) (fun i => 0 ≤ i ∧ i ≤ (b.records.length : Int)) (fun i => ((b.records.length : Int) - i).toNat) (fun i hI => by
    obtain ⟨h0, h1⟩ := hI
    show (∃ r, f_billingref12_Check_l1 b i = _ ∧ _) ∨ ∃ s', f_billingref12_Check_l1 b i = _ ∧ _
    unfold f_billingref12_Check_l1
    by_cases hi : i < (b.records.length : Int)
    · have hd := drop_nth (l := b.records) (k := i.toNat) (by omega)
      have hs := h.nth (k := i.toNat) (by omega)
      rw [if_pos (by simpa using hi), ck_pos ⟨h0, hi⟩, p_rError _ hs.1 hs.2, hd]
      generalize Go.Abs.nth b.records i.toNat = r at *
      simp only [Option.bind_some, chkL]
      by_cases he : errF r = 0
      · rw [if_neg (by simp [he]), if_pos he, ck_pos ⟨h0, hi⟩]
        by_cases hsrc : r.source = b.source
        · rw [if_neg (by simp [hsrc]), if_pos hsrc, ck_pos (by omega)]
          refine .inr ⟨i + 1, rfl, ⟨by omega, by omega⟩, by omega, ?_⟩
          rw [show (i + 1).toNat = i.toNat + 1 from by omega]
        · rw [if_pos (by simpa using hsrc), if_neg hsrc]
          exact .inl ⟨_, rfl, rfl⟩
      · rw [if_pos (by simpa using he), if_neg he]
        exact .inl ⟨_, rfl, rfl⟩
    · rw [if_neg (by simpa using hi), List.drop_of_length_le (by omega)]
      exact .inl ⟨_, rfl, rfl⟩) (s := 0) ⟨by omega, by omega⟩ (by omega)
  simpa using this
theorem p_head (h : Head) : f_batch_checkHead h = some (if hdF h.source h.number h.format = 0 then (if h.count < 0 ∨ 4096 < h.count then 5 else 0) else hdF h.source h.number h.format) := by
  unfold f_batch_checkHead
  simp only [f_batch_within, Option.bind_some, gcall_mk]
  by_cases h1 : (h.source < 1 ∨ 99 < h.source) ∨ (h.number < 1 ∨ 999999999 < h.number)
  · have e : hdF h.source h.number h.format = 6 := if_pos h1
    rw [e]
    show _ = some (6 : Int)
    by_cases hs : h.source < 1 ∨ 99 < h.source
    · rw [if_pos (by simp; omega)]
    · have hn : h.number < 1 ∨ 999999999 < h.number := by omega
      rw [if_pos (by simp; omega)]
  · by_cases h2 : h.format < 1 ∨ 3 < h.format
    · have e : hdF h.source h.number h.format = 7 := by unfold hdF; rw [if_neg h1, if_pos h2]
      rw [e]
      show _ = some (7 : Int)
      rw [if_neg (by simp; omega), if_pos (by simp; omega)]
    · have e : hdF h.source h.number h.format = 0 := by unfold hdF; rw [if_neg h1, if_neg h2]
      rw [e]
      show _ = some (if h.count < 0 ∨ 4096 < h.count then 5 else 0)
      rw [if_neg (by simp; omega), if_neg (by simp; omega)]
      by_cases h3 : h.count < 0 ∨ 4096 < h.count
      · rw [if_pos h3, if_pos (by simp; omega)]
      · rw [if_neg h3, if_neg (by simp; omega)]
theorem p_rhead (s n f : Int) : f_billingref12_head s n f = some (hdF s n f) := by
  unfold f_billingref12_head hdF
  by_cases h1 : (s < 1 ∨ 99 < s) ∨ (n < 1 ∨ 999999999 < n)
  · rw [if_pos h1, if_pos (by simp; omega)]
  · rw [if_neg h1, if_neg (by simp; omega)]
    by_cases h2 : f < 1 ∨ 3 < f
    · rw [if_pos h2, if_pos (by simp; omega)]
    · rw [if_neg h2, if_neg (by simp; omega)]
theorem p_Check (b : Batch) (h : SmL b.records) : f_batch_Check b = some (chkF b) := by
  unfold f_batch_Check f_batch_headOf chkF
  simp only [Option.bind_some, p_head]
  by_cases h1 : hdF b.source b.number b.format = 0
  · simp only [h1, if_true]
    by_cases h2 : 4096 < b.records.length
    · have h2' : (b.records.length : Int) < 0 ∨ 4096 < (b.records.length : Int) := by omega
      rw [if_pos h2', if_pos h2]; rfl
    · have h2' : ¬ ((b.records.length : Int) < 0 ∨ 4096 < (b.records.length : Int)) := by omega
      rw [if_neg h2', if_neg h2]
      exact p_checkL b h (by omega)
  · simp only [if_neg h1]
    rw [if_pos (by simpa using h1)]
theorem p_rCheck (b : Batch) (h : SmL b.records) : f_billingref12_Check b = some (chkF b) := by
  unfold f_billingref12_Check chkF
  simp only [Option.bind_some, p_rhead]
  by_cases h1 : hdF b.source b.number b.format = 0
  · rw [if_neg (by simp [h1]), if_pos h1]
    by_cases h2 : 4096 < b.records.length
    · rw [if_pos (by simp; omega), if_pos h2]
    · rw [if_neg (by simp; omega), if_neg h2]
      exact p_rcheckL b h (by omega)
  · rw [if_pos (by simpa using h1), if_neg h1]
theorem lengths_true (b : Batch) (r : Record) (more : Int) : f_billinglaw12_BatchLengths b r more = some true := by
  unfold f_billinglaw12_BatchLengths
  by_cases hc : ((((decide ((b.records.length : Int) > 0)) || (decide (more < (-2)))) || (decide (more > 2))) || (decide ((r.a.length : Int) > 20)) || (decide ((r.b.length : Int) > 20))) = true
  · rw [if_pos hc, awake_true]; rfl
  · rw [if_neg hc]
    simp only [Bool.or_eq_true, decide_eq_true_eq, not_or] at hc
    rw [ck_pos (by omega), ck_pos (by omega)]
    obtain ⟨q, h1, h2⟩ := loop_post (step := fun s : List Record × Int => f_billinglaw12_BatchLengths_l1 b r s.1 s.2) (fun q => q = true) (fun s => s.1.length = (4096 + more).toNat ∧ 0 ≤ s.2 ∧ s.2 ≤ (4096 + more) ∧ ∀ x, x ∈ s.1 → x.a.length ≤ 20 ∧ x.b.length ≤ 20) (fun s => ((4096 + more) - s.2).toNat) (by
      rintro ⟨y, i⟩ ⟨k1, k2, k3, k4⟩
      simp only at k1 k2 k3 k4 ⊢
      unfold f_billinglaw12_BatchLengths_l1
      by_cases hi : i < (y.length : Int)
      · rw [if_pos (by simpa using hi), ck_pos ⟨k2, hi⟩, ck_pos (by omega), ck_pos (by omega)]
        refine .inr ⟨_, rfl, ⟨by simpa using k1, by omega, by omega, fun x hx => ?_⟩, by omega⟩
        rcases List.mem_or_eq_of_mem_set hx with hx | rfl
        · exact k4 x hx
        · omega
      · rw [if_neg (by simpa using hi)]
        have hsm : SmL (⟨b.source, b.number, b.format, y⟩ : Batch).records := fun x hx => by have := k4 x hx; omega
        unfold f_billinglaw12_BatchLengths_j1
        rw [p_Check _ hsm, p_rCheck _ hsm]
        simp only [Option.bind_some, awake_true, gcall_mk, beq_self_eq_true, if_true, Bool.and_self]
        exact .inl ⟨_, rfl, rfl⟩) (s := (List.replicate (Int.toNat (4096 + more)) (⟨0, 0, 0, ([] : List UInt8), ([] : List UInt8), 0, 0, 0, 0, false, 0, false⟩ : Record), 0)) ⟨by simp, by omega, by simp only; omega, fun x hx => by
          rw [List.eq_of_mem_replicate hx]; exact ⟨by simp, by simp⟩⟩ (by simp only; omega)
    rw [h1, h2]
end Go.Proofs.YtccmaffefdcikaaDoor

/- A row's arguments opened: what the given reading says of a typed argument, as data of this layer. -/
set_option linter.unusedSimpArgs false
set_option linter.unusedVariables false
set_option linter.unusedSectionVars false
namespace Go.Abs
open Go.RowKit Go.ChangeShapes Go.WideShapes Go.Deep

inductive Sh where
  | i (k : IntKind)
  | b
  | s
  | sl (row : List Sh)
inductive DFits : Sh → D → Prop where
  | i (k : IntKind) (n : Int) (h : (Lit.int k n).wf = true) : DFits (.i k) (.ex (.int k n))
  | b (x : Bool) : DFits .b (.ex (.bool x))
  | s (l : List UInt8) (h : l.length ≤ maxLen) : DFits .s (.ex (.string ⟨l.toArray⟩))
  | sl (row : List Sh) (rows : List (List D)) (hn : rows.length ≤ maxLen) (h1 : ∀ r, r ∈ rows → r.length = row.length)
      (h : ∀ r, r ∈ rows → ∀ (i : Nat) sh d, row[i]? = some sh → r[i]? = some d → DFits sh d) : DFits (.sl row) (.sl row.length rows)
def shapeFs (P : Program) (rec : TypeId → Option (List Sh)) : List Field → Nat → Option (List Sh)
  | [], _ => some []
  | f :: fs, off => match rec f.type with
    | some r => if Nat.beq f.offset off && Nat.beq r.length (P.cellsOf f.type) then (shapeFs P rec fs (off + r.length)).map (r ++ ·) else none
    | none => none
def shape (P : Program) : Nat → TypeId → Option (List Sh)
  | 0, _ => none
  | n + 1, t => match P.underlying t with
    | some (.int k) => some [.i k]
    | some .bool => some [.b]
    | some .string => some [.s]
    | some (.slice e) => match shape P n e with
      | some r => if Nat.beq r.length (P.cellsOf e) && Nat.blt 0 r.length then some [.sl r] else none
      | none => none
    | some (.struct fs) => match shapeFs P (shape P n) fs.toList 0 with
      | some r => if Nat.beq r.length (P.cellsOf t) then some r else none
      | none => none
    | _ => none
/-- What is read is data of the shape. -/
def Opens (lim : Nat → Nat) (w : World) (shs : List Sh) (cs : List Value) : Prop :=
  ∃ ds : List D, ds.length = shs.length ∧ cs.length = shs.length ∧ ∀ (i : Nat) sh d c, shs[i]? = some sh → ds[i]? = some d → cs[i]? = some c → DFits sh d ∧ DRep lim w d c ∧ c.oneCell' = true
theorem Opens.one {lim : Nat → Nat} {w : World} {sh : Sh} {d : D} {c : Value} (h1 : DFits sh d) (h2 : DRep lim w d c) (h3 : c.oneCell' = true) : Opens lim w [sh] [c] := by
  refine ⟨[d], rfl, rfl, fun i sh' d' c' ha hb hc => ?_⟩
  cases i with
  | zero => simp at ha hb hc; subst ha; subst hb; subst hc; exact ⟨h1, h2, h3⟩
  | succ i => simp at ha
theorem Opens.nil {lim : Nat → Nat} {w : World} : Opens lim w [] [] := ⟨[], rfl, rfl, fun i _ _ _ h => by simp at h⟩
theorem Opens.append {lim : Nat → Nat} {w : World} {s1 s2 : List Sh} {c1 c2 : List Value} (h : Opens lim w s1 c1) (k : Opens lim w s2 c2) : Opens lim w (s1 ++ s2) (c1 ++ c2) := by
  obtain ⟨d1, a1, b1, e1⟩ := h
  obtain ⟨d2, a2, b2, e2⟩ := k
  refine ⟨d1 ++ d2, by simp [a1, a2], by simp [b1, b2], fun i sh d c ha hb hc => ?_⟩
  by_cases hi : i < s1.length
  · rw [List.getElem?_append_left hi] at ha
    rw [List.getElem?_append_left (by omega)] at hb hc
    exact e1 i sh d c ha hb hc
  · rw [List.getElem?_append_right (by omega)] at ha hb hc
    rw [a1] at hb
    rw [b1] at hc
    exact e2 _ sh d c ha hb hc
section opening
variable {H : Type} {enc : TypeId × Value → H} {P : Program} {w : World} {held : Bool} {lim : Nat → Nat}
theorem opens_fields {rec : TypeId → Option (List Sh)} (cs : List Value) : ∀ (fs : List Field) (off : Nat) (shs : List Sh), shapeFs P rec fs off = some shs → cs.length = off + shs.length →
    (∀ (i : Nat) f, fs[i]? = some f → ∀ r, rec f.type = some r → r.length = P.cellsOf f.type → Opens lim w r ((cs.drop f.offset).take (P.cellsOf f.type))) → Opens lim w shs (cs.drop off)
  | [], off, shs, h, hl, _ => by
    simp [shapeFs] at h; subst h
    rw [List.drop_of_length_le (by simp at hl; omega)]
    exact .nil
  | f :: fs, off, shs, h, hl, hf => by
    unfold shapeFs at h
    split at h
    · rename_i r hr
      split at h
      · rename_i hc
        rw [Bool.and_eq_true] at hc
        replace hc := And.intro (Nat.eq_of_beq_eq_true hc.1) (Nat.eq_of_beq_eq_true hc.2)
        obtain ⟨rest, hrest, rfl⟩ := Option.map_eq_some_iff.1 h
        simp only [List.length_append] at hl
        have h1 := hf 0 f rfl r hr hc.2
        have h2 := opens_fields cs fs (off + r.length) rest hrest (by omega) fun i g hg => hf (i + 1) g (by simpa using hg)
        have e : cs.drop off = (cs.drop f.offset).take (P.cellsOf f.type) ++ cs.drop (off + r.length) := by
          rw [hc.1, ← hc.2, ← List.drop_drop, List.take_append_drop]
        rw [e]
        exact h1.append h2
      · cases h
    · cases h
theorem opens_shape (hlim : ∀ b off u, w.cell? ⟨b, off, none⟩ = some u → off < lim b) : ∀ (n : Nat) (t : TypeId) (shs : List Sh), shape P n t = some shs → ∀ fuel cs x, DataW.trod enc P w 0 (fun _ => true) held fuel t cs = some x → Opens lim w shs cs
  | 0, _, _, h => by simp [shape] at h
  | n + 1, t, shs, h => by
    intro fuel cs x ht
    unfold shape at h
    split at h
    · rename_i k hu
      cases h
      obtain ⟨m, rfl, _, hw⟩ := DataW.trod_int hu ht
      exact .one (.i k m hw) (.ex _) rfl
    · rename_i hu
      cases h
      obtain ⟨b, rfl, _⟩ := DataW.trod_bool hu ht
      exact .one (.b b) (.ex _) rfl
    · rename_i hu
      cases h
      obtain ⟨⟨a⟩, rfl, _, hs⟩ := DataW.trod_string hu ht
      exact .one (.s a.toList (by simpa [ByteArray.size] using hs)) (.ex _) rfl
    · rename_i e hu
      split at h
      · rename_i r hr
        split at h
        · rename_i hc
          cases h
          rw [Bool.and_eq_true] at hc
          obtain ⟨hc1, hc2⟩ := And.intro (Nat.eq_of_beq_eq_true hc.1) (blt_lt hc.2)
          rcases open_slice hu ht with ⟨rfl, _⟩ | ⟨a, len, cap, m, n', D0, Pl, rfl, hb, hl, hm, hmm, hx, hi⟩
          · exact .one (.sl r [] (Nat.zero_le _) (fun _ h => by cases h) (fun _ h => by cases h)) (.nil _ _) rfl
          · simp only [if_true] at hmm
            subst hmm
            obtain ⟨F, hF⟩ := choose_lt (n := m) (p := fun i (ds : List D) => ds.length = r.length ∧ ∀ (j : Nat) sh d, r[j]? = some sh → ds[j]? = some d → ∃ c, w.cell? (a.add (i * r.length + j)) = some c ∧ DFits sh d ∧ DRep lim w d c ∧ c.oneCell' = true) (fun i hi' => by
              obtain ⟨cs', h1, h2⟩ := hi i hi'
              obtain ⟨ds, k1, k2, k3⟩ := opens_shape hlim n e r hr n' cs' _ h2
              obtain ⟨_, h3, h4⟩ := World.cells?_some h1
              refine ⟨ds, k1, fun j sh d hj hd => ?_⟩
              have hjl : j < r.length := (List.getElem?_eq_some_iff.1 hj).1
              have hc' : cs'[j]? = some (cs'[j]'(by omega)) := List.getElem?_eq_getElem (by omega)
              refine ⟨cs'[j]'(by omega), ?_, k3 j sh d _ hj hd hc'⟩
              rw [← hc', ← h4 j (by omega), ← hc1, Go.Deep.add_add])
            have hfit : DFits (.sl r) (.sl r.length ((List.range len).map F)) := by
              refine .sl r _ (by simp; omega) (fun row hrow => ?_) fun row hrow i sh d hs hd => ?_
              · obtain ⟨i, hi2, rfl⟩ := List.mem_map.1 hrow
                exact (hF i (by have := List.mem_range.1 hi2; omega)).1
              · obtain ⟨i', hi2, rfl⟩ := List.mem_map.1 hrow
                obtain ⟨c, _, hh, _⟩ := (hF i' (by have := List.mem_range.1 hi2; omega)).2 i sh d hs hd
                exact hh
            refine .one hfit ?_ rfl
            rcases Nat.eq_zero_or_pos m with h0 | h0
            · subst h0
              have : len = 0 := by omega
              subst this
              exact .nil _ _
            · have hspot : a.spot = none := by
                obtain ⟨cs', h1, h2⟩ := hi 0 h0
                obtain ⟨_, h3, h4⟩ := World.cells?_some h1
                have h5 := h4 0 (by omega)
                have h6 : cs'[0]? = some (cs'[0]'(by omega)) := List.getElem?_eq_getElem (by omega)
                rw [h6] at h5
                unfold World.cell? at h5
                split at h5
                · split at h5
                  · cases h5
                  · rename_i hsp
                    simpa [Addr.add] using hsp
                · cases h5
              obtain ⟨b, off, sp⟩ := a
              simp only at hspot
              subst hspot
              have hcell : ∀ i j, i < m → j < r.length → ∀ sh d, r[j]? = some sh → (F i)[j]? = some d → ∃ c, w.cell? ⟨b, off + (i * r.length + j), none⟩ = some c ∧ DFits sh d ∧ DRep lim w d c ∧ c.oneCell' = true := fun i j hi' hj sh d hs hd => by
                obtain ⟨c, h1, h2⟩ := (hF i hi').2 j sh d hs hd
                rw [Addr.add_lit] at h1
                exact ⟨c, h1, h2⟩
              have hlen : ((List.range len).map F).length = len := by simp
              have key := DRep.sl (lim := lim) (w := w) r.length ((List.range len).map F) b off m (by rw [hlen]; exact hl) (fun row hrow => by
                obtain ⟨i, hi2, rfl⟩ := List.mem_map.1 hrow
                exact (hF i (by have := List.mem_range.1 hi2; omega)).1) (fun k hk => by
                rw [hlen] at hk
                have hdiv : k / r.length < len := Nat.div_lt_of_lt_mul (by rw [Nat.mul_comm]; exact hk)
                have hmod : k % r.length < r.length := Nat.mod_lt _ hc2
                obtain ⟨c, h1, h2, h3, h4⟩ := hcell (k / r.length) (k % r.length) (by omega) hmod _ _ (List.getElem?_eq_getElem hmod) (List.getElem?_eq_getElem (by rw [(hF _ (by omega)).1]; exact hmod))
                have e : k / r.length * r.length + k % r.length = k := by rw [Nat.mul_comm]; exact Nat.div_add_mod k r.length
                rw [e] at h1
                exact ⟨hlim _ _ _ h1, c, h1, h4⟩) (fun i j row c u h1 h2 h3 => by
                rw [List.getElem?_map] at h1
                obtain ⟨i', hi2, rfl⟩ := Option.map_eq_some_iff.1 h1
                have hil : i < len := by have := (List.getElem?_eq_some_iff.1 hi2).1; simpa using this
                have : i' = i := by rw [List.getElem?_range hil] at hi2; cases hi2; rfl
                subst this
                have hjl : j < r.length := by have := (List.getElem?_eq_some_iff.1 h2).1; rw [(hF _ (by omega)).1] at this; exact this
                obtain ⟨c', k1, k2, k3, k4⟩ := hcell i' j (by omega) hjl _ _ (List.getElem?_eq_getElem hjl) h2
                rw [h3] at k1
                cases k1
                exact k3)
              rw [hlen] at key
              exact key
        · cases h
      · cases h
    · rename_i fs hu
      split at h
      · rename_i r hr
        split at h
        · rename_i hc
          cases h
          have hc' := Nat.eq_of_beq_eq_true hc
          obtain ⟨ys, n', _, hy, hlen, hyl, hf⟩ := DataW.trod_struct hu ht
          have := opens_fields (lim := lim) (w := w) (P := P) cs fs.toList 0 _ hr (by omega) fun i f hi r' hr' hl' => by
            have h1 := hf i f (by simpa using hi)
            have hys : ys[i]? = some (ys[i]'(by have := (List.getElem?_eq_some_iff.1 hi).1; simp at this; omega)) := List.getElem?_eq_getElem _
            exact opens_shape hlim n f.type r' hr' n' _ _ (h1.trans hys)
          simpa using this
        · cases h
      · cases h
    · cases h
end opening
end Go.Abs

/- A law of data, true at all arguments of its shapes, as the row asks it. -/
set_option linter.unusedSimpArgs false
set_option linter.unusedVariables false
set_option linter.unusedSectionVars false
namespace Go.Abs
open Go.RowKit Go.ChangeShapes Go.WideShapes Go.Deep Go.ChangeAt

def limW (w : World) (b : Nat) : Nat := match w.heap[b]? with
  | some (.cells c _ _) => c.size
  | _ => 0
theorem limW_lt (w : World) (b off : Nat) (u : Value) (h : w.cell? ⟨b, off, none⟩ = some u) : off < limW w b := by
  unfold World.cell? at h
  unfold limW
  split at h
  · rename_i c e k hb
    simp only at hb
    rw [hb]
    simp only [Option.isSome_none, Bool.false_eq_true, if_false] at h
    exact (Array.getElem?_eq_some_iff.1 h).1
  · cases h
theorem Opens.top {lim : Nat → Nat} {w : World} {sh : Sh} {c : Value} (h : Opens lim w [sh] [c]) : ∃ d, DFits sh d ∧ DRep lim w d c := by
  obtain ⟨ds, h1, _, h3⟩ := h
  match ds, h1 with
  | [d], _ => exact ⟨d, (h3 0 sh d c rfl rfl rfl).1, (h3 0 sh d c rfl rfl rfl).2.1⟩
section top
variable {H : Type} {enc : TypeId × Value → H} {P : Program} {w : World} {held : Bool} {r : Reach} {b0 : Nat} {t : TypeId} {v : Value} {d : DataW H} {ps : List MemPlace}
theorem top_slice {n : Nat} {e : TypeId} {row : List Sh} (hs : shape P n t = some [.sl row]) (ht : P.underlying t = some (.slice e)) (hv : Value.okWide P w r b0 t v) (h : DataW.Trod enc P w 0 (fun _ => true) held t v d ps) : ∃ x, DFits (.sl row) x ∧ DRep (limW w) w x v := by
  obtain ⟨a, l, c, rfl⟩ := okWide_slice ht hv
  obtain ⟨fuel, hf⟩ := h
  exact (opens_shape (limW_lt w) n t _ hs fuel _ _ hf).top
theorem top_int (ht : P.underlying t = some (.int .i64)) (hv : Value.okWide P w r b0 t v) (h : DataW.Trod enc P w 0 (fun _ => true) held t v d ps) : ∃ m : Int, DRep (limW w) w (.ex (.int .i64 m)) v ∧ -9223372036854775808 ≤ m ∧ m ≤ 9223372036854775807 := by
  obtain ⟨m, rfl⟩ := okWide_int ht hv
  obtain ⟨fuel, hf⟩ := h
  obtain ⟨m', h1, _, hw⟩ := DataW.trod_int ht hf
  have : m' = m := by simpa [Value.cells] using h1.symm
  subst this
  refine ⟨m', .ex _, ?_⟩
  simp only [Lit.wf, Bool.and_eq_true, decide_eq_true_eq] at hw
  exact hw
end top
/-- A list of rows, each one a thing's. -/
theorem rows_of {α : Type} {row : α → List D} {p : α → Prop} : ∀ {rows : List (List D)}, (∀ r, r ∈ rows → ∃ x, p x ∧ r = row x) → ∃ l : List α, rows = l.map row ∧ ∀ x, x ∈ l → p x
  | [], _ => ⟨[], rfl, fun x h => by cases h⟩
  | r :: rows, h => by
    obtain ⟨x, hx, rfl⟩ := h r List.mem_cons_self
    obtain ⟨l, rfl, hl⟩ := rows_of (rows := rows) (row := row) (p := p) fun r' hr => h r' (List.mem_cons_of_mem _ hr)
    exact ⟨x :: l, rfl, fun y hy => by rcases List.mem_cons.1 hy with rfl | hy; exact hx; exact hl y hy⟩
theorem DFits.sl_inv {row : List Sh} {d : D} (h : DFits (.sl row) d) : ∃ rows, d = .sl row.length rows ∧ rows.length ≤ maxLen ∧ ∀ r, r ∈ rows → r.length = row.length ∧ ∀ (i : Nat) sh d, row[i]? = some sh → r[i]? = some d → DFits sh d := by
  cases h with
  | sl _ rows hn h1 h => exact ⟨rows, rfl, hn, fun r hr => ⟨h1 r hr, h r hr⟩⟩
theorem DFits.i_inv {d : D} (h : DFits (.i .i64) d) : ∃ n : Int, d = .ex (.int .i64 n) ∧ -9223372036854775808 ≤ n ∧ n ≤ 9223372036854775807 := by
  cases h with
  | i _ n hw => simp only [Lit.wf, Bool.and_eq_true, decide_eq_true_eq] at hw; exact ⟨n, rfl, hw⟩
theorem DFits.b_inv {d : D} (h : DFits .b d) : ∃ x : Bool, d = .ex (.bool x) := by cases h with | b x => exact ⟨x, rfl⟩
theorem DFits.s_inv {d : D} (h : DFits .s d) : ∃ l : List UInt8, d = .ex (.string ⟨l.toArray⟩) := by cases h with | s l _ => exact ⟨l, rfl⟩

section
variable {H : Type} {enc : TypeId × Value → H} {P : Program}
theorem post_of_below {f : Func} {s : ChangeSpec} {apart fresh handsOn again : Bool} {W W' : World} {args : Array Value} {v : Value} {ds gs : List (DataW H)} {before pa pv : List MemPlace}
    (hW : DataW.Whole enc P f.params.toList s.vars apart W args.toList ds gs before)
    (hres : ∀ (b : Nat) (sp : Nat → Bool) (hd : Bool), DataW.TrodAll enc P W' b sp hd f.resultTypes.toList (v.resultList f.resultTypes.size) (s.fn H (ds ++ gs)).results [])
    (hargs : ∀ sp : Nat → Bool, (∀ p ∈ before, sp p.block = true) → DataW.TrodAll enc P W' 0 sp true f.params.toList args.toList (s.fn H (ds ++ gs)).args pa)
    (hvars : ∀ sp : Nat → Bool, (∀ p ∈ before, sp p.block = true) → DataW.TrodVars enc P W' sp s.vars (s.fn H (ds ++ gs)).vars pv)
    (hps : before = pa ++ pv) (hb : Below W.heap.size W W')
    (hok : ∀ (j : Nat) (t : TypeId) (r : Value), f.resultTypes[j]? = some t → (v.resultList f.resultTypes.size)[j]? = some r → Value.okWide P W' .any 0 t r) :
    s.post enc P f apart fresh handsOn again W args v W' := by
  have hlt : ∀ p ∈ before, p.block < W.heap.size := fun p hp => hW.lt p hp
  have hold : ∀ p ∈ before, (fun b => decide (b < W.heap.size)) p.block = true := fun p hp => by simpa using hlt p hp
  refine ⟨ds, gs, before, [], pa, pv, hW, hres _ _ _, hargs _ hold, hvars _ hold, World.keptBut_mono (fun p hp => ⟨hp, ?_⟩) (hb.frame (· ∈ before)), fun _ => ?_⟩
  · rw [hps, List.mem_append] at hp
    exact Or.inr hp
  · obtain ⟨_, _, _, _, _, hz, hn⟩ := hW
    refine ⟨hok, _, _, ([] ++ pa) ++ pv, ⟨[] ++ pa, pv, trodAll_append (hargs _ (fun _ _ => rfl)) (hres _ _ _), hvars _ (fun _ _ => rfl), rfl, ?_, ?_⟩, ?_⟩
    · intro b off hp
      have hin : MemPlace.cell b off ∈ before := by rw [hps]; simpa using hp
      rw [hb.frozen (hlt _ hin)]
      exact hz b off hin
    · intro ha
      have := hn ha
      rw [hps] at this
      simpa using this
    · intro p hp _
      rw [hps]
      simpa using hp
end
/-- The arguments stand as they stood. -/
theorem trodAll_stays {H : Type} {enc : TypeId × Value → H} {P : Program} (hl : laidOutB P = true) {W W' : World} (hb : Below W.heap.size W W') (sp : Nat → Bool) : ∀ {ts : List TypeId} {vs : List Value} {ds : List (DataW H)} {ps : List MemPlace},
    (ts.all fun t => P.readableRec t && decide (t < P.types.size)) = true → DataW.TrodAll enc P W 0 (fun _ => true) true ts vs ds ps → (∀ x ∈ ps, x.block < W.heap.size) → (∀ x ∈ ps, sp x.block = true) → DataW.TrodAll enc P W' 0 sp true ts vs ds ps
  | [], [], [], _, _, h, _, _ => h
  | t :: ts, v :: vs, d :: ds, ps, hr, h, hlt, hsp => by
    obtain ⟨p, q, h1, h2, rfl⟩ := h
    simp only [List.all_cons, Bool.and_eq_true, decide_eq_true_eq] at hr
    refine ⟨p, q, ?_, ?_, rfl⟩
    · exact WideElems.Trod_stays hl hr.1.1 hr.1.2 h1 (fun x hx => hb.same (hlt x (List.mem_append_left _ hx))) (fun x hx => hsp x (List.mem_append_left _ hx))
    · exact trodAll_stays hl hb sp (by simpa using hr.2) h2 (fun x hx => hlt x (List.mem_append_right _ hx)) (fun x hx => hsp x (List.mem_append_right _ hx))
end Go.Abs

/- Typed arguments: the readings of structs, strings and slices of them. -/
set_option linter.unusedSimpArgs false
set_option linter.unusedVariables false
set_option linter.unusedSectionVars false
namespace Go.Abs
open Go.RowKit Go.ChangeShapes Go.WideShapes Go.Deep Go.ChangeAt
theorem DFits.s_inv' {d : D} (h : DFits .s d) : ∃ l : List UInt8, d = .ex (.string ⟨l.toArray⟩) ∧ l.length ≤ maxLen := by cases h with | s l h => exact ⟨l, rfl, h⟩
theorem rows_of' {α : Type} {row : α → List D} {p : α → Prop} {rows : List (List D)} (h : ∀ r, r ∈ rows → ∃ x, r = row x ∧ p x) : ∃ l : List α, rows = l.map row ∧ ∀ x, x ∈ l → p x :=
  rows_of fun r hr => let ⟨x, h1, h2⟩ := h r hr; ⟨x, h2, h1⟩
theorem DFits.sl_of {sh : List Sh} {d : D} {α : Type} {row : α → List D} {p : α → Prop} (h : DFits (.sl sh) d)
    (hr : ∀ r : List D, r.length = sh.length → (∀ (i : Nat) h d, sh[i]? = some h → r[i]? = some d → DFits h d) → ∃ x, r = row x ∧ p x) :
    ∃ l : List α, d = .sl sh.length (l.map row) ∧ l.length ≤ maxLen ∧ ∀ z, z ∈ l → p z := by
  obtain ⟨rows, rfl, hn, h2⟩ := h.sl_inv
  obtain ⟨l, rfl, hl⟩ := rows_of' (row := row) (p := p) fun r hrm => hr r (h2 r hrm).1 (h2 r hrm).2
  exact ⟨l, rfl, by simpa using hn, hl⟩
theorem ofI (r : List D) (h1 : r.length = 1) (h2 : ∀ (i : Nat) sh d, ([.i .i64] : List Sh)[i]? = some sh → r[i]? = some d → DFits sh d) : ∃ x : Int, r = rI x ∧ (-9223372036854775808 ≤ x ∧ x ≤ 9223372036854775807) := by
  match r, h1 with
  | [d], _ => obtain ⟨a, rfl, k⟩ := (h2 0 _ d rfl rfl).i_inv; exact ⟨a, rfl, k⟩
theorem ofS (r : List D) (h1 : r.length = 1) (h2 : ∀ (i : Nat) sh d, ([.s] : List Sh)[i]? = some sh → r[i]? = some d → DFits sh d) : ∃ x : List UInt8, r = rS x ∧ x.length ≤ maxLen := by
  match r, h1 with
  | [d], _ => obtain ⟨a, rfl, k⟩ := (h2 0 _ d rfl rfl).s_inv'; exact ⟨a, rfl, k⟩
theorem ofB8 (r : List D) (h1 : r.length = 1) (h2 : ∀ (i : Nat) sh d, ([.i .u8] : List Sh)[i]? = some sh → r[i]? = some d → DFits sh d) : ∃ x : UInt8, r = rB8 x ∧ True := by
  match r, h1 with
  | [d], _ =>
    have h := h2 0 _ d rfl rfl
    cases h with
    | i _ n hw =>
      simp [Lit.wf, IntKind.min, IntKind.max, IntKind.signed, IntKind.bits] at hw
      refine ⟨UInt8.ofNat n.toNat, ?_, trivial⟩
      have : ((UInt8.ofNat n.toNat).toNat : Int) = n := by simp [UInt8.toNat_ofNat']; omega
      unfold rB8
      rw [this]
section top
variable {H : Type} {enc : TypeId × Value → H} {P : Program} {w : World} {held : Bool} {r : Reach} {b0 : Nat} {t : TypeId} {v : Value} {d : DataW H} {ps : List MemPlace}
theorem top_agg {n : Nat} {shs : List Sh} {fs : Array Field} (hs : shape P n t = some shs) (ht : P.underlying t = some (.struct fs)) (hv : Value.okWide P w r b0 t v) (h : DataW.Trod enc P w 0 (fun _ => true) held t v d ps) :
    ∃ x : List D, x.length = shs.length ∧ (∀ (i : Nat) sh d, shs[i]? = some sh → x[i]? = some d → DFits sh d) ∧ DRep (limW w) w (.agg x) v := by
  obtain ⟨cs, rfl, _⟩ := okWide_struct ht hv
  obtain ⟨fuel, hf⟩ := h
  obtain ⟨ds, h1, h2, h3⟩ := opens_shape (limW_lt w) n t _ hs fuel _ _ hf
  have h2' : cs.size = shs.length := by simpa [Value.cells] using h2
  refine ⟨ds, h1, fun i sh d hi hd => ?_, .agg ds cs (by omega) (fun i u hu => ?_) fun i c u hc hu => ?_⟩
  · have hil : i < cs.size := by have := (List.getElem?_eq_some_iff.1 hi).1; omega
    exact (h3 i sh d cs[i] hi hd (by simp [Value.cells, hil])).1
  · have hil : i < shs.length := by have := (Array.getElem?_eq_some_iff.1 hu).1; omega
    exact (h3 i shs[i] (ds[i]'(by omega)) u (List.getElem?_eq_getElem hil) (List.getElem?_eq_getElem (by omega)) (by simpa [Value.cells] using hu)).2.2
  · have hil : i < shs.length := by have := (Array.getElem?_eq_some_iff.1 hu).1; omega
    exact (h3 i shs[i] c u (List.getElem?_eq_getElem hil) hc (by simpa [Value.cells] using hu)).2.1
theorem top_str (ht : P.underlying t = some .string) (hv : Value.okWide P w r b0 t v) (h : DataW.Trod enc P w 0 (fun _ => true) held t v d ps) : ∃ l : List UInt8, DRep (limW w) w (.ex (.string ⟨l.toArray⟩)) v ∧ l.length ≤ maxLen := by
  obtain ⟨a, rfl⟩ := okWide_string ht hv
  obtain ⟨fuel, hf⟩ := h
  obtain ⟨a', h1, _, hs⟩ := DataW.trod_string ht hf
  have h2 : [Value.string a] = [Value.string a'] := h1
  simp only [List.cons.injEq, Value.string.injEq, and_true] at h2
  subst h2
  exact ⟨a.data.toList, .ex _, by rw [Array.length_toList]; exact hs⟩
end top
end Go.Abs
