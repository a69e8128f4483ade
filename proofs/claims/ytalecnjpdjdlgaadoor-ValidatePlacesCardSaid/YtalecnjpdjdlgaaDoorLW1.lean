import Derived.Test.YtalecnjpdjdlgaaDoorLW0
import Derived.Test.YtalecnjpdjdlgaaDoorLF
import Derived.Test.YtalecnjpdjdlgaaDoorLX
set_option linter.unusedSimpArgs false
set_option linter.unusedVariables false
namespace Go.Proofs.YtalecnjpdjdlgaaDoor
open Go.RowKit Go.Abs
set_option maxRecDepth 100000 in
set_option maxHeartbeats 1000000 in
theorem c_f_validate_Kind {v0name : List UInt8} {r : Int} (H : f_validate_Kind v0name = some r) : ACall Tryd.prog 21 [cS v0name] (· = cI r) := by
  refine ACall.enter' Tryd.func21 rfl Tryd.ntmps21 rfl fun S hS => ?_
  unfold f_validate_Kind at H
  change ARun _ _ _ _ _ _ [(0, .d (cS v0name))] _
  refine .seq ?_
  refine .region ?_
  refine .q (x := .d (cI 0)) (q_assign rfl) rfl ?_
  refine .nil ?_
  refine .seq ?_
  refine .seq ?_
  refine .region ?_
  refine .q (x := .d (cI 0)) (q_move rfl) rfl ?_
  refine .nil ?_
  refine .block ?_
  obtain ⟨n1, H⟩ := loop_some H
  refine .loop (ι := Nat × (Int)) (fun p => [(0, .d (cS v0name)), (4, .d (cI p.2))]) (fun p => ⟨[], []⟩) (fun p => iter (fun s => f_validate_Kind_l1 v0name s) p.1 p.2 = some r) (·.1) (n1, 0) H (.cons rfl (.rfl' _) (.cons rfl (.rfl' _) (.nil))) rfl ?_
  rintro ⟨m1, v4l1⟩ HI ih1
  obtain ⟨n1, q1, hm1, H, HK1⟩ := iter_succ HI
  clear HI
  replace H : f_validate_Kind_l1 v0name v4l1 = some q1 := H
  unfold f_validate_Kind_l1 at H
  change ARun _ _ _ _ _ _ [(0, .d (cS v0name)), (4, .d (cI v4l1))] ⟨[], []⟩
  refine .seq ?_
  refine .region ?_
  refine .q (x := .d (cB (decide (v4l1 < 5)))) (q_lss rfl rfl) rfl ?_
  refine .nil ?_
  refine .seq ?_
  refine .cond rfl (fun hc => ?_) (fun hc => ?_)
  · replace H := ifT hc H; clear hc
    refine .skip ?_
    refine .seq ?_
    refine .block ?_
    refine .seq ?_
    refine .region ?_
    refine .q (x := .d (cI v4l1)) (q_move rfl) rfl ?_
    refine .q (x := .d (cI v4l1)) (q_assign rfl) rfl ?_
    refine .nil ?_
    refine .seq ?_
    refine .region ?_
    refine .q (x := .d (cI v4l1)) (q_move rfl) rfl ?_
    refine .q (x := .d (cB (decide (v4l1 > 0)))) (q_gtr rfl rfl) rfl ?_
    refine .q (x := .d (cB (decide (v4l1 > 0)))) (q_move rfl) rfl ?_
    refine .guardG (b := decide (v4l1 > 0)) (x := .d (cI v4l1)) (env' := [(3, _)]) rfl rfl rfl ⟨.inl rfl, trivial⟩ rfl (fun hg => OpQ.g (q_move rfl)) ?_
    obtain ⟨y1, hy1, H⟩ := bind_some' H
    refine .guardG (b := decide (v4l1 > 0)) (x := .d (cS y1)) (env' := [(10, _)]) rfl rfl rfl ⟨.inr (.inl rfl), trivial⟩ rfl (fun hg => (g_call en_19 rfl rfl (c_f_validate_Name (gcall_some hy1 hg)))) ?_
    refine .guardG (b := decide (v4l1 > 0)) (x := .d (cS v0name)) (env' := [(0, _)]) rfl rfl rfl ⟨.inl rfl, trivial⟩ rfl (fun hg => OpQ.g (q_move rfl)) ?_
    refine .guardG (b := decide (v4l1 > 0)) (x := .d (cB (y1 == v0name))) (env' := [(11, _), (12, _)]) rfl rfl rfl ⟨.inr (.inl rfl), ⟨.inr (.inl rfl), trivial⟩⟩ rfl (fun hg => OpQ.g (q_seql rfl rfl)) ?_
    refine .q (x := .d (cB ((decide (v4l1 > 0)) && (y1 == v0name)))) (q_pickAndB rfl rfl rfl) rfl ?_
    refine .nil ?_
    refine .cond rfl (fun hc => ?_) (fun hc => ?_)
    · replace H := ifT hc H; clear hc
      refine .seq ?_
      refine .region ?_
      refine .q (x := .d (cI v4l1)) (q_move rfl) rfl ?_
      refine .q (x := .d (cI v4l1)) (q_assign rfl) rfl ?_
      refine .nil ?_
      refine .retN [.tmp 2] [.d (cI v4l1)] Tryd.func21 Tryd.results21 ⟨rfl, trivial⟩ ?_
      cases H
      cases HK1
      exact ⟨_, .rfl' _, rfl⟩
    · replace H := ifF hc H; clear hc
      refine .skip ?_
      refine .inBlock ?_
      refine .region ?_
      obtain ⟨hk1, H⟩ := ck_some H
      refine .q (x := .d (cI (v4l1 + 1))) (q_addI rfl rfl hk1.1 hk1.2) rfl ?_
      refine .q (x := .d (cI (v4l1 + 1))) (q_move rfl) rfl ?_
      refine .nil ?_
      cases H
      exact .sub (.cons rfl (.rfl' _) (.cons rfl (.rfl' _) (.nil))) (ih1 (n1, (v4l1 + 1)) HK1 hm1)
  · replace H := ifF hc H; clear hc
    refine .exit rfl ?_
    refine .seq ?_
    refine .region ?_
    refine .q (x := .d (cI 0)) (q_assign rfl) rfl ?_
    refine .nil ?_
    refine .retN [.tmp 2] [.d (cI 0)] Tryd.func21 Tryd.results21 ⟨rfl, trivial⟩ ?_
    cases H
    cases HK1
    exact ⟨_, .rfl' _, rfl⟩

set_option maxRecDepth 100000 in
set_option maxHeartbeats 1000000 in
theorem c_f_billinglaw13_awake {r : Bool} (H : f_billinglaw13_awake = some r) : ACall Tryd.prog 9 [] (· = cB r) := by
  obtain ⟨i23, hi23, hz23, hs23, hb23⟩ := in_23
  obtain ⟨i25, hi25, hz25, hs25, hb25⟩ := in_25
  obtain ⟨i44, hi44, hz44, hs44, hb44⟩ := in_44
  refine ACall.enter' Tryd.func9 rfl Tryd.ntmps9 rfl fun S hS => ?_
  unfold f_billinglaw13_awake at H
  change ARun _ _ _ _ _ _ [] _
  refine .seq ?_
  refine .region ?_
  refine .q (x := .d (cB false)) (q_assign rfl) rfl ?_
  refine .nil ?_
  refine .seq ?_
  refine .region ?_
  refine .q (x := .d (.agg (Record.row (⟨1, 1, 1, ([49] : List UInt8), ([50] : List UInt8), 0, 604800, 0, 0, false, 0, false⟩ : Record)))) (q_buildP pl_23 hi23 hz23 rfl rfl) rfl ?_
  refine .v (x := .ref 0 0) (v_alloc zr_23 rfl) rfl ?_
  refine .withSt (st' := ⟨[.row 23 [.d (cI 0), .d (cI 0), .d (cI 0), .d (cS ([] : List UInt8)), .d (cS ([] : List UInt8)), .d (cI 0), .d (cI 0), .d (cI 0), .d (cI 0), .d (cB false), .d (cI 0), .d (cB false)]], []⟩) rfl ?_
  refine .u (u_store rfl rfl rfl rfl (Nat.le_of_ble_eq_true rfl) sz_23) rfl ?_
  refine .withSt (st' := ⟨[.row 23 [.d (cI 1), .d (cI 1), .d (cI 1), .d (cS ([49] : List UInt8)), .d (cS ([50] : List UInt8)), .d (cI 0), .d (cI 604800), .d (cI 0), .d (cI 0), .d (cB false), .d (cI 0), .d (cB false)]], []⟩) rfl ?_
  refine .nil ?_
  refine .seq ?_
  refine .copiesL 3 12 23 [8, 9, 10] [2, 3, 4] [(Record.row (⟨1, 1, 1, ([49] : List UInt8), ([50] : List UInt8), 0, 604800, 0, 0, false, 0, false⟩ : Record)), (Record.row (⟨1, 1, 1, ([49] : List UInt8), ([50] : List UInt8), 0, 604800, 0, 0, false, 0, false⟩ : Record)), (Record.row (⟨1, 1, 1, ([49] : List UInt8), ([50] : List UInt8), 0, 604800, 0, 0, false, 0, false⟩ : Record))] hMix (by kernel_rfl) rfl
    (fun k hk => match k, hk with | 0, _ => ⟨_, rfl, rfl, rfl, q_loadOA one_23 sz_23 rfl rfl (Nat.le_of_ble_eq_true rfl) rfl⟩ | 1, _ => ⟨_, rfl, rfl, rfl, q_loadOA one_23 sz_23 rfl rfl (Nat.le_of_ble_eq_true rfl) rfl⟩ | 2, _ => ⟨_, rfl, rfl, rfl, q_loadOA one_23 sz_23 rfl rfl (Nat.le_of_ble_eq_true rfl) rfl⟩ | k + 3, hk => absurd hk (by omega))
    (fun k hk => match k, hk with | 0, _ => ⟨_, _, _, rfl⟩ | 1, _ => ⟨_, _, _, rfl⟩ | 2, _ => ⟨_, _, _, rfl⟩ | k + 3, hk => absurd hk (by omega))
    (fun k hk => match k, hk with | 0, _ => ⟨_, _, _, rfl, ⟨_, Array.mem_of_getElem? (i := 1) rfl, rfl, rfl⟩, ⟨_, Array.mem_of_getElem? (i := 0) rfl, rfl, rfl⟩⟩ | 1, _ => ⟨_, _, _, rfl, ⟨_, Array.mem_of_getElem? (i := 1) rfl, rfl, rfl⟩, ⟨_, Array.mem_of_getElem? (i := 0) rfl, rfl, rfl⟩⟩ | 2, _ => ⟨_, _, _, rfl, ⟨_, Array.mem_of_getElem? (i := 1) rfl, rfl, rfl⟩, ⟨_, Array.mem_of_getElem? (i := 0) rfl, rfl, rfl⟩⟩ | k + 3, hk => absurd hk (by omega))
    rfl rfl rfl zr_23 rfl sz_23 ?_
  refine .withSt (st' := ⟨[.row 23 [.d (cI 1), .d (cI 1), .d (cI 1), .d (cS ([49] : List UInt8)), .d (cS ([50] : List UInt8)), .d (cI 0), .d (cI 604800), .d (cI 0), .d (cI 0), .d (cB false), .d (cI 0), .d (cB false)], .row 23 [.d (cI 1), .d (cI 1), .d (cI 1), .d (cS ([49] : List UInt8)), .d (cS ([50] : List UInt8)), .d (cI 0), .d (cI 604800), .d (cI 0), .d (cI 0), .d (cB false), .d (cI 0), .d (cB false)], .row 23 [.d (cI 1), .d (cI 1), .d (cI 1), .d (cS ([49] : List UInt8)), .d (cS ([50] : List UInt8)), .d (cI 0), .d (cI 604800), .d (cI 0), .d (cI 0), .d (cB false), .d (cI 0), .d (cB false)], .row 23 [.d (cI 1), .d (cI 1), .d (cI 1), .d (cS ([49] : List UInt8)), .d (cS ([50] : List UInt8)), .d (cI 0), .d (cI 604800), .d (cI 0), .d (cI 0), .d (cB false), .d (cI 0), .d (cB false)]], []⟩) rfl ?_
  refine .seq ?_
  refine .region ?_
  refine .q (x := .ref 1 6) (q_fieldRef fo_23_6 rfl) rfl ?_
  refine .u (u_store rfl rfl rfl rfl (Nat.le_of_ble_eq_true rfl) sz_3) rfl ?_
  refine .withSt (st' := ⟨[.row 23 [.d (cI 1), .d (cI 1), .d (cI 1), .d (cS ([49] : List UInt8)), .d (cS ([50] : List UInt8)), .d (cI 0), .d (cI 604800), .d (cI 0), .d (cI 0), .d (cB false), .d (cI 0), .d (cB false)], .row 23 [.d (cI 1), .d (cI 1), .d (cI 1), .d (cS ([49] : List UInt8)), .d (cS ([50] : List UInt8)), .d (cI 0), .d (cI 604801), .d (cI 0), .d (cI 0), .d (cB false), .d (cI 0), .d (cB false)], .row 23 [.d (cI 1), .d (cI 1), .d (cI 1), .d (cS ([49] : List UInt8)), .d (cS ([50] : List UInt8)), .d (cI 0), .d (cI 604800), .d (cI 0), .d (cI 0), .d (cB false), .d (cI 0), .d (cB false)], .row 23 [.d (cI 1), .d (cI 1), .d (cI 1), .d (cS ([49] : List UInt8)), .d (cS ([50] : List UInt8)), .d (cI 0), .d (cI 604800), .d (cI 0), .d (cI 0), .d (cB false), .d (cI 0), .d (cB false)]], []⟩) rfl ?_
  refine .nil ?_
  refine .seq ?_
  refine .region ?_
  refine .q (x := .ref 2 5) (q_fieldRef fo_23_5 rfl) rfl ?_
  refine .u (u_store rfl rfl rfl rfl (Nat.le_of_ble_eq_true rfl) sz_3) rfl ?_
  refine .withSt (st' := ⟨[.row 23 [.d (cI 1), .d (cI 1), .d (cI 1), .d (cS ([49] : List UInt8)), .d (cS ([50] : List UInt8)), .d (cI 0), .d (cI 604800), .d (cI 0), .d (cI 0), .d (cB false), .d (cI 0), .d (cB false)], .row 23 [.d (cI 1), .d (cI 1), .d (cI 1), .d (cS ([49] : List UInt8)), .d (cS ([50] : List UInt8)), .d (cI 0), .d (cI 604801), .d (cI 0), .d (cI 0), .d (cB false), .d (cI 0), .d (cB false)], .row 23 [.d (cI 1), .d (cI 1), .d (cI 1), .d (cS ([49] : List UInt8)), .d (cS ([50] : List UInt8)), .d (cI 12622780790), .d (cI 604800), .d (cI 0), .d (cI 0), .d (cB false), .d (cI 0), .d (cB false)], .row 23 [.d (cI 1), .d (cI 1), .d (cI 1), .d (cS ([49] : List UInt8)), .d (cS ([50] : List UInt8)), .d (cI 0), .d (cI 604800), .d (cI 0), .d (cI 0), .d (cB false), .d (cI 0), .d (cB false)]], []⟩) rfl ?_
  refine .nil ?_
  refine .seq ?_
  refine .region ?_
  refine .q (x := .ref 2 6) (q_fieldRef fo_23_6 rfl) rfl ?_
  refine .u (u_store rfl rfl rfl rfl (Nat.le_of_ble_eq_true rfl) sz_3) rfl ?_
  refine .withSt (st' := ⟨[.row 23 [.d (cI 1), .d (cI 1), .d (cI 1), .d (cS ([49] : List UInt8)), .d (cS ([50] : List UInt8)), .d (cI 0), .d (cI 604800), .d (cI 0), .d (cI 0), .d (cB false), .d (cI 0), .d (cB false)], .row 23 [.d (cI 1), .d (cI 1), .d (cI 1), .d (cS ([49] : List UInt8)), .d (cS ([50] : List UInt8)), .d (cI 0), .d (cI 604801), .d (cI 0), .d (cI 0), .d (cB false), .d (cI 0), .d (cB false)], .row 23 [.d (cI 1), .d (cI 1), .d (cI 1), .d (cS ([49] : List UInt8)), .d (cS ([50] : List UInt8)), .d (cI 12622780790), .d (cI 11), .d (cI 0), .d (cI 0), .d (cB false), .d (cI 0), .d (cB false)], .row 23 [.d (cI 1), .d (cI 1), .d (cI 1), .d (cS ([49] : List UInt8)), .d (cS ([50] : List UInt8)), .d (cI 0), .d (cI 604800), .d (cI 0), .d (cI 0), .d (cB false), .d (cI 0), .d (cB false)]], []⟩) rfl ?_
  refine .nil ?_
  refine .seq ?_
  refine .region ?_
  refine .q (x := .ref 3 7) (q_fieldRef fo_23_7 rfl) rfl ?_
  refine .u (u_store rfl rfl rfl rfl (Nat.le_of_ble_eq_true rfl) sz_3) rfl ?_
  refine .withSt (st' := ⟨[.row 23 [.d (cI 1), .d (cI 1), .d (cI 1), .d (cS ([49] : List UInt8)), .d (cS ([50] : List UInt8)), .d (cI 0), .d (cI 604800), .d (cI 0), .d (cI 0), .d (cB false), .d (cI 0), .d (cB false)], .row 23 [.d (cI 1), .d (cI 1), .d (cI 1), .d (cS ([49] : List UInt8)), .d (cS ([50] : List UInt8)), .d (cI 0), .d (cI 604801), .d (cI 0), .d (cI 0), .d (cB false), .d (cI 0), .d (cB false)], .row 23 [.d (cI 1), .d (cI 1), .d (cI 1), .d (cS ([49] : List UInt8)), .d (cS ([50] : List UInt8)), .d (cI 12622780790), .d (cI 11), .d (cI 0), .d (cI 0), .d (cB false), .d (cI 0), .d (cB false)], .row 23 [.d (cI 1), .d (cI 1), .d (cI 1), .d (cS ([49] : List UInt8)), .d (cS ([50] : List UInt8)), .d (cI 0), .d (cI 604800), .d (cI 5), .d (cI 0), .d (cB false), .d (cI 0), .d (cB false)]], []⟩) rfl ?_
  refine .nil ?_
  refine .seq ?_
  refine .region ?_
  refine .q (x := .d (.agg (Record.row (⟨1, 1, 1, ([49] : List UInt8), ([50] : List UInt8), 0, 604800, 0, 0, false, 0, false⟩ : Record)))) (q_loadOA one_23 sz_23 rfl rfl (Nat.le_of_ble_eq_true rfl) rfl) rfl ?_
  refine .g (x := .d (slOf 12 Record.row ([(⟨1, 1, 1, ([49] : List UInt8), ([50] : List UInt8), 0, 604800, 0, 0, false, 0, false⟩ : Record)]))) (g_buildSlice1 Tryd.underlying32 hi23 hs23 hz23 rfl rfl rfl rfl rfl) rfl ?_
  refine .q (x := .d (.agg (Window.row (⟨10, 20⟩ : Window)))) (q_buildP pl_25 hi25 hz25 rfl rfl) rfl ?_
  obtain ⟨y1, hy1, H⟩ := bind_some' H
  refine .g (x := .d (.tup [slOf 12 Record.row y1.1, slOf 4 Reject.row y1.2])) (g_call en_15 rfl rfl (c_f_validate_All (hy1))) rfl ?_
  refine .q (x := .d (.tup [slOf 12 Record.row y1.1, slOf 4 Reject.row y1.2])) (q_move rfl) rfl ?_
  refine .q (x := .d (slOf 12 Record.row y1.1)) (q_extract rfl rfl) rfl ?_
  refine .q (x := .d (slOf 4 Reject.row y1.2)) (q_extract rfl rfl) rfl ?_
  refine .q (x := .d (slOf 12 Record.row y1.1)) (q_assign rfl) rfl ?_
  refine .q (x := .d (slOf 4 Reject.row y1.2)) (q_assign rfl) rfl ?_
  refine .nil ?_
  refine .seq ?_
  refine .seq ?_
  refine .region ?_
  refine .q (x := .d (slOf 4 Reject.row y1.2)) (q_move rfl) rfl ?_
  refine .q (x := .d (cI (y1.2.length : Int))) (q_lenL (l := y1.2) (row := Reject.row) Tryd.underlying34 rfl rfl) rfl ?_
  refine .q (x := .d (cB ((y1.2.length : Int) != 1))) (q_neq rfl rfl) rfl ?_
  refine .q (x := .d (cB ((y1.2.length : Int) != 1))) (q_move rfl) rfl ?_
  refine .guardG (b := (!((y1.2.length : Int) != 1))) (x := .d (slOf 4 Reject.row y1.2)) (env' := [(6, _)]) rfl rfl rfl ⟨.inl rfl, trivial⟩ rfl (fun hg => OpQ.g (q_move rfl)) ?_
  obtain ⟨hk1, H⟩ := ck_some H
  refine .guardG (b := (!((y1.2.length : Int) != 1))) (x := .d (.ro (Reject.row (nth y1.2 (Int.toNat (0)))))) (env' := [(26, _)]) rfl rfl rfl ⟨.inr (.inl rfl), trivial⟩ rfl (fun hg => OpQ.g (q_idxL (row := Reject.row) (l := y1.2) (i := 0) Tryd.underlying34 hi44 hs44 rfl rfl rfl (hk1 hg))) ?_
  refine .guardG (b := (!((y1.2.length : Int) != 1))) (x := .d (.agg (Reject.row (nth y1.2 (Int.toNat (0)))))) (env' := [(27, _)]) rfl rfl rfl ⟨.inr (.inl rfl), trivial⟩ rfl (fun hg => OpQ.g (q_loadAll one_44 sz_44 rfl rfl)) ?_
  refine .guardG (b := (!((y1.2.length : Int) != 1))) (x := .d (.agg (Reject.row (⟨1, 1, 0, 15⟩ : Reject)))) (env' := []) rfl rfl rfl trivial rfl (fun hg => OpQ.g (q_buildP pl_44 hi44 hz44 rfl rfl)) ?_
  refine .guardG (b := (!((y1.2.length : Int) != 1))) (x := .d (cB (!(eqVs (Reject.vals (nth y1.2 (Int.toNat (0)))) (Reject.vals (⟨1, 1, 0, 15⟩ : Reject)))))) (env' := [(28, _), (29, _)]) rfl rfl rfl ⟨.inr (.inl rfl), ⟨.inr (.inl rfl), trivial⟩⟩ rfl (fun hg => OpQ.g (q_stneq fk_44 rfl rfl (xs := Reject.vals (nth y1.2 (Int.toNat (0)))) (ys := Reject.vals (⟨1, 1, 0, 15⟩ : Reject)) rfl rfl rfl rfl)) ?_
  refine .q (x := .d (cB (((y1.2.length : Int) != 1) || (!(eqVs (Reject.vals (nth y1.2 (Int.toNat (0)))) (Reject.vals (⟨1, 1, 0, 15⟩ : Reject))))))) (q_pickOrB rfl rfl rfl) rfl ?_
  refine .nil ?_
  refine .cond rfl (fun hc => ?_) (fun hc => ?_)
  · replace H := ifT hc H; clear hc
    refine .seq ?_
    refine .region ?_
    refine .q (x := .d (cB false)) (q_assign rfl) rfl ?_
    refine .nil ?_
    refine .retN [.tmp 0] [.d (cB false)] Tryd.func9 Tryd.results9 ⟨rfl, trivial⟩ ?_
    cases H
    exact ⟨_, .rfl' _, rfl⟩
  · replace H := ifF hc H; clear hc
    refine .skip ?_
    refine .seq ?_
    refine .region ?_
    refine .q (x := .d (.agg (Record.row (⟨1, 1, 1, ([49] : List UInt8), ([50] : List UInt8), 0, 604800, 0, 0, false, 0, false⟩ : Record)))) (q_loadOA one_23 sz_23 rfl rfl (Nat.le_of_ble_eq_true rfl) rfl) rfl ?_
    obtain ⟨y2, hy2, H⟩ := bind_some' H
    refine .g (x := .d (cI y2)) (g_call en_10 rfl rfl (c_f_validate_Check (hy2))) rfl ?_
    refine .q (x := .d (cB (y2 == 0))) (q_eql rfl rfl) rfl ?_
    refine .q (x := .d (cB (y2 == 0))) (q_move rfl) rfl ?_
    refine .guardG (b := (y2 == 0)) (x := .d (.agg (Record.row (⟨1, 1, 1, ([49] : List UInt8), ([50] : List UInt8), 0, 604801, 0, 0, false, 0, false⟩ : Record)))) (env' := [(2, _)]) rfl rfl rfl ⟨.inl rfl, trivial⟩ rfl (fun hg => OpQ.g (q_loadOA one_23 sz_23 rfl rfl (Nat.le_of_ble_eq_true rfl) rfl)) ?_
    obtain ⟨y3, hy3, H⟩ := bind_some' H
    refine .guardG (b := (y2 == 0)) (x := .d (cI y3)) (env' := [(36, _)]) rfl rfl rfl ⟨.inr (.inl rfl), trivial⟩ rfl (fun hg => (g_call en_10 rfl rfl (c_f_validate_Check (gcall_some hy3 hg)))) ?_
    refine .guardG (b := (y2 == 0)) (x := .d (cB (y3 == 6))) (env' := [(37, _)]) rfl rfl rfl ⟨.inr (.inl rfl), trivial⟩ rfl (fun hg => OpQ.g (q_eql rfl rfl)) ?_
    refine .q (x := .d (cB ((y2 == 0) && (y3 == 6)))) (q_pickAndB rfl rfl rfl) rfl ?_
    refine .q (x := .d (cB ((y2 == 0) && (y3 == 6)))) (q_move rfl) rfl ?_
    refine .guardG (b := ((y2 == 0) && (y3 == 6))) (x := .d (.agg (Record.row (⟨1, 1, 1, ([49] : List UInt8), ([50] : List UInt8), 12622780790, 11, 0, 0, false, 0, false⟩ : Record)))) (env' := [(3, _)]) rfl rfl rfl ⟨.inl rfl, trivial⟩ rfl (fun hg => OpQ.g (q_loadOA one_23 sz_23 rfl rfl (Nat.le_of_ble_eq_true rfl) rfl)) ?_
    obtain ⟨y4, hy4, H⟩ := bind_some' H
    refine .guardG (b := ((y2 == 0) && (y3 == 6))) (x := .d (cI y4)) (env' := [(41, _)]) rfl rfl rfl ⟨.inr (.inl rfl), trivial⟩ rfl (fun hg => (g_call en_10 rfl rfl (c_f_validate_Check (gcall_some hy4 hg)))) ?_
    refine .guardG (b := ((y2 == 0) && (y3 == 6))) (x := .d (cB (y4 == 15))) (env' := [(42, _)]) rfl rfl rfl ⟨.inr (.inl rfl), trivial⟩ rfl (fun hg => OpQ.g (q_eql rfl rfl)) ?_
    refine .q (x := .d (cB (((y2 == 0) && (y3 == 6)) && (y4 == 15)))) (q_pickAndB rfl rfl rfl) rfl ?_
    refine .q (x := .d (cB (((y2 == 0) && (y3 == 6)) && (y4 == 15)))) (q_move rfl) rfl ?_
    refine .guardG (b := (((y2 == 0) && (y3 == 6)) && (y4 == 15))) (x := .d (.agg (Record.row (⟨1, 1, 1, ([49] : List UInt8), ([50] : List UInt8), 0, 604800, 5, 0, false, 0, false⟩ : Record)))) (env' := [(4, _)]) rfl rfl rfl ⟨.inl rfl, trivial⟩ rfl (fun hg => OpQ.g (q_loadOA one_23 sz_23 rfl rfl (Nat.le_of_ble_eq_true rfl) rfl)) ?_
    obtain ⟨y5, hy5, H⟩ := bind_some' H
    refine .guardG (b := (((y2 == 0) && (y3 == 6)) && (y4 == 15))) (x := .d (cI y5)) (env' := [(46, _)]) rfl rfl rfl ⟨.inr (.inl rfl), trivial⟩ rfl (fun hg => (g_call en_10 rfl rfl (c_f_validate_Check (gcall_some hy5 hg)))) ?_
    refine .guardG (b := (((y2 == 0) && (y3 == 6)) && (y4 == 15))) (x := .d (cB (y5 == 8))) (env' := [(47, _)]) rfl rfl rfl ⟨.inr (.inl rfl), trivial⟩ rfl (fun hg => OpQ.g (q_eql rfl rfl)) ?_
    refine .q (x := .d (cB ((((y2 == 0) && (y3 == 6)) && (y4 == 15)) && (y5 == 8)))) (q_pickAndB rfl rfl rfl) rfl ?_
    refine .q (x := .d (cB ((((y2 == 0) && (y3 == 6)) && (y4 == 15)) && (y5 == 8)))) (q_move rfl) rfl ?_
    obtain ⟨y6, hy6, H⟩ := bind_some' H
    refine .guardG (b := ((((y2 == 0) && (y3 == 6)) && (y4 == 15)) && (y5 == 8))) (x := .d (cS y6)) (env' := []) rfl rfl rfl trivial rfl (fun hg => (g_call en_19 rfl rfl (c_f_validate_Name (gcall_some hy6 hg)))) ?_
    refine .guardG (b := ((((y2 == 0) && (y3 == 6)) && (y4 == 15)) && (y5 == 8))) (x := .d (cB (y6 == ([100, 97, 116, 97] : List UInt8)))) (env' := [(51, _)]) rfl rfl rfl ⟨.inr (.inl rfl), trivial⟩ rfl (fun hg => OpQ.g (q_seql rfl rfl)) ?_
    refine .q (x := .d (cB (((((y2 == 0) && (y3 == 6)) && (y4 == 15)) && (y5 == 8)) && (y6 == ([100, 97, 116, 97] : List UInt8))))) (q_pickAndB rfl rfl rfl) rfl ?_
    refine .q (x := .d (cB (((((y2 == 0) && (y3 == 6)) && (y4 == 15)) && (y5 == 8)) && (y6 == ([100, 97, 116, 97] : List UInt8))))) (q_move rfl) rfl ?_
    obtain ⟨y7, hy7, H⟩ := bind_some' H
    refine .guardG (b := (((((y2 == 0) && (y3 == 6)) && (y4 == 15)) && (y5 == 8)) && (y6 == ([100, 97, 116, 97] : List UInt8)))) (x := .d (cI y7)) (env' := []) rfl rfl rfl trivial rfl (fun hg => (g_call en_21 rfl rfl (c_f_validate_Kind (gcall_some hy7 hg)))) ?_
    refine .guardG (b := (((((y2 == 0) && (y3 == 6)) && (y4 == 15)) && (y5 == 8)) && (y6 == ([100, 97, 116, 97] : List UInt8)))) (x := .d (cB (y7 == 2))) (env' := [(55, _)]) rfl rfl rfl ⟨.inr (.inl rfl), trivial⟩ rfl (fun hg => OpQ.g (q_eql rfl rfl)) ?_
    refine .q (x := .d (cB ((((((y2 == 0) && (y3 == 6)) && (y4 == 15)) && (y5 == 8)) && (y6 == ([100, 97, 116, 97] : List UInt8))) && (y7 == 2)))) (q_pickAndB rfl rfl rfl) rfl ?_
    refine .q (x := .d (cB ((((((y2 == 0) && (y3 == 6)) && (y4 == 15)) && (y5 == 8)) && (y6 == ([100, 97, 116, 97] : List UInt8))) && (y7 == 2)))) (q_move rfl) rfl ?_
    obtain ⟨y8, hy8, H⟩ := bind_some' H
    refine .guardG (b := ((((((y2 == 0) && (y3 == 6)) && (y4 == 15)) && (y5 == 8)) && (y6 == ([100, 97, 116, 97] : List UInt8))) && (y7 == 2))) (x := .d (cI y8)) (env' := []) rfl rfl rfl trivial rfl (fun hg => (g_call en_21 rfl rfl (c_f_validate_Kind (gcall_some hy8 hg)))) ?_
    refine .guardG (b := ((((((y2 == 0) && (y3 == 6)) && (y4 == 15)) && (y5 == 8)) && (y6 == ([100, 97, 116, 97] : List UInt8))) && (y7 == 2))) (x := .d (cB (y8 == 0))) (env' := [(59, _)]) rfl rfl rfl ⟨.inr (.inl rfl), trivial⟩ rfl (fun hg => OpQ.g (q_eql rfl rfl)) ?_
    refine .q (x := .d (cB (((((((y2 == 0) && (y3 == 6)) && (y4 == 15)) && (y5 == 8)) && (y6 == ([100, 97, 116, 97] : List UInt8))) && (y7 == 2)) && (y8 == 0)))) (q_pickAndB rfl rfl rfl) rfl ?_
    refine .q (x := .d (cB (((((((y2 == 0) && (y3 == 6)) && (y4 == 15)) && (y5 == 8)) && (y6 == ([100, 97, 116, 97] : List UInt8))) && (y7 == 2)) && (y8 == 0)))) (q_assign rfl) rfl ?_
    refine .nil ?_
    refine .retN [.tmp 0] [.d (cB (((((((y2 == 0) && (y3 == 6)) && (y4 == 15)) && (y5 == 8)) && (y6 == ([100, 97, 116, 97] : List UInt8))) && (y7 == 2)) && (y8 == 0)))] Tryd.func9 Tryd.results9 ⟨rfl, trivial⟩ ?_
    cases H
    exact ⟨_, .rfl' _, rfl⟩

set_option maxRecDepth 100000 in
set_option maxHeartbeats 1000000 in
theorem c_f_billingref09_in {v0n : Int} {v1low : Int} {v2high : Int} {r : Bool} (H : f_billingref09_in v0n v1low v2high = some r) : ACall Tryd.prog 30 [cI v0n, cI v1low, cI v2high] (· = cB r) := by
  refine ACall.enter' Tryd.func30 rfl Tryd.ntmps30 rfl fun S hS => ?_
  unfold f_billingref09_in at H
  change ARun _ _ _ _ _ _ [(0, .d (cI v0n)), (1, .d (cI v1low)), (2, .d (cI v2high))] _
  refine .seq ?_
  refine .region ?_
  refine .q (x := .d (cB false)) (q_assign rfl) rfl ?_
  refine .nil ?_
  refine .seq ?_
  refine .region ?_
  refine .q (x := .d (cI v0n)) (q_move rfl) rfl ?_
  refine .q (x := .d (cI v1low)) (q_move rfl) rfl ?_
  refine .q (x := .d (cB (decide (v0n ≥ v1low)))) (q_geq rfl rfl) rfl ?_
  refine .q (x := .d (cB (decide (v0n ≥ v1low)))) (q_move rfl) rfl ?_
  refine .guardG (b := decide (v0n ≥ v1low)) (x := .d (cI v0n)) (env' := [(0, _)]) rfl rfl rfl ⟨.inl rfl, trivial⟩ rfl (fun hg => OpQ.g (q_move rfl)) ?_
  refine .guardG (b := decide (v0n ≥ v1low)) (x := .d (cI v2high)) (env' := [(2, _)]) rfl rfl rfl ⟨.inl rfl, trivial⟩ rfl (fun hg => OpQ.g (q_move rfl)) ?_
  refine .guardG (b := decide (v0n ≥ v1low)) (x := .d (cB (decide (v0n ≤ v2high)))) (env' := [(11, _), (12, _)]) rfl rfl rfl ⟨.inr (.inl rfl), ⟨.inr (.inl rfl), trivial⟩⟩ rfl (fun hg => OpQ.g (q_leq rfl rfl)) ?_
  refine .q (x := .d (cB ((decide (v0n ≥ v1low)) && (decide (v0n ≤ v2high))))) (q_pickAndB rfl rfl rfl) rfl ?_
  refine .q (x := .d (cB ((decide (v0n ≥ v1low)) && (decide (v0n ≤ v2high))))) (q_assign rfl) rfl ?_
  refine .nil ?_
  refine .retN [.tmp 6] [.d (cB ((decide (v0n ≥ v1low)) && (decide (v0n ≤ v2high))))] Tryd.func30 Tryd.results30 ⟨rfl, trivial⟩ ?_
  cases H
  exact ⟨_, .rfl' _, rfl⟩

set_option maxRecDepth 100000 in
set_option maxHeartbeats 1000000 in
theorem c_f_billingref02_Valid {v0s : List UInt8} {r : Bool} (H : f_billingref02_Valid v0s = some r) : ACall Tryd.prog 31 [cS v0s] (· = cB r) := by
  refine ACall.enter' Tryd.func31 rfl Tryd.ntmps31 rfl fun S hS => ?_
  unfold f_billingref02_Valid at H
  change ARun _ _ _ _ _ _ [(0, .d (cS v0s))] _
  refine .seq ?_
  refine .region ?_
  refine .q (x := .d (cB false)) (q_assign rfl) rfl ?_
  refine .nil ?_
  refine .seq ?_
  refine .seq ?_
  refine .region ?_
  refine .q (x := .d (cI 0)) (q_assign rfl) rfl ?_
  refine .nil ?_
  refine .blockJoin2 (ι := Unit) (fun s => [(0, .d (cS v0s))]) (fun s => ⟨[], []⟩) (fun s => f_billingref02_Valid_j1 v0s = some r) ?_ ?_
  · rintro _ H
    replace H : f_billingref02_Valid_j1 v0s = some r := H
    unfold f_billingref02_Valid_j1 at H
    change ARun _ _ _ _ _ _ [(0, .d (cS v0s))] ⟨[], []⟩
    refine .seq ?_
    refine .region ?_
    refine .q (x := .d (cS v0s)) (q_move rfl) rfl ?_
    refine .q (x := .d (cI (v0s.length : Int))) (q_lenS Tryd.underlying9 rfl) rfl ?_
    refine .q (x := .d (cB (decide ((v0s.length : Int) ≥ 1)))) (q_geq rfl rfl) rfl ?_
    refine .q (x := .d (cB (decide ((v0s.length : Int) ≥ 1)))) (q_move rfl) rfl ?_
    refine .guardG (b := decide ((v0s.length : Int) ≥ 1)) (x := .d (cS v0s)) (env' := [(0, _)]) rfl rfl rfl ⟨.inl rfl, trivial⟩ rfl (fun hg => OpQ.g (q_move rfl)) ?_
    refine .guardG (b := decide ((v0s.length : Int) ≥ 1)) (x := .d (cI (v0s.length : Int))) (env' := [(24, _)]) rfl rfl rfl ⟨.inr (.inl rfl), trivial⟩ rfl (fun hg => OpQ.g (q_lenS Tryd.underlying9 rfl)) ?_
    refine .guardG (b := decide ((v0s.length : Int) ≥ 1)) (x := .d (cB (decide ((v0s.length : Int) ≤ 15)))) (env' := [(25, _)]) rfl rfl rfl ⟨.inr (.inl rfl), trivial⟩ rfl (fun hg => OpQ.g (q_leq rfl rfl)) ?_
    refine .q (x := .d (cB ((decide ((v0s.length : Int) ≥ 1)) && (decide ((v0s.length : Int) ≤ 15))))) (q_pickAndB rfl rfl rfl) rfl ?_
    refine .q (x := .d (cB ((decide ((v0s.length : Int) ≥ 1)) && (decide ((v0s.length : Int) ≤ 15))))) (q_assign rfl) rfl ?_
    refine .nil ?_
    refine .retN [.tmp 2] [.d (cB ((decide ((v0s.length : Int) ≥ 1)) && (decide ((v0s.length : Int) ≤ 15))))] Tryd.func31 Tryd.results31 ⟨rfl, trivial⟩ ?_
    cases H
    exact ⟨_, .rfl' _, rfl⟩
  · intro hj1 hj1x
    obtain ⟨n1, H⟩ := loop_some H
    refine .loop (ι := Nat × (Int)) (fun p => [(0, .d (cS v0s)), (3, .d (cI p.2))]) (fun p => ⟨[], []⟩) (fun p => iter (fun s => f_billingref02_Valid_l1 v0s s) p.1 p.2 = some r) (·.1) (n1, 0) H (.cons rfl (.rfl' _) (.cons rfl (.rfl' _) (.nil))) rfl ?_
    rintro ⟨m1, v3il1⟩ HI ih1
    obtain ⟨n1, q1, hm1, H, HK1⟩ := iter_succ HI
    clear HI
    replace H : f_billingref02_Valid_l1 v0s v3il1 = some q1 := H
    unfold f_billingref02_Valid_l1 at H
    change ARun _ _ _ _ _ _ [(0, .d (cS v0s)), (3, .d (cI v3il1))] ⟨[], []⟩
    refine .seq ?_
    refine .seq ?_
    refine .region ?_
    refine .q (x := .d (cI v3il1)) (q_move rfl) rfl ?_
    refine .q (x := .d (cS v0s)) (q_move rfl) rfl ?_
    refine .q (x := .d (cI (v0s.length : Int))) (q_lenS Tryd.underlying9 rfl) rfl ?_
    refine .q (x := .d (cB (decide (v3il1 < (v0s.length : Int))))) (q_lss rfl rfl) rfl ?_
    refine .nil ?_
    refine .cond rfl (fun hc => ?_) (fun hc => ?_)
    · replace H := ifT hc H; clear hc
      refine .skip ?_
      refine .seq ?_
      refine .block ?_
      refine .seq ?_
      refine .region ?_
      refine .q (x := .d (cS v0s)) (q_move rfl) rfl ?_
      refine .q (x := .d (cI v3il1)) (q_move rfl) rfl ?_
      obtain ⟨hk1, H⟩ := ck_some H
      refine .q (x := .d (cU8 (nth v0s (Int.toNat (v3il1))))) (q_indexL (i := v3il1) Tryd.underlying9 rfl rfl hk1) rfl ?_
      refine .q (x := .d (cB (decide ((nth v0s (Int.toNat (v3il1))) < 48)))) (q8_lss (a := nth v0s (Int.toNat (v3il1))) (b := 48) rfl rfl) rfl ?_
      refine .q (x := .d (cB (decide ((nth v0s (Int.toNat (v3il1))) < 48)))) (q_move rfl) rfl ?_
      refine .guardG (b := (!(decide ((nth v0s (Int.toNat (v3il1))) < 48)))) (x := .d (cS v0s)) (env' := [(0, _)]) rfl rfl rfl ⟨.inl rfl, trivial⟩ rfl (fun hg => OpQ.g (q_move rfl)) ?_
      refine .guardG (b := (!(decide ((nth v0s (Int.toNat (v3il1))) < 48)))) (x := .d (cI v3il1)) (env' := [(3, _)]) rfl rfl rfl ⟨.inl rfl, trivial⟩ rfl (fun hg => OpQ.g (q_move rfl)) ?_
      obtain ⟨hk2, H⟩ := ck_some H
      refine .guardG (b := (!(decide ((nth v0s (Int.toNat (v3il1))) < 48)))) (x := .d (cU8 (nth v0s (Int.toNat (v3il1))))) (env' := [(15, _), (16, _)]) rfl rfl rfl ⟨.inr (.inl rfl), ⟨.inr (.inl rfl), trivial⟩⟩ rfl (fun hg => OpQ.g (q_indexL (i := v3il1) Tryd.underlying9 rfl rfl (hk2 hg))) ?_
      refine .guardG (b := (!(decide ((nth v0s (Int.toNat (v3il1))) < 48)))) (x := .d (cB (decide ((nth v0s (Int.toNat (v3il1))) > 57)))) (env' := [(17, _)]) rfl rfl rfl ⟨.inr (.inl rfl), trivial⟩ rfl (fun hg => OpQ.g (q8_gtr (a := nth v0s (Int.toNat (v3il1))) (b := 57) rfl rfl)) ?_
      refine .q (x := .d (cB ((decide ((nth v0s (Int.toNat (v3il1))) < 48)) || (decide ((nth v0s (Int.toNat (v3il1))) > 57))))) (q_pickOrB rfl rfl rfl) rfl ?_
      refine .nil ?_
      refine .cond rfl (fun hc => ?_) (fun hc => ?_)
      · replace H := ifT hc H; clear hc
        refine .seq ?_
        refine .region ?_
        refine .q (x := .d (cB false)) (q_assign rfl) rfl ?_
        refine .nil ?_
        refine .retN [.tmp 2] [.d (cB false)] Tryd.func31 Tryd.results31 ⟨rfl, trivial⟩ ?_
        cases H
        cases HK1
        exact ⟨_, .rfl' _, rfl⟩
      · replace H := ifF hc H; clear hc
        refine .skip ?_
        refine .inBlock ?_
        refine .region ?_
        refine .q (x := .d (cI v3il1)) (q_move rfl) rfl ?_
        obtain ⟨hk3, H⟩ := ck_some H
        refine .q (x := .d (cI (v3il1 + 1))) (q_addI rfl rfl hk3.1 hk3.2) rfl ?_
        refine .q (x := .d (cI (v3il1 + 1))) (q_assign rfl) rfl ?_
        refine .nil ?_
        cases H
        exact .sub (.cons rfl (.rfl' _) (.cons rfl (.rfl' _) (.nil))) (ih1 (n1, (v3il1 + 1)) HK1 hm1)
    · replace H := ifF hc H; clear hc
      refine .exit rfl ?_
      obtain ⟨q0, H9, hq0⟩ := map_some' H; clear H; cases hq0
      cases HK1
      have H := H9
      exact .sub (.cons rfl (.rfl' _) (.nil)) (hj1x () H)

set_option maxRecDepth 100000 in
set_option maxHeartbeats 1000000 in
theorem c_f_billingref09_Error {v0 : Record} {r : Int} (H : f_billingref09_Error v0 = some r) : ACall Tryd.prog 24 [.agg (Record.row v0)] (· = cI r) := by
  refine ACall.enter' Tryd.func24 rfl Tryd.ntmps24 rfl fun S hS => ?_
  unfold f_billingref09_Error at H
  change ARun _ _ _ _ _ _ [(0, .d (.agg (Record.row v0)))] _
  refine .seq ?_
  refine .region ?_
  refine .v (x := .ref 0 0) (v_box rfl rfl) rfl ?_
  refine .withSt (st' := ⟨[.row 23 [.d (cI v0.source), .d (cI v0.serial), .d (cI v0.kind), .d (cS v0.a), .d (cS v0.b), .d (cI v0.start), .d (cI v0.units), .d (cI v0.call), .d (cI v0.part), .d (cB v0.last), .d (cI v0.trunk), .d (cB v0.inbound)]], []⟩) rfl ?_
  refine .q (x := .d (cI 0)) (q_assign rfl) rfl ?_
  refine .nil ?_
  refine .seq ?_
  refine .block ?_
  refine .seq ?_
  refine .region ?_
  refine .q (x := .ref 0 0) (q_fieldRef fo_23_0 rfl) rfl ?_
  refine .q (x := .d (cI v0.source)) (q_loadO one_3 rfl rfl rfl) rfl ?_
  obtain ⟨y1, hy1, H⟩ := bind_some' H
  refine .g (x := .d (cB y1)) (g_call en_30 rfl rfl (c_f_billingref09_in (hy1))) rfl ?_
  refine .q (x := .d (cB (!y1))) (q_not rfl) rfl ?_
  refine .q (x := .d (cB (!y1))) (q_move rfl) rfl ?_
  refine .guardG (b := (!(!y1))) (x := .ref 0 1) (env' := [(1, _)]) rfl rfl rfl ⟨.inl rfl, trivial⟩ rfl (fun hg => OpQ.g (q_fieldRef fo_23_1 rfl)) ?_
  refine .guardG (b := (!(!y1))) (x := .d (cI v0.serial)) (env' := [(9, _)]) rfl rfl rfl ⟨.inr (.inl rfl), trivial⟩ rfl (fun hg => OpQ.g (q_loadO one_3 rfl rfl rfl)) ?_
  obtain ⟨y2, hy2, H⟩ := bind_some' H
  refine .guardG (b := (!(!y1))) (x := .d (cB y2)) (env' := [(10, _)]) rfl rfl rfl ⟨.inr (.inl rfl), trivial⟩ rfl (fun hg => (g_call en_30 rfl rfl (c_f_billingref09_in (gcall_some hy2 hg)))) ?_
  refine .guardG (b := (!(!y1))) (x := .d (cB (!y2))) (env' := [(11, _)]) rfl rfl rfl ⟨.inr (.inl rfl), trivial⟩ rfl (fun hg => OpQ.g (q_not rfl)) ?_
  refine .q (x := .d (cB ((!y1) || (!y2)))) (q_pickOrB rfl rfl rfl) rfl ?_
  refine .q (x := .d (cB ((!y1) || (!y2)))) (q_assign rfl) rfl ?_
  refine .nil ?_
  refine .cond rfl (fun hc => ?_) (fun hc => ?_)
  · replace H := ifT hc H; clear hc
    refine .seq ?_
    refine .region ?_
    refine .q (x := .d (cI 6)) (q_assign rfl) rfl ?_
    refine .nil ?_
    refine .retN [.tmp 2] [.d (cI 6)] Tryd.func24 Tryd.results24 ⟨rfl, trivial⟩ ?_
    cases H
    exact ⟨_, .rfl' _, rfl⟩
  · replace H := ifF hc H; clear hc
    refine .seq ?_
    refine .region ?_
    refine .q (x := .ref 0 2) (q_fieldRef fo_23_2 rfl) rfl ?_
    refine .q (x := .d (cI v0.kind)) (q_loadO one_3 rfl rfl rfl) rfl ?_
    obtain ⟨y3, hy3, H⟩ := bind_some' H
    refine .g (x := .d (cB y3)) (g_call en_30 rfl rfl (c_f_billingref09_in (hy3))) rfl ?_
    refine .q (x := .d (cB (!y3))) (q_not rfl) rfl ?_
    refine .q (x := .d (cB (!y3))) (q_assign rfl) rfl ?_
    refine .nil ?_
    refine .cond rfl (fun hc => ?_) (fun hc => ?_)
    · replace H := ifT hc H; clear hc
      refine .seq ?_
      refine .region ?_
      refine .q (x := .d (cI 7)) (q_assign rfl) rfl ?_
      refine .nil ?_
      refine .retN [.tmp 2] [.d (cI 7)] Tryd.func24 Tryd.results24 ⟨rfl, trivial⟩ ?_
      cases H
      exact ⟨_, .rfl' _, rfl⟩
    · replace H := ifF hc H; clear hc
      refine .seq ?_
      refine .region ?_
      refine .q (x := .ref 0 3) (q_fieldRef fo_23_3 rfl) rfl ?_
      refine .q (x := .d (cS v0.a)) (q_loadO one_9 rfl rfl rfl) rfl ?_
      obtain ⟨y4, hy4, H⟩ := bind_some' H
      refine .g (x := .d (cB y4)) (g_call en_31 rfl rfl (c_f_billingref02_Valid (hy4))) rfl ?_
      refine .q (x := .d (cB (!y4))) (q_not rfl) rfl ?_
      refine .q (x := .d (cB (!y4))) (q_assign rfl) rfl ?_
      refine .nil ?_
      refine .cond rfl (fun hc => ?_) (fun hc => ?_)
      · replace H := ifT hc H; clear hc
        refine .seq ?_
        refine .region ?_
        refine .q (x := .d (cI 12)) (q_assign rfl) rfl ?_
        refine .nil ?_
        refine .retN [.tmp 2] [.d (cI 12)] Tryd.func24 Tryd.results24 ⟨rfl, trivial⟩ ?_
        cases H
        exact ⟨_, .rfl' _, rfl⟩
      · replace H := ifF hc H; clear hc
        refine .seq ?_
        refine .region ?_
        refine .q (x := .ref 0 4) (q_fieldRef fo_23_4 rfl) rfl ?_
        refine .q (x := .d (cS v0.b)) (q_loadO one_9 rfl rfl rfl) rfl ?_
        obtain ⟨y5, hy5, H⟩ := bind_some' H
        refine .g (x := .d (cB y5)) (g_call en_31 rfl rfl (c_f_billingref02_Valid (hy5))) rfl ?_
        refine .q (x := .d (cB (!y5))) (q_not rfl) rfl ?_
        refine .q (x := .d (cB (!y5))) (q_move rfl) rfl ?_
        refine .guardG (b := (!y5)) (x := .ref 0 4) (env' := [(1, _)]) rfl rfl rfl ⟨.inl rfl, trivial⟩ rfl (fun hg => OpQ.g (q_fieldRef fo_23_4 rfl)) ?_
        refine .guardG (b := (!y5)) (x := .d (cS v0.b)) (env' := [(30, _)]) rfl rfl rfl ⟨.inr (.inl rfl), trivial⟩ rfl (fun hg => OpQ.g (q_loadO one_9 rfl rfl rfl)) ?_
        refine .guardG (b := (!y5)) (x := .d (cB (v0.b != ([] : List UInt8)))) (env' := [(31, _)]) rfl rfl rfl ⟨.inr (.inl rfl), trivial⟩ rfl (fun hg => OpQ.g (q_sneq rfl rfl)) ?_
        refine .guardG (b := (!y5)) (x := .d (cB (v0.b != ([] : List UInt8)))) (env' := [(32, _)]) rfl rfl rfl ⟨.inr (.inl rfl), trivial⟩ rfl (fun hg => OpQ.g (q_move rfl)) ?_
        refine .guardG (b := ((!y5) && (!(v0.b != ([] : List UInt8))))) (x := .ref 0 2) (env' := [(1, _)]) rfl rfl rfl ⟨.inl rfl, trivial⟩ rfl (fun hg => OpQ.g (q_fieldRef fo_23_2 rfl)) ?_
        refine .guardG (b := ((!y5) && (!(v0.b != ([] : List UInt8))))) (x := .d (cI v0.kind)) (env' := [(34, _)]) rfl rfl rfl ⟨.inr (.inl rfl), trivial⟩ rfl (fun hg => OpQ.g (q_loadO one_3 rfl rfl rfl)) ?_
        refine .guardG (b := ((!y5) && (!(v0.b != ([] : List UInt8))))) (x := .d (cB (v0.kind != 3))) (env' := [(35, _)]) rfl rfl rfl ⟨.inr (.inl rfl), trivial⟩ rfl (fun hg => OpQ.g (q_neq rfl rfl)) ?_
        refine .guardG (b := ((!y5) && (!(v0.b != ([] : List UInt8))))) (x := .d (cB (v0.kind != 3))) (env' := [(36, _)]) rfl rfl rfl ⟨.inr (.inl rfl), trivial⟩ rfl (fun hg => OpQ.g (q_move rfl)) ?_
        refine .guardG (b := (((!y5) && (!(v0.b != ([] : List UInt8)))) && (v0.kind != 3))) (x := .ref 0 2) (env' := [(1, _)]) rfl rfl rfl ⟨.inl rfl, trivial⟩ rfl (fun hg => OpQ.g (q_fieldRef fo_23_2 rfl)) ?_
        refine .guardG (b := (((!y5) && (!(v0.b != ([] : List UInt8)))) && (v0.kind != 3))) (x := .d (cI v0.kind)) (env' := [(38, _)]) rfl rfl rfl ⟨.inr (.inl rfl), trivial⟩ rfl (fun hg => OpQ.g (q_loadO one_3 rfl rfl rfl)) ?_
        refine .guardG (b := (((!y5) && (!(v0.b != ([] : List UInt8)))) && (v0.kind != 3))) (x := .d (cB (v0.kind != 4))) (env' := [(39, _)]) rfl rfl rfl ⟨.inr (.inl rfl), trivial⟩ rfl (fun hg => OpQ.g (q_neq rfl rfl)) ?_
        refine .guardG (b := ((!y5) && (!(v0.b != ([] : List UInt8))))) (x := .d (cB ((v0.kind != 3) && (v0.kind != 4)))) (env' := [(37, _), (40, _)]) rfl rfl rfl ⟨.inr (.inl rfl), ⟨.inr (.inr ⟨_, _, rfl, rfl⟩), trivial⟩⟩ rfl (fun hg => OpQ.g (q_pickAndB rfl rfl rfl)) ?_
        refine .guardG (b := (!y5)) (x := .d (cB ((v0.b != ([] : List UInt8)) || ((v0.kind != 3) && (v0.kind != 4))))) (env' := [(33, _), (41, _)]) rfl rfl rfl ⟨.inr (.inl rfl), ⟨.inr (.inr ⟨_, _, rfl, rfl⟩), trivial⟩⟩ rfl (fun hg => OpQ.g (q_pickOrB rfl rfl rfl)) ?_
        refine .q (x := .d (cB ((!y5) && ((v0.b != ([] : List UInt8)) || ((v0.kind != 3) && (v0.kind != 4)))))) (q_pickAndB rfl rfl rfl) rfl ?_
        refine .q (x := .d (cB ((!y5) && ((v0.b != ([] : List UInt8)) || ((v0.kind != 3) && (v0.kind != 4)))))) (q_assign rfl) rfl ?_
        refine .nil ?_
        refine .cond rfl (fun hc => ?_) (fun hc => ?_)
        · replace H := ifT hc H; clear hc
          refine .seq ?_
          refine .region ?_
          refine .q (x := .d (cI 12)) (q_assign rfl) rfl ?_
          refine .nil ?_
          refine .retN [.tmp 2] [.d (cI 12)] Tryd.func24 Tryd.results24 ⟨rfl, trivial⟩ ?_
          cases H
          exact ⟨_, .rfl' _, rfl⟩
        · replace H := ifF hc H; clear hc
          refine .seq ?_
          refine .region ?_
          refine .q (x := .ref 0 5) (q_fieldRef fo_23_5 rfl) rfl ?_
          refine .q (x := .d (cI v0.start)) (q_loadO one_3 rfl rfl rfl) rfl ?_
          obtain ⟨y6, hy6, H⟩ := bind_some' H
          refine .g (x := .d (cB y6)) (g_call en_30 rfl rfl (c_f_billingref09_in (hy6))) rfl ?_
          refine .q (x := .d (cB (!y6))) (q_not rfl) rfl ?_
          refine .q (x := .d (cB (!y6))) (q_assign rfl) rfl ?_
          refine .nil ?_
          refine .cond rfl (fun hc => ?_) (fun hc => ?_)
          · replace H := ifT hc H; clear hc
            refine .seq ?_
            refine .region ?_
            refine .q (x := .d (cI 15)) (q_assign rfl) rfl ?_
            refine .nil ?_
            refine .retN [.tmp 2] [.d (cI 15)] Tryd.func24 Tryd.results24 ⟨rfl, trivial⟩ ?_
            cases H
            exact ⟨_, .rfl' _, rfl⟩
          · replace H := ifF hc H; clear hc
            refine .seq ?_
            refine .region ?_
            refine .q (x := .ref 0 6) (q_fieldRef fo_23_6 rfl) rfl ?_
            refine .q (x := .d (cI v0.units)) (q_loadO one_3 rfl rfl rfl) rfl ?_
            obtain ⟨y7, hy7, H⟩ := bind_some' H
            refine .g (x := .d (cB y7)) (g_call en_30 rfl rfl (c_f_billingref09_in (hy7))) rfl ?_
            refine .q (x := .d (cB (!y7))) (q_not rfl) rfl ?_
            refine .q (x := .d (cB (!y7))) (q_move rfl) rfl ?_
            refine .guardG (b := (!(!y7))) (x := .ref 0 2) (env' := [(1, _)]) rfl rfl rfl ⟨.inl rfl, trivial⟩ rfl (fun hg => OpQ.g (q_fieldRef fo_23_2 rfl)) ?_
            refine .guardG (b := (!(!y7))) (x := .d (cI v0.kind)) (env' := [(55, _)]) rfl rfl rfl ⟨.inr (.inl rfl), trivial⟩ rfl (fun hg => OpQ.g (q_loadO one_3 rfl rfl rfl)) ?_
            refine .guardG (b := (!(!y7))) (x := .d (cB (v0.kind == 1))) (env' := [(56, _)]) rfl rfl rfl ⟨.inr (.inl rfl), trivial⟩ rfl (fun hg => OpQ.g (q_eql rfl rfl)) ?_
            refine .guardG (b := (!(!y7))) (x := .d (cB (v0.kind == 1))) (env' := [(57, _)]) rfl rfl rfl ⟨.inr (.inl rfl), trivial⟩ rfl (fun hg => OpQ.g (q_move rfl)) ?_
            refine .guardG (b := ((!(!y7)) && (v0.kind == 1))) (x := .ref 0 6) (env' := [(1, _)]) rfl rfl rfl ⟨.inl rfl, trivial⟩ rfl (fun hg => OpQ.g (q_fieldRef fo_23_6 rfl)) ?_
            refine .guardG (b := ((!(!y7)) && (v0.kind == 1))) (x := .d (cI v0.units)) (env' := [(59, _)]) rfl rfl rfl ⟨.inr (.inl rfl), trivial⟩ rfl (fun hg => OpQ.g (q_loadO one_3 rfl rfl rfl)) ?_
            refine .guardG (b := ((!(!y7)) && (v0.kind == 1))) (x := .d (cB (decide (v0.units > 604800)))) (env' := [(60, _)]) rfl rfl rfl ⟨.inr (.inl rfl), trivial⟩ rfl (fun hg => OpQ.g (q_gtr rfl rfl)) ?_
            refine .guardG (b := (!(!y7))) (x := .d (cB ((v0.kind == 1) && (decide (v0.units > 604800))))) (env' := [(58, _), (61, _)]) rfl rfl rfl ⟨.inr (.inl rfl), ⟨.inr (.inr ⟨_, _, rfl, rfl⟩), trivial⟩⟩ rfl (fun hg => OpQ.g (q_pickAndB rfl rfl rfl)) ?_
            refine .q (x := .d (cB ((!y7) || ((v0.kind == 1) && (decide (v0.units > 604800)))))) (q_pickOrB rfl rfl rfl) rfl ?_
            refine .q (x := .d (cB ((!y7) || ((v0.kind == 1) && (decide (v0.units > 604800)))))) (q_assign rfl) rfl ?_
            refine .nil ?_
            refine .cond rfl (fun hc => ?_) (fun hc => ?_)
            · replace H := ifT hc H; clear hc
              refine .seq ?_
              refine .region ?_
              refine .q (x := .d (cI 6)) (q_assign rfl) rfl ?_
              refine .nil ?_
              refine .retN [.tmp 2] [.d (cI 6)] Tryd.func24 Tryd.results24 ⟨rfl, trivial⟩ ?_
              cases H
              exact ⟨_, .rfl' _, rfl⟩
            · replace H := ifF hc H; clear hc
              refine .seq ?_
              refine .region ?_
              refine .q (x := .ref 0 2) (q_fieldRef fo_23_2 rfl) rfl ?_
              refine .q (x := .d (cI v0.kind)) (q_loadO one_3 rfl rfl rfl) rfl ?_
              refine .q (x := .d (cB (v0.kind == 1))) (q_eql rfl rfl) rfl ?_
              refine .q (x := .d (cB (v0.kind == 1))) (q_move rfl) rfl ?_
              refine .guardG (b := (v0.kind == 1)) (x := .ref 0 5) (env' := [(1, _)]) rfl rfl rfl ⟨.inl rfl, trivial⟩ rfl (fun hg => OpQ.g (q_fieldRef fo_23_5 rfl)) ?_
              refine .guardG (b := (v0.kind == 1)) (x := .d (cI v0.start)) (env' := [(69, _)]) rfl rfl rfl ⟨.inr (.inl rfl), trivial⟩ rfl (fun hg => OpQ.g (q_loadO one_3 rfl rfl rfl)) ?_
              refine .guardG (b := (v0.kind == 1)) (x := .ref 0 6) (env' := [(1, _)]) rfl rfl rfl ⟨.inl rfl, trivial⟩ rfl (fun hg => OpQ.g (q_fieldRef fo_23_6 rfl)) ?_
              refine .guardG (b := (v0.kind == 1)) (x := .d (cI v0.units)) (env' := [(71, _)]) rfl rfl rfl ⟨.inr (.inl rfl), trivial⟩ rfl (fun hg => OpQ.g (q_loadO one_3 rfl rfl rfl)) ?_
              obtain ⟨hk1, H⟩ := ck_some H
              refine .guardG (b := (v0.kind == 1)) (x := .d (cI (v0.start + v0.units))) (env' := [(70, _), (72, _)]) rfl rfl rfl ⟨.inr (.inl rfl), ⟨.inr (.inl rfl), trivial⟩⟩ rfl (fun hg => OpQ.g (q_addI rfl rfl (hk1 hg).1 (hk1 hg).2)) ?_
              refine .guardG (b := (v0.kind == 1)) (x := .d (cB (decide ((v0.start + v0.units) > 12622780800)))) (env' := [(73, _)]) rfl rfl rfl ⟨.inr (.inl rfl), trivial⟩ rfl (fun hg => OpQ.g (q_gtr rfl rfl)) ?_
              refine .q (x := .d (cB ((v0.kind == 1) && (decide ((v0.start + v0.units) > 12622780800))))) (q_pickAndB rfl rfl rfl) rfl ?_
              refine .q (x := .d (cB ((v0.kind == 1) && (decide ((v0.start + v0.units) > 12622780800))))) (q_assign rfl) rfl ?_
              refine .nil ?_
              refine .cond rfl (fun hc => ?_) (fun hc => ?_)
              · replace H := ifT hc H; clear hc
                refine .seq ?_
                refine .region ?_
                refine .q (x := .d (cI 15)) (q_assign rfl) rfl ?_
                refine .nil ?_
                refine .retN [.tmp 2] [.d (cI 15)] Tryd.func24 Tryd.results24 ⟨rfl, trivial⟩ ?_
                cases H
                exact ⟨_, .rfl' _, rfl⟩
              · replace H := ifF hc H; clear hc
                refine .seq ?_
                refine .region ?_
                refine .q (x := .ref 0 7) (q_fieldRef fo_23_7 rfl) rfl ?_
                refine .q (x := .d (cI v0.call)) (q_loadO one_3 rfl rfl rfl) rfl ?_
                obtain ⟨y8, hy8, H⟩ := bind_some' H
                refine .g (x := .d (cB y8)) (g_call en_30 rfl rfl (c_f_billingref09_in (hy8))) rfl ?_
                refine .q (x := .d (cB (!y8))) (q_not rfl) rfl ?_
                refine .q (x := .d (cB (!y8))) (q_move rfl) rfl ?_
                refine .guardG (b := (!(!y8))) (x := .ref 0 8) (env' := [(1, _)]) rfl rfl rfl ⟨.inl rfl, trivial⟩ rfl (fun hg => OpQ.g (q_fieldRef fo_23_8 rfl)) ?_
                refine .guardG (b := (!(!y8))) (x := .d (cI v0.part)) (env' := [(82, _)]) rfl rfl rfl ⟨.inr (.inl rfl), trivial⟩ rfl (fun hg => OpQ.g (q_loadO one_3 rfl rfl rfl)) ?_
                obtain ⟨y9, hy9, H⟩ := bind_some' H
                refine .guardG (b := (!(!y8))) (x := .d (cB y9)) (env' := [(83, _)]) rfl rfl rfl ⟨.inr (.inl rfl), trivial⟩ rfl (fun hg => (g_call en_30 rfl rfl (c_f_billingref09_in (gcall_some hy9 hg)))) ?_
                refine .guardG (b := (!(!y8))) (x := .d (cB (!y9))) (env' := [(84, _)]) rfl rfl rfl ⟨.inr (.inl rfl), trivial⟩ rfl (fun hg => OpQ.g (q_not rfl)) ?_
                refine .q (x := .d (cB ((!y8) || (!y9)))) (q_pickOrB rfl rfl rfl) rfl ?_
                refine .q (x := .d (cB ((!y8) || (!y9)))) (q_assign rfl) rfl ?_
                refine .nil ?_
                refine .cond rfl (fun hc => ?_) (fun hc => ?_)
                · replace H := ifT hc H; clear hc
                  refine .seq ?_
                  refine .region ?_
                  refine .q (x := .d (cI 6)) (q_assign rfl) rfl ?_
                  refine .nil ?_
                  refine .retN [.tmp 2] [.d (cI 6)] Tryd.func24 Tryd.results24 ⟨rfl, trivial⟩ ?_
                  cases H
                  exact ⟨_, .rfl' _, rfl⟩
                · replace H := ifF hc H; clear hc
                  refine .seq ?_
                  refine .region ?_
                  refine .q (x := .ref 0 8) (q_fieldRef fo_23_8 rfl) rfl ?_
                  refine .q (x := .d (cI v0.part)) (q_loadO one_3 rfl rfl rfl) rfl ?_
                  refine .q (x := .d (cB (v0.part == 0))) (q_eql rfl rfl) rfl ?_
                  refine .q (x := .ref 0 7) (q_fieldRef fo_23_7 rfl) rfl ?_
                  refine .q (x := .d (cI v0.call)) (q_loadO one_3 rfl rfl rfl) rfl ?_
                  refine .q (x := .d (cB (v0.call == 0))) (q_eql rfl rfl) rfl ?_
                  refine .q (x := .d (cB ((v0.part == 0) != (v0.call == 0)))) (q_bneq rfl Tryd.underlying4 rfl) rfl ?_
                  refine .q (x := .d (cB ((v0.part == 0) != (v0.call == 0)))) (q_move rfl) rfl ?_
                  refine .guardG (b := (!((v0.part == 0) != (v0.call == 0)))) (x := .ref 0 9) (env' := [(1, _)]) rfl rfl rfl ⟨.inl rfl, trivial⟩ rfl (fun hg => OpQ.g (q_fieldRef fo_23_9 rfl)) ?_
                  refine .guardG (b := (!((v0.part == 0) != (v0.call == 0)))) (x := .d (cB v0.last)) (env' := [(96, _)]) rfl rfl rfl ⟨.inr (.inl rfl), trivial⟩ rfl (fun hg => OpQ.g (q_loadO one_4 rfl rfl rfl)) ?_
                  refine .guardG (b := (!((v0.part == 0) != (v0.call == 0)))) (x := .d (cB v0.last)) (env' := [(97, _)]) rfl rfl rfl ⟨.inr (.inl rfl), trivial⟩ rfl (fun hg => OpQ.g (q_move rfl)) ?_
                  refine .guardG (b := ((!((v0.part == 0) != (v0.call == 0))) && v0.last)) (x := .ref 0 8) (env' := [(1, _)]) rfl rfl rfl ⟨.inl rfl, trivial⟩ rfl (fun hg => OpQ.g (q_fieldRef fo_23_8 rfl)) ?_
                  refine .guardG (b := ((!((v0.part == 0) != (v0.call == 0))) && v0.last)) (x := .d (cI v0.part)) (env' := [(99, _)]) rfl rfl rfl ⟨.inr (.inl rfl), trivial⟩ rfl (fun hg => OpQ.g (q_loadO one_3 rfl rfl rfl)) ?_
                  refine .guardG (b := ((!((v0.part == 0) != (v0.call == 0))) && v0.last)) (x := .d (cB (v0.part == 0))) (env' := [(100, _)]) rfl rfl rfl ⟨.inr (.inl rfl), trivial⟩ rfl (fun hg => OpQ.g (q_eql rfl rfl)) ?_
                  refine .guardG (b := (!((v0.part == 0) != (v0.call == 0)))) (x := .d (cB (v0.last && (v0.part == 0)))) (env' := [(98, _), (101, _)]) rfl rfl rfl ⟨.inr (.inl rfl), ⟨.inr (.inr ⟨_, _, rfl, rfl⟩), trivial⟩⟩ rfl (fun hg => OpQ.g (q_pickAndB rfl rfl rfl)) ?_
                  refine .q (x := .d (cB (((v0.part == 0) != (v0.call == 0)) || (v0.last && (v0.part == 0))))) (q_pickOrB rfl rfl rfl) rfl ?_
                  refine .q (x := .d (cB (((v0.part == 0) != (v0.call == 0)) || (v0.last && (v0.part == 0))))) (q_assign rfl) rfl ?_
                  refine .nil ?_
                  refine .cond rfl (fun hc => ?_) (fun hc => ?_)
                  · replace H := ifT hc H; clear hc
                    refine .seq ?_
                    refine .region ?_
                    refine .q (x := .d (cI 8)) (q_assign rfl) rfl ?_
                    refine .nil ?_
                    refine .retN [.tmp 2] [.d (cI 8)] Tryd.func24 Tryd.results24 ⟨rfl, trivial⟩ ?_
                    cases H
                    exact ⟨_, .rfl' _, rfl⟩
                  · replace H := ifF hc H; clear hc
                    refine .seq ?_
                    refine .region ?_
                    refine .q (x := .ref 0 10) (q_fieldRef fo_23_10 rfl) rfl ?_
                    refine .q (x := .d (cI v0.trunk)) (q_loadO one_3 rfl rfl rfl) rfl ?_
                    obtain ⟨y10, hy10, H⟩ := bind_some' H
                    refine .g (x := .d (cB y10)) (g_call en_30 rfl rfl (c_f_billingref09_in (hy10))) rfl ?_
                    refine .q (x := .d (cB (!y10))) (q_not rfl) rfl ?_
                    refine .q (x := .d (cB (!y10))) (q_assign rfl) rfl ?_
                    refine .nil ?_
                    refine .cond rfl (fun hc => ?_) (fun hc => ?_)
                    · replace H := ifT hc H; clear hc
                      refine .seq ?_
                      refine .region ?_
                      refine .q (x := .d (cI 6)) (q_assign rfl) rfl ?_
                      refine .nil ?_
                      refine .retN [.tmp 2] [.d (cI 6)] Tryd.func24 Tryd.results24 ⟨rfl, trivial⟩ ?_
                      cases H
                      exact ⟨_, .rfl' _, rfl⟩
                    · replace H := ifF hc H; clear hc
                      refine .seq ?_
                      refine .region ?_
                      refine .q (x := .ref 0 11) (q_fieldRef fo_23_11 rfl) rfl ?_
                      refine .q (x := .d (cB v0.inbound)) (q_loadO one_4 rfl rfl rfl) rfl ?_
                      refine .q (x := .d (cB v0.inbound)) (q_move rfl) rfl ?_
                      refine .guardG (b := v0.inbound) (x := .ref 0 10) (env' := [(1, _)]) rfl rfl rfl ⟨.inl rfl, trivial⟩ rfl (fun hg => OpQ.g (q_fieldRef fo_23_10 rfl)) ?_
                      refine .guardG (b := v0.inbound) (x := .d (cI v0.trunk)) (env' := [(113, _)]) rfl rfl rfl ⟨.inr (.inl rfl), trivial⟩ rfl (fun hg => OpQ.g (q_loadO one_3 rfl rfl rfl)) ?_
                      refine .guardG (b := v0.inbound) (x := .d (cB (v0.trunk == 0))) (env' := [(114, _)]) rfl rfl rfl ⟨.inr (.inl rfl), trivial⟩ rfl (fun hg => OpQ.g (q_eql rfl rfl)) ?_
                      refine .q (x := .d (cB (v0.inbound && (v0.trunk == 0)))) (q_pickAndB rfl rfl rfl) rfl ?_
                      refine .q (x := .d (cB (v0.inbound && (v0.trunk == 0)))) (q_assign rfl) rfl ?_
                      refine .nil ?_
                      refine .cond rfl (fun hc => ?_) (fun hc => ?_)
                      · replace H := ifT hc H; clear hc
                        refine .seq ?_
                        refine .region ?_
                        refine .q (x := .d (cI 8)) (q_assign rfl) rfl ?_
                        refine .nil ?_
                        refine .retN [.tmp 2] [.d (cI 8)] Tryd.func24 Tryd.results24 ⟨rfl, trivial⟩ ?_
                        cases H
                        exact ⟨_, .rfl' _, rfl⟩
                      · replace H := ifF hc H; clear hc
                        refine .skip ?_
                        refine .inBlock ?_
                        refine .seq ?_
                        refine .region ?_
                        refine .q (x := .d (cI 0)) (q_assign rfl) rfl ?_
                        refine .nil ?_
                        refine .retN [.tmp 2] [.d (cI 0)] Tryd.func24 Tryd.results24 ⟨rfl, trivial⟩ ?_
                        cases H
                        exact ⟨_, .rfl' _, rfl⟩

set_option maxRecDepth 100000 in
set_option maxHeartbeats 1000000 in
theorem c_f_billingref13_Check {v0r : Record} {r : Int} (H : f_billingref13_Check v0r = some r) : ACall Tryd.prog 11 [.agg (Record.row v0r)] (· = cI r) := by
  refine ACall.enter' Tryd.func11 rfl Tryd.ntmps11 rfl fun S hS => ?_
  unfold f_billingref13_Check at H
  change ARun _ _ _ _ _ _ [(0, .d (.agg (Record.row v0r)))] _
  refine .seq ?_
  refine .region ?_
  refine .v (x := .ref 0 0) (v_box rfl rfl) rfl ?_
  refine .withSt (st' := ⟨[.row 23 [.d (cI v0r.source), .d (cI v0r.serial), .d (cI v0r.kind), .d (cS v0r.a), .d (cS v0r.b), .d (cI v0r.start), .d (cI v0r.units), .d (cI v0r.call), .d (cI v0r.part), .d (cB v0r.last), .d (cI v0r.trunk), .d (cB v0r.inbound)]], []⟩) rfl ?_
  refine .q (x := .d (cI 0)) (q_assign rfl) rfl ?_
  refine .nil ?_
  refine .seq ?_
  refine .region ?_
  refine .q (x := .d (.agg (Record.row v0r))) (q_loadOA one_23 sz_23 rfl rfl (Nat.le_of_ble_eq_true rfl) rfl) rfl ?_
  obtain ⟨y1, hy1, H⟩ := bind_some' H
  refine .g (x := .d (cI y1)) (g_call en_24 rfl rfl (c_f_billingref09_Error (hy1))) rfl ?_
  refine .q (x := .d (cI y1)) (q_assign rfl) rfl ?_
  refine .nil ?_
  refine .retN [.tmp 2] [.d (cI y1)] Tryd.func11 Tryd.results11 ⟨rfl, trivial⟩ ?_
  cases H
  exact ⟨_, .rfl' _, rfl⟩

set_option maxRecDepth 100000 in
set_option maxHeartbeats 1000000 in
theorem c_f_billingref13_Window {v0r : Record} {v1w : Window} {r : Int} (H : f_billingref13_Window v0r v1w = some r) : ACall Tryd.prog 13 [.agg (Record.row v0r), .agg (Window.row v1w)] (· = cI r) := by
  refine ACall.enter' Tryd.func13 rfl Tryd.ntmps13 rfl fun S hS => ?_
  unfold f_billingref13_Window at H
  change ARun _ _ _ _ _ _ [(0, .d (.agg (Record.row v0r))), (1, .d (.agg (Window.row v1w)))] _
  refine .seq ?_
  refine .region ?_
  refine .v (x := .ref 0 0) (v_box rfl rfl) rfl ?_
  refine .withSt (st' := ⟨[.row 23 [.d (cI v0r.source), .d (cI v0r.serial), .d (cI v0r.kind), .d (cS v0r.a), .d (cS v0r.b), .d (cI v0r.start), .d (cI v0r.units), .d (cI v0r.call), .d (cI v0r.part), .d (cB v0r.last), .d (cI v0r.trunk), .d (cB v0r.inbound)]], []⟩) rfl ?_
  refine .v (x := .ref 1 0) (v_box rfl rfl) rfl ?_
  refine .withSt (st' := ⟨[.row 23 [.d (cI v0r.source), .d (cI v0r.serial), .d (cI v0r.kind), .d (cS v0r.a), .d (cS v0r.b), .d (cI v0r.start), .d (cI v0r.units), .d (cI v0r.call), .d (cI v0r.part), .d (cB v0r.last), .d (cI v0r.trunk), .d (cB v0r.inbound)], .row 25 [.d (cI v1w.earliest), .d (cI v1w.latest)]], []⟩) rfl ?_
  refine .q (x := .d (cI 0)) (q_assign rfl) rfl ?_
  refine .nil ?_
  refine .seq ?_
  refine .seq ?_
  refine .region ?_
  refine .q (x := .ref 0 5) (q_fieldRef fo_23_5 rfl) rfl ?_
  refine .q (x := .d (cI v0r.start)) (q_loadO one_3 rfl rfl rfl) rfl ?_
  refine .q (x := .ref 1 0) (q_fieldRef fo_25_0 rfl) rfl ?_
  refine .q (x := .d (cI v1w.earliest)) (q_loadO one_3 rfl rfl rfl) rfl ?_
  refine .q (x := .d (cB (decide (v0r.start < v1w.earliest)))) (q_lss rfl rfl) rfl ?_
  refine .q (x := .d (cB (decide (v0r.start < v1w.earliest)))) (q_move rfl) rfl ?_
  refine .guardG (b := (!(decide (v0r.start < v1w.earliest)))) (x := .ref 0 5) (env' := [(2, _)]) rfl rfl rfl ⟨.inl rfl, trivial⟩ rfl (fun hg => OpQ.g (q_fieldRef fo_23_5 rfl)) ?_
  refine .guardG (b := (!(decide (v0r.start < v1w.earliest)))) (x := .d (cI v0r.start)) (env' := [(11, _)]) rfl rfl rfl ⟨.inr (.inl rfl), trivial⟩ rfl (fun hg => OpQ.g (q_loadO one_3 rfl rfl rfl)) ?_
  refine .guardG (b := (!(decide (v0r.start < v1w.earliest)))) (x := .ref 1 1) (env' := [(3, _)]) rfl rfl rfl ⟨.inl rfl, trivial⟩ rfl (fun hg => OpQ.g (q_fieldRef fo_25_1 rfl)) ?_
  refine .guardG (b := (!(decide (v0r.start < v1w.earliest)))) (x := .d (cI v1w.latest)) (env' := [(13, _)]) rfl rfl rfl ⟨.inr (.inl rfl), trivial⟩ rfl (fun hg => OpQ.g (q_loadO one_3 rfl rfl rfl)) ?_
  refine .guardG (b := (!(decide (v0r.start < v1w.earliest)))) (x := .d (cB (decide (v0r.start > v1w.latest)))) (env' := [(12, _), (14, _)]) rfl rfl rfl ⟨.inr (.inl rfl), ⟨.inr (.inl rfl), trivial⟩⟩ rfl (fun hg => OpQ.g (q_gtr rfl rfl)) ?_
  refine .q (x := .d (cB ((decide (v0r.start < v1w.earliest)) || (decide (v0r.start > v1w.latest))))) (q_pickOrB rfl rfl rfl) rfl ?_
  refine .nil ?_
  refine .cond rfl (fun hc => ?_) (fun hc => ?_)
  · replace H := ifT hc H; clear hc
    refine .seq ?_
    refine .region ?_
    refine .q (x := .d (cI 15)) (q_assign rfl) rfl ?_
    refine .nil ?_
    refine .retN [.tmp 4] [.d (cI 15)] Tryd.func13 Tryd.results13 ⟨rfl, trivial⟩ ?_
    cases H
    exact ⟨_, .rfl' _, rfl⟩
  · replace H := ifF hc H; clear hc
    refine .skip ?_
    refine .seq ?_
    refine .region ?_
    refine .q (x := .d (cI 0)) (q_assign rfl) rfl ?_
    refine .nil ?_
    refine .retN [.tmp 4] [.d (cI 0)] Tryd.func13 Tryd.results13 ⟨rfl, trivial⟩ ?_
    cases H
    exact ⟨_, .rfl' _, rfl⟩

set_option maxRecDepth 100000 in
set_option maxHeartbeats 1000000 in
theorem c_f_billinglaw13_ValidateChecks {v0r : Record} {v1w : Window} {r : Bool} (H : f_billinglaw13_ValidateChecks v0r v1w = some r) : ACall Tryd.prog 3 [.agg (Record.row v0r), .agg (Window.row v1w)] (· = cB r) := by
  refine ACall.enter' Tryd.func3 rfl Tryd.ntmps3 rfl fun S hS => ?_
  unfold f_billinglaw13_ValidateChecks at H
  change ARun _ _ _ _ _ _ [(0, .d (.agg (Record.row v0r))), (1, .d (.agg (Window.row v1w)))] _
  refine .seq ?_
  refine .region ?_
  refine .v (x := .ref 0 0) (v_box rfl rfl) rfl ?_
  refine .withSt (st' := ⟨[.row 23 [.d (cI v0r.source), .d (cI v0r.serial), .d (cI v0r.kind), .d (cS v0r.a), .d (cS v0r.b), .d (cI v0r.start), .d (cI v0r.units), .d (cI v0r.call), .d (cI v0r.part), .d (cB v0r.last), .d (cI v0r.trunk), .d (cB v0r.inbound)]], []⟩) rfl ?_
  refine .v (x := .ref 1 0) (v_box rfl rfl) rfl ?_
  refine .withSt (st' := ⟨[.row 23 [.d (cI v0r.source), .d (cI v0r.serial), .d (cI v0r.kind), .d (cS v0r.a), .d (cS v0r.b), .d (cI v0r.start), .d (cI v0r.units), .d (cI v0r.call), .d (cI v0r.part), .d (cB v0r.last), .d (cI v0r.trunk), .d (cB v0r.inbound)], .row 25 [.d (cI v1w.earliest), .d (cI v1w.latest)]], []⟩) rfl ?_
  refine .q (x := .d (cB false)) (q_assign rfl) rfl ?_
  refine .nil ?_
  refine .seq ?_
  refine .seq ?_
  refine .region ?_
  refine .q (x := .d (.agg (Record.row v0r))) (q_loadOA one_23 sz_23 rfl rfl (Nat.le_of_ble_eq_true rfl) rfl) rfl ?_
  obtain ⟨y1, hy1, H⟩ := bind_some' H
  refine .g (x := .d (cB y1)) (g_call en_8 rfl rfl (c_f_billinglaw13_short (hy1))) rfl ?_
  refine .q (x := .d (cB (!y1))) (q_not rfl) rfl ?_
  refine .nil ?_
  refine .cond rfl (fun hc => ?_) (fun hc => ?_)
  · replace H := ifT hc H; clear hc
    refine .seq ?_
    refine .region ?_
    obtain ⟨y2, hy2, H⟩ := bind_some' H
    refine .g (x := .d (cB y2)) (g_call en_9 rfl rfl (c_f_billinglaw13_awake (hy2))) rfl ?_
    refine .q (x := .d (cB y2)) (q_assign rfl) rfl ?_
    refine .nil ?_
    refine .retN [.tmp 4] [.d (cB y2)] Tryd.func3 Tryd.results3 ⟨rfl, trivial⟩ ?_
    cases H
    exact ⟨_, .rfl' _, rfl⟩
  · replace H := ifF hc H; clear hc
    refine .skip ?_
    refine .seq ?_
    refine .drawn 13 hMix (by kernel_rfl) ?_
    show DOps _ _ _ _ _ _ _ (_ :: _) _ _ _
    refine .q (x := .d (.agg (Record.row v0r))) (q_loadOA one_23 sz_23 rfl rfl (Nat.le_of_ble_eq_true rfl) rfl) rfl ?_
    obtain ⟨y3, hy3, H⟩ := bind_some' H
    refine .g (x := .d (cI y3)) (g_call en_10 rfl rfl (c_f_validate_Check (hy3))) rfl ?_
    refine .q (x := .d (.agg (Record.row v0r))) (q_loadOA one_23 sz_23 rfl rfl (Nat.le_of_ble_eq_true rfl) rfl) rfl ?_
    obtain ⟨y4, hy4, H⟩ := bind_some' H
    refine .g (x := .d (cI y4)) (g_call en_11 rfl rfl (c_f_billingref13_Check (hy4))) rfl ?_
    refine .q (x := .d (cB (y3 == y4))) (q_eql rfl rfl) rfl ?_
    refine .q (x := .d (cB (y3 == y4))) (q_move rfl) rfl ?_
    refine .guardG (b := (y3 == y4)) (x := .d (.agg (Record.row v0r))) (env' := [(2, _)]) rfl rfl rfl ⟨.inl rfl, trivial⟩ rfl (fun hg => OpQ.g (q_loadOA one_23 sz_23 rfl rfl (Nat.le_of_ble_eq_true rfl) rfl)) ?_
    refine .guardG (b := (y3 == y4)) (x := .d (.agg (Window.row v1w))) (env' := [(3, _)]) rfl rfl rfl ⟨.inl rfl, trivial⟩ rfl (fun hg => OpQ.g (q_loadOA one_25 sz_25 rfl rfl (Nat.le_of_ble_eq_true rfl) rfl)) ?_
    obtain ⟨y5, hy5, H⟩ := bind_some' H
    refine .guardG (b := (y3 == y4)) (x := .d (cI y5)) (env' := [(15, _), (16, _)]) rfl rfl rfl ⟨.inr (.inl rfl), ⟨.inr (.inl rfl), trivial⟩⟩ rfl (fun hg => (g_call en_12 rfl rfl (c_f_validate_Window (gcall_some hy5 hg)))) ?_
    refine .guardG (b := (y3 == y4)) (x := .d (.agg (Record.row v0r))) (env' := [(2, _)]) rfl rfl rfl ⟨.inl rfl, trivial⟩ rfl (fun hg => OpQ.g (q_loadOA one_23 sz_23 rfl rfl (Nat.le_of_ble_eq_true rfl) rfl)) ?_
    refine .guardG (b := (y3 == y4)) (x := .d (.agg (Window.row v1w))) (env' := [(3, _)]) rfl rfl rfl ⟨.inl rfl, trivial⟩ rfl (fun hg => OpQ.g (q_loadOA one_25 sz_25 rfl rfl (Nat.le_of_ble_eq_true rfl) rfl)) ?_
    obtain ⟨y6, hy6, H⟩ := bind_some' H
    refine .guardG (b := (y3 == y4)) (x := .d (cI y6)) (env' := [(18, _), (19, _)]) rfl rfl rfl ⟨.inr (.inl rfl), ⟨.inr (.inl rfl), trivial⟩⟩ rfl (fun hg => (g_call en_13 rfl rfl (c_f_billingref13_Window (gcall_some hy6 hg)))) ?_
    refine .guardG (b := (y3 == y4)) (x := .d (cB (y5 == y6))) (env' := [(17, _), (20, _)]) rfl rfl rfl ⟨.inr (.inl rfl), ⟨.inr (.inl rfl), trivial⟩⟩ rfl (fun hg => OpQ.g (q_eql rfl rfl)) ?_
    refine .nil ?_
    show AOps _ _ _ _ _ _ (_ :: _) _ _ _
    refine .q (x := .d (cB ((y3 == y4) && (y5 == y6)))) (q_pickAndB rfl rfl rfl) rfl ?_
    refine .q (x := .d (cB ((y3 == y4) && (y5 == y6)))) (q_move rfl) rfl ?_
    obtain ⟨y7, hy7, H⟩ := bind_some' H
    refine .guardG (b := ((y3 == y4) && (y5 == y6))) (x := .d (cB y7)) (env' := []) rfl rfl rfl trivial rfl (fun hg => (g_call en_9 rfl rfl (c_f_billinglaw13_awake (gcall_some hy7 hg)))) ?_
    refine .q (x := .d (cB (((y3 == y4) && (y5 == y6)) && y7))) (q_pickAndB rfl rfl rfl) rfl ?_
    refine .q (x := .d (cB (((y3 == y4) && (y5 == y6)) && y7))) (q_assign rfl) rfl ?_
    refine .nil ?_
    refine .retN [.tmp 4] [.d (cB (((y3 == y4) && (y5 == y6)) && y7))] Tryd.func3 Tryd.results3 ⟨rfl, trivial⟩ ?_
    cases H
    exact ⟨_, .rfl' _, rfl⟩

set_option maxRecDepth 100000 in
set_option maxHeartbeats 1000000 in
theorem c_f_billinglaw13_few {v0l : List Record} {r : Bool} (H : f_billinglaw13_few v0l = some r) : ACall Tryd.prog 14 [slOf 12 Record.row v0l] (· = cB r) := by
  obtain ⟨i23, hi23, hz23, hs23, hb23⟩ := in_23
  refine ACall.enter' Tryd.func14 rfl Tryd.ntmps14 rfl fun S hS => ?_
  unfold f_billinglaw13_few at H
  change ARun _ _ _ _ _ _ [(0, .d (slOf 12 Record.row v0l))] _
  refine .seq ?_
  refine .region ?_
  refine .q (x := .d (cB false)) (q_assign rfl) rfl ?_
  refine .nil ?_
  refine .seq ?_
  refine .seq ?_
  refine .region ?_
  refine .q (x := .d (cI 0)) (q_assign rfl) rfl ?_
  refine .nil ?_
  refine .blockJoin2 (ι := Unit) (fun s => [(0, .d (slOf 12 Record.row v0l))]) (fun s => ⟨[], []⟩) (fun s => f_billinglaw13_few_j1 v0l = some r) ?_ ?_
  · rintro _ H
    replace H : f_billinglaw13_few_j1 v0l = some r := H
    unfold f_billinglaw13_few_j1 at H
    change ARun _ _ _ _ _ _ [(0, .d (slOf 12 Record.row v0l))] ⟨[], []⟩
    refine .seq ?_
    refine .region ?_
    refine .q (x := .d (slOf 12 Record.row v0l)) (q_move rfl) rfl ?_
    refine .q (x := .d (cI (v0l.length : Int))) (q_lenL (l := v0l) (row := Record.row) Tryd.underlying32 rfl rfl) rfl ?_
    refine .q (x := .d (cB (decide ((v0l.length : Int) ≤ 60)))) (q_leq rfl rfl) rfl ?_
    refine .q (x := .d (cB (decide ((v0l.length : Int) ≤ 60)))) (q_assign rfl) rfl ?_
    refine .nil ?_
    refine .retN [.tmp 2] [.d (cB (decide ((v0l.length : Int) ≤ 60)))] Tryd.func14 Tryd.results14 ⟨rfl, trivial⟩ ?_
    cases H
    exact ⟨_, .rfl' _, rfl⟩
  · intro hj1 hj1x
    obtain ⟨n1, H⟩ := loop_some H
    refine .loop (ι := Nat × (Int)) (fun p => [(0, .d (slOf 12 Record.row v0l)), (3, .d (cI p.2))]) (fun p => ⟨[], []⟩) (fun p => iter (fun s => f_billinglaw13_few_l1 v0l s) p.1 p.2 = some r) (·.1) (n1, 0) H (.cons rfl (.rfl' _) (.cons rfl (.rfl' _) (.nil))) rfl ?_
    rintro ⟨m1, v3il1⟩ HI ih1
    obtain ⟨n1, q1, hm1, H, HK1⟩ := iter_succ HI
    clear HI
    replace H : f_billinglaw13_few_l1 v0l v3il1 = some q1 := H
    unfold f_billinglaw13_few_l1 at H
    change ARun _ _ _ _ _ _ [(0, .d (slOf 12 Record.row v0l)), (3, .d (cI v3il1))] ⟨[], []⟩
    refine .seq ?_
    refine .seq ?_
    refine .region ?_
    refine .q (x := .d (cI v3il1)) (q_move rfl) rfl ?_
    refine .q (x := .d (slOf 12 Record.row v0l)) (q_move rfl) rfl ?_
    refine .q (x := .d (cI (v0l.length : Int))) (q_lenL (l := v0l) (row := Record.row) Tryd.underlying32 rfl rfl) rfl ?_
    refine .q (x := .d (cB (decide (v3il1 < (v0l.length : Int))))) (q_lss rfl rfl) rfl ?_
    refine .q (x := .d (cB (decide (v3il1 < (v0l.length : Int))))) (q_move rfl) rfl ?_
    refine .guardG (b := decide (v3il1 < (v0l.length : Int))) (x := .d (cI v3il1)) (env' := [(3, _)]) rfl rfl rfl ⟨.inl rfl, trivial⟩ rfl (fun hg => OpQ.g (q_move rfl)) ?_
    refine .guardG (b := decide (v3il1 < (v0l.length : Int))) (x := .d (cB (decide (v3il1 < 61)))) (env' := [(9, _)]) rfl rfl rfl ⟨.inr (.inl rfl), trivial⟩ rfl (fun hg => OpQ.g (q_lss rfl rfl)) ?_
    refine .q (x := .d (cB ((decide (v3il1 < (v0l.length : Int))) && (decide (v3il1 < 61))))) (q_pickAndB rfl rfl rfl) rfl ?_
    refine .nil ?_
    refine .cond rfl (fun hc => ?_) (fun hc => ?_)
    · replace H := ifT hc H; clear hc
      refine .skip ?_
      refine .seq ?_
      refine .block ?_
      refine .seq ?_
      refine .region ?_
      refine .q (x := .d (slOf 12 Record.row v0l)) (q_move rfl) rfl ?_
      refine .q (x := .d (cI v3il1)) (q_move rfl) rfl ?_
      obtain ⟨hk1, H⟩ := ck_some H
      refine .q (x := .d (.ro (Record.row (nth v0l (Int.toNat (v3il1)))))) (q_idxL (row := Record.row) (l := v0l) (i := v3il1) Tryd.underlying32 hi23 hs23 rfl rfl rfl hk1) rfl ?_
      refine .q (x := .d (.agg (Record.row (nth v0l (Int.toNat (v3il1)))))) (q_loadAll one_23 sz_23 rfl rfl) rfl ?_
      obtain ⟨y1, hy1, H⟩ := bind_some' H
      refine .g (x := .d (cB y1)) (g_call en_8 rfl rfl (c_f_billinglaw13_short (hy1))) rfl ?_
      refine .q (x := .d (cB (!y1))) (q_not rfl) rfl ?_
      refine .nil ?_
      refine .cond rfl (fun hc => ?_) (fun hc => ?_)
      · replace H := ifT hc H; clear hc
        refine .seq ?_
        refine .region ?_
        refine .q (x := .d (cB false)) (q_assign rfl) rfl ?_
        refine .nil ?_
        refine .retN [.tmp 2] [.d (cB false)] Tryd.func14 Tryd.results14 ⟨rfl, trivial⟩ ?_
        cases H
        cases HK1
        exact ⟨_, .rfl' _, rfl⟩
      · replace H := ifF hc H; clear hc
        refine .skip ?_
        refine .inBlock ?_
        refine .region ?_
        refine .q (x := .d (cI v3il1)) (q_move rfl) rfl ?_
        obtain ⟨hk2, H⟩ := ck_some H
        refine .q (x := .d (cI (v3il1 + 1))) (q_addI rfl rfl hk2.1 hk2.2) rfl ?_
        refine .q (x := .d (cI (v3il1 + 1))) (q_assign rfl) rfl ?_
        refine .nil ?_
        cases H
        exact .sub (.cons rfl (.rfl' _) (.cons rfl (.rfl' _) (.nil))) (ih1 (n1, (v3il1 + 1)) HK1 hm1)
    · replace H := ifF hc H; clear hc
      refine .exit rfl ?_
      obtain ⟨q0, H9, hq0⟩ := map_some' H; clear H; cases hq0
      cases HK1
      have H := H9
      exact .sub (.cons rfl (.rfl' _) (.nil)) (hj1x () H)

set_option maxRecDepth 100000 in
set_option maxHeartbeats 1000000 in
theorem c_f_billingref13_All {v0records : List Record} {v1w : Window} {r : (List Record) × (List Reject)} (H : f_billingref13_All v0records v1w = some r) : ACall Tryd.prog 16 [slOf 12 Record.row v0records, .agg (Window.row v1w)] (· = .tup [slOf 12 Record.row r.1, slOf 4 Reject.row r.2]) := by
  obtain ⟨i23, hi23, hz23, hs23, hb23⟩ := in_23
  obtain ⟨i44, hi44, hz44, hs44, hb44⟩ := in_44
  refine ACall.enter' Tryd.func16 rfl Tryd.ntmps16 rfl fun S hS => ?_
  unfold f_billingref13_All at H
  change ARun _ _ _ _ _ _ [(0, .d (slOf 12 Record.row v0records)), (1, .d (.agg (Window.row v1w)))] _
  refine .seq ?_
  refine .region ?_
  refine .v (x := .ref 0 0) (v_box rfl rfl) rfl ?_
  refine .withSt (st' := ⟨[.row 25 [.d (cI v1w.earliest), .d (cI v1w.latest)]], []⟩) rfl ?_
  refine .q (x := .d (nilD)) (q_assign rfl) rfl ?_
  refine .q (x := .d (nilD)) (q_assign rfl) rfl ?_
  refine .nil ?_
  refine .seq ?_
  refine .region ?_
  refine .q (x := .d (nilD)) (q_assign rfl) rfl ?_
  refine .nil ?_
  refine .seq ?_
  refine .region ?_
  refine .q (x := .d (nilD)) (q_assign rfl) rfl ?_
  refine .nil ?_
  refine .seq ?_
  refine .seq ?_
  refine .region ?_
  refine .q (x := .d (cI 0)) (q_assign rfl) rfl ?_
  refine .nil ?_
  refine .block ?_
  refine .tok (i := 6) (e := 23) (sz := 12) rfl ?_
  refine .withSt (st' := ⟨[.row 25 [.d (cI v1w.earliest), .d (cI v1w.latest)]], [⟨23, 12, ([] : List Record).length⟩]⟩) rfl ?_
  refine .tok (i := 7) (e := 44) (sz := 4) rfl ?_
  refine .withSt (st' := ⟨[.row 25 [.d (cI v1w.earliest), .d (cI v1w.latest)]], [⟨23, 12, ([] : List Record).length⟩, ⟨44, 4, ([] : List Reject).length⟩]⟩) rfl ?_
  obtain ⟨n1, H⟩ := loop_some H
  refine .withSt (st' := ⟨[.row 25 [.d (cI v1w.earliest), .d (cI v1w.latest)]], [⟨23, 12, ([] : List Record).length⟩, ⟨44, 4, ([] : List Reject).length⟩]⟩) rfl <| .loop (ι := Nat × (List Record × List Reject × Int)) (fun p => [(0, .d (slOf 12 Record.row v0records)), (3, .ref 0 0), (6, .tsl 12 (p.2.1.map Record.row) 0), (7, .tsl 4 (p.2.2.1.map Reject.row) 1), (8, .d (cI p.2.2.2))]) (fun p => ⟨[.row 25 [.d (cI v1w.earliest), .d (cI v1w.latest)]], [⟨23, 12, p.2.1.length⟩, ⟨44, 4, p.2.2.1.length⟩]⟩) (fun p => iter (fun s => f_billingref13_All_l1 v0records v1w s.1 s.2.1 s.2.2) p.1 p.2 = some r) (·.1) (n1, (([] : List Record), ([] : List Reject), 0)) H (.cons rfl (.rfl' _) (.cons rfl (.rfl' _) (.cons rfl (.rfl' _) (.cons rfl (.rfl' _) (.cons rfl (.rfl' _) (.nil)))))) rfl ?_
  rintro ⟨m1, v6outl1, v7nol1, v8il1⟩ HI ih1
  obtain ⟨n1, q1, hm1, H, HK1⟩ := iter_succ HI
  clear HI
  replace H : f_billingref13_All_l1 v0records v1w v6outl1 v7nol1 v8il1 = some q1 := H
  unfold f_billingref13_All_l1 at H
  change ARun _ _ _ _ _ _ [(0, .d (slOf 12 Record.row v0records)), (3, .ref 0 0), (6, .tsl 12 (v6outl1.map Record.row) 0), (7, .tsl 4 (v7nol1.map Reject.row) 1), (8, .d (cI v8il1))] ⟨[.row 25 [.d (cI v1w.earliest), .d (cI v1w.latest)]], [⟨23, 12, v6outl1.length⟩, ⟨44, 4, v7nol1.length⟩]⟩
  refine .seq ?_
  refine .seq ?_
  refine .region ?_
  refine .q (x := .d (cI v8il1)) (q_move rfl) rfl ?_
  refine .q (x := .d (slOf 12 Record.row v0records)) (q_move rfl) rfl ?_
  refine .q (x := .d (cI (v0records.length : Int))) (q_lenL (l := v0records) (row := Record.row) Tryd.underlying32 rfl rfl) rfl ?_
  refine .q (x := .d (cB (decide (v8il1 < (v0records.length : Int))))) (q_lss rfl rfl) rfl ?_
  refine .nil ?_
  refine .cond rfl (fun hc => ?_) (fun hc => ?_)
  · replace H := ifT hc H; clear hc
    refine .skip ?_
    refine .seq ?_
    refine .block ?_
    refine .seq ?_
    refine .region ?_
    refine .q (x := .d (slOf 12 Record.row v0records)) (q_move rfl) rfl ?_
    refine .q (x := .d (cI v8il1)) (q_move rfl) rfl ?_
    obtain ⟨hk1, H⟩ := ck_some H
    refine .q (x := .d (.ro (Record.row (nth v0records (Int.toNat (v8il1)))))) (q_idxL (row := Record.row) (l := v0records) (i := v8il1) Tryd.underlying32 hi23 hs23 rfl rfl rfl hk1) rfl ?_
    refine .q (x := .d (.agg (Record.row (nth v0records (Int.toNat (v8il1)))))) (q_loadAll one_23 sz_23 rfl rfl) rfl ?_
    refine .v (x := .ref 1 0) (v_alloc zr_23 rfl) rfl ?_
    refine .withSt (st' := ⟨[.row 25 [.d (cI v1w.earliest), .d (cI v1w.latest)], .row 23 [.d (cI 0), .d (cI 0), .d (cI 0), .d (cS ([] : List UInt8)), .d (cS ([] : List UInt8)), .d (cI 0), .d (cI 0), .d (cI 0), .d (cI 0), .d (cB false), .d (cI 0), .d (cB false)]], [⟨23, 12, v6outl1.length⟩, ⟨44, 4, v7nol1.length⟩]⟩) rfl ?_
    refine .u (u_store rfl rfl rfl rfl (Nat.le_of_ble_eq_true rfl) sz_23) rfl ?_
    refine .withSt (st' := ⟨[.row 25 [.d (cI v1w.earliest), .d (cI v1w.latest)], .row 23 [.d (cI ((nth v0records (Int.toNat (v8il1))).source)), .d (cI ((nth v0records (Int.toNat (v8il1))).serial)), .d (cI ((nth v0records (Int.toNat (v8il1))).kind)), .d (cS ((nth v0records (Int.toNat (v8il1))).a)), .d (cS ((nth v0records (Int.toNat (v8il1))).b)), .d (cI ((nth v0records (Int.toNat (v8il1))).start)), .d (cI ((nth v0records (Int.toNat (v8il1))).units)), .d (cI ((nth v0records (Int.toNat (v8il1))).call)), .d (cI ((nth v0records (Int.toNat (v8il1))).part)), .d (cB ((nth v0records (Int.toNat (v8il1))).last)), .d (cI ((nth v0records (Int.toNat (v8il1))).trunk)), .d (cB ((nth v0records (Int.toNat (v8il1))).inbound))]], [⟨23, 12, v6outl1.length⟩, ⟨44, 4, v7nol1.length⟩]⟩) rfl ?_
    refine .nil ?_
    refine .seq ?_
    refine .region ?_
    refine .q (x := .d (.agg (Record.row (nth v0records (Int.toNat (v8il1)))))) (q_loadOA one_23 sz_23 rfl rfl (Nat.le_of_ble_eq_true rfl) rfl) rfl ?_
    obtain ⟨y1, hy1, H⟩ := bind_some' H
    refine .g (x := .d (cI y1)) (g_call en_11 rfl rfl (c_f_billingref13_Check (hy1))) rfl ?_
    refine .q (x := .d (cI y1)) (q_assign rfl) rfl ?_
    refine .nil ?_
    refine .seqJoin (ι := Int) (fun s => [(0, .d (slOf 12 Record.row v0records)), (3, .ref 0 0), (6, .tsl 12 (v6outl1.map Record.row) 0), (7, .tsl 4 (v7nol1.map Reject.row) 1), (8, .d (cI v8il1)), (9, .ref 1 0), (10, .d (cI s))]) (fun s => ⟨[.row 25 [.d (cI v1w.earliest), .d (cI v1w.latest)], .row 23 [.d (cI ((nth v0records (Int.toNat (v8il1))).source)), .d (cI ((nth v0records (Int.toNat (v8il1))).serial)), .d (cI ((nth v0records (Int.toNat (v8il1))).kind)), .d (cS ((nth v0records (Int.toNat (v8il1))).a)), .d (cS ((nth v0records (Int.toNat (v8il1))).b)), .d (cI ((nth v0records (Int.toNat (v8il1))).start)), .d (cI ((nth v0records (Int.toNat (v8il1))).units)), .d (cI ((nth v0records (Int.toNat (v8il1))).call)), .d (cI ((nth v0records (Int.toNat (v8il1))).part)), .d (cB ((nth v0records (Int.toNat (v8il1))).last)), .d (cI ((nth v0records (Int.toNat (v8il1))).trunk)), .d (cB ((nth v0records (Int.toNat (v8il1))).inbound))]], [⟨23, 12, v6outl1.length⟩, ⟨44, 4, v7nol1.length⟩]⟩) (fun s => f_billingref13_All_j1 v0records v6outl1 v7nol1 v8il1 s = some q1) ?_ ?_
    · rintro v10ej1 H
      replace H : f_billingref13_All_j1 v0records v6outl1 v7nol1 v8il1 v10ej1 = some q1 := H
      unfold f_billingref13_All_j1 at H
      change ARun _ _ _ _ _ _ [(0, .d (slOf 12 Record.row v0records)), (3, .ref 0 0), (6, .tsl 12 (v6outl1.map Record.row) 0), (7, .tsl 4 (v7nol1.map Reject.row) 1), (8, .d (cI v8il1)), (9, .ref 1 0), (10, .d (cI v10ej1))] ⟨[.row 25 [.d (cI v1w.earliest), .d (cI v1w.latest)], .row 23 [.d (cI ((nth v0records (Int.toNat (v8il1))).source)), .d (cI ((nth v0records (Int.toNat (v8il1))).serial)), .d (cI ((nth v0records (Int.toNat (v8il1))).kind)), .d (cS ((nth v0records (Int.toNat (v8il1))).a)), .d (cS ((nth v0records (Int.toNat (v8il1))).b)), .d (cI ((nth v0records (Int.toNat (v8il1))).start)), .d (cI ((nth v0records (Int.toNat (v8il1))).units)), .d (cI ((nth v0records (Int.toNat (v8il1))).call)), .d (cI ((nth v0records (Int.toNat (v8il1))).part)), .d (cB ((nth v0records (Int.toNat (v8il1))).last)), .d (cI ((nth v0records (Int.toNat (v8il1))).trunk)), .d (cB ((nth v0records (Int.toNat (v8il1))).inbound))]], [⟨23, 12, v6outl1.length⟩, ⟨44, 4, v7nol1.length⟩]⟩
      refine .seq ?_
      refine .region ?_
      refine .q (x := .d (cI v10ej1)) (q_move rfl) rfl ?_
      refine .q (x := .d (cB (v10ej1 == 0))) (q_eql rfl rfl) rfl ?_
      refine .nil ?_
      refine .cond rfl (fun hc => ?_) (fun hc => ?_)
      · replace H := ifT hc H; clear hc
        refine .region ?_
        refine .q (x := .tsl 12 (v6outl1.map Record.row) 0) (q_move rfl) rfl ?_
        refine .q (x := .d (.agg (Record.row (nth v0records (Int.toNat (v8il1)))))) (q_loadOA one_23 sz_23 rfl rfl (Nat.le_of_ble_eq_true rfl) rfl) rfl ?_
        refine .g (x := .d (slOf 12 Record.row ([nth v0records (Int.toNat (v8il1))]))) (g_buildSlice1 Tryd.underlying32 hi23 hs23 hz23 rfl rfl rfl rfl rfl) rfl ?_
        obtain ⟨hk2, H⟩ := ck_some H
        refine .v (x := .tsl 12 ((v6outl1 ++ ([nth v0records (Int.toNat (v8il1))])).map Record.row) 0) (v_appendL (l := v6outl1) (l' := [nth v0records (Int.toNat (v8il1))]) (row := Record.row) Tryd.underlying32 hi23 hz23 hs23 rfl (by rw [hb23]; decide) rfl rfl rfl rfl hk2) rfl ?_
        refine .withSt (st' := ⟨[.row 25 [.d (cI v1w.earliest), .d (cI v1w.latest)], .row 23 [.d (cI ((nth v0records (Int.toNat (v8il1))).source)), .d (cI ((nth v0records (Int.toNat (v8il1))).serial)), .d (cI ((nth v0records (Int.toNat (v8il1))).kind)), .d (cS ((nth v0records (Int.toNat (v8il1))).a)), .d (cS ((nth v0records (Int.toNat (v8il1))).b)), .d (cI ((nth v0records (Int.toNat (v8il1))).start)), .d (cI ((nth v0records (Int.toNat (v8il1))).units)), .d (cI ((nth v0records (Int.toNat (v8il1))).call)), .d (cI ((nth v0records (Int.toNat (v8il1))).part)), .d (cB ((nth v0records (Int.toNat (v8il1))).last)), .d (cI ((nth v0records (Int.toNat (v8il1))).trunk)), .d (cB ((nth v0records (Int.toNat (v8il1))).inbound))]], [⟨23, 12, (v6outl1 ++ ([nth v0records (Int.toNat (v8il1))])).length⟩, ⟨44, 4, v7nol1.length⟩]⟩) rfl ?_
        refine .q (x := .tsl 12 ((v6outl1 ++ ([nth v0records (Int.toNat (v8il1))])).map Record.row) 0) (q_assign rfl) rfl ?_
        refine .nil ?_
        refine .inBlock ?_
        refine .region ?_
        refine .q (x := .d (cI v8il1)) (q_move rfl) rfl ?_
        obtain ⟨hk3, H⟩ := ck_some H
        refine .q (x := .d (cI (v8il1 + 1))) (q_addI rfl rfl hk3.1 hk3.2) rfl ?_
        refine .q (x := .d (cI (v8il1 + 1))) (q_assign rfl) rfl ?_
        refine .nil ?_
        cases H
        exact .to 1 2 (env' := [(0, .d (slOf 12 Record.row v0records)), (3, .ref 0 0), (6, .tsl 12 ((v6outl1 ++ ([nth v0records (Int.toNat (v8il1))])).map Record.row) 0), (7, .tsl 4 (v7nol1.map Reject.row) 1), (8, .d (cI (v8il1 + 1)))]) (st' := ⟨[.row 25 [.d (cI v1w.earliest), .d (cI v1w.latest)]], [⟨23, 12, (v6outl1 ++ ([nth v0records (Int.toNat (v8il1))])).length⟩, ⟨44, 4, v7nol1.length⟩]⟩) (.cons rfl (.rfl' _) (.cons rfl (.rfl' _) (.cons rfl (.rfl' _) (.cons rfl (.rfl' _) (.cons rfl (.rfl' _) (.nil)))))) rfl rfl rfl rfl rfl (by rw [hS]; exact Nat.zero_le _) (by rw [hS]; exact Nat.zero_le _) <| .sub (.cons rfl (.rfl' _) (.cons rfl (.rfl' _) (.cons rfl (.rfl' _) (.cons rfl (.rfl' _) (.cons rfl (.rfl' _) (.nil)))))) (ih1 (n1, (v6outl1 ++ ([nth v0records (Int.toNat (v8il1))]), v7nol1, v8il1 + 1)) HK1 hm1)
      · replace H := ifF hc H; clear hc
        refine .region ?_
        refine .q (x := .tsl 4 (v7nol1.map Reject.row) 1) (q_move rfl) rfl ?_
        refine .q (x := .ref 1 0) (q_fieldRef fo_23_0 rfl) rfl ?_
        refine .q (x := .d (cI ((nth v0records (Int.toNat (v8il1))).source))) (q_loadO one_3 rfl rfl rfl) rfl ?_
        refine .q (x := .ref 1 1) (q_fieldRef fo_23_1 rfl) rfl ?_
        refine .q (x := .d (cI ((nth v0records (Int.toNat (v8il1))).serial))) (q_loadO one_3 rfl rfl rfl) rfl ?_
        refine .q (x := .d (cI v8il1)) (q_move rfl) rfl ?_
        refine .q (x := .d (cI v10ej1)) (q_move rfl) rfl ?_
        refine .q (x := .d (.agg (Reject.row (⟨(nth v0records (Int.toNat (v8il1))).source, (nth v0records (Int.toNat (v8il1))).serial, v8il1, v10ej1⟩ : Reject)))) (q_buildP pl_44 hi44 hz44 rfl rfl) rfl ?_
        refine .g (x := .d (slOf 4 Reject.row ([(⟨(nth v0records (Int.toNat (v8il1))).source, (nth v0records (Int.toNat (v8il1))).serial, v8il1, v10ej1⟩ : Reject)]))) (g_buildSlice1 Tryd.underlying34 hi44 hs44 hz44 rfl rfl rfl rfl rfl) rfl ?_
        obtain ⟨hk4, H⟩ := ck_some H
        refine .v (x := .tsl 4 ((v7nol1 ++ ([(⟨(nth v0records (Int.toNat (v8il1))).source, (nth v0records (Int.toNat (v8il1))).serial, v8il1, v10ej1⟩ : Reject)])).map Reject.row) 1) (v_appendL (l := v7nol1) (l' := [(⟨(nth v0records (Int.toNat (v8il1))).source, (nth v0records (Int.toNat (v8il1))).serial, v8il1, v10ej1⟩ : Reject)]) (row := Reject.row) Tryd.underlying34 hi44 hz44 hs44 rfl (by rw [hb44]; decide) rfl rfl rfl rfl hk4) rfl ?_
        refine .withSt (st' := ⟨[.row 25 [.d (cI v1w.earliest), .d (cI v1w.latest)], .row 23 [.d (cI ((nth v0records (Int.toNat (v8il1))).source)), .d (cI ((nth v0records (Int.toNat (v8il1))).serial)), .d (cI ((nth v0records (Int.toNat (v8il1))).kind)), .d (cS ((nth v0records (Int.toNat (v8il1))).a)), .d (cS ((nth v0records (Int.toNat (v8il1))).b)), .d (cI ((nth v0records (Int.toNat (v8il1))).start)), .d (cI ((nth v0records (Int.toNat (v8il1))).units)), .d (cI ((nth v0records (Int.toNat (v8il1))).call)), .d (cI ((nth v0records (Int.toNat (v8il1))).part)), .d (cB ((nth v0records (Int.toNat (v8il1))).last)), .d (cI ((nth v0records (Int.toNat (v8il1))).trunk)), .d (cB ((nth v0records (Int.toNat (v8il1))).inbound))]], [⟨23, 12, v6outl1.length⟩, ⟨44, 4, (v7nol1 ++ ([(⟨(nth v0records (Int.toNat (v8il1))).source, (nth v0records (Int.toNat (v8il1))).serial, v8il1, v10ej1⟩ : Reject)])).length⟩]⟩) rfl ?_
        refine .q (x := .tsl 4 ((v7nol1 ++ ([(⟨(nth v0records (Int.toNat (v8il1))).source, (nth v0records (Int.toNat (v8il1))).serial, v8il1, v10ej1⟩ : Reject)])).map Reject.row) 1) (q_assign rfl) rfl ?_
        refine .nil ?_
        refine .inBlock ?_
        refine .region ?_
        refine .q (x := .d (cI v8il1)) (q_move rfl) rfl ?_
        obtain ⟨hk5, H⟩ := ck_some H
        refine .q (x := .d (cI (v8il1 + 1))) (q_addI rfl rfl hk5.1 hk5.2) rfl ?_
        refine .q (x := .d (cI (v8il1 + 1))) (q_assign rfl) rfl ?_
        refine .nil ?_
        cases H
        exact .to 1 2 (env' := [(0, .d (slOf 12 Record.row v0records)), (3, .ref 0 0), (6, .tsl 12 (v6outl1.map Record.row) 0), (7, .tsl 4 ((v7nol1 ++ ([(⟨(nth v0records (Int.toNat (v8il1))).source, (nth v0records (Int.toNat (v8il1))).serial, v8il1, v10ej1⟩ : Reject)])).map Reject.row) 1), (8, .d (cI (v8il1 + 1)))]) (st' := ⟨[.row 25 [.d (cI v1w.earliest), .d (cI v1w.latest)]], [⟨23, 12, v6outl1.length⟩, ⟨44, 4, (v7nol1 ++ ([(⟨(nth v0records (Int.toNat (v8il1))).source, (nth v0records (Int.toNat (v8il1))).serial, v8il1, v10ej1⟩ : Reject)])).length⟩]⟩) (.cons rfl (.rfl' _) (.cons rfl (.rfl' _) (.cons rfl (.rfl' _) (.cons rfl (.rfl' _) (.cons rfl (.rfl' _) (.nil)))))) rfl rfl rfl rfl rfl (by rw [hS]; exact Nat.zero_le _) (by rw [hS]; exact Nat.zero_le _) <| .sub (.cons rfl (.rfl' _) (.cons rfl (.rfl' _) (.cons rfl (.rfl' _) (.cons rfl (.rfl' _) (.cons rfl (.rfl' _) (.nil)))))) (ih1 (n1, (v6outl1, v7nol1 ++ ([(⟨(nth v0records (Int.toNat (v8il1))).source, (nth v0records (Int.toNat (v8il1))).serial, v8il1, v10ej1⟩ : Reject)]), v8il1 + 1)) HK1 hm1)
    · intro hj1
      refine .seq ?_
      refine .region ?_
      refine .q (x := .d (cI y1)) (q_move rfl) rfl ?_
      refine .q (x := .d (cB (y1 == 0))) (q_eql rfl rfl) rfl ?_
      refine .nil ?_
      refine .cond rfl (fun hc => ?_) (fun hc => ?_)
      · replace H := ifT hc H; clear hc
        refine .region ?_
        refine .q (x := .d (.agg (Record.row (nth v0records (Int.toNat (v8il1)))))) (q_loadOA one_23 sz_23 rfl rfl (Nat.le_of_ble_eq_true rfl) rfl) rfl ?_
        refine .q (x := .d (.agg (Window.row v1w))) (q_loadOA one_25 sz_25 rfl rfl (Nat.le_of_ble_eq_true rfl) rfl) rfl ?_
        obtain ⟨y2, hy2, H⟩ := bind_some' H
        refine .g (x := .d (cI y2)) (g_call en_13 rfl rfl (c_f_billingref13_Window (hy2))) rfl ?_
        refine .q (x := .d (cI y2)) (q_assign rfl) rfl ?_
        refine .nil ?_
        exact .sub (.cons rfl (.rfl' _) (.cons rfl (.rfl' _) (.cons rfl (.rfl' _) (.cons rfl (.rfl' _) (.cons rfl (.rfl' _) (.cons rfl (.rfl' _) (.cons rfl (.rfl' _) (.nil)))))))) (hj1 y2 H)
      · replace H := ifF hc H; clear hc
        refine .skip ?_
        exact .sub (.cons rfl (.rfl' _) (.cons rfl (.rfl' _) (.cons rfl (.rfl' _) (.cons rfl (.rfl' _) (.cons rfl (.rfl' _) (.cons rfl (.rfl' _) (.cons rfl (.rfl' _) (.nil)))))))) (hj1 y1 H)
  · replace H := ifF hc H; clear hc
    refine .exit rfl ?_
    refine .seq ?_
    refine .region ?_
    refine .q (x := .tsl 12 (v6outl1.map Record.row) 0) (q_move rfl) rfl ?_
    refine .q (x := .tsl 4 (v7nol1.map Reject.row) 1) (q_move rfl) rfl ?_
    refine .q (x := .tsl 12 (v6outl1.map Record.row) 0) (q_assign rfl) rfl ?_
    refine .q (x := .tsl 4 (v7nol1.map Reject.row) 1) (q_assign rfl) rfl ?_
    refine .nil ?_
    refine .retN [.tmp 4, .tmp 5] [.tsl 12 (v6outl1.map Record.row) 0, .tsl 4 (v7nol1.map Reject.row) 1] Tryd.func16 Tryd.results16 ⟨rfl, rfl, trivial⟩ ?_
    cases H
    cases HK1
    exact ⟨_, EVle.tupL (ds := [slOf 12 Record.row v6outl1, slOf 4 Reject.row v7nol1]) ⟨.tsl _ _ _, .tsl _ _ _, trivial⟩, rfl⟩

end Go.Proofs.YtalecnjpdjdlgaaDoor
