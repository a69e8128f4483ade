import Derived.Test.YtpdanklncjopoabLTys
import Derived.Test.YtpdanklncjopoabLF
import Derived.Test.YtpdanklncjopoabW9
set_option linter.unusedSimpArgs false
set_option linter.unusedVariables false
namespace Go.Proofs.Ytpdanklncjopoab.L
open Go.RowKit Go.Abs
theorem c_x_Same {a b : List Leak} {r : Bool} (H : x_Same a b = some r) : ACall Try.prog 6 [slOf 4 Leak.row a, slOf 4 Leak.row b] (· = cB r) := by
  obtain ⟨h, H⟩ := ck_some H; cases H; exact c_Same a b h.1 h.2
theorem c_x_awake {r : Bool} (H : x_awake = some r) : ACall Try.prog 5 [] (· = cB r) := by
  cases H; exact c_awake
set_option maxRecDepth 100000 in
set_option maxHeartbeats 1000000 in
theorem c_f_billingref01_Valid {v0a : Int} {r : Bool} (H : f_billingref01_Valid v0a = some r) : ACall Try.prog 16 [cI v0a] (· = cB r) := by
  refine ACall.enter' Try.func16 rfl Try.ntmps16 rfl fun S hS => ?_
  unfold f_billingref01_Valid at H
  change ARun _ _ _ _ _ _ [(0, .d (cI v0a))] _
  refine .seq ?_
  refine .region ?_
  refine .q (x := .d (cB false)) (q_assign rfl) rfl ?_
  refine .nil ?_
  refine .seq ?_
  refine .region ?_
  refine .q (x := .d (cI v0a)) (q_move rfl) rfl ?_
  refine .q (x := .d (cB (decide (v0a ≥ (-1125899906842624))))) (q_geq rfl rfl) rfl ?_
  refine .q (x := .d (cB (decide (v0a ≥ (-1125899906842624))))) (q_move rfl) rfl ?_
  refine .guardG (b := decide (v0a ≥ (-1125899906842624))) (x := .d (cI v0a)) (env' := [(0, _)]) rfl rfl rfl ⟨.inl rfl, trivial⟩ rfl (fun hg => OpQ.g (q_move rfl)) ?_
  refine .guardG (b := decide (v0a ≥ (-1125899906842624))) (x := .d (cB (decide (v0a ≤ 1125899906842624)))) (env' := [(6, _)]) rfl rfl rfl ⟨.inr (.inl rfl), trivial⟩ rfl (fun hg => OpQ.g (q_leq rfl rfl)) ?_
  refine .q (x := .d (cB ((decide (v0a ≥ (-1125899906842624))) && (decide (v0a ≤ 1125899906842624))))) (q_pickAndB rfl rfl rfl) rfl ?_
  refine .q (x := .d (cB ((decide (v0a ≥ (-1125899906842624))) && (decide (v0a ≤ 1125899906842624))))) (q_assign rfl) rfl ?_
  refine .nil ?_
  refine .retN [.tmp 2] [.d (cB ((decide (v0a ≥ (-1125899906842624))) && (decide (v0a ≤ 1125899906842624))))] Try.func16 Try.results16 ⟨rfl, trivial⟩ ?_
  cases H
  exact ⟨_, .rfl' _, rfl⟩

set_option maxRecDepth 100000 in
set_option maxHeartbeats 1000000 in
theorem c_f_billingref54_amount {v0n : Int} {r : Bool} (H : f_billingref54_amount v0n = some r) : ACall Try.prog 9 [cI v0n] (· = cB r) := by
  refine ACall.enter' Try.func9 rfl Try.ntmps9 rfl fun S hS => ?_
  unfold f_billingref54_amount at H
  change ARun _ _ _ _ _ _ [(0, .d (cI v0n))] _
  refine .seq ?_
  refine .region ?_
  refine .q (x := .d (cB false)) (q_assign rfl) rfl ?_
  refine .nil ?_
  refine .seq ?_
  refine .region ?_
  refine .q (x := .d (cI v0n)) (q_move rfl) rfl ?_
  obtain ⟨y1, hy1, H⟩ := bind_some' H
  refine .g (x := .d (cB y1)) (g_call en_16 rfl rfl (c_f_billingref01_Valid (hy1))) rfl ?_
  refine .q (x := .d (cB y1)) (q_assign rfl) rfl ?_
  refine .nil ?_
  refine .retN [.tmp 2] [.d (cB y1)] Try.func9 Try.results9 ⟨rfl, trivial⟩ ?_
  cases H
  exact ⟨_, .rfl' _, rfl⟩

set_option maxRecDepth 100000 in
set_option maxHeartbeats 1000000 in
theorem c_f_billingref54_Rated {v0 : List Rated} {v1 : Int} {r : Bool} (H : f_billingref54_Rated v0 v1 = some r) : ACall Try.prog 4 [slOf 24 Rated.row v0, cI v1] (· = cB r) := by
  obtain ⟨i36, hi36, hz36, hs36, hb36⟩ := in_36
  obtain ⟨i39, hi39, hz39, hs39, hb39⟩ := in_39
  obtain ⟨i41, hi41, hz41, hs41, hb41⟩ := in_41
  obtain ⟨i43, hi43, hz43, hs43, hb43⟩ := in_43
  refine ACall.enter' Try.func4 rfl Try.ntmps4 rfl fun S hS => ?_
  unfold f_billingref54_Rated at H
  change ARun _ _ _ _ _ _ [(0, .d (slOf 24 Rated.row v0)), (1, .d (cI v1))] _
  refine .seq ?_
  refine .region ?_
  refine .q (x := .d (cB false)) (q_assign rfl) rfl ?_
  refine .nil ?_
  refine .seq ?_
  refine .seq ?_
  refine .region ?_
  refine .q (x := .d (slOf 24 Rated.row v0)) (q_move rfl) rfl ?_
  refine .q (x := .d (cI (v0.length : Int))) (q_lenL (l := v0) (row := Rated.row) Try.underlying22 rfl rfl) rfl ?_
  refine .q (x := .d (cI v1)) (q_move rfl) rfl ?_
  refine .q (x := .d (cB (decide ((v0.length : Int) > v1)))) (q_gtr rfl rfl) rfl ?_
  refine .nil ?_
  refine .cond rfl (fun hc => ?_) (fun hc => ?_)
  · replace H := ifT hc H; clear hc
    refine .seq ?_
    refine .region ?_
    refine .q (x := .d (cB false)) (q_assign rfl) rfl ?_
    refine .nil ?_
    refine .retN [.tmp 4] [.d (cB false)] Try.func4 Try.results4 ⟨rfl, trivial⟩ ?_
    cases H
    exact ⟨_, .rfl' _, rfl⟩
  · replace H := ifF hc H; clear hc
    refine .skip ?_
    refine .seq ?_
    refine .seq ?_
    refine .region ?_
    refine .q (x := .d (cI 0)) (q_assign rfl) rfl ?_
    refine .nil ?_
    refine .block ?_
    obtain ⟨n1, H⟩ := loop_some H
    refine .loop (ι := Nat × (Int)) (fun p => [(0, .d (slOf 24 Rated.row v0)), (1, .d (cI v1)), (5, .d (cI p.2))]) (fun p => ⟨[], []⟩) (fun p => iter (fun s => f_billingref54_Rated_l1 v0 v1 s) p.1 p.2 = some r) (·.1) (n1, 0) H (.cons rfl (.rfl' _) (.cons rfl (.rfl' _) (.cons rfl (.rfl' _) (.nil)))) rfl ?_
    rintro ⟨m1, v5l1⟩ HI ih1
    obtain ⟨n1, q1, hm1, H, HK1⟩ := iter_succ HI
    clear HI
    replace H : f_billingref54_Rated_l1 v0 v1 v5l1 = some q1 := H
    unfold f_billingref54_Rated_l1 at H
    change ARun _ _ _ _ _ _ [(0, .d (slOf 24 Rated.row v0)), (1, .d (cI v1)), (5, .d (cI v5l1))] ⟨[], []⟩
    refine .seq ?_
    refine .seq ?_
    refine .region ?_
    refine .q (x := .d (cI v5l1)) (q_move rfl) rfl ?_
    refine .q (x := .d (slOf 24 Rated.row v0)) (q_move rfl) rfl ?_
    refine .q (x := .d (cI (v0.length : Int))) (q_lenL (l := v0) (row := Rated.row) Try.underlying22 rfl rfl) rfl ?_
    refine .q (x := .d (cB (decide (v5l1 < (v0.length : Int))))) (q_lss rfl rfl) rfl ?_
    refine .nil ?_
    refine .cond rfl (fun hc => ?_) (fun hc => ?_)
    · replace H := ifT hc H; clear hc
      refine .skip ?_
      refine .seq ?_
      refine .block ?_
      refine .seq ?_
      refine .region ?_
      refine .q (x := .d (slOf 24 Rated.row v0)) (q_move rfl) rfl ?_
      refine .q (x := .d (cI v5l1)) (q_move rfl) rfl ?_
      obtain ⟨hk1, H⟩ := ck_some H
      refine .q (x := .d (.ro (Rated.row (nth v0 (Int.toNat (v5l1)))))) (q_idxL (row := Rated.row) (l := v0) (i := v5l1) Try.underlying22 hi36 hs36 rfl rfl rfl hk1) rfl ?_
      refine .q (x := .d (.agg (Rated.row (nth v0 (Int.toNat (v5l1)))))) (q_loadAll one_36 sz_36 rfl rfl) rfl ?_
      refine .v (x := .ref 0 0) (v_alloc zr_36 rfl) rfl ?_
      refine .withSt (st' := ⟨[.row 36 [.d (cI 0), .d (cI 0), .d (cI 0), .d (cI 0), .d (cS ([] : List UInt8)), .d (cS ([] : List UInt8)), .d (cI 0), .d (cI 0), .d (cI 0), .d (cB false), .d (cI 0), .d (cI 0), .d (cI 0), .d (cS ([] : List UInt8)), .d (cI 0), .d (cS ([] : List UInt8)), .d (nilD), .d (nilD), .d (cI 0), .d (cI 0), .d (cI 0), .d (nilD), .d (cI 0), .d (cI 0)]], []⟩) rfl ?_
      refine .u (u_store rfl rfl rfl rfl (Nat.le_of_ble_eq_true rfl) sz_36) rfl ?_
      refine .withSt (st' := ⟨[.row 36 [.d (cI (((nth v0 (Int.toNat (v5l1))).usage).id)), .d (cI (((nth v0 (Int.toNat (v5l1))).usage).kind)), .d (cI (((nth v0 (Int.toNat (v5l1))).usage).account)), .d (cI (((nth v0 (Int.toNat (v5l1))).usage).sub)), .d (cS (((nth v0 (Int.toNat (v5l1))).usage).a)), .d (cS (((nth v0 (Int.toNat (v5l1))).usage).b)), .d (cI (((nth v0 (Int.toNat (v5l1))).usage).start)), .d (cI (((nth v0 (Int.toNat (v5l1))).usage).units)), .d (cI (((nth v0 (Int.toNat (v5l1))).usage).trunk)), .d (cB (((nth v0 (Int.toNat (v5l1))).usage).inbound)), .d (cI (((nth v0 (Int.toNat (v5l1))).usage).source)), .d (cI (((nth v0 (Int.toNat (v5l1))).usage).serial)), .d (cI ((nth v0 (Int.toNat (v5l1))).err)), .d (cS ((nth v0 (Int.toNat (v5l1))).plan)), .d (cI ((nth v0 (Int.toNat (v5l1))).version)), .d (cS ((nth v0 (Int.toNat (v5l1))).zone)), .d (slOf 5 Take.row ((nth v0 (Int.toNat (v5l1))).takes)), .d (slOf 4 Segment.row ((nth v0 (Int.toNat (v5l1))).segments)), .d (cI ((nth v0 (Int.toNat (v5l1))).setup)), .d (cI ((nth v0 (Int.toNat (v5l1))).gross)), .d (cI ((nth v0 (Int.toNat (v5l1))).net)), .d (slOf 2 Given.row ((nth v0 (Int.toNat (v5l1))).given)), .d (cI ((nth v0 (Int.toNat (v5l1))).paid)), .d (cI ((nth v0 (Int.toNat (v5l1))).owed))]], []⟩) rfl ?_
      refine .nil ?_
      refine .seq ?_
      refine .seq ?_
      refine .region ?_
      refine .q (x := .ref 0 16) (q_fieldRef fo_36_5 rfl) rfl ?_
      refine .q (x := .d (slOf 5 Take.row ((nth v0 (Int.toNat (v5l1))).takes))) (q_loadO one_32 rfl rfl rfl) rfl ?_
      refine .q (x := .d (cI (((nth v0 (Int.toNat (v5l1))).takes).length : Int))) (q_lenL (l := (nth v0 (Int.toNat (v5l1))).takes) (row := Take.row) Try.underlying32 rfl rfl) rfl ?_
      refine .q (x := .d (cI v1)) (q_move rfl) rfl ?_
      refine .q (x := .d (cB (decide ((((nth v0 (Int.toNat (v5l1))).takes).length : Int) > v1)))) (q_gtr rfl rfl) rfl ?_
      refine .q (x := .d (cB (decide ((((nth v0 (Int.toNat (v5l1))).takes).length : Int) > v1)))) (q_move rfl) rfl ?_
      refine .guardG (b := (!(decide ((((nth v0 (Int.toNat (v5l1))).takes).length : Int) > v1)))) (x := .ref 0 17) (env' := [(6, _)]) rfl rfl rfl ⟨.inl rfl, trivial⟩ rfl (fun hg => OpQ.g (q_fieldRef fo_36_6 rfl)) ?_
      refine .guardG (b := (!(decide ((((nth v0 (Int.toNat (v5l1))).takes).length : Int) > v1)))) (x := .d (slOf 4 Segment.row ((nth v0 (Int.toNat (v5l1))).segments))) (env' := [(30, _)]) rfl rfl rfl ⟨.inr (.inl rfl), trivial⟩ rfl (fun hg => OpQ.g (q_loadO one_33 rfl rfl rfl)) ?_
      refine .guardG (b := (!(decide ((((nth v0 (Int.toNat (v5l1))).takes).length : Int) > v1)))) (x := .d (cI (((nth v0 (Int.toNat (v5l1))).segments).length : Int))) (env' := [(31, _)]) rfl rfl rfl ⟨.inr (.inl rfl), trivial⟩ rfl (fun hg => OpQ.g (q_lenL (l := (nth v0 (Int.toNat (v5l1))).segments) (row := Segment.row) Try.underlying33 rfl rfl)) ?_
      refine .guardG (b := (!(decide ((((nth v0 (Int.toNat (v5l1))).takes).length : Int) > v1)))) (x := .d (cI v1)) (env' := [(1, _)]) rfl rfl rfl ⟨.inl rfl, trivial⟩ rfl (fun hg => OpQ.g (q_move rfl)) ?_
      refine .guardG (b := (!(decide ((((nth v0 (Int.toNat (v5l1))).takes).length : Int) > v1)))) (x := .d (cB (decide ((((nth v0 (Int.toNat (v5l1))).segments).length : Int) > v1)))) (env' := [(32, _), (33, _)]) rfl rfl rfl ⟨.inr (.inl rfl), ⟨.inr (.inl rfl), trivial⟩⟩ rfl (fun hg => OpQ.g (q_gtr rfl rfl)) ?_
      refine .q (x := .d (cB ((decide ((((nth v0 (Int.toNat (v5l1))).takes).length : Int) > v1)) || (decide ((((nth v0 (Int.toNat (v5l1))).segments).length : Int) > v1))))) (q_pickOrB rfl rfl rfl) rfl ?_
      refine .q (x := .d (cB ((decide ((((nth v0 (Int.toNat (v5l1))).takes).length : Int) > v1)) || (decide ((((nth v0 (Int.toNat (v5l1))).segments).length : Int) > v1))))) (q_move rfl) rfl ?_
      refine .guardG (b := (!((decide ((((nth v0 (Int.toNat (v5l1))).takes).length : Int) > v1)) || (decide ((((nth v0 (Int.toNat (v5l1))).segments).length : Int) > v1))))) (x := .ref 0 21) (env' := [(6, _)]) rfl rfl rfl ⟨.inl rfl, trivial⟩ rfl (fun hg => OpQ.g (q_fieldRef fo_36_10 rfl)) ?_
      refine .guardG (b := (!((decide ((((nth v0 (Int.toNat (v5l1))).takes).length : Int) > v1)) || (decide ((((nth v0 (Int.toNat (v5l1))).segments).length : Int) > v1))))) (x := .d (slOf 2 Given.row ((nth v0 (Int.toNat (v5l1))).given))) (env' := [(37, _)]) rfl rfl rfl ⟨.inr (.inl rfl), trivial⟩ rfl (fun hg => OpQ.g (q_loadO one_34 rfl rfl rfl)) ?_
      refine .guardG (b := (!((decide ((((nth v0 (Int.toNat (v5l1))).takes).length : Int) > v1)) || (decide ((((nth v0 (Int.toNat (v5l1))).segments).length : Int) > v1))))) (x := .d (cI (((nth v0 (Int.toNat (v5l1))).given).length : Int))) (env' := [(38, _)]) rfl rfl rfl ⟨.inr (.inl rfl), trivial⟩ rfl (fun hg => OpQ.g (q_lenL (l := (nth v0 (Int.toNat (v5l1))).given) (row := Given.row) Try.underlying34 rfl rfl)) ?_
      refine .guardG (b := (!((decide ((((nth v0 (Int.toNat (v5l1))).takes).length : Int) > v1)) || (decide ((((nth v0 (Int.toNat (v5l1))).segments).length : Int) > v1))))) (x := .d (cI v1)) (env' := [(1, _)]) rfl rfl rfl ⟨.inl rfl, trivial⟩ rfl (fun hg => OpQ.g (q_move rfl)) ?_
      refine .guardG (b := (!((decide ((((nth v0 (Int.toNat (v5l1))).takes).length : Int) > v1)) || (decide ((((nth v0 (Int.toNat (v5l1))).segments).length : Int) > v1))))) (x := .d (cB (decide ((((nth v0 (Int.toNat (v5l1))).given).length : Int) > v1)))) (env' := [(39, _), (40, _)]) rfl rfl rfl ⟨.inr (.inl rfl), ⟨.inr (.inl rfl), trivial⟩⟩ rfl (fun hg => OpQ.g (q_gtr rfl rfl)) ?_
      refine .q (x := .d (cB (((decide ((((nth v0 (Int.toNat (v5l1))).takes).length : Int) > v1)) || (decide ((((nth v0 (Int.toNat (v5l1))).segments).length : Int) > v1))) || (decide ((((nth v0 (Int.toNat (v5l1))).given).length : Int) > v1))))) (q_pickOrB rfl rfl rfl) rfl ?_
      refine .q (x := .d (cB (((decide ((((nth v0 (Int.toNat (v5l1))).takes).length : Int) > v1)) || (decide ((((nth v0 (Int.toNat (v5l1))).segments).length : Int) > v1))) || (decide ((((nth v0 (Int.toNat (v5l1))).given).length : Int) > v1))))) (q_move rfl) rfl ?_
      refine .guardG (b := (!(((decide ((((nth v0 (Int.toNat (v5l1))).takes).length : Int) > v1)) || (decide ((((nth v0 (Int.toNat (v5l1))).segments).length : Int) > v1))) || (decide ((((nth v0 (Int.toNat (v5l1))).given).length : Int) > v1))))) (x := .ref 0 20) (env' := [(6, _)]) rfl rfl rfl ⟨.inl rfl, trivial⟩ rfl (fun hg => OpQ.g (q_fieldRef fo_36_9 rfl)) ?_
      refine .guardG (b := (!(((decide ((((nth v0 (Int.toNat (v5l1))).takes).length : Int) > v1)) || (decide ((((nth v0 (Int.toNat (v5l1))).segments).length : Int) > v1))) || (decide ((((nth v0 (Int.toNat (v5l1))).given).length : Int) > v1))))) (x := .d (cI ((nth v0 (Int.toNat (v5l1))).net))) (env' := [(44, _)]) rfl rfl rfl ⟨.inr (.inl rfl), trivial⟩ rfl (fun hg => OpQ.g (q_loadO one_3 rfl rfl rfl)) ?_
      obtain ⟨y1, hy1, H⟩ := bind_some' H
      refine .guardG (b := (!(((decide ((((nth v0 (Int.toNat (v5l1))).takes).length : Int) > v1)) || (decide ((((nth v0 (Int.toNat (v5l1))).segments).length : Int) > v1))) || (decide ((((nth v0 (Int.toNat (v5l1))).given).length : Int) > v1))))) (x := .d (cB y1)) (env' := [(45, _)]) rfl rfl rfl ⟨.inr (.inl rfl), trivial⟩ rfl (fun hg => (g_call en_9 rfl rfl (c_f_billingref54_amount (gcall_some hy1 hg)))) ?_
      refine .guardG (b := (!(((decide ((((nth v0 (Int.toNat (v5l1))).takes).length : Int) > v1)) || (decide ((((nth v0 (Int.toNat (v5l1))).segments).length : Int) > v1))) || (decide ((((nth v0 (Int.toNat (v5l1))).given).length : Int) > v1))))) (x := .d (cB (!y1))) (env' := [(46, _)]) rfl rfl rfl ⟨.inr (.inl rfl), trivial⟩ rfl (fun hg => OpQ.g (q_not rfl)) ?_
      refine .q (x := .d (cB ((((decide ((((nth v0 (Int.toNat (v5l1))).takes).length : Int) > v1)) || (decide ((((nth v0 (Int.toNat (v5l1))).segments).length : Int) > v1))) || (decide ((((nth v0 (Int.toNat (v5l1))).given).length : Int) > v1))) || (!y1)))) (q_pickOrB rfl rfl rfl) rfl ?_
      refine .q (x := .d (cB ((((decide ((((nth v0 (Int.toNat (v5l1))).takes).length : Int) > v1)) || (decide ((((nth v0 (Int.toNat (v5l1))).segments).length : Int) > v1))) || (decide ((((nth v0 (Int.toNat (v5l1))).given).length : Int) > v1))) || (!y1)))) (q_move rfl) rfl ?_
      refine .guardG (b := (!((((decide ((((nth v0 (Int.toNat (v5l1))).takes).length : Int) > v1)) || (decide ((((nth v0 (Int.toNat (v5l1))).segments).length : Int) > v1))) || (decide ((((nth v0 (Int.toNat (v5l1))).given).length : Int) > v1))) || (!y1)))) (x := .ref 0 22) (env' := [(6, _)]) rfl rfl rfl ⟨.inl rfl, trivial⟩ rfl (fun hg => OpQ.g (q_fieldRef fo_36_11 rfl)) ?_
      refine .guardG (b := (!((((decide ((((nth v0 (Int.toNat (v5l1))).takes).length : Int) > v1)) || (decide ((((nth v0 (Int.toNat (v5l1))).segments).length : Int) > v1))) || (decide ((((nth v0 (Int.toNat (v5l1))).given).length : Int) > v1))) || (!y1)))) (x := .d (cI ((nth v0 (Int.toNat (v5l1))).paid))) (env' := [(50, _)]) rfl rfl rfl ⟨.inr (.inl rfl), trivial⟩ rfl (fun hg => OpQ.g (q_loadO one_3 rfl rfl rfl)) ?_
      obtain ⟨y2, hy2, H⟩ := bind_some' H
      refine .guardG (b := (!((((decide ((((nth v0 (Int.toNat (v5l1))).takes).length : Int) > v1)) || (decide ((((nth v0 (Int.toNat (v5l1))).segments).length : Int) > v1))) || (decide ((((nth v0 (Int.toNat (v5l1))).given).length : Int) > v1))) || (!y1)))) (x := .d (cB y2)) (env' := [(51, _)]) rfl rfl rfl ⟨.inr (.inl rfl), trivial⟩ rfl (fun hg => (g_call en_9 rfl rfl (c_f_billingref54_amount (gcall_some hy2 hg)))) ?_
      refine .guardG (b := (!((((decide ((((nth v0 (Int.toNat (v5l1))).takes).length : Int) > v1)) || (decide ((((nth v0 (Int.toNat (v5l1))).segments).length : Int) > v1))) || (decide ((((nth v0 (Int.toNat (v5l1))).given).length : Int) > v1))) || (!y1)))) (x := .d (cB (!y2))) (env' := [(52, _)]) rfl rfl rfl ⟨.inr (.inl rfl), trivial⟩ rfl (fun hg => OpQ.g (q_not rfl)) ?_
      refine .q (x := .d (cB (((((decide ((((nth v0 (Int.toNat (v5l1))).takes).length : Int) > v1)) || (decide ((((nth v0 (Int.toNat (v5l1))).segments).length : Int) > v1))) || (decide ((((nth v0 (Int.toNat (v5l1))).given).length : Int) > v1))) || (!y1)) || (!y2)))) (q_pickOrB rfl rfl rfl) rfl ?_
      refine .q (x := .d (cB (((((decide ((((nth v0 (Int.toNat (v5l1))).takes).length : Int) > v1)) || (decide ((((nth v0 (Int.toNat (v5l1))).segments).length : Int) > v1))) || (decide ((((nth v0 (Int.toNat (v5l1))).given).length : Int) > v1))) || (!y1)) || (!y2)))) (q_move rfl) rfl ?_
      refine .guardG (b := (!(((((decide ((((nth v0 (Int.toNat (v5l1))).takes).length : Int) > v1)) || (decide ((((nth v0 (Int.toNat (v5l1))).segments).length : Int) > v1))) || (decide ((((nth v0 (Int.toNat (v5l1))).given).length : Int) > v1))) || (!y1)) || (!y2)))) (x := .ref 0 23) (env' := [(6, _)]) rfl rfl rfl ⟨.inl rfl, trivial⟩ rfl (fun hg => OpQ.g (q_fieldRef fo_36_12 rfl)) ?_
      refine .guardG (b := (!(((((decide ((((nth v0 (Int.toNat (v5l1))).takes).length : Int) > v1)) || (decide ((((nth v0 (Int.toNat (v5l1))).segments).length : Int) > v1))) || (decide ((((nth v0 (Int.toNat (v5l1))).given).length : Int) > v1))) || (!y1)) || (!y2)))) (x := .d (cI ((nth v0 (Int.toNat (v5l1))).owed))) (env' := [(56, _)]) rfl rfl rfl ⟨.inr (.inl rfl), trivial⟩ rfl (fun hg => OpQ.g (q_loadO one_3 rfl rfl rfl)) ?_
      obtain ⟨y3, hy3, H⟩ := bind_some' H
      refine .guardG (b := (!(((((decide ((((nth v0 (Int.toNat (v5l1))).takes).length : Int) > v1)) || (decide ((((nth v0 (Int.toNat (v5l1))).segments).length : Int) > v1))) || (decide ((((nth v0 (Int.toNat (v5l1))).given).length : Int) > v1))) || (!y1)) || (!y2)))) (x := .d (cB y3)) (env' := [(57, _)]) rfl rfl rfl ⟨.inr (.inl rfl), trivial⟩ rfl (fun hg => (g_call en_9 rfl rfl (c_f_billingref54_amount (gcall_some hy3 hg)))) ?_
      refine .guardG (b := (!(((((decide ((((nth v0 (Int.toNat (v5l1))).takes).length : Int) > v1)) || (decide ((((nth v0 (Int.toNat (v5l1))).segments).length : Int) > v1))) || (decide ((((nth v0 (Int.toNat (v5l1))).given).length : Int) > v1))) || (!y1)) || (!y2)))) (x := .d (cB (!y3))) (env' := [(58, _)]) rfl rfl rfl ⟨.inr (.inl rfl), trivial⟩ rfl (fun hg => OpQ.g (q_not rfl)) ?_
      refine .q (x := .d (cB ((((((decide ((((nth v0 (Int.toNat (v5l1))).takes).length : Int) > v1)) || (decide ((((nth v0 (Int.toNat (v5l1))).segments).length : Int) > v1))) || (decide ((((nth v0 (Int.toNat (v5l1))).given).length : Int) > v1))) || (!y1)) || (!y2)) || (!y3)))) (q_pickOrB rfl rfl rfl) rfl ?_
      refine .q (x := .d (cB ((((((decide ((((nth v0 (Int.toNat (v5l1))).takes).length : Int) > v1)) || (decide ((((nth v0 (Int.toNat (v5l1))).segments).length : Int) > v1))) || (decide ((((nth v0 (Int.toNat (v5l1))).given).length : Int) > v1))) || (!y1)) || (!y2)) || (!y3)))) (q_move rfl) rfl ?_
      refine .guardG (b := (!((((((decide ((((nth v0 (Int.toNat (v5l1))).takes).length : Int) > v1)) || (decide ((((nth v0 (Int.toNat (v5l1))).segments).length : Int) > v1))) || (decide ((((nth v0 (Int.toNat (v5l1))).given).length : Int) > v1))) || (!y1)) || (!y2)) || (!y3)))) (x := .ref 0 19) (env' := [(6, _)]) rfl rfl rfl ⟨.inl rfl, trivial⟩ rfl (fun hg => OpQ.g (q_fieldRef fo_36_8 rfl)) ?_
      refine .guardG (b := (!((((((decide ((((nth v0 (Int.toNat (v5l1))).takes).length : Int) > v1)) || (decide ((((nth v0 (Int.toNat (v5l1))).segments).length : Int) > v1))) || (decide ((((nth v0 (Int.toNat (v5l1))).given).length : Int) > v1))) || (!y1)) || (!y2)) || (!y3)))) (x := .d (cI ((nth v0 (Int.toNat (v5l1))).gross))) (env' := [(62, _)]) rfl rfl rfl ⟨.inr (.inl rfl), trivial⟩ rfl (fun hg => OpQ.g (q_loadO one_3 rfl rfl rfl)) ?_
      obtain ⟨y4, hy4, H⟩ := bind_some' H
      refine .guardG (b := (!((((((decide ((((nth v0 (Int.toNat (v5l1))).takes).length : Int) > v1)) || (decide ((((nth v0 (Int.toNat (v5l1))).segments).length : Int) > v1))) || (decide ((((nth v0 (Int.toNat (v5l1))).given).length : Int) > v1))) || (!y1)) || (!y2)) || (!y3)))) (x := .d (cB y4)) (env' := [(63, _)]) rfl rfl rfl ⟨.inr (.inl rfl), trivial⟩ rfl (fun hg => (g_call en_9 rfl rfl (c_f_billingref54_amount (gcall_some hy4 hg)))) ?_
      refine .guardG (b := (!((((((decide ((((nth v0 (Int.toNat (v5l1))).takes).length : Int) > v1)) || (decide ((((nth v0 (Int.toNat (v5l1))).segments).length : Int) > v1))) || (decide ((((nth v0 (Int.toNat (v5l1))).given).length : Int) > v1))) || (!y1)) || (!y2)) || (!y3)))) (x := .d (cB (!y4))) (env' := [(64, _)]) rfl rfl rfl ⟨.inr (.inl rfl), trivial⟩ rfl (fun hg => OpQ.g (q_not rfl)) ?_
      refine .q (x := .d (cB (((((((decide ((((nth v0 (Int.toNat (v5l1))).takes).length : Int) > v1)) || (decide ((((nth v0 (Int.toNat (v5l1))).segments).length : Int) > v1))) || (decide ((((nth v0 (Int.toNat (v5l1))).given).length : Int) > v1))) || (!y1)) || (!y2)) || (!y3)) || (!y4)))) (q_pickOrB rfl rfl rfl) rfl ?_
      refine .q (x := .d (cB (((((((decide ((((nth v0 (Int.toNat (v5l1))).takes).length : Int) > v1)) || (decide ((((nth v0 (Int.toNat (v5l1))).segments).length : Int) > v1))) || (decide ((((nth v0 (Int.toNat (v5l1))).given).length : Int) > v1))) || (!y1)) || (!y2)) || (!y3)) || (!y4)))) (q_move rfl) rfl ?_
      refine .guardG (b := (!(((((((decide ((((nth v0 (Int.toNat (v5l1))).takes).length : Int) > v1)) || (decide ((((nth v0 (Int.toNat (v5l1))).segments).length : Int) > v1))) || (decide ((((nth v0 (Int.toNat (v5l1))).given).length : Int) > v1))) || (!y1)) || (!y2)) || (!y3)) || (!y4)))) (x := .ref 0 18) (env' := [(6, _)]) rfl rfl rfl ⟨.inl rfl, trivial⟩ rfl (fun hg => OpQ.g (q_fieldRef fo_36_7 rfl)) ?_
      refine .guardG (b := (!(((((((decide ((((nth v0 (Int.toNat (v5l1))).takes).length : Int) > v1)) || (decide ((((nth v0 (Int.toNat (v5l1))).segments).length : Int) > v1))) || (decide ((((nth v0 (Int.toNat (v5l1))).given).length : Int) > v1))) || (!y1)) || (!y2)) || (!y3)) || (!y4)))) (x := .d (cI ((nth v0 (Int.toNat (v5l1))).setup))) (env' := [(68, _)]) rfl rfl rfl ⟨.inr (.inl rfl), trivial⟩ rfl (fun hg => OpQ.g (q_loadO one_3 rfl rfl rfl)) ?_
      obtain ⟨y5, hy5, H⟩ := bind_some' H
      refine .guardG (b := (!(((((((decide ((((nth v0 (Int.toNat (v5l1))).takes).length : Int) > v1)) || (decide ((((nth v0 (Int.toNat (v5l1))).segments).length : Int) > v1))) || (decide ((((nth v0 (Int.toNat (v5l1))).given).length : Int) > v1))) || (!y1)) || (!y2)) || (!y3)) || (!y4)))) (x := .d (cB y5)) (env' := [(69, _)]) rfl rfl rfl ⟨.inr (.inl rfl), trivial⟩ rfl (fun hg => (g_call en_9 rfl rfl (c_f_billingref54_amount (gcall_some hy5 hg)))) ?_
      refine .guardG (b := (!(((((((decide ((((nth v0 (Int.toNat (v5l1))).takes).length : Int) > v1)) || (decide ((((nth v0 (Int.toNat (v5l1))).segments).length : Int) > v1))) || (decide ((((nth v0 (Int.toNat (v5l1))).given).length : Int) > v1))) || (!y1)) || (!y2)) || (!y3)) || (!y4)))) (x := .d (cB (!y5))) (env' := [(70, _)]) rfl rfl rfl ⟨.inr (.inl rfl), trivial⟩ rfl (fun hg => OpQ.g (q_not rfl)) ?_
      refine .q (x := .d (cB ((((((((decide ((((nth v0 (Int.toNat (v5l1))).takes).length : Int) > v1)) || (decide ((((nth v0 (Int.toNat (v5l1))).segments).length : Int) > v1))) || (decide ((((nth v0 (Int.toNat (v5l1))).given).length : Int) > v1))) || (!y1)) || (!y2)) || (!y3)) || (!y4)) || (!y5)))) (q_pickOrB rfl rfl rfl) rfl ?_
      refine .q (x := .d (cB ((((((((decide ((((nth v0 (Int.toNat (v5l1))).takes).length : Int) > v1)) || (decide ((((nth v0 (Int.toNat (v5l1))).segments).length : Int) > v1))) || (decide ((((nth v0 (Int.toNat (v5l1))).given).length : Int) > v1))) || (!y1)) || (!y2)) || (!y3)) || (!y4)) || (!y5)))) (q_move rfl) rfl ?_
      refine .guardG (b := (!((((((((decide ((((nth v0 (Int.toNat (v5l1))).takes).length : Int) > v1)) || (decide ((((nth v0 (Int.toNat (v5l1))).segments).length : Int) > v1))) || (decide ((((nth v0 (Int.toNat (v5l1))).given).length : Int) > v1))) || (!y1)) || (!y2)) || (!y3)) || (!y4)) || (!y5)))) (x := .ref 0 0) (env' := [(6, _)]) rfl rfl rfl ⟨.inl rfl, trivial⟩ rfl (fun hg => OpQ.g (q_fieldRef fo_36_0 rfl)) ?_
      refine .guardG (b := (!((((((((decide ((((nth v0 (Int.toNat (v5l1))).takes).length : Int) > v1)) || (decide ((((nth v0 (Int.toNat (v5l1))).segments).length : Int) > v1))) || (decide ((((nth v0 (Int.toNat (v5l1))).given).length : Int) > v1))) || (!y1)) || (!y2)) || (!y3)) || (!y4)) || (!y5)))) (x := .ref 0 7) (env' := [(74, _)]) rfl rfl rfl ⟨.inr (.inl rfl), trivial⟩ rfl (fun hg => OpQ.g (q_fieldRef fo_30_7 rfl)) ?_
      refine .guardG (b := (!((((((((decide ((((nth v0 (Int.toNat (v5l1))).takes).length : Int) > v1)) || (decide ((((nth v0 (Int.toNat (v5l1))).segments).length : Int) > v1))) || (decide ((((nth v0 (Int.toNat (v5l1))).given).length : Int) > v1))) || (!y1)) || (!y2)) || (!y3)) || (!y4)) || (!y5)))) (x := .d (cI (((nth v0 (Int.toNat (v5l1))).usage).units))) (env' := [(75, _)]) rfl rfl rfl ⟨.inr (.inl rfl), trivial⟩ rfl (fun hg => OpQ.g (q_loadO one_3 rfl rfl rfl)) ?_
      refine .guardG (b := (!((((((((decide ((((nth v0 (Int.toNat (v5l1))).takes).length : Int) > v1)) || (decide ((((nth v0 (Int.toNat (v5l1))).segments).length : Int) > v1))) || (decide ((((nth v0 (Int.toNat (v5l1))).given).length : Int) > v1))) || (!y1)) || (!y2)) || (!y3)) || (!y4)) || (!y5)))) (x := .d (cB (decide ((((nth v0 (Int.toNat (v5l1))).usage).units) < 0)))) (env' := [(76, _)]) rfl rfl rfl ⟨.inr (.inl rfl), trivial⟩ rfl (fun hg => OpQ.g (q_lss rfl rfl)) ?_
      refine .q (x := .d (cB (((((((((decide ((((nth v0 (Int.toNat (v5l1))).takes).length : Int) > v1)) || (decide ((((nth v0 (Int.toNat (v5l1))).segments).length : Int) > v1))) || (decide ((((nth v0 (Int.toNat (v5l1))).given).length : Int) > v1))) || (!y1)) || (!y2)) || (!y3)) || (!y4)) || (!y5)) || (decide ((((nth v0 (Int.toNat (v5l1))).usage).units) < 0))))) (q_pickOrB rfl rfl rfl) rfl ?_
      refine .q (x := .d (cB (((((((((decide ((((nth v0 (Int.toNat (v5l1))).takes).length : Int) > v1)) || (decide ((((nth v0 (Int.toNat (v5l1))).segments).length : Int) > v1))) || (decide ((((nth v0 (Int.toNat (v5l1))).given).length : Int) > v1))) || (!y1)) || (!y2)) || (!y3)) || (!y4)) || (!y5)) || (decide ((((nth v0 (Int.toNat (v5l1))).usage).units) < 0))))) (q_move rfl) rfl ?_
      refine .guardG (b := (!(((((((((decide ((((nth v0 (Int.toNat (v5l1))).takes).length : Int) > v1)) || (decide ((((nth v0 (Int.toNat (v5l1))).segments).length : Int) > v1))) || (decide ((((nth v0 (Int.toNat (v5l1))).given).length : Int) > v1))) || (!y1)) || (!y2)) || (!y3)) || (!y4)) || (!y5)) || (decide ((((nth v0 (Int.toNat (v5l1))).usage).units) < 0))))) (x := .ref 0 0) (env' := [(6, _)]) rfl rfl rfl ⟨.inl rfl, trivial⟩ rfl (fun hg => OpQ.g (q_fieldRef fo_36_0 rfl)) ?_
      refine .guardG (b := (!(((((((((decide ((((nth v0 (Int.toNat (v5l1))).takes).length : Int) > v1)) || (decide ((((nth v0 (Int.toNat (v5l1))).segments).length : Int) > v1))) || (decide ((((nth v0 (Int.toNat (v5l1))).given).length : Int) > v1))) || (!y1)) || (!y2)) || (!y3)) || (!y4)) || (!y5)) || (decide ((((nth v0 (Int.toNat (v5l1))).usage).units) < 0))))) (x := .ref 0 7) (env' := [(80, _)]) rfl rfl rfl ⟨.inr (.inl rfl), trivial⟩ rfl (fun hg => OpQ.g (q_fieldRef fo_30_7 rfl)) ?_
      refine .guardG (b := (!(((((((((decide ((((nth v0 (Int.toNat (v5l1))).takes).length : Int) > v1)) || (decide ((((nth v0 (Int.toNat (v5l1))).segments).length : Int) > v1))) || (decide ((((nth v0 (Int.toNat (v5l1))).given).length : Int) > v1))) || (!y1)) || (!y2)) || (!y3)) || (!y4)) || (!y5)) || (decide ((((nth v0 (Int.toNat (v5l1))).usage).units) < 0))))) (x := .d (cI (((nth v0 (Int.toNat (v5l1))).usage).units))) (env' := [(81, _)]) rfl rfl rfl ⟨.inr (.inl rfl), trivial⟩ rfl (fun hg => OpQ.g (q_loadO one_3 rfl rfl rfl)) ?_
      refine .guardG (b := (!(((((((((decide ((((nth v0 (Int.toNat (v5l1))).takes).length : Int) > v1)) || (decide ((((nth v0 (Int.toNat (v5l1))).segments).length : Int) > v1))) || (decide ((((nth v0 (Int.toNat (v5l1))).given).length : Int) > v1))) || (!y1)) || (!y2)) || (!y3)) || (!y4)) || (!y5)) || (decide ((((nth v0 (Int.toNat (v5l1))).usage).units) < 0))))) (x := .d (cB (decide ((((nth v0 (Int.toNat (v5l1))).usage).units) > 1099511627776)))) (env' := [(82, _)]) rfl rfl rfl ⟨.inr (.inl rfl), trivial⟩ rfl (fun hg => OpQ.g (q_gtr rfl rfl)) ?_
      refine .q (x := .d (cB ((((((((((decide ((((nth v0 (Int.toNat (v5l1))).takes).length : Int) > v1)) || (decide ((((nth v0 (Int.toNat (v5l1))).segments).length : Int) > v1))) || (decide ((((nth v0 (Int.toNat (v5l1))).given).length : Int) > v1))) || (!y1)) || (!y2)) || (!y3)) || (!y4)) || (!y5)) || (decide ((((nth v0 (Int.toNat (v5l1))).usage).units) < 0))) || (decide ((((nth v0 (Int.toNat (v5l1))).usage).units) > 1099511627776))))) (q_pickOrB rfl rfl rfl) rfl ?_
      refine .nil ?_
      refine .cond rfl (fun hc => ?_) (fun hc => ?_)
      · replace H := ifT hc H; clear hc
        refine .seq ?_
        refine .region ?_
        refine .q (x := .d (cB false)) (q_assign rfl) rfl ?_
        refine .nil ?_
        refine .retN [.tmp 4] [.d (cB false)] Try.func4 Try.results4 ⟨rfl, trivial⟩ ?_
        cases H
        cases HK1
        exact ⟨_, .rfl' _, rfl⟩
      · replace H := ifF hc H; clear hc
        refine .skip ?_
        refine .seq ?_
        refine .seq ?_
        refine .region ?_
        refine .q (x := .d (cI 0)) (q_assign rfl) rfl ?_
        refine .nil ?_
        refine .blockJoin2 (ι := Unit) (fun s => [(0, .d (slOf 24 Rated.row v0)), (1, .d (cI v1)), (5, .d (cI v5l1)), (6, .ref 0 0)]) (fun s => ⟨[.row 36 [.d (cI (((nth v0 (Int.toNat (v5l1))).usage).id)), .d (cI (((nth v0 (Int.toNat (v5l1))).usage).kind)), .d (cI (((nth v0 (Int.toNat (v5l1))).usage).account)), .d (cI (((nth v0 (Int.toNat (v5l1))).usage).sub)), .d (cS (((nth v0 (Int.toNat (v5l1))).usage).a)), .d (cS (((nth v0 (Int.toNat (v5l1))).usage).b)), .d (cI (((nth v0 (Int.toNat (v5l1))).usage).start)), .d (cI (((nth v0 (Int.toNat (v5l1))).usage).units)), .d (cI (((nth v0 (Int.toNat (v5l1))).usage).trunk)), .d (cB (((nth v0 (Int.toNat (v5l1))).usage).inbound)), .d (cI (((nth v0 (Int.toNat (v5l1))).usage).source)), .d (cI (((nth v0 (Int.toNat (v5l1))).usage).serial)), .d (cI ((nth v0 (Int.toNat (v5l1))).err)), .d (cS ((nth v0 (Int.toNat (v5l1))).plan)), .d (cI ((nth v0 (Int.toNat (v5l1))).version)), .d (cS ((nth v0 (Int.toNat (v5l1))).zone)), .d (slOf 5 Take.row ((nth v0 (Int.toNat (v5l1))).takes)), .d (slOf 4 Segment.row ((nth v0 (Int.toNat (v5l1))).segments)), .d (cI ((nth v0 (Int.toNat (v5l1))).setup)), .d (cI ((nth v0 (Int.toNat (v5l1))).gross)), .d (cI ((nth v0 (Int.toNat (v5l1))).net)), .d (slOf 2 Given.row ((nth v0 (Int.toNat (v5l1))).given)), .d (cI ((nth v0 (Int.toNat (v5l1))).paid)), .d (cI ((nth v0 (Int.toNat (v5l1))).owed))]], []⟩) (fun s => f_billingref54_Rated_j1 v0 v5l1 = some q1) ?_ ?_
        · rintro _ H
          replace H : f_billingref54_Rated_j1 v0 v5l1 = some q1 := H
          unfold f_billingref54_Rated_j1 at H
          change ARun _ _ _ _ _ _ [(0, .d (slOf 24 Rated.row v0)), (1, .d (cI v1)), (5, .d (cI v5l1)), (6, .ref 0 0)] ⟨[.row 36 [.d (cI (((nth v0 (Int.toNat (v5l1))).usage).id)), .d (cI (((nth v0 (Int.toNat (v5l1))).usage).kind)), .d (cI (((nth v0 (Int.toNat (v5l1))).usage).account)), .d (cI (((nth v0 (Int.toNat (v5l1))).usage).sub)), .d (cS (((nth v0 (Int.toNat (v5l1))).usage).a)), .d (cS (((nth v0 (Int.toNat (v5l1))).usage).b)), .d (cI (((nth v0 (Int.toNat (v5l1))).usage).start)), .d (cI (((nth v0 (Int.toNat (v5l1))).usage).units)), .d (cI (((nth v0 (Int.toNat (v5l1))).usage).trunk)), .d (cB (((nth v0 (Int.toNat (v5l1))).usage).inbound)), .d (cI (((nth v0 (Int.toNat (v5l1))).usage).source)), .d (cI (((nth v0 (Int.toNat (v5l1))).usage).serial)), .d (cI ((nth v0 (Int.toNat (v5l1))).err)), .d (cS ((nth v0 (Int.toNat (v5l1))).plan)), .d (cI ((nth v0 (Int.toNat (v5l1))).version)), .d (cS ((nth v0 (Int.toNat (v5l1))).zone)), .d (slOf 5 Take.row ((nth v0 (Int.toNat (v5l1))).takes)), .d (slOf 4 Segment.row ((nth v0 (Int.toNat (v5l1))).segments)), .d (cI ((nth v0 (Int.toNat (v5l1))).setup)), .d (cI ((nth v0 (Int.toNat (v5l1))).gross)), .d (cI ((nth v0 (Int.toNat (v5l1))).net)), .d (slOf 2 Given.row ((nth v0 (Int.toNat (v5l1))).given)), .d (cI ((nth v0 (Int.toNat (v5l1))).paid)), .d (cI ((nth v0 (Int.toNat (v5l1))).owed))]], []⟩
          refine .seq ?_
          refine .seq ?_
          refine .region ?_
          refine .q (x := .d (cI 0)) (q_assign rfl) rfl ?_
          refine .nil ?_
          refine .blockJoin2 (ι := Unit) (fun s => [(0, .d (slOf 24 Rated.row v0)), (1, .d (cI v1)), (5, .d (cI v5l1)), (6, .ref 0 0)]) (fun s => ⟨[.row 36 [.d (cI (((nth v0 (Int.toNat (v5l1))).usage).id)), .d (cI (((nth v0 (Int.toNat (v5l1))).usage).kind)), .d (cI (((nth v0 (Int.toNat (v5l1))).usage).account)), .d (cI (((nth v0 (Int.toNat (v5l1))).usage).sub)), .d (cS (((nth v0 (Int.toNat (v5l1))).usage).a)), .d (cS (((nth v0 (Int.toNat (v5l1))).usage).b)), .d (cI (((nth v0 (Int.toNat (v5l1))).usage).start)), .d (cI (((nth v0 (Int.toNat (v5l1))).usage).units)), .d (cI (((nth v0 (Int.toNat (v5l1))).usage).trunk)), .d (cB (((nth v0 (Int.toNat (v5l1))).usage).inbound)), .d (cI (((nth v0 (Int.toNat (v5l1))).usage).source)), .d (cI (((nth v0 (Int.toNat (v5l1))).usage).serial)), .d (cI ((nth v0 (Int.toNat (v5l1))).err)), .d (cS ((nth v0 (Int.toNat (v5l1))).plan)), .d (cI ((nth v0 (Int.toNat (v5l1))).version)), .d (cS ((nth v0 (Int.toNat (v5l1))).zone)), .d (slOf 5 Take.row ((nth v0 (Int.toNat (v5l1))).takes)), .d (slOf 4 Segment.row ((nth v0 (Int.toNat (v5l1))).segments)), .d (cI ((nth v0 (Int.toNat (v5l1))).setup)), .d (cI ((nth v0 (Int.toNat (v5l1))).gross)), .d (cI ((nth v0 (Int.toNat (v5l1))).net)), .d (slOf 2 Given.row ((nth v0 (Int.toNat (v5l1))).given)), .d (cI ((nth v0 (Int.toNat (v5l1))).paid)), .d (cI ((nth v0 (Int.toNat (v5l1))).owed))]], []⟩) (fun s => f_billingref54_Rated_j2 v0 v5l1 = some q1) ?_ ?_
          · rintro _ H
            replace H : f_billingref54_Rated_j2 v0 v5l1 = some q1 := H
            unfold f_billingref54_Rated_j2 at H
            change ARun _ _ _ _ _ _ [(0, .d (slOf 24 Rated.row v0)), (1, .d (cI v1)), (5, .d (cI v5l1)), (6, .ref 0 0)] ⟨[.row 36 [.d (cI (((nth v0 (Int.toNat (v5l1))).usage).id)), .d (cI (((nth v0 (Int.toNat (v5l1))).usage).kind)), .d (cI (((nth v0 (Int.toNat (v5l1))).usage).account)), .d (cI (((nth v0 (Int.toNat (v5l1))).usage).sub)), .d (cS (((nth v0 (Int.toNat (v5l1))).usage).a)), .d (cS (((nth v0 (Int.toNat (v5l1))).usage).b)), .d (cI (((nth v0 (Int.toNat (v5l1))).usage).start)), .d (cI (((nth v0 (Int.toNat (v5l1))).usage).units)), .d (cI (((nth v0 (Int.toNat (v5l1))).usage).trunk)), .d (cB (((nth v0 (Int.toNat (v5l1))).usage).inbound)), .d (cI (((nth v0 (Int.toNat (v5l1))).usage).source)), .d (cI (((nth v0 (Int.toNat (v5l1))).usage).serial)), .d (cI ((nth v0 (Int.toNat (v5l1))).err)), .d (cS ((nth v0 (Int.toNat (v5l1))).plan)), .d (cI ((nth v0 (Int.toNat (v5l1))).version)), .d (cS ((nth v0 (Int.toNat (v5l1))).zone)), .d (slOf 5 Take.row ((nth v0 (Int.toNat (v5l1))).takes)), .d (slOf 4 Segment.row ((nth v0 (Int.toNat (v5l1))).segments)), .d (cI ((nth v0 (Int.toNat (v5l1))).setup)), .d (cI ((nth v0 (Int.toNat (v5l1))).gross)), .d (cI ((nth v0 (Int.toNat (v5l1))).net)), .d (slOf 2 Given.row ((nth v0 (Int.toNat (v5l1))).given)), .d (cI ((nth v0 (Int.toNat (v5l1))).paid)), .d (cI ((nth v0 (Int.toNat (v5l1))).owed))]], []⟩
            refine .seq ?_
            refine .region ?_
            refine .q (x := .d (cI 0)) (q_assign rfl) rfl ?_
            refine .nil ?_
            refine .block ?_
            obtain ⟨n2, H⟩ := loop_some H
            refine .loop (ι := Nat × (Int)) (fun p => [(0, .d (slOf 24 Rated.row v0)), (1, .d (cI v1)), (5, .d (cI v5l1)), (6, .ref 0 0), (9, .d (cI p.2))]) (fun p => ⟨[.row 36 [.d (cI (((nth v0 (Int.toNat (v5l1))).usage).id)), .d (cI (((nth v0 (Int.toNat (v5l1))).usage).kind)), .d (cI (((nth v0 (Int.toNat (v5l1))).usage).account)), .d (cI (((nth v0 (Int.toNat (v5l1))).usage).sub)), .d (cS (((nth v0 (Int.toNat (v5l1))).usage).a)), .d (cS (((nth v0 (Int.toNat (v5l1))).usage).b)), .d (cI (((nth v0 (Int.toNat (v5l1))).usage).start)), .d (cI (((nth v0 (Int.toNat (v5l1))).usage).units)), .d (cI (((nth v0 (Int.toNat (v5l1))).usage).trunk)), .d (cB (((nth v0 (Int.toNat (v5l1))).usage).inbound)), .d (cI (((nth v0 (Int.toNat (v5l1))).usage).source)), .d (cI (((nth v0 (Int.toNat (v5l1))).usage).serial)), .d (cI ((nth v0 (Int.toNat (v5l1))).err)), .d (cS ((nth v0 (Int.toNat (v5l1))).plan)), .d (cI ((nth v0 (Int.toNat (v5l1))).version)), .d (cS ((nth v0 (Int.toNat (v5l1))).zone)), .d (slOf 5 Take.row ((nth v0 (Int.toNat (v5l1))).takes)), .d (slOf 4 Segment.row ((nth v0 (Int.toNat (v5l1))).segments)), .d (cI ((nth v0 (Int.toNat (v5l1))).setup)), .d (cI ((nth v0 (Int.toNat (v5l1))).gross)), .d (cI ((nth v0 (Int.toNat (v5l1))).net)), .d (slOf 2 Given.row ((nth v0 (Int.toNat (v5l1))).given)), .d (cI ((nth v0 (Int.toNat (v5l1))).paid)), .d (cI ((nth v0 (Int.toNat (v5l1))).owed))]], []⟩) (fun p => iter (fun s => f_billingref54_Rated_l2 v0 v5l1 s) p.1 p.2 = some q1) (·.1) (n2, 0) H (.cons rfl (.rfl' _) (.cons rfl (.rfl' _) (.cons rfl (.rfl' _) (.cons rfl (.rfl' _) (.cons rfl (.rfl' _) (.nil)))))) rfl ?_
            rintro ⟨m2, v9l2⟩ HI ih2
            obtain ⟨n2, q2, hm2, H, HK2⟩ := iter_succ HI
            clear HI
            replace H : f_billingref54_Rated_l2 v0 v5l1 v9l2 = some q2 := H
            unfold f_billingref54_Rated_l2 at H
            change ARun _ _ _ _ _ _ [(0, .d (slOf 24 Rated.row v0)), (1, .d (cI v1)), (5, .d (cI v5l1)), (6, .ref 0 0), (9, .d (cI v9l2))] ⟨[.row 36 [.d (cI (((nth v0 (Int.toNat (v5l1))).usage).id)), .d (cI (((nth v0 (Int.toNat (v5l1))).usage).kind)), .d (cI (((nth v0 (Int.toNat (v5l1))).usage).account)), .d (cI (((nth v0 (Int.toNat (v5l1))).usage).sub)), .d (cS (((nth v0 (Int.toNat (v5l1))).usage).a)), .d (cS (((nth v0 (Int.toNat (v5l1))).usage).b)), .d (cI (((nth v0 (Int.toNat (v5l1))).usage).start)), .d (cI (((nth v0 (Int.toNat (v5l1))).usage).units)), .d (cI (((nth v0 (Int.toNat (v5l1))).usage).trunk)), .d (cB (((nth v0 (Int.toNat (v5l1))).usage).inbound)), .d (cI (((nth v0 (Int.toNat (v5l1))).usage).source)), .d (cI (((nth v0 (Int.toNat (v5l1))).usage).serial)), .d (cI ((nth v0 (Int.toNat (v5l1))).err)), .d (cS ((nth v0 (Int.toNat (v5l1))).plan)), .d (cI ((nth v0 (Int.toNat (v5l1))).version)), .d (cS ((nth v0 (Int.toNat (v5l1))).zone)), .d (slOf 5 Take.row ((nth v0 (Int.toNat (v5l1))).takes)), .d (slOf 4 Segment.row ((nth v0 (Int.toNat (v5l1))).segments)), .d (cI ((nth v0 (Int.toNat (v5l1))).setup)), .d (cI ((nth v0 (Int.toNat (v5l1))).gross)), .d (cI ((nth v0 (Int.toNat (v5l1))).net)), .d (slOf 2 Given.row ((nth v0 (Int.toNat (v5l1))).given)), .d (cI ((nth v0 (Int.toNat (v5l1))).paid)), .d (cI ((nth v0 (Int.toNat (v5l1))).owed))]], []⟩
            refine .seq ?_
            refine .seq ?_
            refine .region ?_
            refine .q (x := .d (cI v9l2)) (q_move rfl) rfl ?_
            refine .q (x := .ref 0 21) (q_fieldRef fo_36_10 rfl) rfl ?_
            refine .q (x := .d (slOf 2 Given.row ((nth v0 (Int.toNat (v5l1))).given))) (q_loadO one_34 rfl rfl rfl) rfl ?_
            refine .q (x := .d (cI (((nth v0 (Int.toNat (v5l1))).given).length : Int))) (q_lenL (l := (nth v0 (Int.toNat (v5l1))).given) (row := Given.row) Try.underlying34 rfl rfl) rfl ?_
            refine .q (x := .d (cB (decide (v9l2 < (((nth v0 (Int.toNat (v5l1))).given).length : Int))))) (q_lss rfl rfl) rfl ?_
            refine .nil ?_
            refine .cond rfl (fun hc => ?_) (fun hc => ?_)
            · replace H := ifT hc H; clear hc
              refine .skip ?_
              refine .seq ?_
              refine .block ?_
              refine .seq ?_
              refine .region ?_
              refine .q (x := .ref 0 21) (q_fieldRef fo_36_10 rfl) rfl ?_
              refine .q (x := .d (slOf 2 Given.row ((nth v0 (Int.toNat (v5l1))).given))) (q_loadO one_34 rfl rfl rfl) rfl ?_
              refine .q (x := .d (cI v9l2)) (q_move rfl) rfl ?_
              obtain ⟨hk2, H⟩ := ck_some H
              refine .q (x := .d (.ro (Given.row (nth ((nth v0 (Int.toNat (v5l1))).given) (Int.toNat (v9l2)))))) (q_idxL (row := Given.row) (l := (nth v0 (Int.toNat (v5l1))).given) (i := v9l2) Try.underlying34 hi43 hs43 rfl rfl rfl hk2) rfl ?_
              refine .q (x := .d (.ro ((Given.row (nth ((nth v0 (Int.toNat (v5l1))).given) (Int.toNat (v9l2)))).drop 1))) (q_fieldRo fo_43_1 rfl) rfl ?_
              refine .q (x := .d (cI ((nth ((nth v0 (Int.toNat (v5l1))).given) (Int.toNat (v9l2))).amount))) (q_load one_3 rfl) rfl ?_
              obtain ⟨y6, hy6, H⟩ := bind_some' H
              refine .g (x := .d (cB y6)) (g_call en_9 rfl rfl (c_f_billingref54_amount (hy6))) rfl ?_
              refine .q (x := .d (cB (!y6))) (q_not rfl) rfl ?_
              refine .nil ?_
              refine .cond rfl (fun hc => ?_) (fun hc => ?_)
              · replace H := ifT hc H; clear hc
                refine .seq ?_
                refine .region ?_
                refine .q (x := .d (cB false)) (q_assign rfl) rfl ?_
                refine .nil ?_
                refine .retN [.tmp 4] [.d (cB false)] Try.func4 Try.results4 ⟨rfl, trivial⟩ ?_
                cases H
                cases HK2
                cases HK1
                exact ⟨_, .rfl' _, rfl⟩
              · replace H := ifF hc H; clear hc
                refine .skip ?_
                refine .inBlock ?_
                refine .region ?_
                refine .q (x := .d (cI v9l2)) (q_move rfl) rfl ?_
                obtain ⟨hk3, H⟩ := ck_some H
                refine .q (x := .d (cI (v9l2 + 1))) (q_addI rfl rfl hk3.1 hk3.2) rfl ?_
                refine .q (x := .d (cI (v9l2 + 1))) (q_assign rfl) rfl ?_
                refine .nil ?_
                cases H
                exact .sub (.cons rfl (.rfl' _) (.cons rfl (.rfl' _) (.cons rfl (.rfl' _) (.cons rfl (.rfl' _) (.cons rfl (.rfl' _) (.nil)))))) (ih2 (n2, (v9l2 + 1)) HK2 hm2)
            · replace H := ifF hc H; clear hc
              refine .exit rfl ?_
              refine .inBlock ?_
              refine .region ?_
              refine .q (x := .d (cI v5l1)) (q_move rfl) rfl ?_
              obtain ⟨hk4, H⟩ := ck_some H
              refine .q (x := .d (cI (v5l1 + 1))) (q_addI rfl rfl hk4.1 hk4.2) rfl ?_
              refine .q (x := .d (cI (v5l1 + 1))) (q_assign rfl) rfl ?_
              refine .nil ?_
              cases H
              cases HK2
              exact .to 0 0 (env' := [(0, .d (slOf 24 Rated.row v0)), (1, .d (cI v1)), (5, .d (cI (v5l1 + 1)))]) (st' := ⟨[], []⟩) (.cons rfl (.rfl' _) (.cons rfl (.rfl' _) (.cons rfl (.rfl' _) (.nil)))) rfl rfl rfl rfl rfl (by rw [hS]; exact Nat.le_of_ble_eq_true rfl) (by rw [hS]; exact Nat.le_of_ble_eq_true rfl) <| .sub (.cons rfl (.rfl' _) (.cons rfl (.rfl' _) (.cons rfl (.rfl' _) (.nil)))) (ih1 (n1, (v5l1 + 1)) HK1 hm1)
          · intro hj2 hj2x
            obtain ⟨n3, H⟩ := loop_some H
            refine .loop (ι := Nat × (Int)) (fun p => [(0, .d (slOf 24 Rated.row v0)), (1, .d (cI v1)), (5, .d (cI v5l1)), (6, .ref 0 0), (8, .d (cI p.2))]) (fun p => ⟨[.row 36 [.d (cI (((nth v0 (Int.toNat (v5l1))).usage).id)), .d (cI (((nth v0 (Int.toNat (v5l1))).usage).kind)), .d (cI (((nth v0 (Int.toNat (v5l1))).usage).account)), .d (cI (((nth v0 (Int.toNat (v5l1))).usage).sub)), .d (cS (((nth v0 (Int.toNat (v5l1))).usage).a)), .d (cS (((nth v0 (Int.toNat (v5l1))).usage).b)), .d (cI (((nth v0 (Int.toNat (v5l1))).usage).start)), .d (cI (((nth v0 (Int.toNat (v5l1))).usage).units)), .d (cI (((nth v0 (Int.toNat (v5l1))).usage).trunk)), .d (cB (((nth v0 (Int.toNat (v5l1))).usage).inbound)), .d (cI (((nth v0 (Int.toNat (v5l1))).usage).source)), .d (cI (((nth v0 (Int.toNat (v5l1))).usage).serial)), .d (cI ((nth v0 (Int.toNat (v5l1))).err)), .d (cS ((nth v0 (Int.toNat (v5l1))).plan)), .d (cI ((nth v0 (Int.toNat (v5l1))).version)), .d (cS ((nth v0 (Int.toNat (v5l1))).zone)), .d (slOf 5 Take.row ((nth v0 (Int.toNat (v5l1))).takes)), .d (slOf 4 Segment.row ((nth v0 (Int.toNat (v5l1))).segments)), .d (cI ((nth v0 (Int.toNat (v5l1))).setup)), .d (cI ((nth v0 (Int.toNat (v5l1))).gross)), .d (cI ((nth v0 (Int.toNat (v5l1))).net)), .d (slOf 2 Given.row ((nth v0 (Int.toNat (v5l1))).given)), .d (cI ((nth v0 (Int.toNat (v5l1))).paid)), .d (cI ((nth v0 (Int.toNat (v5l1))).owed))]], []⟩) (fun p => iter (fun s => f_billingref54_Rated_l3 v0 v5l1 s) p.1 p.2 = some q1) (·.1) (n3, 0) H (.cons rfl (.rfl' _) (.cons rfl (.rfl' _) (.cons rfl (.rfl' _) (.cons rfl (.rfl' _) (.cons rfl (.rfl' _) (.nil)))))) rfl ?_
            rintro ⟨m2, v8l3⟩ HI ih2
            obtain ⟨n2, q2, hm2, H, HK2⟩ := iter_succ HI
            clear HI
            replace H : f_billingref54_Rated_l3 v0 v5l1 v8l3 = some q2 := H
            unfold f_billingref54_Rated_l3 at H
            change ARun _ _ _ _ _ _ [(0, .d (slOf 24 Rated.row v0)), (1, .d (cI v1)), (5, .d (cI v5l1)), (6, .ref 0 0), (8, .d (cI v8l3))] ⟨[.row 36 [.d (cI (((nth v0 (Int.toNat (v5l1))).usage).id)), .d (cI (((nth v0 (Int.toNat (v5l1))).usage).kind)), .d (cI (((nth v0 (Int.toNat (v5l1))).usage).account)), .d (cI (((nth v0 (Int.toNat (v5l1))).usage).sub)), .d (cS (((nth v0 (Int.toNat (v5l1))).usage).a)), .d (cS (((nth v0 (Int.toNat (v5l1))).usage).b)), .d (cI (((nth v0 (Int.toNat (v5l1))).usage).start)), .d (cI (((nth v0 (Int.toNat (v5l1))).usage).units)), .d (cI (((nth v0 (Int.toNat (v5l1))).usage).trunk)), .d (cB (((nth v0 (Int.toNat (v5l1))).usage).inbound)), .d (cI (((nth v0 (Int.toNat (v5l1))).usage).source)), .d (cI (((nth v0 (Int.toNat (v5l1))).usage).serial)), .d (cI ((nth v0 (Int.toNat (v5l1))).err)), .d (cS ((nth v0 (Int.toNat (v5l1))).plan)), .d (cI ((nth v0 (Int.toNat (v5l1))).version)), .d (cS ((nth v0 (Int.toNat (v5l1))).zone)), .d (slOf 5 Take.row ((nth v0 (Int.toNat (v5l1))).takes)), .d (slOf 4 Segment.row ((nth v0 (Int.toNat (v5l1))).segments)), .d (cI ((nth v0 (Int.toNat (v5l1))).setup)), .d (cI ((nth v0 (Int.toNat (v5l1))).gross)), .d (cI ((nth v0 (Int.toNat (v5l1))).net)), .d (slOf 2 Given.row ((nth v0 (Int.toNat (v5l1))).given)), .d (cI ((nth v0 (Int.toNat (v5l1))).paid)), .d (cI ((nth v0 (Int.toNat (v5l1))).owed))]], []⟩
            refine .seq ?_
            refine .seq ?_
            refine .region ?_
            refine .q (x := .d (cI v8l3)) (q_move rfl) rfl ?_
            refine .q (x := .ref 0 17) (q_fieldRef fo_36_6 rfl) rfl ?_
            refine .q (x := .d (slOf 4 Segment.row ((nth v0 (Int.toNat (v5l1))).segments))) (q_loadO one_33 rfl rfl rfl) rfl ?_
            refine .q (x := .d (cI (((nth v0 (Int.toNat (v5l1))).segments).length : Int))) (q_lenL (l := (nth v0 (Int.toNat (v5l1))).segments) (row := Segment.row) Try.underlying33 rfl rfl) rfl ?_
            refine .q (x := .d (cB (decide (v8l3 < (((nth v0 (Int.toNat (v5l1))).segments).length : Int))))) (q_lss rfl rfl) rfl ?_
            refine .nil ?_
            refine .cond rfl (fun hc => ?_) (fun hc => ?_)
            · replace H := ifT hc H; clear hc
              refine .skip ?_
              refine .seq ?_
              refine .block ?_
              refine .seq ?_
              refine .region ?_
              refine .q (x := .ref 0 17) (q_fieldRef fo_36_6 rfl) rfl ?_
              refine .q (x := .d (slOf 4 Segment.row ((nth v0 (Int.toNat (v5l1))).segments))) (q_loadO one_33 rfl rfl rfl) rfl ?_
              refine .q (x := .d (cI v8l3)) (q_move rfl) rfl ?_
              obtain ⟨hk5, H⟩ := ck_some H
              refine .q (x := .d (.ro (Segment.row (nth ((nth v0 (Int.toNat (v5l1))).segments) (Int.toNat (v8l3)))))) (q_idxL (row := Segment.row) (l := (nth v0 (Int.toNat (v5l1))).segments) (i := v8l3) Try.underlying33 hi41 hs41 rfl rfl rfl hk5) rfl ?_
              refine .q (x := .d (.ro ((Segment.row (nth ((nth v0 (Int.toNat (v5l1))).segments) (Int.toNat (v8l3)))).drop 2))) (q_fieldRo fo_41_2 rfl) rfl ?_
              refine .q (x := .d (cI ((nth ((nth v0 (Int.toNat (v5l1))).segments) (Int.toNat (v8l3))).units))) (q_load one_3 rfl) rfl ?_
              refine .q (x := .d (cB (decide (((nth ((nth v0 (Int.toNat (v5l1))).segments) (Int.toNat (v8l3))).units) < 0)))) (q_lss rfl rfl) rfl ?_
              refine .q (x := .d (cB (decide (((nth ((nth v0 (Int.toNat (v5l1))).segments) (Int.toNat (v8l3))).units) < 0)))) (q_move rfl) rfl ?_
              refine .guardG (b := (!(decide (((nth ((nth v0 (Int.toNat (v5l1))).segments) (Int.toNat (v8l3))).units) < 0)))) (x := .ref 0 17) (env' := [(6, _)]) rfl rfl rfl ⟨.inl rfl, trivial⟩ rfl (fun hg => OpQ.g (q_fieldRef fo_36_6 rfl)) ?_
              refine .guardG (b := (!(decide (((nth ((nth v0 (Int.toNat (v5l1))).segments) (Int.toNat (v8l3))).units) < 0)))) (x := .d (slOf 4 Segment.row ((nth v0 (Int.toNat (v5l1))).segments))) (env' := [(123, _)]) rfl rfl rfl ⟨.inr (.inl rfl), trivial⟩ rfl (fun hg => OpQ.g (q_loadO one_33 rfl rfl rfl)) ?_
              refine .guardG (b := (!(decide (((nth ((nth v0 (Int.toNat (v5l1))).segments) (Int.toNat (v8l3))).units) < 0)))) (x := .d (cI v8l3)) (env' := [(8, _)]) rfl rfl rfl ⟨.inl rfl, trivial⟩ rfl (fun hg => OpQ.g (q_move rfl)) ?_
              obtain ⟨hk6, H⟩ := ck_some H
              refine .guardG (b := (!(decide (((nth ((nth v0 (Int.toNat (v5l1))).segments) (Int.toNat (v8l3))).units) < 0)))) (x := .d (.ro (Segment.row (nth ((nth v0 (Int.toNat (v5l1))).segments) (Int.toNat (v8l3)))))) (env' := [(124, _), (125, _)]) rfl rfl rfl ⟨.inr (.inl rfl), ⟨.inr (.inl rfl), trivial⟩⟩ rfl (fun hg => OpQ.g (q_idxL (row := Segment.row) (l := (nth v0 (Int.toNat (v5l1))).segments) (i := v8l3) Try.underlying33 hi41 hs41 rfl rfl rfl (hk6 hg))) ?_
              refine .guardG (b := (!(decide (((nth ((nth v0 (Int.toNat (v5l1))).segments) (Int.toNat (v8l3))).units) < 0)))) (x := .d (.ro ((Segment.row (nth ((nth v0 (Int.toNat (v5l1))).segments) (Int.toNat (v8l3)))).drop 2))) (env' := [(126, _)]) rfl rfl rfl ⟨.inr (.inl rfl), trivial⟩ rfl (fun hg => OpQ.g (q_fieldRo fo_41_2 rfl)) ?_
              refine .guardG (b := (!(decide (((nth ((nth v0 (Int.toNat (v5l1))).segments) (Int.toNat (v8l3))).units) < 0)))) (x := .d (cI ((nth ((nth v0 (Int.toNat (v5l1))).segments) (Int.toNat (v8l3))).units))) (env' := [(127, _)]) rfl rfl rfl ⟨.inr (.inl rfl), trivial⟩ rfl (fun hg => OpQ.g (q_load one_3 rfl)) ?_
              refine .guardG (b := (!(decide (((nth ((nth v0 (Int.toNat (v5l1))).segments) (Int.toNat (v8l3))).units) < 0)))) (x := .d (cB (decide (((nth ((nth v0 (Int.toNat (v5l1))).segments) (Int.toNat (v8l3))).units) > 1099511627776)))) (env' := [(128, _)]) rfl rfl rfl ⟨.inr (.inl rfl), trivial⟩ rfl (fun hg => OpQ.g (q_gtr rfl rfl)) ?_
              refine .q (x := .d (cB ((decide (((nth ((nth v0 (Int.toNat (v5l1))).segments) (Int.toNat (v8l3))).units) < 0)) || (decide (((nth ((nth v0 (Int.toNat (v5l1))).segments) (Int.toNat (v8l3))).units) > 1099511627776))))) (q_pickOrB rfl rfl rfl) rfl ?_
              refine .q (x := .d (cB ((decide (((nth ((nth v0 (Int.toNat (v5l1))).segments) (Int.toNat (v8l3))).units) < 0)) || (decide (((nth ((nth v0 (Int.toNat (v5l1))).segments) (Int.toNat (v8l3))).units) > 1099511627776))))) (q_move rfl) rfl ?_
              refine .guardG (b := (!((decide (((nth ((nth v0 (Int.toNat (v5l1))).segments) (Int.toNat (v8l3))).units) < 0)) || (decide (((nth ((nth v0 (Int.toNat (v5l1))).segments) (Int.toNat (v8l3))).units) > 1099511627776))))) (x := .ref 0 17) (env' := [(6, _)]) rfl rfl rfl ⟨.inl rfl, trivial⟩ rfl (fun hg => OpQ.g (q_fieldRef fo_36_6 rfl)) ?_
              refine .guardG (b := (!((decide (((nth ((nth v0 (Int.toNat (v5l1))).segments) (Int.toNat (v8l3))).units) < 0)) || (decide (((nth ((nth v0 (Int.toNat (v5l1))).segments) (Int.toNat (v8l3))).units) > 1099511627776))))) (x := .d (slOf 4 Segment.row ((nth v0 (Int.toNat (v5l1))).segments))) (env' := [(132, _)]) rfl rfl rfl ⟨.inr (.inl rfl), trivial⟩ rfl (fun hg => OpQ.g (q_loadO one_33 rfl rfl rfl)) ?_
              refine .guardG (b := (!((decide (((nth ((nth v0 (Int.toNat (v5l1))).segments) (Int.toNat (v8l3))).units) < 0)) || (decide (((nth ((nth v0 (Int.toNat (v5l1))).segments) (Int.toNat (v8l3))).units) > 1099511627776))))) (x := .d (cI v8l3)) (env' := [(8, _)]) rfl rfl rfl ⟨.inl rfl, trivial⟩ rfl (fun hg => OpQ.g (q_move rfl)) ?_
              obtain ⟨hk7, H⟩ := ck_some H
              refine .guardG (b := (!((decide (((nth ((nth v0 (Int.toNat (v5l1))).segments) (Int.toNat (v8l3))).units) < 0)) || (decide (((nth ((nth v0 (Int.toNat (v5l1))).segments) (Int.toNat (v8l3))).units) > 1099511627776))))) (x := .d (.ro (Segment.row (nth ((nth v0 (Int.toNat (v5l1))).segments) (Int.toNat (v8l3)))))) (env' := [(133, _), (134, _)]) rfl rfl rfl ⟨.inr (.inl rfl), ⟨.inr (.inl rfl), trivial⟩⟩ rfl (fun hg => OpQ.g (q_idxL (row := Segment.row) (l := (nth v0 (Int.toNat (v5l1))).segments) (i := v8l3) Try.underlying33 hi41 hs41 rfl rfl rfl (hk7 hg))) ?_
              refine .guardG (b := (!((decide (((nth ((nth v0 (Int.toNat (v5l1))).segments) (Int.toNat (v8l3))).units) < 0)) || (decide (((nth ((nth v0 (Int.toNat (v5l1))).segments) (Int.toNat (v8l3))).units) > 1099511627776))))) (x := .d (.ro ((Segment.row (nth ((nth v0 (Int.toNat (v5l1))).segments) (Int.toNat (v8l3)))).drop 3))) (env' := [(135, _)]) rfl rfl rfl ⟨.inr (.inl rfl), trivial⟩ rfl (fun hg => OpQ.g (q_fieldRo fo_41_3 rfl)) ?_
              refine .guardG (b := (!((decide (((nth ((nth v0 (Int.toNat (v5l1))).segments) (Int.toNat (v8l3))).units) < 0)) || (decide (((nth ((nth v0 (Int.toNat (v5l1))).segments) (Int.toNat (v8l3))).units) > 1099511627776))))) (x := .d (cI ((nth ((nth v0 (Int.toNat (v5l1))).segments) (Int.toNat (v8l3))).amount))) (env' := [(136, _)]) rfl rfl rfl ⟨.inr (.inl rfl), trivial⟩ rfl (fun hg => OpQ.g (q_load one_3 rfl)) ?_
              obtain ⟨y7, hy7, H⟩ := bind_some' H
              refine .guardG (b := (!((decide (((nth ((nth v0 (Int.toNat (v5l1))).segments) (Int.toNat (v8l3))).units) < 0)) || (decide (((nth ((nth v0 (Int.toNat (v5l1))).segments) (Int.toNat (v8l3))).units) > 1099511627776))))) (x := .d (cB y7)) (env' := [(137, _)]) rfl rfl rfl ⟨.inr (.inl rfl), trivial⟩ rfl (fun hg => (g_call en_9 rfl rfl (c_f_billingref54_amount (gcall_some hy7 hg)))) ?_
              refine .guardG (b := (!((decide (((nth ((nth v0 (Int.toNat (v5l1))).segments) (Int.toNat (v8l3))).units) < 0)) || (decide (((nth ((nth v0 (Int.toNat (v5l1))).segments) (Int.toNat (v8l3))).units) > 1099511627776))))) (x := .d (cB (!y7))) (env' := [(138, _)]) rfl rfl rfl ⟨.inr (.inl rfl), trivial⟩ rfl (fun hg => OpQ.g (q_not rfl)) ?_
              refine .q (x := .d (cB (((decide (((nth ((nth v0 (Int.toNat (v5l1))).segments) (Int.toNat (v8l3))).units) < 0)) || (decide (((nth ((nth v0 (Int.toNat (v5l1))).segments) (Int.toNat (v8l3))).units) > 1099511627776))) || (!y7)))) (q_pickOrB rfl rfl rfl) rfl ?_
              refine .nil ?_
              refine .cond rfl (fun hc => ?_) (fun hc => ?_)
              · replace H := ifT hc H; clear hc
                refine .seq ?_
                refine .region ?_
                refine .q (x := .d (cB false)) (q_assign rfl) rfl ?_
                refine .nil ?_
                refine .retN [.tmp 4] [.d (cB false)] Try.func4 Try.results4 ⟨rfl, trivial⟩ ?_
                cases H
                cases HK2
                cases HK1
                exact ⟨_, .rfl' _, rfl⟩
              · replace H := ifF hc H; clear hc
                refine .skip ?_
                refine .inBlock ?_
                refine .region ?_
                refine .q (x := .d (cI v8l3)) (q_move rfl) rfl ?_
                obtain ⟨hk8, H⟩ := ck_some H
                refine .q (x := .d (cI (v8l3 + 1))) (q_addI rfl rfl hk8.1 hk8.2) rfl ?_
                refine .q (x := .d (cI (v8l3 + 1))) (q_assign rfl) rfl ?_
                refine .nil ?_
                cases H
                exact .sub (.cons rfl (.rfl' _) (.cons rfl (.rfl' _) (.cons rfl (.rfl' _) (.cons rfl (.rfl' _) (.cons rfl (.rfl' _) (.nil)))))) (ih2 (n2, (v8l3 + 1)) HK2 hm2)
            · replace H := ifF hc H; clear hc
              refine .exit rfl ?_
              obtain ⟨q0, H9, hq0⟩ := map_some' H; clear H; cases hq0
              cases HK2
              have H := H9
              exact .sub (.cons rfl (.rfl' _) (.cons rfl (.rfl' _) (.cons rfl (.rfl' _) (.cons rfl (.rfl' _) (.nil))))) (hj2x () H)
        · intro hj1 hj1x
          obtain ⟨n4, H⟩ := loop_some H
          refine .loop (ι := Nat × (Int)) (fun p => [(0, .d (slOf 24 Rated.row v0)), (1, .d (cI v1)), (5, .d (cI v5l1)), (6, .ref 0 0), (7, .d (cI p.2))]) (fun p => ⟨[.row 36 [.d (cI (((nth v0 (Int.toNat (v5l1))).usage).id)), .d (cI (((nth v0 (Int.toNat (v5l1))).usage).kind)), .d (cI (((nth v0 (Int.toNat (v5l1))).usage).account)), .d (cI (((nth v0 (Int.toNat (v5l1))).usage).sub)), .d (cS (((nth v0 (Int.toNat (v5l1))).usage).a)), .d (cS (((nth v0 (Int.toNat (v5l1))).usage).b)), .d (cI (((nth v0 (Int.toNat (v5l1))).usage).start)), .d (cI (((nth v0 (Int.toNat (v5l1))).usage).units)), .d (cI (((nth v0 (Int.toNat (v5l1))).usage).trunk)), .d (cB (((nth v0 (Int.toNat (v5l1))).usage).inbound)), .d (cI (((nth v0 (Int.toNat (v5l1))).usage).source)), .d (cI (((nth v0 (Int.toNat (v5l1))).usage).serial)), .d (cI ((nth v0 (Int.toNat (v5l1))).err)), .d (cS ((nth v0 (Int.toNat (v5l1))).plan)), .d (cI ((nth v0 (Int.toNat (v5l1))).version)), .d (cS ((nth v0 (Int.toNat (v5l1))).zone)), .d (slOf 5 Take.row ((nth v0 (Int.toNat (v5l1))).takes)), .d (slOf 4 Segment.row ((nth v0 (Int.toNat (v5l1))).segments)), .d (cI ((nth v0 (Int.toNat (v5l1))).setup)), .d (cI ((nth v0 (Int.toNat (v5l1))).gross)), .d (cI ((nth v0 (Int.toNat (v5l1))).net)), .d (slOf 2 Given.row ((nth v0 (Int.toNat (v5l1))).given)), .d (cI ((nth v0 (Int.toNat (v5l1))).paid)), .d (cI ((nth v0 (Int.toNat (v5l1))).owed))]], []⟩) (fun p => iter (fun s => f_billingref54_Rated_l4 v0 v5l1 s) p.1 p.2 = some q1) (·.1) (n4, 0) H (.cons rfl (.rfl' _) (.cons rfl (.rfl' _) (.cons rfl (.rfl' _) (.cons rfl (.rfl' _) (.cons rfl (.rfl' _) (.nil)))))) rfl ?_
          rintro ⟨m2, v7l4⟩ HI ih2
          obtain ⟨n2, q2, hm2, H, HK2⟩ := iter_succ HI
          clear HI
          replace H : f_billingref54_Rated_l4 v0 v5l1 v7l4 = some q2 := H
          unfold f_billingref54_Rated_l4 at H
          change ARun _ _ _ _ _ _ [(0, .d (slOf 24 Rated.row v0)), (1, .d (cI v1)), (5, .d (cI v5l1)), (6, .ref 0 0), (7, .d (cI v7l4))] ⟨[.row 36 [.d (cI (((nth v0 (Int.toNat (v5l1))).usage).id)), .d (cI (((nth v0 (Int.toNat (v5l1))).usage).kind)), .d (cI (((nth v0 (Int.toNat (v5l1))).usage).account)), .d (cI (((nth v0 (Int.toNat (v5l1))).usage).sub)), .d (cS (((nth v0 (Int.toNat (v5l1))).usage).a)), .d (cS (((nth v0 (Int.toNat (v5l1))).usage).b)), .d (cI (((nth v0 (Int.toNat (v5l1))).usage).start)), .d (cI (((nth v0 (Int.toNat (v5l1))).usage).units)), .d (cI (((nth v0 (Int.toNat (v5l1))).usage).trunk)), .d (cB (((nth v0 (Int.toNat (v5l1))).usage).inbound)), .d (cI (((nth v0 (Int.toNat (v5l1))).usage).source)), .d (cI (((nth v0 (Int.toNat (v5l1))).usage).serial)), .d (cI ((nth v0 (Int.toNat (v5l1))).err)), .d (cS ((nth v0 (Int.toNat (v5l1))).plan)), .d (cI ((nth v0 (Int.toNat (v5l1))).version)), .d (cS ((nth v0 (Int.toNat (v5l1))).zone)), .d (slOf 5 Take.row ((nth v0 (Int.toNat (v5l1))).takes)), .d (slOf 4 Segment.row ((nth v0 (Int.toNat (v5l1))).segments)), .d (cI ((nth v0 (Int.toNat (v5l1))).setup)), .d (cI ((nth v0 (Int.toNat (v5l1))).gross)), .d (cI ((nth v0 (Int.toNat (v5l1))).net)), .d (slOf 2 Given.row ((nth v0 (Int.toNat (v5l1))).given)), .d (cI ((nth v0 (Int.toNat (v5l1))).paid)), .d (cI ((nth v0 (Int.toNat (v5l1))).owed))]], []⟩
          refine .seq ?_
          refine .seq ?_
          refine .region ?_
          refine .q (x := .d (cI v7l4)) (q_move rfl) rfl ?_
          refine .q (x := .ref 0 16) (q_fieldRef fo_36_5 rfl) rfl ?_
          refine .q (x := .d (slOf 5 Take.row ((nth v0 (Int.toNat (v5l1))).takes))) (q_loadO one_32 rfl rfl rfl) rfl ?_
          refine .q (x := .d (cI (((nth v0 (Int.toNat (v5l1))).takes).length : Int))) (q_lenL (l := (nth v0 (Int.toNat (v5l1))).takes) (row := Take.row) Try.underlying32 rfl rfl) rfl ?_
          refine .q (x := .d (cB (decide (v7l4 < (((nth v0 (Int.toNat (v5l1))).takes).length : Int))))) (q_lss rfl rfl) rfl ?_
          refine .nil ?_
          refine .cond rfl (fun hc => ?_) (fun hc => ?_)
          · replace H := ifT hc H; clear hc
            refine .skip ?_
            refine .seq ?_
            refine .block ?_
            refine .seq ?_
            refine .region ?_
            refine .q (x := .ref 0 16) (q_fieldRef fo_36_5 rfl) rfl ?_
            refine .q (x := .d (slOf 5 Take.row ((nth v0 (Int.toNat (v5l1))).takes))) (q_loadO one_32 rfl rfl rfl) rfl ?_
            refine .q (x := .d (cI v7l4)) (q_move rfl) rfl ?_
            obtain ⟨hk9, H⟩ := ck_some H
            refine .q (x := .d (.ro (Take.row (nth ((nth v0 (Int.toNat (v5l1))).takes) (Int.toNat (v7l4)))))) (q_idxL (row := Take.row) (l := (nth v0 (Int.toNat (v5l1))).takes) (i := v7l4) Try.underlying32 hi39 hs39 rfl rfl rfl hk9) rfl ?_
            refine .q (x := .d (.ro ((Take.row (nth ((nth v0 (Int.toNat (v5l1))).takes) (Int.toNat (v7l4)))).drop 4))) (q_fieldRo fo_39_4 rfl) rfl ?_
            refine .q (x := .d (cI ((nth ((nth v0 (Int.toNat (v5l1))).takes) (Int.toNat (v7l4))).units))) (q_load one_3 rfl) rfl ?_
            refine .q (x := .d (cB (decide (((nth ((nth v0 (Int.toNat (v5l1))).takes) (Int.toNat (v7l4))).units) < 0)))) (q_lss rfl rfl) rfl ?_
            refine .q (x := .d (cB (decide (((nth ((nth v0 (Int.toNat (v5l1))).takes) (Int.toNat (v7l4))).units) < 0)))) (q_move rfl) rfl ?_
            refine .guardG (b := (!(decide (((nth ((nth v0 (Int.toNat (v5l1))).takes) (Int.toNat (v7l4))).units) < 0)))) (x := .ref 0 16) (env' := [(6, _)]) rfl rfl rfl ⟨.inl rfl, trivial⟩ rfl (fun hg => OpQ.g (q_fieldRef fo_36_5 rfl)) ?_
            refine .guardG (b := (!(decide (((nth ((nth v0 (Int.toNat (v5l1))).takes) (Int.toNat (v7l4))).units) < 0)))) (x := .d (slOf 5 Take.row ((nth v0 (Int.toNat (v5l1))).takes))) (env' := [(100, _)]) rfl rfl rfl ⟨.inr (.inl rfl), trivial⟩ rfl (fun hg => OpQ.g (q_loadO one_32 rfl rfl rfl)) ?_
            refine .guardG (b := (!(decide (((nth ((nth v0 (Int.toNat (v5l1))).takes) (Int.toNat (v7l4))).units) < 0)))) (x := .d (cI v7l4)) (env' := [(7, _)]) rfl rfl rfl ⟨.inl rfl, trivial⟩ rfl (fun hg => OpQ.g (q_move rfl)) ?_
            obtain ⟨hk10, H⟩ := ck_some H
            refine .guardG (b := (!(decide (((nth ((nth v0 (Int.toNat (v5l1))).takes) (Int.toNat (v7l4))).units) < 0)))) (x := .d (.ro (Take.row (nth ((nth v0 (Int.toNat (v5l1))).takes) (Int.toNat (v7l4)))))) (env' := [(101, _), (102, _)]) rfl rfl rfl ⟨.inr (.inl rfl), ⟨.inr (.inl rfl), trivial⟩⟩ rfl (fun hg => OpQ.g (q_idxL (row := Take.row) (l := (nth v0 (Int.toNat (v5l1))).takes) (i := v7l4) Try.underlying32 hi39 hs39 rfl rfl rfl (hk10 hg))) ?_
            refine .guardG (b := (!(decide (((nth ((nth v0 (Int.toNat (v5l1))).takes) (Int.toNat (v7l4))).units) < 0)))) (x := .d (.ro ((Take.row (nth ((nth v0 (Int.toNat (v5l1))).takes) (Int.toNat (v7l4)))).drop 4))) (env' := [(103, _)]) rfl rfl rfl ⟨.inr (.inl rfl), trivial⟩ rfl (fun hg => OpQ.g (q_fieldRo fo_39_4 rfl)) ?_
            refine .guardG (b := (!(decide (((nth ((nth v0 (Int.toNat (v5l1))).takes) (Int.toNat (v7l4))).units) < 0)))) (x := .d (cI ((nth ((nth v0 (Int.toNat (v5l1))).takes) (Int.toNat (v7l4))).units))) (env' := [(104, _)]) rfl rfl rfl ⟨.inr (.inl rfl), trivial⟩ rfl (fun hg => OpQ.g (q_load one_3 rfl)) ?_
            refine .guardG (b := (!(decide (((nth ((nth v0 (Int.toNat (v5l1))).takes) (Int.toNat (v7l4))).units) < 0)))) (x := .d (cB (decide (((nth ((nth v0 (Int.toNat (v5l1))).takes) (Int.toNat (v7l4))).units) > 1099511627776)))) (env' := [(105, _)]) rfl rfl rfl ⟨.inr (.inl rfl), trivial⟩ rfl (fun hg => OpQ.g (q_gtr rfl rfl)) ?_
            refine .q (x := .d (cB ((decide (((nth ((nth v0 (Int.toNat (v5l1))).takes) (Int.toNat (v7l4))).units) < 0)) || (decide (((nth ((nth v0 (Int.toNat (v5l1))).takes) (Int.toNat (v7l4))).units) > 1099511627776))))) (q_pickOrB rfl rfl rfl) rfl ?_
            refine .nil ?_
            refine .cond rfl (fun hc => ?_) (fun hc => ?_)
            · replace H := ifT hc H; clear hc
              refine .seq ?_
              refine .region ?_
              refine .q (x := .d (cB false)) (q_assign rfl) rfl ?_
              refine .nil ?_
              refine .retN [.tmp 4] [.d (cB false)] Try.func4 Try.results4 ⟨rfl, trivial⟩ ?_
              cases H
              cases HK2
              cases HK1
              exact ⟨_, .rfl' _, rfl⟩
            · replace H := ifF hc H; clear hc
              refine .skip ?_
              refine .inBlock ?_
              refine .region ?_
              refine .q (x := .d (cI v7l4)) (q_move rfl) rfl ?_
              obtain ⟨hk11, H⟩ := ck_some H
              refine .q (x := .d (cI (v7l4 + 1))) (q_addI rfl rfl hk11.1 hk11.2) rfl ?_
              refine .q (x := .d (cI (v7l4 + 1))) (q_assign rfl) rfl ?_
              refine .nil ?_
              cases H
              exact .sub (.cons rfl (.rfl' _) (.cons rfl (.rfl' _) (.cons rfl (.rfl' _) (.cons rfl (.rfl' _) (.cons rfl (.rfl' _) (.nil)))))) (ih2 (n2, (v7l4 + 1)) HK2 hm2)
          · replace H := ifF hc H; clear hc
            refine .exit rfl ?_
            obtain ⟨q0, H9, hq0⟩ := map_some' H; clear H; cases hq0
            cases HK2
            have H := H9
            exact .sub (.cons rfl (.rfl' _) (.cons rfl (.rfl' _) (.cons rfl (.rfl' _) (.cons rfl (.rfl' _) (.nil))))) (hj1x () H)
    · replace H := ifF hc H; clear hc
      refine .exit rfl ?_
      refine .seq ?_
      refine .region ?_
      refine .q (x := .d (cB true)) (q_assign rfl) rfl ?_
      refine .nil ?_
      refine .retN [.tmp 4] [.d (cB true)] Try.func4 Try.results4 ⟨rfl, trivial⟩ ?_
      cases H
      cases HK1
      exact ⟨_, .rfl' _, rfl⟩

set_option maxRecDepth 100000 in
set_option maxHeartbeats 1000000 in
theorem c_f_rate_empty {v0r : Rated} {r : Bool} (H : f_rate_empty v0r = some r) : ACall Try.prog 23 [.agg (Rated.row v0r)] (· = cB r) := by
  refine ACall.enter' Try.func23 rfl Try.ntmps23 rfl fun S hS => ?_
  unfold f_rate_empty at H
  change ARun _ _ _ _ _ _ [(0, .d (.agg (Rated.row v0r)))] _
  refine .seq ?_
  refine .region ?_
  refine .v (x := .ref 0 0) (v_box rfl rfl) rfl ?_
  refine .withSt (st' := ⟨[.row 36 [.d (cI v0r.usage.id), .d (cI v0r.usage.kind), .d (cI v0r.usage.account), .d (cI v0r.usage.sub), .d (cS v0r.usage.a), .d (cS v0r.usage.b), .d (cI v0r.usage.start), .d (cI v0r.usage.units), .d (cI v0r.usage.trunk), .d (cB v0r.usage.inbound), .d (cI v0r.usage.source), .d (cI v0r.usage.serial), .d (cI v0r.err), .d (cS v0r.plan), .d (cI v0r.version), .d (cS v0r.zone), .d (slOf 5 Take.row v0r.takes), .d (slOf 4 Segment.row v0r.segments), .d (cI v0r.setup), .d (cI v0r.gross), .d (cI v0r.net), .d (slOf 2 Given.row v0r.given), .d (cI v0r.paid), .d (cI v0r.owed)]], []⟩) rfl ?_
  refine .q (x := .d (cB false)) (q_assign rfl) rfl ?_
  refine .nil ?_
  refine .seq ?_
  refine .region ?_
  refine .q (x := .ref 0 13) (q_fieldRef fo_36_2 rfl) rfl ?_
  refine .q (x := .d (cS v0r.plan)) (q_loadO one_9 rfl rfl rfl) rfl ?_
  refine .q (x := .d (cB (v0r.plan == ([] : List UInt8)))) (q_seql rfl rfl) rfl ?_
  refine .q (x := .d (cB (v0r.plan == ([] : List UInt8)))) (q_move rfl) rfl ?_
  refine .guardG (b := (v0r.plan == ([] : List UInt8))) (x := .ref 0 15) (env' := [(1, _)]) rfl rfl rfl ⟨.inl rfl, trivial⟩ rfl (fun hg => OpQ.g (q_fieldRef fo_36_4 rfl)) ?_
  refine .guardG (b := (v0r.plan == ([] : List UInt8))) (x := .d (cS v0r.zone)) (env' := [(7, _)]) rfl rfl rfl ⟨.inr (.inl rfl), trivial⟩ rfl (fun hg => OpQ.g (q_loadO one_9 rfl rfl rfl)) ?_
  refine .guardG (b := (v0r.plan == ([] : List UInt8))) (x := .d (cB (v0r.zone == ([] : List UInt8)))) (env' := [(8, _)]) rfl rfl rfl ⟨.inr (.inl rfl), trivial⟩ rfl (fun hg => OpQ.g (q_seql rfl rfl)) ?_
  refine .q (x := .d (cB ((v0r.plan == ([] : List UInt8)) && (v0r.zone == ([] : List UInt8))))) (q_pickAndB rfl rfl rfl) rfl ?_
  refine .q (x := .d (cB ((v0r.plan == ([] : List UInt8)) && (v0r.zone == ([] : List UInt8))))) (q_move rfl) rfl ?_
  refine .guardG (b := ((v0r.plan == ([] : List UInt8)) && (v0r.zone == ([] : List UInt8)))) (x := .ref 0 14) (env' := [(1, _)]) rfl rfl rfl ⟨.inl rfl, trivial⟩ rfl (fun hg => OpQ.g (q_fieldRef fo_36_3 rfl)) ?_
  refine .guardG (b := ((v0r.plan == ([] : List UInt8)) && (v0r.zone == ([] : List UInt8)))) (x := .d (cI v0r.version)) (env' := [(12, _)]) rfl rfl rfl ⟨.inr (.inl rfl), trivial⟩ rfl (fun hg => OpQ.g (q_loadO one_3 rfl rfl rfl)) ?_
  refine .guardG (b := ((v0r.plan == ([] : List UInt8)) && (v0r.zone == ([] : List UInt8)))) (x := .d (cB (v0r.version == 0))) (env' := [(13, _)]) rfl rfl rfl ⟨.inr (.inl rfl), trivial⟩ rfl (fun hg => OpQ.g (q_eql rfl rfl)) ?_
  refine .q (x := .d (cB (((v0r.plan == ([] : List UInt8)) && (v0r.zone == ([] : List UInt8))) && (v0r.version == 0)))) (q_pickAndB rfl rfl rfl) rfl ?_
  refine .q (x := .d (cB (((v0r.plan == ([] : List UInt8)) && (v0r.zone == ([] : List UInt8))) && (v0r.version == 0)))) (q_move rfl) rfl ?_
  refine .guardG (b := (((v0r.plan == ([] : List UInt8)) && (v0r.zone == ([] : List UInt8))) && (v0r.version == 0))) (x := .ref 0 18) (env' := [(1, _)]) rfl rfl rfl ⟨.inl rfl, trivial⟩ rfl (fun hg => OpQ.g (q_fieldRef fo_36_7 rfl)) ?_
  refine .guardG (b := (((v0r.plan == ([] : List UInt8)) && (v0r.zone == ([] : List UInt8))) && (v0r.version == 0))) (x := .d (cI v0r.setup)) (env' := [(17, _)]) rfl rfl rfl ⟨.inr (.inl rfl), trivial⟩ rfl (fun hg => OpQ.g (q_loadO one_3 rfl rfl rfl)) ?_
  refine .guardG (b := (((v0r.plan == ([] : List UInt8)) && (v0r.zone == ([] : List UInt8))) && (v0r.version == 0))) (x := .d (cB (v0r.setup == 0))) (env' := [(18, _)]) rfl rfl rfl ⟨.inr (.inl rfl), trivial⟩ rfl (fun hg => OpQ.g (q_eql rfl rfl)) ?_
  refine .q (x := .d (cB ((((v0r.plan == ([] : List UInt8)) && (v0r.zone == ([] : List UInt8))) && (v0r.version == 0)) && (v0r.setup == 0)))) (q_pickAndB rfl rfl rfl) rfl ?_
  refine .q (x := .d (cB ((((v0r.plan == ([] : List UInt8)) && (v0r.zone == ([] : List UInt8))) && (v0r.version == 0)) && (v0r.setup == 0)))) (q_move rfl) rfl ?_
  refine .guardG (b := ((((v0r.plan == ([] : List UInt8)) && (v0r.zone == ([] : List UInt8))) && (v0r.version == 0)) && (v0r.setup == 0))) (x := .ref 0 19) (env' := [(1, _)]) rfl rfl rfl ⟨.inl rfl, trivial⟩ rfl (fun hg => OpQ.g (q_fieldRef fo_36_8 rfl)) ?_
  refine .guardG (b := ((((v0r.plan == ([] : List UInt8)) && (v0r.zone == ([] : List UInt8))) && (v0r.version == 0)) && (v0r.setup == 0))) (x := .d (cI v0r.gross)) (env' := [(22, _)]) rfl rfl rfl ⟨.inr (.inl rfl), trivial⟩ rfl (fun hg => OpQ.g (q_loadO one_3 rfl rfl rfl)) ?_
  refine .guardG (b := ((((v0r.plan == ([] : List UInt8)) && (v0r.zone == ([] : List UInt8))) && (v0r.version == 0)) && (v0r.setup == 0))) (x := .d (cB (v0r.gross == 0))) (env' := [(23, _)]) rfl rfl rfl ⟨.inr (.inl rfl), trivial⟩ rfl (fun hg => OpQ.g (q_eql rfl rfl)) ?_
  refine .q (x := .d (cB (((((v0r.plan == ([] : List UInt8)) && (v0r.zone == ([] : List UInt8))) && (v0r.version == 0)) && (v0r.setup == 0)) && (v0r.gross == 0)))) (q_pickAndB rfl rfl rfl) rfl ?_
  refine .q (x := .d (cB (((((v0r.plan == ([] : List UInt8)) && (v0r.zone == ([] : List UInt8))) && (v0r.version == 0)) && (v0r.setup == 0)) && (v0r.gross == 0)))) (q_move rfl) rfl ?_
  refine .guardG (b := (((((v0r.plan == ([] : List UInt8)) && (v0r.zone == ([] : List UInt8))) && (v0r.version == 0)) && (v0r.setup == 0)) && (v0r.gross == 0))) (x := .ref 0 20) (env' := [(1, _)]) rfl rfl rfl ⟨.inl rfl, trivial⟩ rfl (fun hg => OpQ.g (q_fieldRef fo_36_9 rfl)) ?_
  refine .guardG (b := (((((v0r.plan == ([] : List UInt8)) && (v0r.zone == ([] : List UInt8))) && (v0r.version == 0)) && (v0r.setup == 0)) && (v0r.gross == 0))) (x := .d (cI v0r.net)) (env' := [(27, _)]) rfl rfl rfl ⟨.inr (.inl rfl), trivial⟩ rfl (fun hg => OpQ.g (q_loadO one_3 rfl rfl rfl)) ?_
  refine .guardG (b := (((((v0r.plan == ([] : List UInt8)) && (v0r.zone == ([] : List UInt8))) && (v0r.version == 0)) && (v0r.setup == 0)) && (v0r.gross == 0))) (x := .d (cB (v0r.net == 0))) (env' := [(28, _)]) rfl rfl rfl ⟨.inr (.inl rfl), trivial⟩ rfl (fun hg => OpQ.g (q_eql rfl rfl)) ?_
  refine .q (x := .d (cB ((((((v0r.plan == ([] : List UInt8)) && (v0r.zone == ([] : List UInt8))) && (v0r.version == 0)) && (v0r.setup == 0)) && (v0r.gross == 0)) && (v0r.net == 0)))) (q_pickAndB rfl rfl rfl) rfl ?_
  refine .q (x := .d (cB ((((((v0r.plan == ([] : List UInt8)) && (v0r.zone == ([] : List UInt8))) && (v0r.version == 0)) && (v0r.setup == 0)) && (v0r.gross == 0)) && (v0r.net == 0)))) (q_move rfl) rfl ?_
  refine .guardG (b := ((((((v0r.plan == ([] : List UInt8)) && (v0r.zone == ([] : List UInt8))) && (v0r.version == 0)) && (v0r.setup == 0)) && (v0r.gross == 0)) && (v0r.net == 0))) (x := .ref 0 22) (env' := [(1, _)]) rfl rfl rfl ⟨.inl rfl, trivial⟩ rfl (fun hg => OpQ.g (q_fieldRef fo_36_11 rfl)) ?_
  refine .guardG (b := ((((((v0r.plan == ([] : List UInt8)) && (v0r.zone == ([] : List UInt8))) && (v0r.version == 0)) && (v0r.setup == 0)) && (v0r.gross == 0)) && (v0r.net == 0))) (x := .d (cI v0r.paid)) (env' := [(32, _)]) rfl rfl rfl ⟨.inr (.inl rfl), trivial⟩ rfl (fun hg => OpQ.g (q_loadO one_3 rfl rfl rfl)) ?_
  refine .guardG (b := ((((((v0r.plan == ([] : List UInt8)) && (v0r.zone == ([] : List UInt8))) && (v0r.version == 0)) && (v0r.setup == 0)) && (v0r.gross == 0)) && (v0r.net == 0))) (x := .d (cB (v0r.paid == 0))) (env' := [(33, _)]) rfl rfl rfl ⟨.inr (.inl rfl), trivial⟩ rfl (fun hg => OpQ.g (q_eql rfl rfl)) ?_
  refine .q (x := .d (cB (((((((v0r.plan == ([] : List UInt8)) && (v0r.zone == ([] : List UInt8))) && (v0r.version == 0)) && (v0r.setup == 0)) && (v0r.gross == 0)) && (v0r.net == 0)) && (v0r.paid == 0)))) (q_pickAndB rfl rfl rfl) rfl ?_
  refine .q (x := .d (cB (((((((v0r.plan == ([] : List UInt8)) && (v0r.zone == ([] : List UInt8))) && (v0r.version == 0)) && (v0r.setup == 0)) && (v0r.gross == 0)) && (v0r.net == 0)) && (v0r.paid == 0)))) (q_move rfl) rfl ?_
  refine .guardG (b := (((((((v0r.plan == ([] : List UInt8)) && (v0r.zone == ([] : List UInt8))) && (v0r.version == 0)) && (v0r.setup == 0)) && (v0r.gross == 0)) && (v0r.net == 0)) && (v0r.paid == 0))) (x := .ref 0 23) (env' := [(1, _)]) rfl rfl rfl ⟨.inl rfl, trivial⟩ rfl (fun hg => OpQ.g (q_fieldRef fo_36_12 rfl)) ?_
  refine .guardG (b := (((((((v0r.plan == ([] : List UInt8)) && (v0r.zone == ([] : List UInt8))) && (v0r.version == 0)) && (v0r.setup == 0)) && (v0r.gross == 0)) && (v0r.net == 0)) && (v0r.paid == 0))) (x := .d (cI v0r.owed)) (env' := [(37, _)]) rfl rfl rfl ⟨.inr (.inl rfl), trivial⟩ rfl (fun hg => OpQ.g (q_loadO one_3 rfl rfl rfl)) ?_
  refine .guardG (b := (((((((v0r.plan == ([] : List UInt8)) && (v0r.zone == ([] : List UInt8))) && (v0r.version == 0)) && (v0r.setup == 0)) && (v0r.gross == 0)) && (v0r.net == 0)) && (v0r.paid == 0))) (x := .d (cB (v0r.owed == 0))) (env' := [(38, _)]) rfl rfl rfl ⟨.inr (.inl rfl), trivial⟩ rfl (fun hg => OpQ.g (q_eql rfl rfl)) ?_
  refine .q (x := .d (cB ((((((((v0r.plan == ([] : List UInt8)) && (v0r.zone == ([] : List UInt8))) && (v0r.version == 0)) && (v0r.setup == 0)) && (v0r.gross == 0)) && (v0r.net == 0)) && (v0r.paid == 0)) && (v0r.owed == 0)))) (q_pickAndB rfl rfl rfl) rfl ?_
  refine .q (x := .d (cB ((((((((v0r.plan == ([] : List UInt8)) && (v0r.zone == ([] : List UInt8))) && (v0r.version == 0)) && (v0r.setup == 0)) && (v0r.gross == 0)) && (v0r.net == 0)) && (v0r.paid == 0)) && (v0r.owed == 0)))) (q_move rfl) rfl ?_
  refine .guardG (b := ((((((((v0r.plan == ([] : List UInt8)) && (v0r.zone == ([] : List UInt8))) && (v0r.version == 0)) && (v0r.setup == 0)) && (v0r.gross == 0)) && (v0r.net == 0)) && (v0r.paid == 0)) && (v0r.owed == 0))) (x := .ref 0 16) (env' := [(1, _)]) rfl rfl rfl ⟨.inl rfl, trivial⟩ rfl (fun hg => OpQ.g (q_fieldRef fo_36_5 rfl)) ?_
  refine .guardG (b := ((((((((v0r.plan == ([] : List UInt8)) && (v0r.zone == ([] : List UInt8))) && (v0r.version == 0)) && (v0r.setup == 0)) && (v0r.gross == 0)) && (v0r.net == 0)) && (v0r.paid == 0)) && (v0r.owed == 0))) (x := .d (slOf 5 Take.row v0r.takes)) (env' := [(42, _)]) rfl rfl rfl ⟨.inr (.inl rfl), trivial⟩ rfl (fun hg => OpQ.g (q_loadO one_32 rfl rfl rfl)) ?_
  refine .guardG (b := ((((((((v0r.plan == ([] : List UInt8)) && (v0r.zone == ([] : List UInt8))) && (v0r.version == 0)) && (v0r.setup == 0)) && (v0r.gross == 0)) && (v0r.net == 0)) && (v0r.paid == 0)) && (v0r.owed == 0))) (x := .d (cI (v0r.takes.length : Int))) (env' := [(43, _)]) rfl rfl rfl ⟨.inr (.inl rfl), trivial⟩ rfl (fun hg => OpQ.g (q_lenL (l := v0r.takes) (row := Take.row) Try.underlying32 rfl rfl)) ?_
  refine .guardG (b := ((((((((v0r.plan == ([] : List UInt8)) && (v0r.zone == ([] : List UInt8))) && (v0r.version == 0)) && (v0r.setup == 0)) && (v0r.gross == 0)) && (v0r.net == 0)) && (v0r.paid == 0)) && (v0r.owed == 0))) (x := .d (cB ((v0r.takes.length : Int) == 0))) (env' := [(44, _)]) rfl rfl rfl ⟨.inr (.inl rfl), trivial⟩ rfl (fun hg => OpQ.g (q_eql rfl rfl)) ?_
  refine .q (x := .d (cB (((((((((v0r.plan == ([] : List UInt8)) && (v0r.zone == ([] : List UInt8))) && (v0r.version == 0)) && (v0r.setup == 0)) && (v0r.gross == 0)) && (v0r.net == 0)) && (v0r.paid == 0)) && (v0r.owed == 0)) && ((v0r.takes.length : Int) == 0)))) (q_pickAndB rfl rfl rfl) rfl ?_
  refine .q (x := .d (cB (((((((((v0r.plan == ([] : List UInt8)) && (v0r.zone == ([] : List UInt8))) && (v0r.version == 0)) && (v0r.setup == 0)) && (v0r.gross == 0)) && (v0r.net == 0)) && (v0r.paid == 0)) && (v0r.owed == 0)) && ((v0r.takes.length : Int) == 0)))) (q_move rfl) rfl ?_
  refine .guardG (b := (((((((((v0r.plan == ([] : List UInt8)) && (v0r.zone == ([] : List UInt8))) && (v0r.version == 0)) && (v0r.setup == 0)) && (v0r.gross == 0)) && (v0r.net == 0)) && (v0r.paid == 0)) && (v0r.owed == 0)) && ((v0r.takes.length : Int) == 0))) (x := .ref 0 17) (env' := [(1, _)]) rfl rfl rfl ⟨.inl rfl, trivial⟩ rfl (fun hg => OpQ.g (q_fieldRef fo_36_6 rfl)) ?_
  refine .guardG (b := (((((((((v0r.plan == ([] : List UInt8)) && (v0r.zone == ([] : List UInt8))) && (v0r.version == 0)) && (v0r.setup == 0)) && (v0r.gross == 0)) && (v0r.net == 0)) && (v0r.paid == 0)) && (v0r.owed == 0)) && ((v0r.takes.length : Int) == 0))) (x := .d (slOf 4 Segment.row v0r.segments)) (env' := [(48, _)]) rfl rfl rfl ⟨.inr (.inl rfl), trivial⟩ rfl (fun hg => OpQ.g (q_loadO one_33 rfl rfl rfl)) ?_
  refine .guardG (b := (((((((((v0r.plan == ([] : List UInt8)) && (v0r.zone == ([] : List UInt8))) && (v0r.version == 0)) && (v0r.setup == 0)) && (v0r.gross == 0)) && (v0r.net == 0)) && (v0r.paid == 0)) && (v0r.owed == 0)) && ((v0r.takes.length : Int) == 0))) (x := .d (cI (v0r.segments.length : Int))) (env' := [(49, _)]) rfl rfl rfl ⟨.inr (.inl rfl), trivial⟩ rfl (fun hg => OpQ.g (q_lenL (l := v0r.segments) (row := Segment.row) Try.underlying33 rfl rfl)) ?_
  refine .guardG (b := (((((((((v0r.plan == ([] : List UInt8)) && (v0r.zone == ([] : List UInt8))) && (v0r.version == 0)) && (v0r.setup == 0)) && (v0r.gross == 0)) && (v0r.net == 0)) && (v0r.paid == 0)) && (v0r.owed == 0)) && ((v0r.takes.length : Int) == 0))) (x := .d (cB ((v0r.segments.length : Int) == 0))) (env' := [(50, _)]) rfl rfl rfl ⟨.inr (.inl rfl), trivial⟩ rfl (fun hg => OpQ.g (q_eql rfl rfl)) ?_
  refine .q (x := .d (cB ((((((((((v0r.plan == ([] : List UInt8)) && (v0r.zone == ([] : List UInt8))) && (v0r.version == 0)) && (v0r.setup == 0)) && (v0r.gross == 0)) && (v0r.net == 0)) && (v0r.paid == 0)) && (v0r.owed == 0)) && ((v0r.takes.length : Int) == 0)) && ((v0r.segments.length : Int) == 0)))) (q_pickAndB rfl rfl rfl) rfl ?_
  refine .q (x := .d (cB ((((((((((v0r.plan == ([] : List UInt8)) && (v0r.zone == ([] : List UInt8))) && (v0r.version == 0)) && (v0r.setup == 0)) && (v0r.gross == 0)) && (v0r.net == 0)) && (v0r.paid == 0)) && (v0r.owed == 0)) && ((v0r.takes.length : Int) == 0)) && ((v0r.segments.length : Int) == 0)))) (q_move rfl) rfl ?_
  refine .guardG (b := ((((((((((v0r.plan == ([] : List UInt8)) && (v0r.zone == ([] : List UInt8))) && (v0r.version == 0)) && (v0r.setup == 0)) && (v0r.gross == 0)) && (v0r.net == 0)) && (v0r.paid == 0)) && (v0r.owed == 0)) && ((v0r.takes.length : Int) == 0)) && ((v0r.segments.length : Int) == 0))) (x := .ref 0 21) (env' := [(1, _)]) rfl rfl rfl ⟨.inl rfl, trivial⟩ rfl (fun hg => OpQ.g (q_fieldRef fo_36_10 rfl)) ?_
  refine .guardG (b := ((((((((((v0r.plan == ([] : List UInt8)) && (v0r.zone == ([] : List UInt8))) && (v0r.version == 0)) && (v0r.setup == 0)) && (v0r.gross == 0)) && (v0r.net == 0)) && (v0r.paid == 0)) && (v0r.owed == 0)) && ((v0r.takes.length : Int) == 0)) && ((v0r.segments.length : Int) == 0))) (x := .d (slOf 2 Given.row v0r.given)) (env' := [(54, _)]) rfl rfl rfl ⟨.inr (.inl rfl), trivial⟩ rfl (fun hg => OpQ.g (q_loadO one_34 rfl rfl rfl)) ?_
  refine .guardG (b := ((((((((((v0r.plan == ([] : List UInt8)) && (v0r.zone == ([] : List UInt8))) && (v0r.version == 0)) && (v0r.setup == 0)) && (v0r.gross == 0)) && (v0r.net == 0)) && (v0r.paid == 0)) && (v0r.owed == 0)) && ((v0r.takes.length : Int) == 0)) && ((v0r.segments.length : Int) == 0))) (x := .d (cI (v0r.given.length : Int))) (env' := [(55, _)]) rfl rfl rfl ⟨.inr (.inl rfl), trivial⟩ rfl (fun hg => OpQ.g (q_lenL (l := v0r.given) (row := Given.row) Try.underlying34 rfl rfl)) ?_
  refine .guardG (b := ((((((((((v0r.plan == ([] : List UInt8)) && (v0r.zone == ([] : List UInt8))) && (v0r.version == 0)) && (v0r.setup == 0)) && (v0r.gross == 0)) && (v0r.net == 0)) && (v0r.paid == 0)) && (v0r.owed == 0)) && ((v0r.takes.length : Int) == 0)) && ((v0r.segments.length : Int) == 0))) (x := .d (cB ((v0r.given.length : Int) == 0))) (env' := [(56, _)]) rfl rfl rfl ⟨.inr (.inl rfl), trivial⟩ rfl (fun hg => OpQ.g (q_eql rfl rfl)) ?_
  refine .q (x := .d (cB (((((((((((v0r.plan == ([] : List UInt8)) && (v0r.zone == ([] : List UInt8))) && (v0r.version == 0)) && (v0r.setup == 0)) && (v0r.gross == 0)) && (v0r.net == 0)) && (v0r.paid == 0)) && (v0r.owed == 0)) && ((v0r.takes.length : Int) == 0)) && ((v0r.segments.length : Int) == 0)) && ((v0r.given.length : Int) == 0)))) (q_pickAndB rfl rfl rfl) rfl ?_
  refine .q (x := .d (cB (((((((((((v0r.plan == ([] : List UInt8)) && (v0r.zone == ([] : List UInt8))) && (v0r.version == 0)) && (v0r.setup == 0)) && (v0r.gross == 0)) && (v0r.net == 0)) && (v0r.paid == 0)) && (v0r.owed == 0)) && ((v0r.takes.length : Int) == 0)) && ((v0r.segments.length : Int) == 0)) && ((v0r.given.length : Int) == 0)))) (q_assign rfl) rfl ?_
  refine .nil ?_
  refine .retN [.tmp 2] [.d (cB (((((((((((v0r.plan == ([] : List UInt8)) && (v0r.zone == ([] : List UInt8))) && (v0r.version == 0)) && (v0r.setup == 0)) && (v0r.gross == 0)) && (v0r.net == 0)) && (v0r.paid == 0)) && (v0r.owed == 0)) && ((v0r.takes.length : Int) == 0)) && ((v0r.segments.length : Int) == 0)) && ((v0r.given.length : Int) == 0)))] Try.func23 Try.results23 ⟨rfl, trivial⟩ ?_
  cases H
  exact ⟨_, .rfl' _, rfl⟩

set_option maxRecDepth 100000 in
set_option maxHeartbeats 1000000 in
theorem c_f_rate_within {v0n : Int} {v1low : Int} {v2high : Int} {r : Bool} (H : f_rate_within v0n v1low v2high = some r) : ACall Try.prog 24 [cI v0n, cI v1low, cI v2high] (· = cB r) := by
  refine ACall.enter' Try.func24 rfl Try.ntmps24 rfl fun S hS => ?_
  unfold f_rate_within at H
  change ARun _ _ _ _ _ _ [(0, .d (cI v0n)), (1, .d (cI v1low)), (2, .d (cI v2high))] _
  refine .seq ?_
  refine .region ?_
  refine .q (x := .d (cB false)) (q_assign rfl) rfl ?_
  refine .nil ?_
  refine .seq ?_
  refine .region ?_
  refine .q (x := .d (cI v0n)) (q_move rfl) rfl ?_
  refine .q (x := .d (cI v1low)) (q_move rfl) rfl ?_
  refine .q (x := .d (cB (decide (v0n ≥ v1low)))) (q_geq rfl rfl) rfl ?_
  refine .q (x := .d (cB (decide (v0n ≥ v1low)))) (q_move rfl) rfl ?_
  refine .guardG (b := decide (v0n ≥ v1low)) (x := .d (cI v0n)) (env' := [(0, _)]) rfl rfl rfl ⟨.inl rfl, trivial⟩ rfl (fun hg => OpQ.g (q_move rfl)) ?_
  refine .guardG (b := decide (v0n ≥ v1low)) (x := .d (cI v2high)) (env' := [(2, _)]) rfl rfl rfl ⟨.inl rfl, trivial⟩ rfl (fun hg => OpQ.g (q_move rfl)) ?_
  refine .guardG (b := decide (v0n ≥ v1low)) (x := .d (cB (decide (v0n ≤ v2high)))) (env' := [(11, _), (12, _)]) rfl rfl rfl ⟨.inr (.inl rfl), ⟨.inr (.inl rfl), trivial⟩⟩ rfl (fun hg => OpQ.g (q_leq rfl rfl)) ?_
  refine .q (x := .d (cB ((decide (v0n ≥ v1low)) && (decide (v0n ≤ v2high))))) (q_pickAndB rfl rfl rfl) rfl ?_
  refine .q (x := .d (cB ((decide (v0n ≥ v1low)) && (decide (v0n ≤ v2high))))) (q_assign rfl) rfl ?_
  refine .nil ?_
  refine .retN [.tmp 6] [.d (cB ((decide (v0n ≥ v1low)) && (decide (v0n ≤ v2high))))] Try.func24 Try.results24 ⟨rfl, trivial⟩ ?_
  cases H
  exact ⟨_, .rfl' _, rfl⟩

set_option maxRecDepth 100000 in
set_option maxHeartbeats 1000000 in
theorem c_f_rate_Units {v0r : Rated} {r : Int × Int} (H : f_rate_Units v0r = some r) : ACall Try.prog 25 [.agg (Rated.row v0r)] (· = .tup [cI r.1, cI r.2]) := by
  obtain ⟨i39, hi39, hz39, hs39, hb39⟩ := in_39
  obtain ⟨i41, hi41, hz41, hs41, hb41⟩ := in_41
  refine ACall.enter' Try.func25 rfl Try.ntmps25 rfl fun S hS => ?_
  unfold f_rate_Units at H
  change ARun _ _ _ _ _ _ [(0, .d (.agg (Rated.row v0r)))] _
  refine .seq ?_
  refine .region ?_
  refine .v (x := .ref 0 0) (v_box rfl rfl) rfl ?_
  refine .withSt (st' := ⟨[.row 36 [.d (cI v0r.usage.id), .d (cI v0r.usage.kind), .d (cI v0r.usage.account), .d (cI v0r.usage.sub), .d (cS v0r.usage.a), .d (cS v0r.usage.b), .d (cI v0r.usage.start), .d (cI v0r.usage.units), .d (cI v0r.usage.trunk), .d (cB v0r.usage.inbound), .d (cI v0r.usage.source), .d (cI v0r.usage.serial), .d (cI v0r.err), .d (cS v0r.plan), .d (cI v0r.version), .d (cS v0r.zone), .d (slOf 5 Take.row v0r.takes), .d (slOf 4 Segment.row v0r.segments), .d (cI v0r.setup), .d (cI v0r.gross), .d (cI v0r.net), .d (slOf 2 Given.row v0r.given), .d (cI v0r.paid), .d (cI v0r.owed)]], []⟩) rfl ?_
  refine .q (x := .d (cI 0)) (q_assign rfl) rfl ?_
  refine .q (x := .d (cI 0)) (q_assign rfl) rfl ?_
  refine .nil ?_
  refine .seq ?_
  refine .region ?_
  refine .q (x := .d (cI 0)) (q_assign rfl) rfl ?_
  refine .q (x := .d (cI 0)) (q_assign rfl) rfl ?_
  refine .nil ?_
  refine .seq ?_
  refine .seq ?_
  refine .region ?_
  refine .q (x := .ref 0 16) (q_fieldRef fo_36_5 rfl) rfl ?_
  refine .q (x := .d (slOf 5 Take.row v0r.takes)) (q_loadO one_32 rfl rfl rfl) rfl ?_
  refine .q (x := .d (cI (v0r.takes.length : Int))) (q_lenL (l := v0r.takes) (row := Take.row) Try.underlying32 rfl rfl) rfl ?_
  refine .q (x := .d (cI 0)) (q_move rfl) rfl ?_
  refine .nil ?_
  refine .blockJoin2 (ι := Int) (fun s => [(1, .ref 0 0), (4, .d (cI s)), (5, .d (cI 0))]) (fun s => ⟨[.row 36 [.d (cI v0r.usage.id), .d (cI v0r.usage.kind), .d (cI v0r.usage.account), .d (cI v0r.usage.sub), .d (cS v0r.usage.a), .d (cS v0r.usage.b), .d (cI v0r.usage.start), .d (cI v0r.usage.units), .d (cI v0r.usage.trunk), .d (cB v0r.usage.inbound), .d (cI v0r.usage.source), .d (cI v0r.usage.serial), .d (cI v0r.err), .d (cS v0r.plan), .d (cI v0r.version), .d (cS v0r.zone), .d (slOf 5 Take.row v0r.takes), .d (slOf 4 Segment.row v0r.segments), .d (cI v0r.setup), .d (cI v0r.gross), .d (cI v0r.net), .d (slOf 2 Given.row v0r.given), .d (cI v0r.paid), .d (cI v0r.owed)]], []⟩) (fun s => f_rate_Units_j1 v0r s = some r) ?_ ?_
  · rintro v4freej1 H
    replace H : f_rate_Units_j1 v0r v4freej1 = some r := H
    unfold f_rate_Units_j1 at H
    change ARun _ _ _ _ _ _ [(1, .ref 0 0), (4, .d (cI v4freej1)), (5, .d (cI 0))] ⟨[.row 36 [.d (cI v0r.usage.id), .d (cI v0r.usage.kind), .d (cI v0r.usage.account), .d (cI v0r.usage.sub), .d (cS v0r.usage.a), .d (cS v0r.usage.b), .d (cI v0r.usage.start), .d (cI v0r.usage.units), .d (cI v0r.usage.trunk), .d (cB v0r.usage.inbound), .d (cI v0r.usage.source), .d (cI v0r.usage.serial), .d (cI v0r.err), .d (cS v0r.plan), .d (cI v0r.version), .d (cS v0r.zone), .d (slOf 5 Take.row v0r.takes), .d (slOf 4 Segment.row v0r.segments), .d (cI v0r.setup), .d (cI v0r.gross), .d (cI v0r.net), .d (slOf 2 Given.row v0r.given), .d (cI v0r.paid), .d (cI v0r.owed)]], []⟩
    refine .seq ?_
    refine .seq ?_
    refine .region ?_
    refine .q (x := .ref 0 17) (q_fieldRef fo_36_6 rfl) rfl ?_
    refine .q (x := .d (slOf 4 Segment.row v0r.segments)) (q_loadO one_33 rfl rfl rfl) rfl ?_
    refine .q (x := .d (cI (v0r.segments.length : Int))) (q_lenL (l := v0r.segments) (row := Segment.row) Try.underlying33 rfl rfl) rfl ?_
    refine .q (x := .d (cI 0)) (q_move rfl) rfl ?_
    refine .nil ?_
    refine .block ?_
    obtain ⟨n1, H⟩ := loop_some H
    refine .loop (ι := Nat × (Int × Int)) (fun p => [(4, .d (cI v4freej1)), (5, .d (cI p.2.1)), (23, .d (slOf 4 Segment.row v0r.segments)), (24, .d (cI (v0r.segments.length : Int))), (25, .d (cI p.2.2))]) (fun p => ⟨[.row 36 [.d (cI v0r.usage.id), .d (cI v0r.usage.kind), .d (cI v0r.usage.account), .d (cI v0r.usage.sub), .d (cS v0r.usage.a), .d (cS v0r.usage.b), .d (cI v0r.usage.start), .d (cI v0r.usage.units), .d (cI v0r.usage.trunk), .d (cB v0r.usage.inbound), .d (cI v0r.usage.source), .d (cI v0r.usage.serial), .d (cI v0r.err), .d (cS v0r.plan), .d (cI v0r.version), .d (cS v0r.zone), .d (slOf 5 Take.row v0r.takes), .d (slOf 4 Segment.row v0r.segments), .d (cI v0r.setup), .d (cI v0r.gross), .d (cI v0r.net), .d (slOf 2 Given.row v0r.given), .d (cI v0r.paid), .d (cI v0r.owed)]], []⟩) (fun p => iter (fun s => f_rate_Units_l1 v0r v4freej1 s.1 s.2) p.1 p.2 = some r) (·.1) (n1, (0, 0)) H (.cons rfl (.rfl' _) (.cons rfl (.rfl' _) (.cons rfl (.rfl' _) (.cons rfl (.rfl' _) (.cons rfl (.rfl' _) (.nil)))))) rfl ?_
    rintro ⟨m1, v5paidl1, v25l1⟩ HI ih1
    obtain ⟨n1, q1, hm1, H, HK1⟩ := iter_succ HI
    clear HI
    replace H : f_rate_Units_l1 v0r v4freej1 v5paidl1 v25l1 = some q1 := H
    unfold f_rate_Units_l1 at H
    change ARun _ _ _ _ _ _ [(4, .d (cI v4freej1)), (5, .d (cI v5paidl1)), (23, .d (slOf 4 Segment.row v0r.segments)), (24, .d (cI (v0r.segments.length : Int))), (25, .d (cI v25l1))] ⟨[.row 36 [.d (cI v0r.usage.id), .d (cI v0r.usage.kind), .d (cI v0r.usage.account), .d (cI v0r.usage.sub), .d (cS v0r.usage.a), .d (cS v0r.usage.b), .d (cI v0r.usage.start), .d (cI v0r.usage.units), .d (cI v0r.usage.trunk), .d (cB v0r.usage.inbound), .d (cI v0r.usage.source), .d (cI v0r.usage.serial), .d (cI v0r.err), .d (cS v0r.plan), .d (cI v0r.version), .d (cS v0r.zone), .d (slOf 5 Take.row v0r.takes), .d (slOf 4 Segment.row v0r.segments), .d (cI v0r.setup), .d (cI v0r.gross), .d (cI v0r.net), .d (slOf 2 Given.row v0r.given), .d (cI v0r.paid), .d (cI v0r.owed)]], []⟩
    refine .seq ?_
    refine .region ?_
    refine .q (x := .d (cB (decide (v25l1 < (v0r.segments.length : Int))))) (q_lss rfl rfl) rfl ?_
    refine .nil ?_
    refine .seq ?_
    refine .cond rfl (fun hc => ?_) (fun hc => ?_)
    · replace H := ifT hc H; clear hc
      refine .skip ?_
      refine .seq ?_
      refine .block ?_
      refine .seq ?_
      refine .region ?_
      obtain ⟨hk1, H⟩ := ck_some H
      refine .q (x := .d (.ro (Segment.row (nth v0r.segments (Int.toNat (v25l1)))))) (q_idxL (row := Segment.row) (l := v0r.segments) (i := v25l1) Try.underlying33 hi41 hs41 rfl rfl rfl hk1) rfl ?_
      refine .q (x := .d (.agg (Segment.row (nth v0r.segments (Int.toNat (v25l1)))))) (q_loadAll one_41 sz_41 rfl rfl) rfl ?_
      refine .v (x := .ref 1 0) (v_alloc zr_41 rfl) rfl ?_
      refine .withSt (st' := ⟨[.row 36 [.d (cI v0r.usage.id), .d (cI v0r.usage.kind), .d (cI v0r.usage.account), .d (cI v0r.usage.sub), .d (cS v0r.usage.a), .d (cS v0r.usage.b), .d (cI v0r.usage.start), .d (cI v0r.usage.units), .d (cI v0r.usage.trunk), .d (cB v0r.usage.inbound), .d (cI v0r.usage.source), .d (cI v0r.usage.serial), .d (cI v0r.err), .d (cS v0r.plan), .d (cI v0r.version), .d (cS v0r.zone), .d (slOf 5 Take.row v0r.takes), .d (slOf 4 Segment.row v0r.segments), .d (cI v0r.setup), .d (cI v0r.gross), .d (cI v0r.net), .d (slOf 2 Given.row v0r.given), .d (cI v0r.paid), .d (cI v0r.owed)], .row 41 [.d (cS ([] : List UInt8)), .d (cI 0), .d (cI 0), .d (cI 0)]], []⟩) rfl ?_
      refine .u (u_store rfl rfl rfl rfl (Nat.le_of_ble_eq_true rfl) sz_41) rfl ?_
      refine .withSt (st' := ⟨[.row 36 [.d (cI v0r.usage.id), .d (cI v0r.usage.kind), .d (cI v0r.usage.account), .d (cI v0r.usage.sub), .d (cS v0r.usage.a), .d (cS v0r.usage.b), .d (cI v0r.usage.start), .d (cI v0r.usage.units), .d (cI v0r.usage.trunk), .d (cB v0r.usage.inbound), .d (cI v0r.usage.source), .d (cI v0r.usage.serial), .d (cI v0r.err), .d (cS v0r.plan), .d (cI v0r.version), .d (cS v0r.zone), .d (slOf 5 Take.row v0r.takes), .d (slOf 4 Segment.row v0r.segments), .d (cI v0r.setup), .d (cI v0r.gross), .d (cI v0r.net), .d (slOf 2 Given.row v0r.given), .d (cI v0r.paid), .d (cI v0r.owed)], .row 41 [.d (cS ((nth v0r.segments (Int.toNat (v25l1))).band)), .d (cI ((nth v0r.segments (Int.toNat (v25l1))).start)), .d (cI ((nth v0r.segments (Int.toNat (v25l1))).units)), .d (cI ((nth v0r.segments (Int.toNat (v25l1))).amount))]], []⟩) rfl ?_
      refine .nil ?_
      refine .region ?_
      refine .q (x := .d (cI v5paidl1)) (q_move rfl) rfl ?_
      refine .q (x := .ref 1 2) (q_fieldRef fo_41_2 rfl) rfl ?_
      refine .q (x := .d (cI ((nth v0r.segments (Int.toNat (v25l1))).units))) (q_loadO one_3 rfl rfl rfl) rfl ?_
      obtain ⟨hk2, H⟩ := ck_some H
      refine .q (x := .d (cI (v5paidl1 + ((nth v0r.segments (Int.toNat (v25l1))).units)))) (q_addI rfl rfl hk2.1 hk2.2) rfl ?_
      refine .q (x := .d (cI (v5paidl1 + ((nth v0r.segments (Int.toNat (v25l1))).units)))) (q_assign rfl) rfl ?_
      refine .nil ?_
      refine .inBlock ?_
      refine .region ?_
      obtain ⟨hk3, H⟩ := ck_some H
      refine .q (x := .d (cI (v25l1 + 1))) (q_addI rfl rfl hk3.1 hk3.2) rfl ?_
      refine .q (x := .d (cI (v25l1 + 1))) (q_move rfl) rfl ?_
      refine .nil ?_
      cases H
      exact .to 1 0 (env' := [(4, .d (cI v4freej1)), (5, .d (cI (v5paidl1 + ((nth v0r.segments (Int.toNat (v25l1))).units)))), (23, .d (slOf 4 Segment.row v0r.segments)), (24, .d (cI (v0r.segments.length : Int))), (25, .d (cI (v25l1 + 1)))]) (st' := ⟨[.row 36 [.d (cI v0r.usage.id), .d (cI v0r.usage.kind), .d (cI v0r.usage.account), .d (cI v0r.usage.sub), .d (cS v0r.usage.a), .d (cS v0r.usage.b), .d (cI v0r.usage.start), .d (cI v0r.usage.units), .d (cI v0r.usage.trunk), .d (cB v0r.usage.inbound), .d (cI v0r.usage.source), .d (cI v0r.usage.serial), .d (cI v0r.err), .d (cS v0r.plan), .d (cI v0r.version), .d (cS v0r.zone), .d (slOf 5 Take.row v0r.takes), .d (slOf 4 Segment.row v0r.segments), .d (cI v0r.setup), .d (cI v0r.gross), .d (cI v0r.net), .d (slOf 2 Given.row v0r.given), .d (cI v0r.paid), .d (cI v0r.owed)]], []⟩) (.cons rfl (.rfl' _) (.cons rfl (.rfl' _) (.cons rfl (.rfl' _) (.cons rfl (.rfl' _) (.cons rfl (.rfl' _) (.nil)))))) rfl rfl rfl rfl rfl (by rw [hS]; exact Nat.le_of_ble_eq_true rfl) (by rw [hS]; exact Nat.le_of_ble_eq_true rfl) <| .sub (.cons rfl (.rfl' _) (.cons rfl (.rfl' _) (.cons rfl (.rfl' _) (.cons rfl (.rfl' _) (.cons rfl (.rfl' _) (.nil)))))) (ih1 (n1, (v5paidl1 + ((nth v0r.segments (Int.toNat (v25l1))).units), v25l1 + 1)) HK1 hm1)
    · replace H := ifF hc H; clear hc
      refine .exit rfl ?_
      refine .seq ?_
      refine .region ?_
      refine .q (x := .d (cI v4freej1)) (q_move rfl) rfl ?_
      refine .q (x := .d (cI v5paidl1)) (q_move rfl) rfl ?_
      refine .q (x := .d (cI v4freej1)) (q_assign rfl) rfl ?_
      refine .q (x := .d (cI v5paidl1)) (q_assign rfl) rfl ?_
      refine .nil ?_
      refine .retN [.tmp 2, .tmp 3] [.d (cI v4freej1), .d (cI v5paidl1)] Try.func25 Try.results25 ⟨rfl, rfl, trivial⟩ ?_
      cases H
      cases HK1
      exact ⟨_, EVle.tupL (ds := [cI v4freej1, cI v5paidl1]) ⟨.rfl' _, .rfl' _, trivial⟩, rfl⟩
  · intro hj1 hj1x
    obtain ⟨n2, H⟩ := loop_some H
    refine .loop (ι := Nat × (Int × Int)) (fun p => [(1, .ref 0 0), (4, .d (cI p.2.1)), (5, .d (cI 0)), (11, .d (slOf 5 Take.row v0r.takes)), (12, .d (cI (v0r.takes.length : Int))), (13, .d (cI p.2.2))]) (fun p => ⟨[.row 36 [.d (cI v0r.usage.id), .d (cI v0r.usage.kind), .d (cI v0r.usage.account), .d (cI v0r.usage.sub), .d (cS v0r.usage.a), .d (cS v0r.usage.b), .d (cI v0r.usage.start), .d (cI v0r.usage.units), .d (cI v0r.usage.trunk), .d (cB v0r.usage.inbound), .d (cI v0r.usage.source), .d (cI v0r.usage.serial), .d (cI v0r.err), .d (cS v0r.plan), .d (cI v0r.version), .d (cS v0r.zone), .d (slOf 5 Take.row v0r.takes), .d (slOf 4 Segment.row v0r.segments), .d (cI v0r.setup), .d (cI v0r.gross), .d (cI v0r.net), .d (slOf 2 Given.row v0r.given), .d (cI v0r.paid), .d (cI v0r.owed)]], []⟩) (fun p => iter (fun s => f_rate_Units_l2 v0r s.1 s.2) p.1 p.2 = some r) (·.1) (n2, (0, 0)) H (.cons rfl (.rfl' _) (.cons rfl (.rfl' _) (.cons rfl (.rfl' _) (.cons rfl (.rfl' _) (.cons rfl (.rfl' _) (.cons rfl (.rfl' _) (.nil))))))) rfl ?_
    rintro ⟨m1, v4freel2, v13l2⟩ HI ih1
    obtain ⟨n1, q1, hm1, H, HK1⟩ := iter_succ HI
    clear HI
    replace H : f_rate_Units_l2 v0r v4freel2 v13l2 = some q1 := H
    unfold f_rate_Units_l2 at H
    change ARun _ _ _ _ _ _ [(1, .ref 0 0), (4, .d (cI v4freel2)), (5, .d (cI 0)), (11, .d (slOf 5 Take.row v0r.takes)), (12, .d (cI (v0r.takes.length : Int))), (13, .d (cI v13l2))] ⟨[.row 36 [.d (cI v0r.usage.id), .d (cI v0r.usage.kind), .d (cI v0r.usage.account), .d (cI v0r.usage.sub), .d (cS v0r.usage.a), .d (cS v0r.usage.b), .d (cI v0r.usage.start), .d (cI v0r.usage.units), .d (cI v0r.usage.trunk), .d (cB v0r.usage.inbound), .d (cI v0r.usage.source), .d (cI v0r.usage.serial), .d (cI v0r.err), .d (cS v0r.plan), .d (cI v0r.version), .d (cS v0r.zone), .d (slOf 5 Take.row v0r.takes), .d (slOf 4 Segment.row v0r.segments), .d (cI v0r.setup), .d (cI v0r.gross), .d (cI v0r.net), .d (slOf 2 Given.row v0r.given), .d (cI v0r.paid), .d (cI v0r.owed)]], []⟩
    refine .seq ?_
    refine .region ?_
    refine .q (x := .d (cB (decide (v13l2 < (v0r.takes.length : Int))))) (q_lss rfl rfl) rfl ?_
    refine .nil ?_
    refine .seq ?_
    refine .cond rfl (fun hc => ?_) (fun hc => ?_)
    · replace H := ifT hc H; clear hc
      refine .skip ?_
      refine .seq ?_
      refine .block ?_
      refine .seq ?_
      refine .region ?_
      obtain ⟨hk4, H⟩ := ck_some H
      refine .q (x := .d (.ro (Take.row (nth v0r.takes (Int.toNat (v13l2)))))) (q_idxL (row := Take.row) (l := v0r.takes) (i := v13l2) Try.underlying32 hi39 hs39 rfl rfl rfl hk4) rfl ?_
      refine .q (x := .d (.agg (Take.row (nth v0r.takes (Int.toNat (v13l2)))))) (q_loadAll one_39 sz_39 rfl rfl) rfl ?_
      refine .v (x := .ref 1 0) (v_alloc zr_39 rfl) rfl ?_
      refine .withSt (st' := ⟨[.row 36 [.d (cI v0r.usage.id), .d (cI v0r.usage.kind), .d (cI v0r.usage.account), .d (cI v0r.usage.sub), .d (cS v0r.usage.a), .d (cS v0r.usage.b), .d (cI v0r.usage.start), .d (cI v0r.usage.units), .d (cI v0r.usage.trunk), .d (cB v0r.usage.inbound), .d (cI v0r.usage.source), .d (cI v0r.usage.serial), .d (cI v0r.err), .d (cS v0r.plan), .d (cI v0r.version), .d (cS v0r.zone), .d (slOf 5 Take.row v0r.takes), .d (slOf 4 Segment.row v0r.segments), .d (cI v0r.setup), .d (cI v0r.gross), .d (cI v0r.net), .d (slOf 2 Given.row v0r.given), .d (cI v0r.paid), .d (cI v0r.owed)], .row 39 [.d (cI 0), .d (cS ([] : List UInt8)), .d (cI 0), .d (cI 0), .d (cI 0)]], []⟩) rfl ?_
      refine .u (u_store rfl rfl rfl rfl (Nat.le_of_ble_eq_true rfl) sz_39) rfl ?_
      refine .withSt (st' := ⟨[.row 36 [.d (cI v0r.usage.id), .d (cI v0r.usage.kind), .d (cI v0r.usage.account), .d (cI v0r.usage.sub), .d (cS v0r.usage.a), .d (cS v0r.usage.b), .d (cI v0r.usage.start), .d (cI v0r.usage.units), .d (cI v0r.usage.trunk), .d (cB v0r.usage.inbound), .d (cI v0r.usage.source), .d (cI v0r.usage.serial), .d (cI v0r.err), .d (cS v0r.plan), .d (cI v0r.version), .d (cS v0r.zone), .d (slOf 5 Take.row v0r.takes), .d (slOf 4 Segment.row v0r.segments), .d (cI v0r.setup), .d (cI v0r.gross), .d (cI v0r.net), .d (slOf 2 Given.row v0r.given), .d (cI v0r.paid), .d (cI v0r.owed)], .row 39 [.d (cI ((nth v0r.takes (Int.toNat (v13l2))).sub)), .d (cS ((nth v0r.takes (Int.toNat (v13l2))).product)), .d (cI ((nth v0r.takes (Int.toNat (v13l2))).index)), .d (cI ((nth v0r.takes (Int.toNat (v13l2))).from_)), .d (cI ((nth v0r.takes (Int.toNat (v13l2))).units))]], []⟩) rfl ?_
      refine .nil ?_
      refine .region ?_
      refine .q (x := .d (cI v4freel2)) (q_move rfl) rfl ?_
      refine .q (x := .ref 1 4) (q_fieldRef fo_39_4 rfl) rfl ?_
      refine .q (x := .d (cI ((nth v0r.takes (Int.toNat (v13l2))).units))) (q_loadO one_3 rfl rfl rfl) rfl ?_
      obtain ⟨hk5, H⟩ := ck_some H
      refine .q (x := .d (cI (v4freel2 + ((nth v0r.takes (Int.toNat (v13l2))).units)))) (q_addI rfl rfl hk5.1 hk5.2) rfl ?_
      refine .q (x := .d (cI (v4freel2 + ((nth v0r.takes (Int.toNat (v13l2))).units)))) (q_assign rfl) rfl ?_
      refine .nil ?_
      refine .inBlock ?_
      refine .region ?_
      obtain ⟨hk6, H⟩ := ck_some H
      refine .q (x := .d (cI (v13l2 + 1))) (q_addI rfl rfl hk6.1 hk6.2) rfl ?_
      refine .q (x := .d (cI (v13l2 + 1))) (q_move rfl) rfl ?_
      refine .nil ?_
      cases H
      exact .to 1 0 (env' := [(1, .ref 0 0), (4, .d (cI (v4freel2 + ((nth v0r.takes (Int.toNat (v13l2))).units)))), (5, .d (cI 0)), (11, .d (slOf 5 Take.row v0r.takes)), (12, .d (cI (v0r.takes.length : Int))), (13, .d (cI (v13l2 + 1)))]) (st' := ⟨[.row 36 [.d (cI v0r.usage.id), .d (cI v0r.usage.kind), .d (cI v0r.usage.account), .d (cI v0r.usage.sub), .d (cS v0r.usage.a), .d (cS v0r.usage.b), .d (cI v0r.usage.start), .d (cI v0r.usage.units), .d (cI v0r.usage.trunk), .d (cB v0r.usage.inbound), .d (cI v0r.usage.source), .d (cI v0r.usage.serial), .d (cI v0r.err), .d (cS v0r.plan), .d (cI v0r.version), .d (cS v0r.zone), .d (slOf 5 Take.row v0r.takes), .d (slOf 4 Segment.row v0r.segments), .d (cI v0r.setup), .d (cI v0r.gross), .d (cI v0r.net), .d (slOf 2 Given.row v0r.given), .d (cI v0r.paid), .d (cI v0r.owed)]], []⟩) (.cons rfl (.rfl' _) (.cons rfl (.rfl' _) (.cons rfl (.rfl' _) (.cons rfl (.rfl' _) (.cons rfl (.rfl' _) (.cons rfl (.rfl' _) (.nil))))))) rfl rfl rfl rfl rfl (by rw [hS]; exact Nat.le_of_ble_eq_true rfl) (by rw [hS]; exact Nat.le_of_ble_eq_true rfl) <| .sub (.cons rfl (.rfl' _) (.cons rfl (.rfl' _) (.cons rfl (.rfl' _) (.cons rfl (.rfl' _) (.cons rfl (.rfl' _) (.cons rfl (.rfl' _) (.nil))))))) (ih1 (n1, (v4freel2 + ((nth v0r.takes (Int.toNat (v13l2))).units), v13l2 + 1)) HK1 hm1)
    · replace H := ifF hc H; clear hc
      refine .exit rfl ?_
      obtain ⟨q0, H9, hq0⟩ := map_some' H; clear H; cases hq0
      cases HK1
      have H := H9
      exact .sub (.cons rfl (.rfl' _) (.cons rfl (.rfl' _) (.cons rfl (.rfl' _) (.nil)))) (hj1x v4freel2 H)

set_option maxRecDepth 100000 in
set_option maxHeartbeats 1000000 in
theorem c_f_rate_Check {v0 : Rated} {r : Bool} (H : f_rate_Check v0 = some r) : ACall Try.prog 14 [.agg (Rated.row v0)] (· = cB r) := by
  obtain ⟨i39, hi39, hz39, hs39, hb39⟩ := in_39
  obtain ⟨i41, hi41, hz41, hs41, hb41⟩ := in_41
  obtain ⟨i43, hi43, hz43, hs43, hb43⟩ := in_43
  refine ACall.enter' Try.func14 rfl Try.ntmps14 rfl fun S hS => ?_
  unfold f_rate_Check at H
  change ARun _ _ _ _ _ _ [(0, .d (.agg (Rated.row v0)))] _
  refine .seq ?_
  refine .region ?_
  refine .v (x := .ref 0 0) (v_box rfl rfl) rfl ?_
  refine .withSt (st' := ⟨[.row 36 [.d (cI v0.usage.id), .d (cI v0.usage.kind), .d (cI v0.usage.account), .d (cI v0.usage.sub), .d (cS v0.usage.a), .d (cS v0.usage.b), .d (cI v0.usage.start), .d (cI v0.usage.units), .d (cI v0.usage.trunk), .d (cB v0.usage.inbound), .d (cI v0.usage.source), .d (cI v0.usage.serial), .d (cI v0.err), .d (cS v0.plan), .d (cI v0.version), .d (cS v0.zone), .d (slOf 5 Take.row v0.takes), .d (slOf 4 Segment.row v0.segments), .d (cI v0.setup), .d (cI v0.gross), .d (cI v0.net), .d (slOf 2 Given.row v0.given), .d (cI v0.paid), .d (cI v0.owed)]], []⟩) rfl ?_
  refine .q (x := .d (cB false)) (q_assign rfl) rfl ?_
  refine .nil ?_
  refine .seq ?_
  refine .seq ?_
  refine .region ?_
  refine .q (x := .ref 0 0) (q_fieldRef fo_36_0 rfl) rfl ?_
  refine .q (x := .ref 0 9) (q_fieldRef fo_30_9 rfl) rfl ?_
  refine .q (x := .d (cB v0.usage.inbound)) (q_loadO one_4 rfl rfl rfl) rfl ?_
  refine .q (x := .d (cB v0.usage.inbound)) (q_move rfl) rfl ?_
  refine .guardG (b := (!v0.usage.inbound)) (x := .ref 0 0) (env' := [(1, _)]) rfl rfl rfl ⟨.inl rfl, trivial⟩ rfl (fun hg => OpQ.g (q_fieldRef fo_36_0 rfl)) ?_
  refine .guardG (b := (!v0.usage.inbound)) (x := .ref 0 7) (env' := [(17, _)]) rfl rfl rfl ⟨.inr (.inl rfl), trivial⟩ rfl (fun hg => OpQ.g (q_fieldRef fo_30_7 rfl)) ?_
  refine .guardG (b := (!v0.usage.inbound)) (x := .d (cI v0.usage.units)) (env' := [(18, _)]) rfl rfl rfl ⟨.inr (.inl rfl), trivial⟩ rfl (fun hg => OpQ.g (q_loadO one_3 rfl rfl rfl)) ?_
  refine .guardG (b := (!v0.usage.inbound)) (x := .d (cB (v0.usage.units == 0))) (env' := [(19, _)]) rfl rfl rfl ⟨.inr (.inl rfl), trivial⟩ rfl (fun hg => OpQ.g (q_eql rfl rfl)) ?_
  refine .q (x := .d (cB (v0.usage.inbound || (v0.usage.units == 0)))) (q_pickOrB rfl rfl rfl) rfl ?_
  refine .q (x := .d (cB (v0.usage.inbound || (v0.usage.units == 0)))) (q_move rfl) rfl ?_
  refine .guardG (b := (!(v0.usage.inbound || (v0.usage.units == 0)))) (x := .ref 0 12) (env' := [(1, _)]) rfl rfl rfl ⟨.inl rfl, trivial⟩ rfl (fun hg => OpQ.g (q_fieldRef fo_36_1 rfl)) ?_
  refine .guardG (b := (!(v0.usage.inbound || (v0.usage.units == 0)))) (x := .d (cI v0.err)) (env' := [(23, _)]) rfl rfl rfl ⟨.inr (.inl rfl), trivial⟩ rfl (fun hg => OpQ.g (q_loadO one_31 rfl rfl rfl)) ?_
  refine .guardG (b := (!(v0.usage.inbound || (v0.usage.units == 0)))) (x := .d (cB (v0.err != 0))) (env' := [(24, _)]) rfl rfl rfl ⟨.inr (.inl rfl), trivial⟩ rfl (fun hg => OpQ.g (q_neq rfl rfl)) ?_
  refine .q (x := .d (cB ((v0.usage.inbound || (v0.usage.units == 0)) || (v0.err != 0)))) (q_pickOrB rfl rfl rfl) rfl ?_
  refine .nil ?_
  refine .cond rfl (fun hc => ?_) (fun hc => ?_)
  · replace H := ifT hc H; clear hc
    refine .seq ?_
    refine .region ?_
    refine .q (x := .d (.agg (Rated.row v0))) (q_loadOA one_36 sz_36 rfl rfl (Nat.le_of_ble_eq_true rfl) rfl) rfl ?_
    obtain ⟨y1, hy1, H⟩ := bind_some' H
    refine .g (x := .d (cB y1)) (g_call en_23 rfl rfl (c_f_rate_empty (hy1))) rfl ?_
    refine .q (x := .d (cB y1)) (q_assign rfl) rfl ?_
    refine .nil ?_
    refine .retN [.tmp 2] [.d (cB y1)] Try.func14 Try.results14 ⟨rfl, trivial⟩ ?_
    cases H
    exact ⟨_, .rfl' _, rfl⟩
  · replace H := ifF hc H; clear hc
    refine .skip ?_
    refine .seq ?_
    refine .seq ?_
    refine .region ?_
    refine .q (x := .ref 0 16) (q_fieldRef fo_36_5 rfl) rfl ?_
    refine .q (x := .d (slOf 5 Take.row v0.takes)) (q_loadO one_32 rfl rfl rfl) rfl ?_
    refine .q (x := .d (cI (v0.takes.length : Int))) (q_lenL (l := v0.takes) (row := Take.row) Try.underlying32 rfl rfl) rfl ?_
    refine .q (x := .d (cB (decide ((v0.takes.length : Int) > 262144)))) (q_gtr rfl rfl) rfl ?_
    refine .q (x := .d (cB (decide ((v0.takes.length : Int) > 262144)))) (q_move rfl) rfl ?_
    refine .guardG (b := (!(decide ((v0.takes.length : Int) > 262144)))) (x := .ref 0 17) (env' := [(1, _)]) rfl rfl rfl ⟨.inl rfl, trivial⟩ rfl (fun hg => OpQ.g (q_fieldRef fo_36_6 rfl)) ?_
    refine .guardG (b := (!(decide ((v0.takes.length : Int) > 262144)))) (x := .d (slOf 4 Segment.row v0.segments)) (env' := [(34, _)]) rfl rfl rfl ⟨.inr (.inl rfl), trivial⟩ rfl (fun hg => OpQ.g (q_loadO one_33 rfl rfl rfl)) ?_
    refine .guardG (b := (!(decide ((v0.takes.length : Int) > 262144)))) (x := .d (cI (v0.segments.length : Int))) (env' := [(35, _)]) rfl rfl rfl ⟨.inr (.inl rfl), trivial⟩ rfl (fun hg => OpQ.g (q_lenL (l := v0.segments) (row := Segment.row) Try.underlying33 rfl rfl)) ?_
    refine .guardG (b := (!(decide ((v0.takes.length : Int) > 262144)))) (x := .d (cB (decide ((v0.segments.length : Int) > 12288)))) (env' := [(36, _)]) rfl rfl rfl ⟨.inr (.inl rfl), trivial⟩ rfl (fun hg => OpQ.g (q_gtr rfl rfl)) ?_
    refine .q (x := .d (cB ((decide ((v0.takes.length : Int) > 262144)) || (decide ((v0.segments.length : Int) > 12288))))) (q_pickOrB rfl rfl rfl) rfl ?_
    refine .q (x := .d (cB ((decide ((v0.takes.length : Int) > 262144)) || (decide ((v0.segments.length : Int) > 12288))))) (q_move rfl) rfl ?_
    refine .guardG (b := (!((decide ((v0.takes.length : Int) > 262144)) || (decide ((v0.segments.length : Int) > 12288))))) (x := .ref 0 21) (env' := [(1, _)]) rfl rfl rfl ⟨.inl rfl, trivial⟩ rfl (fun hg => OpQ.g (q_fieldRef fo_36_10 rfl)) ?_
    refine .guardG (b := (!((decide ((v0.takes.length : Int) > 262144)) || (decide ((v0.segments.length : Int) > 12288))))) (x := .d (slOf 2 Given.row v0.given)) (env' := [(40, _)]) rfl rfl rfl ⟨.inr (.inl rfl), trivial⟩ rfl (fun hg => OpQ.g (q_loadO one_34 rfl rfl rfl)) ?_
    refine .guardG (b := (!((decide ((v0.takes.length : Int) > 262144)) || (decide ((v0.segments.length : Int) > 12288))))) (x := .d (cI (v0.given.length : Int))) (env' := [(41, _)]) rfl rfl rfl ⟨.inr (.inl rfl), trivial⟩ rfl (fun hg => OpQ.g (q_lenL (l := v0.given) (row := Given.row) Try.underlying34 rfl rfl)) ?_
    refine .guardG (b := (!((decide ((v0.takes.length : Int) > 262144)) || (decide ((v0.segments.length : Int) > 12288))))) (x := .d (cB (decide ((v0.given.length : Int) > 4096)))) (env' := [(42, _)]) rfl rfl rfl ⟨.inr (.inl rfl), trivial⟩ rfl (fun hg => OpQ.g (q_gtr rfl rfl)) ?_
    refine .q (x := .d (cB (((decide ((v0.takes.length : Int) > 262144)) || (decide ((v0.segments.length : Int) > 12288))) || (decide ((v0.given.length : Int) > 4096))))) (q_pickOrB rfl rfl rfl) rfl ?_
    refine .q (x := .d (cB (((decide ((v0.takes.length : Int) > 262144)) || (decide ((v0.segments.length : Int) > 12288))) || (decide ((v0.given.length : Int) > 4096))))) (q_move rfl) rfl ?_
    refine .guardG (b := (!(((decide ((v0.takes.length : Int) > 262144)) || (decide ((v0.segments.length : Int) > 12288))) || (decide ((v0.given.length : Int) > 4096))))) (x := .ref 0 18) (env' := [(1, _)]) rfl rfl rfl ⟨.inl rfl, trivial⟩ rfl (fun hg => OpQ.g (q_fieldRef fo_36_7 rfl)) ?_
    refine .guardG (b := (!(((decide ((v0.takes.length : Int) > 262144)) || (decide ((v0.segments.length : Int) > 12288))) || (decide ((v0.given.length : Int) > 4096))))) (x := .d (cI v0.setup)) (env' := [(46, _)]) rfl rfl rfl ⟨.inr (.inl rfl), trivial⟩ rfl (fun hg => OpQ.g (q_loadO one_3 rfl rfl rfl)) ?_
    obtain ⟨y2, hy2, H⟩ := bind_some' H
    refine .guardG (b := (!(((decide ((v0.takes.length : Int) > 262144)) || (decide ((v0.segments.length : Int) > 12288))) || (decide ((v0.given.length : Int) > 4096))))) (x := .d (cB y2)) (env' := [(47, _)]) rfl rfl rfl ⟨.inr (.inl rfl), trivial⟩ rfl (fun hg => (g_call en_24 rfl rfl (c_f_rate_within (gcall_some hy2 hg)))) ?_
    refine .guardG (b := (!(((decide ((v0.takes.length : Int) > 262144)) || (decide ((v0.segments.length : Int) > 12288))) || (decide ((v0.given.length : Int) > 4096))))) (x := .d (cB (!y2))) (env' := [(48, _)]) rfl rfl rfl ⟨.inr (.inl rfl), trivial⟩ rfl (fun hg => OpQ.g (q_not rfl)) ?_
    refine .q (x := .d (cB ((((decide ((v0.takes.length : Int) > 262144)) || (decide ((v0.segments.length : Int) > 12288))) || (decide ((v0.given.length : Int) > 4096))) || (!y2)))) (q_pickOrB rfl rfl rfl) rfl ?_
    refine .nil ?_
    refine .cond rfl (fun hc => ?_) (fun hc => ?_)
    · replace H := ifT hc H; clear hc
      refine .seq ?_
      refine .region ?_
      refine .q (x := .d (cB false)) (q_assign rfl) rfl ?_
      refine .nil ?_
      refine .retN [.tmp 2] [.d (cB false)] Try.func14 Try.results14 ⟨rfl, trivial⟩ ?_
      cases H
      exact ⟨_, .rfl' _, rfl⟩
    · replace H := ifF hc H; clear hc
      refine .skip ?_
      refine .seq ?_
      refine .region ?_
      refine .q (x := .ref 0 18) (q_fieldRef fo_36_7 rfl) rfl ?_
      refine .q (x := .d (cI v0.setup)) (q_loadO one_3 rfl rfl rfl) rfl ?_
      refine .q (x := .d (cI v0.setup)) (q_assign rfl) rfl ?_
      refine .q (x := .d (cI 0)) (q_assign rfl) rfl ?_
      refine .nil ?_
      refine .seq ?_
      refine .seq ?_
      refine .region ?_
      refine .q (x := .ref 0 16) (q_fieldRef fo_36_5 rfl) rfl ?_
      refine .q (x := .d (slOf 5 Take.row v0.takes)) (q_loadO one_32 rfl rfl rfl) rfl ?_
      refine .q (x := .d (cI (v0.takes.length : Int))) (q_lenL (l := v0.takes) (row := Take.row) Try.underlying32 rfl rfl) rfl ?_
      refine .q (x := .d (cI 0)) (q_move rfl) rfl ?_
      refine .nil ?_
      refine .blockJoin2 (ι := Unit) (fun s => [(1, .ref 0 0), (3, .d (cI v0.setup)), (4, .d (cI 0))]) (fun s => ⟨[.row 36 [.d (cI v0.usage.id), .d (cI v0.usage.kind), .d (cI v0.usage.account), .d (cI v0.usage.sub), .d (cS v0.usage.a), .d (cS v0.usage.b), .d (cI v0.usage.start), .d (cI v0.usage.units), .d (cI v0.usage.trunk), .d (cB v0.usage.inbound), .d (cI v0.usage.source), .d (cI v0.usage.serial), .d (cI v0.err), .d (cS v0.plan), .d (cI v0.version), .d (cS v0.zone), .d (slOf 5 Take.row v0.takes), .d (slOf 4 Segment.row v0.segments), .d (cI v0.setup), .d (cI v0.gross), .d (cI v0.net), .d (slOf 2 Given.row v0.given), .d (cI v0.paid), .d (cI v0.owed)]], []⟩) (fun s => f_rate_Check_j1 v0 = some r) ?_ ?_
      · rintro _ H
        replace H : f_rate_Check_j1 v0 = some r := H
        unfold f_rate_Check_j1 at H
        change ARun _ _ _ _ _ _ [(1, .ref 0 0), (3, .d (cI v0.setup)), (4, .d (cI 0))] ⟨[.row 36 [.d (cI v0.usage.id), .d (cI v0.usage.kind), .d (cI v0.usage.account), .d (cI v0.usage.sub), .d (cS v0.usage.a), .d (cS v0.usage.b), .d (cI v0.usage.start), .d (cI v0.usage.units), .d (cI v0.usage.trunk), .d (cB v0.usage.inbound), .d (cI v0.usage.source), .d (cI v0.usage.serial), .d (cI v0.err), .d (cS v0.plan), .d (cI v0.version), .d (cS v0.zone), .d (slOf 5 Take.row v0.takes), .d (slOf 4 Segment.row v0.segments), .d (cI v0.setup), .d (cI v0.gross), .d (cI v0.net), .d (slOf 2 Given.row v0.given), .d (cI v0.paid), .d (cI v0.owed)]], []⟩
        refine .seq ?_
        refine .seq ?_
        refine .region ?_
        refine .q (x := .ref 0 17) (q_fieldRef fo_36_6 rfl) rfl ?_
        refine .q (x := .d (slOf 4 Segment.row v0.segments)) (q_loadO one_33 rfl rfl rfl) rfl ?_
        refine .q (x := .d (cI (v0.segments.length : Int))) (q_lenL (l := v0.segments) (row := Segment.row) Try.underlying33 rfl rfl) rfl ?_
        refine .q (x := .d (cI 0)) (q_move rfl) rfl ?_
        refine .nil ?_
        refine .blockJoin2 (ι := Int) (fun s => [(1, .ref 0 0), (3, .d (cI s)), (4, .d (cI 0))]) (fun s => ⟨[.row 36 [.d (cI v0.usage.id), .d (cI v0.usage.kind), .d (cI v0.usage.account), .d (cI v0.usage.sub), .d (cS v0.usage.a), .d (cS v0.usage.b), .d (cI v0.usage.start), .d (cI v0.usage.units), .d (cI v0.usage.trunk), .d (cB v0.usage.inbound), .d (cI v0.usage.source), .d (cI v0.usage.serial), .d (cI v0.err), .d (cS v0.plan), .d (cI v0.version), .d (cS v0.zone), .d (slOf 5 Take.row v0.takes), .d (slOf 4 Segment.row v0.segments), .d (cI v0.setup), .d (cI v0.gross), .d (cI v0.net), .d (slOf 2 Given.row v0.given), .d (cI v0.paid), .d (cI v0.owed)]], []⟩) (fun s => f_rate_Check_j2 v0 s = some r) ?_ ?_
        · rintro v3j2 H
          replace H : f_rate_Check_j2 v0 v3j2 = some r := H
          unfold f_rate_Check_j2 at H
          change ARun _ _ _ _ _ _ [(1, .ref 0 0), (3, .d (cI v3j2)), (4, .d (cI 0))] ⟨[.row 36 [.d (cI v0.usage.id), .d (cI v0.usage.kind), .d (cI v0.usage.account), .d (cI v0.usage.sub), .d (cS v0.usage.a), .d (cS v0.usage.b), .d (cI v0.usage.start), .d (cI v0.usage.units), .d (cI v0.usage.trunk), .d (cB v0.usage.inbound), .d (cI v0.usage.source), .d (cI v0.usage.serial), .d (cI v0.err), .d (cS v0.plan), .d (cI v0.version), .d (cS v0.zone), .d (slOf 5 Take.row v0.takes), .d (slOf 4 Segment.row v0.segments), .d (cI v0.setup), .d (cI v0.gross), .d (cI v0.net), .d (slOf 2 Given.row v0.given), .d (cI v0.paid), .d (cI v0.owed)]], []⟩
          refine .seq ?_
          refine .seq ?_
          refine .region ?_
          refine .q (x := .ref 0 21) (q_fieldRef fo_36_10 rfl) rfl ?_
          refine .q (x := .d (slOf 2 Given.row v0.given)) (q_loadO one_34 rfl rfl rfl) rfl ?_
          refine .q (x := .d (cI (v0.given.length : Int))) (q_lenL (l := v0.given) (row := Given.row) Try.underlying34 rfl rfl) rfl ?_
          refine .q (x := .d (cI 0)) (q_move rfl) rfl ?_
          refine .nil ?_
          refine .blockJoin2 (ι := Int) (fun s => [(1, .ref 0 0), (3, .d (cI v3j2)), (4, .d (cI s))]) (fun s => ⟨[.row 36 [.d (cI v0.usage.id), .d (cI v0.usage.kind), .d (cI v0.usage.account), .d (cI v0.usage.sub), .d (cS v0.usage.a), .d (cS v0.usage.b), .d (cI v0.usage.start), .d (cI v0.usage.units), .d (cI v0.usage.trunk), .d (cB v0.usage.inbound), .d (cI v0.usage.source), .d (cI v0.usage.serial), .d (cI v0.err), .d (cS v0.plan), .d (cI v0.version), .d (cS v0.zone), .d (slOf 5 Take.row v0.takes), .d (slOf 4 Segment.row v0.segments), .d (cI v0.setup), .d (cI v0.gross), .d (cI v0.net), .d (slOf 2 Given.row v0.given), .d (cI v0.paid), .d (cI v0.owed)]], []⟩) (fun s => f_rate_Check_j3 v0 v3j2 s = some r) ?_ ?_
          · rintro v4j3 H
            replace H : f_rate_Check_j3 v0 v3j2 v4j3 = some r := H
            unfold f_rate_Check_j3 at H
            change ARun _ _ _ _ _ _ [(1, .ref 0 0), (3, .d (cI v3j2)), (4, .d (cI v4j3))] ⟨[.row 36 [.d (cI v0.usage.id), .d (cI v0.usage.kind), .d (cI v0.usage.account), .d (cI v0.usage.sub), .d (cS v0.usage.a), .d (cS v0.usage.b), .d (cI v0.usage.start), .d (cI v0.usage.units), .d (cI v0.usage.trunk), .d (cB v0.usage.inbound), .d (cI v0.usage.source), .d (cI v0.usage.serial), .d (cI v0.err), .d (cS v0.plan), .d (cI v0.version), .d (cS v0.zone), .d (slOf 5 Take.row v0.takes), .d (slOf 4 Segment.row v0.segments), .d (cI v0.setup), .d (cI v0.gross), .d (cI v0.net), .d (slOf 2 Given.row v0.given), .d (cI v0.paid), .d (cI v0.owed)]], []⟩
            refine .seq ?_
            refine .region ?_
            refine .q (x := .d (.agg (Rated.row v0))) (q_loadOA one_36 sz_36 rfl rfl (Nat.le_of_ble_eq_true rfl) rfl) rfl ?_
            obtain ⟨y3, hy3, H⟩ := bind_some' H
            refine .g (x := .d (.tup [cI y3.1, cI y3.2])) (g_call en_25 rfl rfl (c_f_rate_Units (hy3))) rfl ?_
            refine .q (x := .d (.tup [cI y3.1, cI y3.2])) (q_move rfl) rfl ?_
            refine .q (x := .d (cI y3.1)) (q_extract rfl rfl) rfl ?_
            refine .q (x := .d (cI y3.2)) (q_extract rfl rfl) rfl ?_
            refine .q (x := .d (cI y3.1)) (q_assign rfl) rfl ?_
            refine .q (x := .d (cI y3.2)) (q_assign rfl) rfl ?_
            refine .nil ?_
            refine .seq ?_
            refine .seq ?_
            refine .region ?_
            refine .q (x := .d (cI y3.1)) (q_move rfl) rfl ?_
            refine .q (x := .d (cI y3.2)) (q_move rfl) rfl ?_
            obtain ⟨hk1, H⟩ := ck_some H
            refine .q (x := .d (cI (y3.1 + y3.2))) (q_addI rfl rfl hk1.1 hk1.2) rfl ?_
            refine .q (x := .ref 0 0) (q_fieldRef fo_36_0 rfl) rfl ?_
            refine .q (x := .ref 0 7) (q_fieldRef fo_30_7 rfl) rfl ?_
            refine .q (x := .d (cI v0.usage.units)) (q_loadO one_3 rfl rfl rfl) rfl ?_
            refine .q (x := .d (cB ((y3.1 + y3.2) != v0.usage.units))) (q_neq rfl rfl) rfl ?_
            refine .q (x := .d (cB ((y3.1 + y3.2) != v0.usage.units))) (q_move rfl) rfl ?_
            refine .guardG (b := (!((y3.1 + y3.2) != v0.usage.units))) (x := .d (cI v3j2)) (env' := [(3, _)]) rfl rfl rfl ⟨.inl rfl, trivial⟩ rfl (fun hg => OpQ.g (q_move rfl)) ?_
            refine .guardG (b := (!((y3.1 + y3.2) != v0.usage.units))) (x := .ref 0 19) (env' := [(1, _)]) rfl rfl rfl ⟨.inl rfl, trivial⟩ rfl (fun hg => OpQ.g (q_fieldRef fo_36_8 rfl)) ?_
            refine .guardG (b := (!((y3.1 + y3.2) != v0.usage.units))) (x := .d (cI v0.gross)) (env' := [(130, _)]) rfl rfl rfl ⟨.inr (.inl rfl), trivial⟩ rfl (fun hg => OpQ.g (q_loadO one_3 rfl rfl rfl)) ?_
            refine .guardG (b := (!((y3.1 + y3.2) != v0.usage.units))) (x := .d (cB (v3j2 != v0.gross))) (env' := [(129, _), (131, _)]) rfl rfl rfl ⟨.inr (.inl rfl), ⟨.inr (.inl rfl), trivial⟩⟩ rfl (fun hg => OpQ.g (q_neq rfl rfl)) ?_
            refine .q (x := .d (cB (((y3.1 + y3.2) != v0.usage.units) || (v3j2 != v0.gross)))) (q_pickOrB rfl rfl rfl) rfl ?_
            refine .q (x := .d (cB (((y3.1 + y3.2) != v0.usage.units) || (v3j2 != v0.gross)))) (q_move rfl) rfl ?_
            refine .guardG (b := (!(((y3.1 + y3.2) != v0.usage.units) || (v3j2 != v0.gross)))) (x := .ref 0 20) (env' := [(1, _)]) rfl rfl rfl ⟨.inl rfl, trivial⟩ rfl (fun hg => OpQ.g (q_fieldRef fo_36_9 rfl)) ?_
            refine .guardG (b := (!(((y3.1 + y3.2) != v0.usage.units) || (v3j2 != v0.gross)))) (x := .d (cI v0.net)) (env' := [(135, _)]) rfl rfl rfl ⟨.inr (.inl rfl), trivial⟩ rfl (fun hg => OpQ.g (q_loadO one_3 rfl rfl rfl)) ?_
            refine .guardG (b := (!(((y3.1 + y3.2) != v0.usage.units) || (v3j2 != v0.gross)))) (x := .d (cI v3j2)) (env' := [(3, _)]) rfl rfl rfl ⟨.inl rfl, trivial⟩ rfl (fun hg => OpQ.g (q_move rfl)) ?_
            refine .guardG (b := (!(((y3.1 + y3.2) != v0.usage.units) || (v3j2 != v0.gross)))) (x := .d (cI v4j3)) (env' := [(4, _)]) rfl rfl rfl ⟨.inl rfl, trivial⟩ rfl (fun hg => OpQ.g (q_move rfl)) ?_
            obtain ⟨hk2, H⟩ := ck_some H
            refine .guardG (b := (!(((y3.1 + y3.2) != v0.usage.units) || (v3j2 != v0.gross)))) (x := .d (cI (v3j2 - v4j3))) (env' := [(137, _), (138, _)]) rfl rfl rfl ⟨.inr (.inl rfl), ⟨.inr (.inl rfl), trivial⟩⟩ rfl (fun hg => OpQ.g (q_subI rfl rfl (hk2 hg).1 (hk2 hg).2)) ?_
            refine .guardG (b := (!(((y3.1 + y3.2) != v0.usage.units) || (v3j2 != v0.gross)))) (x := .d (cB (v0.net != (v3j2 - v4j3)))) (env' := [(136, _), (139, _)]) rfl rfl rfl ⟨.inr (.inl rfl), ⟨.inr (.inl rfl), trivial⟩⟩ rfl (fun hg => OpQ.g (q_neq rfl rfl)) ?_
            refine .q (x := .d (cB ((((y3.1 + y3.2) != v0.usage.units) || (v3j2 != v0.gross)) || (v0.net != (v3j2 - v4j3))))) (q_pickOrB rfl rfl rfl) rfl ?_
            refine .nil ?_
            refine .cond rfl (fun hc => ?_) (fun hc => ?_)
            · replace H := ifT hc H; clear hc
              refine .seq ?_
              refine .region ?_
              refine .q (x := .d (cB false)) (q_assign rfl) rfl ?_
              refine .nil ?_
              refine .retN [.tmp 2] [.d (cB false)] Try.func14 Try.results14 ⟨rfl, trivial⟩ ?_
              cases H
              exact ⟨_, .rfl' _, rfl⟩
            · replace H := ifF hc H; clear hc
              refine .skip ?_
              refine .seq ?_
              refine .region ?_
              refine .q (x := .ref 0 22) (q_fieldRef fo_36_11 rfl) rfl ?_
              refine .q (x := .d (cI v0.paid)) (q_loadO one_3 rfl rfl rfl) rfl ?_
              refine .q (x := .d (cB (decide (v0.paid ≥ 0)))) (q_geq rfl rfl) rfl ?_
              refine .q (x := .d (cB (decide (v0.paid ≥ 0)))) (q_move rfl) rfl ?_
              refine .guardG (b := decide (v0.paid ≥ 0)) (x := .ref 0 22) (env' := [(1, _)]) rfl rfl rfl ⟨.inl rfl, trivial⟩ rfl (fun hg => OpQ.g (q_fieldRef fo_36_11 rfl)) ?_
              refine .guardG (b := decide (v0.paid ≥ 0)) (x := .d (cI v0.paid)) (env' := [(146, _)]) rfl rfl rfl ⟨.inr (.inl rfl), trivial⟩ rfl (fun hg => OpQ.g (q_loadO one_3 rfl rfl rfl)) ?_
              refine .guardG (b := decide (v0.paid ≥ 0)) (x := .ref 0 20) (env' := [(1, _)]) rfl rfl rfl ⟨.inl rfl, trivial⟩ rfl (fun hg => OpQ.g (q_fieldRef fo_36_9 rfl)) ?_
              refine .guardG (b := decide (v0.paid ≥ 0)) (x := .d (cI v0.net)) (env' := [(148, _)]) rfl rfl rfl ⟨.inr (.inl rfl), trivial⟩ rfl (fun hg => OpQ.g (q_loadO one_3 rfl rfl rfl)) ?_
              refine .guardG (b := decide (v0.paid ≥ 0)) (x := .d (cB (decide (v0.paid ≤ v0.net)))) (env' := [(147, _), (149, _)]) rfl rfl rfl ⟨.inr (.inl rfl), ⟨.inr (.inl rfl), trivial⟩⟩ rfl (fun hg => OpQ.g (q_leq rfl rfl)) ?_
              refine .q (x := .d (cB ((decide (v0.paid ≥ 0)) && (decide (v0.paid ≤ v0.net))))) (q_pickAndB rfl rfl rfl) rfl ?_
              refine .q (x := .d (cB ((decide (v0.paid ≥ 0)) && (decide (v0.paid ≤ v0.net))))) (q_move rfl) rfl ?_
              refine .guardG (b := ((decide (v0.paid ≥ 0)) && (decide (v0.paid ≤ v0.net)))) (x := .ref 0 23) (env' := [(1, _)]) rfl rfl rfl ⟨.inl rfl, trivial⟩ rfl (fun hg => OpQ.g (q_fieldRef fo_36_12 rfl)) ?_
              refine .guardG (b := ((decide (v0.paid ≥ 0)) && (decide (v0.paid ≤ v0.net)))) (x := .d (cI v0.owed)) (env' := [(153, _)]) rfl rfl rfl ⟨.inr (.inl rfl), trivial⟩ rfl (fun hg => OpQ.g (q_loadO one_3 rfl rfl rfl)) ?_
              refine .guardG (b := ((decide (v0.paid ≥ 0)) && (decide (v0.paid ≤ v0.net)))) (x := .ref 0 20) (env' := [(1, _)]) rfl rfl rfl ⟨.inl rfl, trivial⟩ rfl (fun hg => OpQ.g (q_fieldRef fo_36_9 rfl)) ?_
              refine .guardG (b := ((decide (v0.paid ≥ 0)) && (decide (v0.paid ≤ v0.net)))) (x := .d (cI v0.net)) (env' := [(155, _)]) rfl rfl rfl ⟨.inr (.inl rfl), trivial⟩ rfl (fun hg => OpQ.g (q_loadO one_3 rfl rfl rfl)) ?_
              refine .guardG (b := ((decide (v0.paid ≥ 0)) && (decide (v0.paid ≤ v0.net)))) (x := .ref 0 22) (env' := [(1, _)]) rfl rfl rfl ⟨.inl rfl, trivial⟩ rfl (fun hg => OpQ.g (q_fieldRef fo_36_11 rfl)) ?_
              refine .guardG (b := ((decide (v0.paid ≥ 0)) && (decide (v0.paid ≤ v0.net)))) (x := .d (cI v0.paid)) (env' := [(157, _)]) rfl rfl rfl ⟨.inr (.inl rfl), trivial⟩ rfl (fun hg => OpQ.g (q_loadO one_3 rfl rfl rfl)) ?_
              obtain ⟨hk3, H⟩ := ck_some H
              refine .guardG (b := ((decide (v0.paid ≥ 0)) && (decide (v0.paid ≤ v0.net)))) (x := .d (cI (v0.net - v0.paid))) (env' := [(156, _), (158, _)]) rfl rfl rfl ⟨.inr (.inl rfl), ⟨.inr (.inl rfl), trivial⟩⟩ rfl (fun hg => OpQ.g (q_subI rfl rfl (hk3 hg).1 (hk3 hg).2)) ?_
              refine .guardG (b := ((decide (v0.paid ≥ 0)) && (decide (v0.paid ≤ v0.net)))) (x := .d (cB (v0.owed == (v0.net - v0.paid)))) (env' := [(154, _), (159, _)]) rfl rfl rfl ⟨.inr (.inl rfl), ⟨.inr (.inl rfl), trivial⟩⟩ rfl (fun hg => OpQ.g (q_eql rfl rfl)) ?_
              refine .q (x := .d (cB (((decide (v0.paid ≥ 0)) && (decide (v0.paid ≤ v0.net))) && (v0.owed == (v0.net - v0.paid))))) (q_pickAndB rfl rfl rfl) rfl ?_
              refine .q (x := .d (cB (((decide (v0.paid ≥ 0)) && (decide (v0.paid ≤ v0.net))) && (v0.owed == (v0.net - v0.paid))))) (q_assign rfl) rfl ?_
              refine .nil ?_
              refine .retN [.tmp 2] [.d (cB (((decide (v0.paid ≥ 0)) && (decide (v0.paid ≤ v0.net))) && (v0.owed == (v0.net - v0.paid))))] Try.func14 Try.results14 ⟨rfl, trivial⟩ ?_
              cases H
              exact ⟨_, .rfl' _, rfl⟩
          · intro hj3 hj3x
            obtain ⟨n1, H⟩ := loop_some H
            refine .loop (ι := Nat × (Int × Int)) (fun p => [(1, .ref 0 0), (3, .d (cI v3j2)), (4, .d (cI p.2.1)), (101, .d (slOf 2 Given.row v0.given)), (102, .d (cI (v0.given.length : Int))), (103, .d (cI p.2.2))]) (fun p => ⟨[.row 36 [.d (cI v0.usage.id), .d (cI v0.usage.kind), .d (cI v0.usage.account), .d (cI v0.usage.sub), .d (cS v0.usage.a), .d (cS v0.usage.b), .d (cI v0.usage.start), .d (cI v0.usage.units), .d (cI v0.usage.trunk), .d (cB v0.usage.inbound), .d (cI v0.usage.source), .d (cI v0.usage.serial), .d (cI v0.err), .d (cS v0.plan), .d (cI v0.version), .d (cS v0.zone), .d (slOf 5 Take.row v0.takes), .d (slOf 4 Segment.row v0.segments), .d (cI v0.setup), .d (cI v0.gross), .d (cI v0.net), .d (slOf 2 Given.row v0.given), .d (cI v0.paid), .d (cI v0.owed)]], []⟩) (fun p => iter (fun s => f_rate_Check_l1 v0 v3j2 s.1 s.2) p.1 p.2 = some r) (·.1) (n1, (0, 0)) H (.cons rfl (.rfl' _) (.cons rfl (.rfl' _) (.cons rfl (.rfl' _) (.cons rfl (.rfl' _) (.cons rfl (.rfl' _) (.cons rfl (.rfl' _) (.nil))))))) rfl ?_
            rintro ⟨m1, v4l1, v103l1⟩ HI ih1
            obtain ⟨n1, q1, hm1, H, HK1⟩ := iter_succ HI
            clear HI
            replace H : f_rate_Check_l1 v0 v3j2 v4l1 v103l1 = some q1 := H
            unfold f_rate_Check_l1 at H
            change ARun _ _ _ _ _ _ [(1, .ref 0 0), (3, .d (cI v3j2)), (4, .d (cI v4l1)), (101, .d (slOf 2 Given.row v0.given)), (102, .d (cI (v0.given.length : Int))), (103, .d (cI v103l1))] ⟨[.row 36 [.d (cI v0.usage.id), .d (cI v0.usage.kind), .d (cI v0.usage.account), .d (cI v0.usage.sub), .d (cS v0.usage.a), .d (cS v0.usage.b), .d (cI v0.usage.start), .d (cI v0.usage.units), .d (cI v0.usage.trunk), .d (cB v0.usage.inbound), .d (cI v0.usage.source), .d (cI v0.usage.serial), .d (cI v0.err), .d (cS v0.plan), .d (cI v0.version), .d (cS v0.zone), .d (slOf 5 Take.row v0.takes), .d (slOf 4 Segment.row v0.segments), .d (cI v0.setup), .d (cI v0.gross), .d (cI v0.net), .d (slOf 2 Given.row v0.given), .d (cI v0.paid), .d (cI v0.owed)]], []⟩
            refine .seq ?_
            refine .region ?_
            refine .q (x := .d (cB (decide (v103l1 < (v0.given.length : Int))))) (q_lss rfl rfl) rfl ?_
            refine .nil ?_
            refine .seq ?_
            refine .cond rfl (fun hc => ?_) (fun hc => ?_)
            · replace H := ifT hc H; clear hc
              refine .skip ?_
              refine .seq ?_
              refine .block ?_
              refine .seq ?_
              refine .region ?_
              obtain ⟨hk4, H⟩ := ck_some H
              refine .q (x := .d (.ro (Given.row (nth v0.given (Int.toNat (v103l1)))))) (q_idxL (row := Given.row) (l := v0.given) (i := v103l1) Try.underlying34 hi43 hs43 rfl rfl rfl hk4) rfl ?_
              refine .q (x := .d (.agg (Given.row (nth v0.given (Int.toNat (v103l1)))))) (q_loadAll one_43 sz_43 rfl rfl) rfl ?_
              refine .v (x := .ref 1 0) (v_alloc zr_43 rfl) rfl ?_
              refine .withSt (st' := ⟨[.row 36 [.d (cI v0.usage.id), .d (cI v0.usage.kind), .d (cI v0.usage.account), .d (cI v0.usage.sub), .d (cS v0.usage.a), .d (cS v0.usage.b), .d (cI v0.usage.start), .d (cI v0.usage.units), .d (cI v0.usage.trunk), .d (cB v0.usage.inbound), .d (cI v0.usage.source), .d (cI v0.usage.serial), .d (cI v0.err), .d (cS v0.plan), .d (cI v0.version), .d (cS v0.zone), .d (slOf 5 Take.row v0.takes), .d (slOf 4 Segment.row v0.segments), .d (cI v0.setup), .d (cI v0.gross), .d (cI v0.net), .d (slOf 2 Given.row v0.given), .d (cI v0.paid), .d (cI v0.owed)], .row 43 [.d (cS ([] : List UInt8)), .d (cI 0)]], []⟩) rfl ?_
              refine .u (u_store rfl rfl rfl rfl (Nat.le_of_ble_eq_true rfl) sz_43) rfl ?_
              refine .withSt (st' := ⟨[.row 36 [.d (cI v0.usage.id), .d (cI v0.usage.kind), .d (cI v0.usage.account), .d (cI v0.usage.sub), .d (cS v0.usage.a), .d (cS v0.usage.b), .d (cI v0.usage.start), .d (cI v0.usage.units), .d (cI v0.usage.trunk), .d (cB v0.usage.inbound), .d (cI v0.usage.source), .d (cI v0.usage.serial), .d (cI v0.err), .d (cS v0.plan), .d (cI v0.version), .d (cS v0.zone), .d (slOf 5 Take.row v0.takes), .d (slOf 4 Segment.row v0.segments), .d (cI v0.setup), .d (cI v0.gross), .d (cI v0.net), .d (slOf 2 Given.row v0.given), .d (cI v0.paid), .d (cI v0.owed)], .row 43 [.d (cS ((nth v0.given (Int.toNat (v103l1))).name)), .d (cI ((nth v0.given (Int.toNat (v103l1))).amount))]], []⟩) rfl ?_
              refine .nil ?_
              refine .seq ?_
              refine .seq ?_
              refine .region ?_
              refine .q (x := .ref 1 1) (q_fieldRef fo_43_1 rfl) rfl ?_
              refine .q (x := .d (cI ((nth v0.given (Int.toNat (v103l1))).amount))) (q_loadO one_3 rfl rfl rfl) rfl ?_
              obtain ⟨y4, hy4, H⟩ := bind_some' H
              refine .g (x := .d (cB y4)) (g_call en_24 rfl rfl (c_f_rate_within (hy4))) rfl ?_
              refine .q (x := .d (cB (!y4))) (q_not rfl) rfl ?_
              refine .nil ?_
              refine .cond rfl (fun hc => ?_) (fun hc => ?_)
              · replace H := ifT hc H; clear hc
                refine .seq ?_
                refine .region ?_
                refine .q (x := .d (cB false)) (q_assign rfl) rfl ?_
                refine .nil ?_
                refine .retN [.tmp 2] [.d (cB false)] Try.func14 Try.results14 ⟨rfl, trivial⟩ ?_
                cases H
                cases HK1
                exact ⟨_, .rfl' _, rfl⟩
              · replace H := ifF hc H; clear hc
                refine .skip ?_
                refine .region ?_
                refine .q (x := .d (cI v4l1)) (q_move rfl) rfl ?_
                refine .q (x := .ref 1 1) (q_fieldRef fo_43_1 rfl) rfl ?_
                refine .q (x := .d (cI ((nth v0.given (Int.toNat (v103l1))).amount))) (q_loadO one_3 rfl rfl rfl) rfl ?_
                obtain ⟨hk5, H⟩ := ck_some H
                refine .q (x := .d (cI (v4l1 + ((nth v0.given (Int.toNat (v103l1))).amount)))) (q_addI rfl rfl hk5.1 hk5.2) rfl ?_
                refine .q (x := .d (cI (v4l1 + ((nth v0.given (Int.toNat (v103l1))).amount)))) (q_assign rfl) rfl ?_
                refine .nil ?_
                refine .inBlock ?_
                refine .region ?_
                obtain ⟨hk6, H⟩ := ck_some H
                refine .q (x := .d (cI (v103l1 + 1))) (q_addI rfl rfl hk6.1 hk6.2) rfl ?_
                refine .q (x := .d (cI (v103l1 + 1))) (q_move rfl) rfl ?_
                refine .nil ?_
                cases H
                exact .to 1 0 (env' := [(1, .ref 0 0), (3, .d (cI v3j2)), (4, .d (cI (v4l1 + ((nth v0.given (Int.toNat (v103l1))).amount)))), (101, .d (slOf 2 Given.row v0.given)), (102, .d (cI (v0.given.length : Int))), (103, .d (cI (v103l1 + 1)))]) (st' := ⟨[.row 36 [.d (cI v0.usage.id), .d (cI v0.usage.kind), .d (cI v0.usage.account), .d (cI v0.usage.sub), .d (cS v0.usage.a), .d (cS v0.usage.b), .d (cI v0.usage.start), .d (cI v0.usage.units), .d (cI v0.usage.trunk), .d (cB v0.usage.inbound), .d (cI v0.usage.source), .d (cI v0.usage.serial), .d (cI v0.err), .d (cS v0.plan), .d (cI v0.version), .d (cS v0.zone), .d (slOf 5 Take.row v0.takes), .d (slOf 4 Segment.row v0.segments), .d (cI v0.setup), .d (cI v0.gross), .d (cI v0.net), .d (slOf 2 Given.row v0.given), .d (cI v0.paid), .d (cI v0.owed)]], []⟩) (.cons rfl (.rfl' _) (.cons rfl (.rfl' _) (.cons rfl (.rfl' _) (.cons rfl (.rfl' _) (.cons rfl (.rfl' _) (.cons rfl (.rfl' _) (.nil))))))) rfl rfl rfl rfl rfl (by rw [hS]; exact Nat.le_of_ble_eq_true rfl) (by rw [hS]; exact Nat.le_of_ble_eq_true rfl) <| .sub (.cons rfl (.rfl' _) (.cons rfl (.rfl' _) (.cons rfl (.rfl' _) (.cons rfl (.rfl' _) (.cons rfl (.rfl' _) (.cons rfl (.rfl' _) (.nil))))))) (ih1 (n1, (v4l1 + ((nth v0.given (Int.toNat (v103l1))).amount), v103l1 + 1)) HK1 hm1)
            · replace H := ifF hc H; clear hc
              refine .exit rfl ?_
              obtain ⟨q0, H9, hq0⟩ := map_some' H; clear H; cases hq0
              cases HK1
              have H := H9
              exact .sub (.cons rfl (.rfl' _) (.cons rfl (.rfl' _) (.cons rfl (.rfl' _) (.nil)))) (hj3x v4l1 H)
        · intro hj2 hj2x
          obtain ⟨n2, H⟩ := loop_some H
          refine .loop (ι := Nat × (Int × Int)) (fun p => [(1, .ref 0 0), (3, .d (cI p.2.1)), (4, .d (cI 0)), (66, .d (slOf 4 Segment.row v0.segments)), (67, .d (cI (v0.segments.length : Int))), (68, .d (cI p.2.2))]) (fun p => ⟨[.row 36 [.d (cI v0.usage.id), .d (cI v0.usage.kind), .d (cI v0.usage.account), .d (cI v0.usage.sub), .d (cS v0.usage.a), .d (cS v0.usage.b), .d (cI v0.usage.start), .d (cI v0.usage.units), .d (cI v0.usage.trunk), .d (cB v0.usage.inbound), .d (cI v0.usage.source), .d (cI v0.usage.serial), .d (cI v0.err), .d (cS v0.plan), .d (cI v0.version), .d (cS v0.zone), .d (slOf 5 Take.row v0.takes), .d (slOf 4 Segment.row v0.segments), .d (cI v0.setup), .d (cI v0.gross), .d (cI v0.net), .d (slOf 2 Given.row v0.given), .d (cI v0.paid), .d (cI v0.owed)]], []⟩) (fun p => iter (fun s => f_rate_Check_l2 v0 s.1 s.2) p.1 p.2 = some r) (·.1) (n2, (v0.setup, 0)) H (.cons rfl (.rfl' _) (.cons rfl (.rfl' _) (.cons rfl (.rfl' _) (.cons rfl (.rfl' _) (.cons rfl (.rfl' _) (.cons rfl (.rfl' _) (.nil))))))) rfl ?_
          rintro ⟨m1, v3l2, v68l2⟩ HI ih1
          obtain ⟨n1, q1, hm1, H, HK1⟩ := iter_succ HI
          clear HI
          replace H : f_rate_Check_l2 v0 v3l2 v68l2 = some q1 := H
          unfold f_rate_Check_l2 at H
          change ARun _ _ _ _ _ _ [(1, .ref 0 0), (3, .d (cI v3l2)), (4, .d (cI 0)), (66, .d (slOf 4 Segment.row v0.segments)), (67, .d (cI (v0.segments.length : Int))), (68, .d (cI v68l2))] ⟨[.row 36 [.d (cI v0.usage.id), .d (cI v0.usage.kind), .d (cI v0.usage.account), .d (cI v0.usage.sub), .d (cS v0.usage.a), .d (cS v0.usage.b), .d (cI v0.usage.start), .d (cI v0.usage.units), .d (cI v0.usage.trunk), .d (cB v0.usage.inbound), .d (cI v0.usage.source), .d (cI v0.usage.serial), .d (cI v0.err), .d (cS v0.plan), .d (cI v0.version), .d (cS v0.zone), .d (slOf 5 Take.row v0.takes), .d (slOf 4 Segment.row v0.segments), .d (cI v0.setup), .d (cI v0.gross), .d (cI v0.net), .d (slOf 2 Given.row v0.given), .d (cI v0.paid), .d (cI v0.owed)]], []⟩
          refine .seq ?_
          refine .region ?_
          refine .q (x := .d (cB (decide (v68l2 < (v0.segments.length : Int))))) (q_lss rfl rfl) rfl ?_
          refine .nil ?_
          refine .seq ?_
          refine .cond rfl (fun hc => ?_) (fun hc => ?_)
          · replace H := ifT hc H; clear hc
            refine .skip ?_
            refine .seq ?_
            refine .block ?_
            refine .seq ?_
            refine .region ?_
            obtain ⟨hk7, H⟩ := ck_some H
            refine .q (x := .d (.ro (Segment.row (nth v0.segments (Int.toNat (v68l2)))))) (q_idxL (row := Segment.row) (l := v0.segments) (i := v68l2) Try.underlying33 hi41 hs41 rfl rfl rfl hk7) rfl ?_
            refine .q (x := .d (.agg (Segment.row (nth v0.segments (Int.toNat (v68l2)))))) (q_loadAll one_41 sz_41 rfl rfl) rfl ?_
            refine .v (x := .ref 1 0) (v_alloc zr_41 rfl) rfl ?_
            refine .withSt (st' := ⟨[.row 36 [.d (cI v0.usage.id), .d (cI v0.usage.kind), .d (cI v0.usage.account), .d (cI v0.usage.sub), .d (cS v0.usage.a), .d (cS v0.usage.b), .d (cI v0.usage.start), .d (cI v0.usage.units), .d (cI v0.usage.trunk), .d (cB v0.usage.inbound), .d (cI v0.usage.source), .d (cI v0.usage.serial), .d (cI v0.err), .d (cS v0.plan), .d (cI v0.version), .d (cS v0.zone), .d (slOf 5 Take.row v0.takes), .d (slOf 4 Segment.row v0.segments), .d (cI v0.setup), .d (cI v0.gross), .d (cI v0.net), .d (slOf 2 Given.row v0.given), .d (cI v0.paid), .d (cI v0.owed)], .row 41 [.d (cS ([] : List UInt8)), .d (cI 0), .d (cI 0), .d (cI 0)]], []⟩) rfl ?_
            refine .u (u_store rfl rfl rfl rfl (Nat.le_of_ble_eq_true rfl) sz_41) rfl ?_
            refine .withSt (st' := ⟨[.row 36 [.d (cI v0.usage.id), .d (cI v0.usage.kind), .d (cI v0.usage.account), .d (cI v0.usage.sub), .d (cS v0.usage.a), .d (cS v0.usage.b), .d (cI v0.usage.start), .d (cI v0.usage.units), .d (cI v0.usage.trunk), .d (cB v0.usage.inbound), .d (cI v0.usage.source), .d (cI v0.usage.serial), .d (cI v0.err), .d (cS v0.plan), .d (cI v0.version), .d (cS v0.zone), .d (slOf 5 Take.row v0.takes), .d (slOf 4 Segment.row v0.segments), .d (cI v0.setup), .d (cI v0.gross), .d (cI v0.net), .d (slOf 2 Given.row v0.given), .d (cI v0.paid), .d (cI v0.owed)], .row 41 [.d (cS ((nth v0.segments (Int.toNat (v68l2))).band)), .d (cI ((nth v0.segments (Int.toNat (v68l2))).start)), .d (cI ((nth v0.segments (Int.toNat (v68l2))).units)), .d (cI ((nth v0.segments (Int.toNat (v68l2))).amount))]], []⟩) rfl ?_
            refine .nil ?_
            refine .seq ?_
            refine .seq ?_
            refine .region ?_
            refine .q (x := .ref 1 2) (q_fieldRef fo_41_2 rfl) rfl ?_
            refine .q (x := .d (cI ((nth v0.segments (Int.toNat (v68l2))).units))) (q_loadO one_3 rfl rfl rfl) rfl ?_
            obtain ⟨y5, hy5, H⟩ := bind_some' H
            refine .g (x := .d (cB y5)) (g_call en_24 rfl rfl (c_f_rate_within (hy5))) rfl ?_
            refine .q (x := .d (cB (!y5))) (q_not rfl) rfl ?_
            refine .q (x := .d (cB (!y5))) (q_move rfl) rfl ?_
            refine .guardG (b := (!(!y5))) (x := .ref 1 3) (env' := [(8, _)]) rfl rfl rfl ⟨.inl rfl, trivial⟩ rfl (fun hg => OpQ.g (q_fieldRef fo_41_3 rfl)) ?_
            refine .guardG (b := (!(!y5))) (x := .d (cI ((nth v0.segments (Int.toNat (v68l2))).amount))) (env' := [(77, _)]) rfl rfl rfl ⟨.inr (.inl rfl), trivial⟩ rfl (fun hg => OpQ.g (q_loadO one_3 rfl rfl rfl)) ?_
            obtain ⟨y6, hy6, H⟩ := bind_some' H
            refine .guardG (b := (!(!y5))) (x := .d (cB y6)) (env' := [(78, _)]) rfl rfl rfl ⟨.inr (.inl rfl), trivial⟩ rfl (fun hg => (g_call en_24 rfl rfl (c_f_rate_within (gcall_some hy6 hg)))) ?_
            refine .guardG (b := (!(!y5))) (x := .d (cB (!y6))) (env' := [(79, _)]) rfl rfl rfl ⟨.inr (.inl rfl), trivial⟩ rfl (fun hg => OpQ.g (q_not rfl)) ?_
            refine .q (x := .d (cB ((!y5) || (!y6)))) (q_pickOrB rfl rfl rfl) rfl ?_
            refine .nil ?_
            refine .cond rfl (fun hc => ?_) (fun hc => ?_)
            · replace H := ifT hc H; clear hc
              refine .seq ?_
              refine .region ?_
              refine .q (x := .d (cB false)) (q_assign rfl) rfl ?_
              refine .nil ?_
              refine .retN [.tmp 2] [.d (cB false)] Try.func14 Try.results14 ⟨rfl, trivial⟩ ?_
              cases H
              cases HK1
              exact ⟨_, .rfl' _, rfl⟩
            · replace H := ifF hc H; clear hc
              refine .skip ?_
              refine .seq ?_
              refine .seq ?_
              refine .region ?_
              refine .q (x := .d (cI v3l2)) (q_move rfl) rfl ?_
              refine .q (x := .ref 0 19) (q_fieldRef fo_36_8 rfl) rfl ?_
              refine .q (x := .d (cI v0.gross)) (q_loadO one_3 rfl rfl rfl) rfl ?_
              refine .q (x := .d (cB (decide (v3l2 > v0.gross)))) (q_gtr rfl rfl) rfl ?_
              refine .q (x := .d (cB (decide (v3l2 > v0.gross)))) (q_move rfl) rfl ?_
              refine .guardG (b := (!(decide (v3l2 > v0.gross)))) (x := .ref 1 3) (env' := [(8, _)]) rfl rfl rfl ⟨.inl rfl, trivial⟩ rfl (fun hg => OpQ.g (q_fieldRef fo_41_3 rfl)) ?_
              refine .guardG (b := (!(decide (v3l2 > v0.gross)))) (x := .d (cI ((nth v0.segments (Int.toNat (v68l2))).amount))) (env' := [(87, _)]) rfl rfl rfl ⟨.inr (.inl rfl), trivial⟩ rfl (fun hg => OpQ.g (q_loadO one_3 rfl rfl rfl)) ?_
              refine .guardG (b := (!(decide (v3l2 > v0.gross)))) (x := .ref 0 19) (env' := [(1, _)]) rfl rfl rfl ⟨.inl rfl, trivial⟩ rfl (fun hg => OpQ.g (q_fieldRef fo_36_8 rfl)) ?_
              refine .guardG (b := (!(decide (v3l2 > v0.gross)))) (x := .d (cI v0.gross)) (env' := [(89, _)]) rfl rfl rfl ⟨.inr (.inl rfl), trivial⟩ rfl (fun hg => OpQ.g (q_loadO one_3 rfl rfl rfl)) ?_
              refine .guardG (b := (!(decide (v3l2 > v0.gross)))) (x := .d (cI v3l2)) (env' := [(3, _)]) rfl rfl rfl ⟨.inl rfl, trivial⟩ rfl (fun hg => OpQ.g (q_move rfl)) ?_
              obtain ⟨hk8, H⟩ := ck_some H
              refine .guardG (b := (!(decide (v3l2 > v0.gross)))) (x := .d (cI (v0.gross - v3l2))) (env' := [(90, _), (91, _)]) rfl rfl rfl ⟨.inr (.inl rfl), ⟨.inr (.inl rfl), trivial⟩⟩ rfl (fun hg => OpQ.g (q_subI rfl rfl (hk8 hg).1 (hk8 hg).2)) ?_
              refine .guardG (b := (!(decide (v3l2 > v0.gross)))) (x := .d (cB (decide (((nth v0.segments (Int.toNat (v68l2))).amount) > (v0.gross - v3l2))))) (env' := [(88, _), (92, _)]) rfl rfl rfl ⟨.inr (.inl rfl), ⟨.inr (.inl rfl), trivial⟩⟩ rfl (fun hg => OpQ.g (q_gtr rfl rfl)) ?_
              refine .q (x := .d (cB ((decide (v3l2 > v0.gross)) || (decide (((nth v0.segments (Int.toNat (v68l2))).amount) > (v0.gross - v3l2)))))) (q_pickOrB rfl rfl rfl) rfl ?_
              refine .nil ?_
              refine .cond rfl (fun hc => ?_) (fun hc => ?_)
              · replace H := ifT hc H; clear hc
                refine .seq ?_
                refine .region ?_
                refine .q (x := .d (cB false)) (q_assign rfl) rfl ?_
                refine .nil ?_
                refine .retN [.tmp 2] [.d (cB false)] Try.func14 Try.results14 ⟨rfl, trivial⟩ ?_
                cases H
                cases HK1
                exact ⟨_, .rfl' _, rfl⟩
              · replace H := ifF hc H; clear hc
                refine .skip ?_
                refine .region ?_
                refine .q (x := .d (cI v3l2)) (q_move rfl) rfl ?_
                refine .q (x := .ref 1 3) (q_fieldRef fo_41_3 rfl) rfl ?_
                refine .q (x := .d (cI ((nth v0.segments (Int.toNat (v68l2))).amount))) (q_loadO one_3 rfl rfl rfl) rfl ?_
                obtain ⟨hk9, H⟩ := ck_some H
                refine .q (x := .d (cI (v3l2 + ((nth v0.segments (Int.toNat (v68l2))).amount)))) (q_addI rfl rfl hk9.1 hk9.2) rfl ?_
                refine .q (x := .d (cI (v3l2 + ((nth v0.segments (Int.toNat (v68l2))).amount)))) (q_assign rfl) rfl ?_
                refine .nil ?_
                refine .inBlock ?_
                refine .region ?_
                obtain ⟨hk10, H⟩ := ck_some H
                refine .q (x := .d (cI (v68l2 + 1))) (q_addI rfl rfl hk10.1 hk10.2) rfl ?_
                refine .q (x := .d (cI (v68l2 + 1))) (q_move rfl) rfl ?_
                refine .nil ?_
                cases H
                exact .to 1 0 (env' := [(1, .ref 0 0), (3, .d (cI (v3l2 + ((nth v0.segments (Int.toNat (v68l2))).amount)))), (4, .d (cI 0)), (66, .d (slOf 4 Segment.row v0.segments)), (67, .d (cI (v0.segments.length : Int))), (68, .d (cI (v68l2 + 1)))]) (st' := ⟨[.row 36 [.d (cI v0.usage.id), .d (cI v0.usage.kind), .d (cI v0.usage.account), .d (cI v0.usage.sub), .d (cS v0.usage.a), .d (cS v0.usage.b), .d (cI v0.usage.start), .d (cI v0.usage.units), .d (cI v0.usage.trunk), .d (cB v0.usage.inbound), .d (cI v0.usage.source), .d (cI v0.usage.serial), .d (cI v0.err), .d (cS v0.plan), .d (cI v0.version), .d (cS v0.zone), .d (slOf 5 Take.row v0.takes), .d (slOf 4 Segment.row v0.segments), .d (cI v0.setup), .d (cI v0.gross), .d (cI v0.net), .d (slOf 2 Given.row v0.given), .d (cI v0.paid), .d (cI v0.owed)]], []⟩) (.cons rfl (.rfl' _) (.cons rfl (.rfl' _) (.cons rfl (.rfl' _) (.cons rfl (.rfl' _) (.cons rfl (.rfl' _) (.cons rfl (.rfl' _) (.nil))))))) rfl rfl rfl rfl rfl (by rw [hS]; exact Nat.le_of_ble_eq_true rfl) (by rw [hS]; exact Nat.le_of_ble_eq_true rfl) <| .sub (.cons rfl (.rfl' _) (.cons rfl (.rfl' _) (.cons rfl (.rfl' _) (.cons rfl (.rfl' _) (.cons rfl (.rfl' _) (.cons rfl (.rfl' _) (.nil))))))) (ih1 (n1, (v3l2 + ((nth v0.segments (Int.toNat (v68l2))).amount), v68l2 + 1)) HK1 hm1)
          · replace H := ifF hc H; clear hc
            refine .exit rfl ?_
            obtain ⟨q0, H9, hq0⟩ := map_some' H; clear H; cases hq0
            cases HK1
            have H := H9
            exact .sub (.cons rfl (.rfl' _) (.cons rfl (.rfl' _) (.cons rfl (.rfl' _) (.nil)))) (hj2x v3l2 H)
      · intro hj1 hj1x
        obtain ⟨n3, H⟩ := loop_some H
        refine .loop (ι := Nat × (Int)) (fun p => [(1, .ref 0 0), (3, .d (cI v0.setup)), (4, .d (cI 0)), (54, .d (slOf 5 Take.row v0.takes)), (55, .d (cI (v0.takes.length : Int))), (56, .d (cI p.2))]) (fun p => ⟨[.row 36 [.d (cI v0.usage.id), .d (cI v0.usage.kind), .d (cI v0.usage.account), .d (cI v0.usage.sub), .d (cS v0.usage.a), .d (cS v0.usage.b), .d (cI v0.usage.start), .d (cI v0.usage.units), .d (cI v0.usage.trunk), .d (cB v0.usage.inbound), .d (cI v0.usage.source), .d (cI v0.usage.serial), .d (cI v0.err), .d (cS v0.plan), .d (cI v0.version), .d (cS v0.zone), .d (slOf 5 Take.row v0.takes), .d (slOf 4 Segment.row v0.segments), .d (cI v0.setup), .d (cI v0.gross), .d (cI v0.net), .d (slOf 2 Given.row v0.given), .d (cI v0.paid), .d (cI v0.owed)]], []⟩) (fun p => iter (fun s => f_rate_Check_l3 v0 s) p.1 p.2 = some r) (·.1) (n3, 0) H (.cons rfl (.rfl' _) (.cons rfl (.rfl' _) (.cons rfl (.rfl' _) (.cons rfl (.rfl' _) (.cons rfl (.rfl' _) (.cons rfl (.rfl' _) (.nil))))))) rfl ?_
        rintro ⟨m1, v56l3⟩ HI ih1
        obtain ⟨n1, q1, hm1, H, HK1⟩ := iter_succ HI
        clear HI
        replace H : f_rate_Check_l3 v0 v56l3 = some q1 := H
        unfold f_rate_Check_l3 at H
        change ARun _ _ _ _ _ _ [(1, .ref 0 0), (3, .d (cI v0.setup)), (4, .d (cI 0)), (54, .d (slOf 5 Take.row v0.takes)), (55, .d (cI (v0.takes.length : Int))), (56, .d (cI v56l3))] ⟨[.row 36 [.d (cI v0.usage.id), .d (cI v0.usage.kind), .d (cI v0.usage.account), .d (cI v0.usage.sub), .d (cS v0.usage.a), .d (cS v0.usage.b), .d (cI v0.usage.start), .d (cI v0.usage.units), .d (cI v0.usage.trunk), .d (cB v0.usage.inbound), .d (cI v0.usage.source), .d (cI v0.usage.serial), .d (cI v0.err), .d (cS v0.plan), .d (cI v0.version), .d (cS v0.zone), .d (slOf 5 Take.row v0.takes), .d (slOf 4 Segment.row v0.segments), .d (cI v0.setup), .d (cI v0.gross), .d (cI v0.net), .d (slOf 2 Given.row v0.given), .d (cI v0.paid), .d (cI v0.owed)]], []⟩
        refine .seq ?_
        refine .region ?_
        refine .q (x := .d (cB (decide (v56l3 < (v0.takes.length : Int))))) (q_lss rfl rfl) rfl ?_
        refine .nil ?_
        refine .seq ?_
        refine .cond rfl (fun hc => ?_) (fun hc => ?_)
        · replace H := ifT hc H; clear hc
          refine .skip ?_
          refine .seq ?_
          refine .block ?_
          refine .seq ?_
          refine .region ?_
          obtain ⟨hk11, H⟩ := ck_some H
          refine .q (x := .d (.ro (Take.row (nth v0.takes (Int.toNat (v56l3)))))) (q_idxL (row := Take.row) (l := v0.takes) (i := v56l3) Try.underlying32 hi39 hs39 rfl rfl rfl hk11) rfl ?_
          refine .q (x := .d (.agg (Take.row (nth v0.takes (Int.toNat (v56l3)))))) (q_loadAll one_39 sz_39 rfl rfl) rfl ?_
          refine .v (x := .ref 1 0) (v_alloc zr_39 rfl) rfl ?_
          refine .withSt (st' := ⟨[.row 36 [.d (cI v0.usage.id), .d (cI v0.usage.kind), .d (cI v0.usage.account), .d (cI v0.usage.sub), .d (cS v0.usage.a), .d (cS v0.usage.b), .d (cI v0.usage.start), .d (cI v0.usage.units), .d (cI v0.usage.trunk), .d (cB v0.usage.inbound), .d (cI v0.usage.source), .d (cI v0.usage.serial), .d (cI v0.err), .d (cS v0.plan), .d (cI v0.version), .d (cS v0.zone), .d (slOf 5 Take.row v0.takes), .d (slOf 4 Segment.row v0.segments), .d (cI v0.setup), .d (cI v0.gross), .d (cI v0.net), .d (slOf 2 Given.row v0.given), .d (cI v0.paid), .d (cI v0.owed)], .row 39 [.d (cI 0), .d (cS ([] : List UInt8)), .d (cI 0), .d (cI 0), .d (cI 0)]], []⟩) rfl ?_
          refine .u (u_store rfl rfl rfl rfl (Nat.le_of_ble_eq_true rfl) sz_39) rfl ?_
          refine .withSt (st' := ⟨[.row 36 [.d (cI v0.usage.id), .d (cI v0.usage.kind), .d (cI v0.usage.account), .d (cI v0.usage.sub), .d (cS v0.usage.a), .d (cS v0.usage.b), .d (cI v0.usage.start), .d (cI v0.usage.units), .d (cI v0.usage.trunk), .d (cB v0.usage.inbound), .d (cI v0.usage.source), .d (cI v0.usage.serial), .d (cI v0.err), .d (cS v0.plan), .d (cI v0.version), .d (cS v0.zone), .d (slOf 5 Take.row v0.takes), .d (slOf 4 Segment.row v0.segments), .d (cI v0.setup), .d (cI v0.gross), .d (cI v0.net), .d (slOf 2 Given.row v0.given), .d (cI v0.paid), .d (cI v0.owed)], .row 39 [.d (cI ((nth v0.takes (Int.toNat (v56l3))).sub)), .d (cS ((nth v0.takes (Int.toNat (v56l3))).product)), .d (cI ((nth v0.takes (Int.toNat (v56l3))).index)), .d (cI ((nth v0.takes (Int.toNat (v56l3))).from_)), .d (cI ((nth v0.takes (Int.toNat (v56l3))).units))]], []⟩) rfl ?_
          refine .nil ?_
          refine .seq ?_
          refine .region ?_
          refine .q (x := .ref 1 4) (q_fieldRef fo_39_4 rfl) rfl ?_
          refine .q (x := .d (cI ((nth v0.takes (Int.toNat (v56l3))).units))) (q_loadO one_3 rfl rfl rfl) rfl ?_
          obtain ⟨y7, hy7, H⟩ := bind_some' H
          refine .g (x := .d (cB y7)) (g_call en_24 rfl rfl (c_f_rate_within (hy7))) rfl ?_
          refine .q (x := .d (cB (!y7))) (q_not rfl) rfl ?_
          refine .nil ?_
          refine .cond rfl (fun hc => ?_) (fun hc => ?_)
          · replace H := ifT hc H; clear hc
            refine .seq ?_
            refine .region ?_
            refine .q (x := .d (cB false)) (q_assign rfl) rfl ?_
            refine .nil ?_
            refine .retN [.tmp 2] [.d (cB false)] Try.func14 Try.results14 ⟨rfl, trivial⟩ ?_
            cases H
            cases HK1
            exact ⟨_, .rfl' _, rfl⟩
          · replace H := ifF hc H; clear hc
            refine .skip ?_
            refine .inBlock ?_
            refine .region ?_
            obtain ⟨hk12, H⟩ := ck_some H
            refine .q (x := .d (cI (v56l3 + 1))) (q_addI rfl rfl hk12.1 hk12.2) rfl ?_
            refine .q (x := .d (cI (v56l3 + 1))) (q_move rfl) rfl ?_
            refine .nil ?_
            cases H
            exact .to 1 0 (env' := [(1, .ref 0 0), (3, .d (cI v0.setup)), (4, .d (cI 0)), (54, .d (slOf 5 Take.row v0.takes)), (55, .d (cI (v0.takes.length : Int))), (56, .d (cI (v56l3 + 1)))]) (st' := ⟨[.row 36 [.d (cI v0.usage.id), .d (cI v0.usage.kind), .d (cI v0.usage.account), .d (cI v0.usage.sub), .d (cS v0.usage.a), .d (cS v0.usage.b), .d (cI v0.usage.start), .d (cI v0.usage.units), .d (cI v0.usage.trunk), .d (cB v0.usage.inbound), .d (cI v0.usage.source), .d (cI v0.usage.serial), .d (cI v0.err), .d (cS v0.plan), .d (cI v0.version), .d (cS v0.zone), .d (slOf 5 Take.row v0.takes), .d (slOf 4 Segment.row v0.segments), .d (cI v0.setup), .d (cI v0.gross), .d (cI v0.net), .d (slOf 2 Given.row v0.given), .d (cI v0.paid), .d (cI v0.owed)]], []⟩) (.cons rfl (.rfl' _) (.cons rfl (.rfl' _) (.cons rfl (.rfl' _) (.cons rfl (.rfl' _) (.cons rfl (.rfl' _) (.cons rfl (.rfl' _) (.nil))))))) rfl rfl rfl rfl rfl (by rw [hS]; exact Nat.le_of_ble_eq_true rfl) (by rw [hS]; exact Nat.le_of_ble_eq_true rfl) <| .sub (.cons rfl (.rfl' _) (.cons rfl (.rfl' _) (.cons rfl (.rfl' _) (.cons rfl (.rfl' _) (.cons rfl (.rfl' _) (.cons rfl (.rfl' _) (.nil))))))) (ih1 (n1, (v56l3 + 1)) HK1 hm1)
        · replace H := ifF hc H; clear hc
          refine .exit rfl ?_
          obtain ⟨q0, H9, hq0⟩ := map_some' H; clear H; cases hq0
          cases HK1
          have H := H9
          exact .sub (.cons rfl (.rfl' _) (.cons rfl (.rfl' _) (.cons rfl (.rfl' _) (.nil)))) (hj1x () H)

set_option maxRecDepth 100000 in
set_option maxHeartbeats 1000000 in
theorem c_f_assure_Money {v0rated : List Rated} {r : (List Leak)} (H : f_assure_Money v0rated = some r) : ACall Try.prog 7 [slOf 24 Rated.row v0rated] (· = slOf 4 Leak.row r) := by
  obtain ⟨i36, hi36, hz36, hs36, hb36⟩ := in_36
  obtain ⟨i51, hi51, hz51, hs51, hb51⟩ := in_51
  refine ACall.enter' Try.func7 rfl Try.ntmps7 rfl fun S hS => ?_
  unfold f_assure_Money at H
  change ARun _ _ _ _ _ _ [(0, .d (slOf 24 Rated.row v0rated))] _
  refine .seq ?_
  refine .region ?_
  refine .q (x := .d (nilD)) (q_assign rfl) rfl ?_
  refine .nil ?_
  refine .seq ?_
  refine .region ?_
  refine .q (x := .d (nilD)) (q_assign rfl) rfl ?_
  refine .nil ?_
  refine .seq ?_
  refine .seq ?_
  refine .region ?_
  refine .q (x := .d (slOf 24 Rated.row v0rated)) (q_move rfl) rfl ?_
  refine .q (x := .d (cI (v0rated.length : Int))) (q_lenL (l := v0rated) (row := Rated.row) Try.underlying22 rfl rfl) rfl ?_
  refine .q (x := .d (cI 0)) (q_move rfl) rfl ?_
  refine .nil ?_
  refine .block ?_
  refine .tok (i := 3) (e := 51) (sz := 4) rfl ?_
  refine .withSt (st' := ⟨[], [⟨51, 4, ([] : List Leak).length⟩]⟩) rfl ?_
  obtain ⟨n1, H⟩ := loop_some H
  refine .withSt (st' := ⟨[], [⟨51, 4, ([] : List Leak).length⟩]⟩) rfl <| .loop (ι := Nat × (List Leak × Int)) (fun p => [(3, .tsl 4 (p.2.1.map Leak.row) 0), (6, .d (slOf 24 Rated.row v0rated)), (7, .d (cI (v0rated.length : Int))), (8, .d (cI p.2.2))]) (fun p => ⟨[], [⟨51, 4, p.2.1.length⟩]⟩) (fun p => iter (fun s => f_assure_Money_l1 v0rated s.1 s.2) p.1 p.2 = some r) (·.1) (n1, (([] : List Leak), 0)) H (.cons rfl (.rfl' _) (.cons rfl (.rfl' _) (.cons rfl (.rfl' _) (.cons rfl (.rfl' _) (.nil))))) rfl ?_
  rintro ⟨m1, v3outl1, v8l1⟩ HI ih1
  obtain ⟨n1, q1, hm1, H, HK1⟩ := iter_succ HI
  clear HI
  replace H : f_assure_Money_l1 v0rated v3outl1 v8l1 = some q1 := H
  unfold f_assure_Money_l1 at H
  change ARun _ _ _ _ _ _ [(3, .tsl 4 (v3outl1.map Leak.row) 0), (6, .d (slOf 24 Rated.row v0rated)), (7, .d (cI (v0rated.length : Int))), (8, .d (cI v8l1))] ⟨[], [⟨51, 4, v3outl1.length⟩]⟩
  refine .seq ?_
  refine .region ?_
  refine .q (x := .d (cB (decide (v8l1 < (v0rated.length : Int))))) (q_lss rfl rfl) rfl ?_
  refine .nil ?_
  refine .seq ?_
  refine .cond rfl (fun hc => ?_) (fun hc => ?_)
  · replace H := ifT hc H; clear hc
    refine .skip ?_
    refine .seq ?_
    refine .block ?_
    refine .seq ?_
    refine .region ?_
    obtain ⟨hk1, H⟩ := ck_some H
    refine .q (x := .d (.ro (Rated.row (nth v0rated (Int.toNat (v8l1)))))) (q_idxL (row := Rated.row) (l := v0rated) (i := v8l1) Try.underlying22 hi36 hs36 rfl rfl rfl hk1) rfl ?_
    refine .q (x := .d (.agg (Rated.row (nth v0rated (Int.toNat (v8l1)))))) (q_loadAll one_36 sz_36 rfl rfl) rfl ?_
    refine .v (x := .ref 0 0) (v_alloc zr_36 rfl) rfl ?_
    refine .withSt (st' := ⟨[.row 36 [.d (cI 0), .d (cI 0), .d (cI 0), .d (cI 0), .d (cS ([] : List UInt8)), .d (cS ([] : List UInt8)), .d (cI 0), .d (cI 0), .d (cI 0), .d (cB false), .d (cI 0), .d (cI 0), .d (cI 0), .d (cS ([] : List UInt8)), .d (cI 0), .d (cS ([] : List UInt8)), .d (nilD), .d (nilD), .d (cI 0), .d (cI 0), .d (cI 0), .d (nilD), .d (cI 0), .d (cI 0)]], [⟨51, 4, v3outl1.length⟩]⟩) rfl ?_
    refine .u (u_store rfl rfl rfl rfl (Nat.le_of_ble_eq_true rfl) sz_36) rfl ?_
    refine .withSt (st' := ⟨[.row 36 [.d (cI (((nth v0rated (Int.toNat (v8l1))).usage).id)), .d (cI (((nth v0rated (Int.toNat (v8l1))).usage).kind)), .d (cI (((nth v0rated (Int.toNat (v8l1))).usage).account)), .d (cI (((nth v0rated (Int.toNat (v8l1))).usage).sub)), .d (cS (((nth v0rated (Int.toNat (v8l1))).usage).a)), .d (cS (((nth v0rated (Int.toNat (v8l1))).usage).b)), .d (cI (((nth v0rated (Int.toNat (v8l1))).usage).start)), .d (cI (((nth v0rated (Int.toNat (v8l1))).usage).units)), .d (cI (((nth v0rated (Int.toNat (v8l1))).usage).trunk)), .d (cB (((nth v0rated (Int.toNat (v8l1))).usage).inbound)), .d (cI (((nth v0rated (Int.toNat (v8l1))).usage).source)), .d (cI (((nth v0rated (Int.toNat (v8l1))).usage).serial)), .d (cI ((nth v0rated (Int.toNat (v8l1))).err)), .d (cS ((nth v0rated (Int.toNat (v8l1))).plan)), .d (cI ((nth v0rated (Int.toNat (v8l1))).version)), .d (cS ((nth v0rated (Int.toNat (v8l1))).zone)), .d (slOf 5 Take.row ((nth v0rated (Int.toNat (v8l1))).takes)), .d (slOf 4 Segment.row ((nth v0rated (Int.toNat (v8l1))).segments)), .d (cI ((nth v0rated (Int.toNat (v8l1))).setup)), .d (cI ((nth v0rated (Int.toNat (v8l1))).gross)), .d (cI ((nth v0rated (Int.toNat (v8l1))).net)), .d (slOf 2 Given.row ((nth v0rated (Int.toNat (v8l1))).given)), .d (cI ((nth v0rated (Int.toNat (v8l1))).paid)), .d (cI ((nth v0rated (Int.toNat (v8l1))).owed))]], [⟨51, 4, v3outl1.length⟩]⟩) rfl ?_
    refine .nil ?_
    refine .seq ?_
    refine .region ?_
    refine .q (x := .d (.agg (Rated.row (nth v0rated (Int.toNat (v8l1)))))) (q_loadOA one_36 sz_36 rfl rfl (Nat.le_of_ble_eq_true rfl) rfl) rfl ?_
    obtain ⟨y1, hy1, H⟩ := bind_some' H
    refine .g (x := .d (cB y1)) (g_call en_14 rfl rfl (c_f_rate_Check (hy1))) rfl ?_
    refine .q (x := .d (cB (!y1))) (q_not rfl) rfl ?_
    refine .nil ?_
    refine .cond rfl (fun hc => ?_) (fun hc => ?_)
    · replace H := ifT hc H; clear hc
      refine .region ?_
      refine .q (x := .tsl 4 (v3outl1.map Leak.row) 0) (q_move rfl) rfl ?_
      refine .q (x := .ref 0 0) (q_fieldRef fo_36_0 rfl) rfl ?_
      refine .q (x := .ref 0 0) (q_fieldRef fo_30_0 rfl) rfl ?_
      refine .q (x := .d (cI (((nth v0rated (Int.toNat (v8l1))).usage).id))) (q_loadO one_3 rfl rfl rfl) rfl ?_
      refine .q (x := .ref 0 20) (q_fieldRef fo_36_9 rfl) rfl ?_
      refine .q (x := .d (cI ((nth v0rated (Int.toNat (v8l1))).net))) (q_loadO one_3 rfl rfl rfl) rfl ?_
      refine .q (x := .ref 0 22) (q_fieldRef fo_36_11 rfl) rfl ?_
      refine .q (x := .d (cI ((nth v0rated (Int.toNat (v8l1))).paid))) (q_loadO one_3 rfl rfl rfl) rfl ?_
      refine .q (x := .ref 0 23) (q_fieldRef fo_36_12 rfl) rfl ?_
      refine .q (x := .d (cI ((nth v0rated (Int.toNat (v8l1))).owed))) (q_loadO one_3 rfl rfl rfl) rfl ?_
      obtain ⟨hk2, H⟩ := ck_some H
      refine .q (x := .d (cI (((nth v0rated (Int.toNat (v8l1))).paid) + ((nth v0rated (Int.toNat (v8l1))).owed)))) (q_addI rfl rfl hk2.1 hk2.2) rfl ?_
      refine .q (x := .d (.agg (Leak.row (⟨4, ((nth v0rated (Int.toNat (v8l1))).usage).id, (nth v0rated (Int.toNat (v8l1))).net, ((nth v0rated (Int.toNat (v8l1))).paid) + ((nth v0rated (Int.toNat (v8l1))).owed)⟩ : Leak)))) (q_buildP pl_51 hi51 hz51 rfl rfl) rfl ?_
      refine .g (x := .d (slOf 4 Leak.row ([(⟨4, ((nth v0rated (Int.toNat (v8l1))).usage).id, (nth v0rated (Int.toNat (v8l1))).net, ((nth v0rated (Int.toNat (v8l1))).paid) + ((nth v0rated (Int.toNat (v8l1))).owed)⟩ : Leak)]))) (g_buildSlice1 Try.underlying26 hi51 hs51 hz51 rfl rfl rfl rfl rfl) rfl ?_
      obtain ⟨hk3, H⟩ := ck_some H
      refine .v (x := .tsl 4 ((v3outl1 ++ ([(⟨4, ((nth v0rated (Int.toNat (v8l1))).usage).id, (nth v0rated (Int.toNat (v8l1))).net, ((nth v0rated (Int.toNat (v8l1))).paid) + ((nth v0rated (Int.toNat (v8l1))).owed)⟩ : Leak)])).map Leak.row) 0) (v_appendL (l := v3outl1) (l' := [(⟨4, ((nth v0rated (Int.toNat (v8l1))).usage).id, (nth v0rated (Int.toNat (v8l1))).net, ((nth v0rated (Int.toNat (v8l1))).paid) + ((nth v0rated (Int.toNat (v8l1))).owed)⟩ : Leak)]) (row := Leak.row) Try.underlying26 hi51 hz51 hs51 rfl (by rw [hb51]; decide) rfl rfl rfl rfl hk3) rfl ?_
      refine .withSt (st' := ⟨[.row 36 [.d (cI (((nth v0rated (Int.toNat (v8l1))).usage).id)), .d (cI (((nth v0rated (Int.toNat (v8l1))).usage).kind)), .d (cI (((nth v0rated (Int.toNat (v8l1))).usage).account)), .d (cI (((nth v0rated (Int.toNat (v8l1))).usage).sub)), .d (cS (((nth v0rated (Int.toNat (v8l1))).usage).a)), .d (cS (((nth v0rated (Int.toNat (v8l1))).usage).b)), .d (cI (((nth v0rated (Int.toNat (v8l1))).usage).start)), .d (cI (((nth v0rated (Int.toNat (v8l1))).usage).units)), .d (cI (((nth v0rated (Int.toNat (v8l1))).usage).trunk)), .d (cB (((nth v0rated (Int.toNat (v8l1))).usage).inbound)), .d (cI (((nth v0rated (Int.toNat (v8l1))).usage).source)), .d (cI (((nth v0rated (Int.toNat (v8l1))).usage).serial)), .d (cI ((nth v0rated (Int.toNat (v8l1))).err)), .d (cS ((nth v0rated (Int.toNat (v8l1))).plan)), .d (cI ((nth v0rated (Int.toNat (v8l1))).version)), .d (cS ((nth v0rated (Int.toNat (v8l1))).zone)), .d (slOf 5 Take.row ((nth v0rated (Int.toNat (v8l1))).takes)), .d (slOf 4 Segment.row ((nth v0rated (Int.toNat (v8l1))).segments)), .d (cI ((nth v0rated (Int.toNat (v8l1))).setup)), .d (cI ((nth v0rated (Int.toNat (v8l1))).gross)), .d (cI ((nth v0rated (Int.toNat (v8l1))).net)), .d (slOf 2 Given.row ((nth v0rated (Int.toNat (v8l1))).given)), .d (cI ((nth v0rated (Int.toNat (v8l1))).paid)), .d (cI ((nth v0rated (Int.toNat (v8l1))).owed))]], [⟨51, 4, (v3outl1 ++ ([(⟨4, ((nth v0rated (Int.toNat (v8l1))).usage).id, (nth v0rated (Int.toNat (v8l1))).net, ((nth v0rated (Int.toNat (v8l1))).paid) + ((nth v0rated (Int.toNat (v8l1))).owed)⟩ : Leak)])).length⟩]⟩) rfl ?_
      refine .q (x := .tsl 4 ((v3outl1 ++ ([(⟨4, ((nth v0rated (Int.toNat (v8l1))).usage).id, (nth v0rated (Int.toNat (v8l1))).net, ((nth v0rated (Int.toNat (v8l1))).paid) + ((nth v0rated (Int.toNat (v8l1))).owed)⟩ : Leak)])).map Leak.row) 0) (q_assign rfl) rfl ?_
      refine .nil ?_
      refine .inBlock ?_
      refine .region ?_
      obtain ⟨hk4, H⟩ := ck_some H
      refine .q (x := .d (cI (v8l1 + 1))) (q_addI rfl rfl hk4.1 hk4.2) rfl ?_
      refine .q (x := .d (cI (v8l1 + 1))) (q_move rfl) rfl ?_
      refine .nil ?_
      cases H
      exact .to 0 1 (env' := [(3, .tsl 4 ((v3outl1 ++ ([(⟨4, ((nth v0rated (Int.toNat (v8l1))).usage).id, (nth v0rated (Int.toNat (v8l1))).net, ((nth v0rated (Int.toNat (v8l1))).paid) + ((nth v0rated (Int.toNat (v8l1))).owed)⟩ : Leak)])).map Leak.row) 0), (6, .d (slOf 24 Rated.row v0rated)), (7, .d (cI (v0rated.length : Int))), (8, .d (cI (v8l1 + 1)))]) (st' := ⟨[], [⟨51, 4, (v3outl1 ++ ([(⟨4, ((nth v0rated (Int.toNat (v8l1))).usage).id, (nth v0rated (Int.toNat (v8l1))).net, ((nth v0rated (Int.toNat (v8l1))).paid) + ((nth v0rated (Int.toNat (v8l1))).owed)⟩ : Leak)])).length⟩]⟩) (.cons rfl (.rfl' _) (.cons rfl (.rfl' _) (.cons rfl (.rfl' _) (.cons rfl (.rfl' _) (.nil))))) rfl rfl rfl rfl rfl (by rw [hS]; exact Nat.le_of_ble_eq_true rfl) (by rw [hS]; exact Nat.le_of_ble_eq_true rfl) <| .sub (.cons rfl (.rfl' _) (.cons rfl (.rfl' _) (.cons rfl (.rfl' _) (.cons rfl (.rfl' _) (.nil))))) (ih1 (n1, (v3outl1 ++ ([(⟨4, ((nth v0rated (Int.toNat (v8l1))).usage).id, (nth v0rated (Int.toNat (v8l1))).net, ((nth v0rated (Int.toNat (v8l1))).paid) + ((nth v0rated (Int.toNat (v8l1))).owed)⟩ : Leak)]), v8l1 + 1)) HK1 hm1)
    · replace H := ifF hc H; clear hc
      refine .skip ?_
      refine .inBlock ?_
      refine .region ?_
      obtain ⟨hk5, H⟩ := ck_some H
      refine .q (x := .d (cI (v8l1 + 1))) (q_addI rfl rfl hk5.1 hk5.2) rfl ?_
      refine .q (x := .d (cI (v8l1 + 1))) (q_move rfl) rfl ?_
      refine .nil ?_
      cases H
      exact .to 0 1 (env' := [(3, .tsl 4 (v3outl1.map Leak.row) 0), (6, .d (slOf 24 Rated.row v0rated)), (7, .d (cI (v0rated.length : Int))), (8, .d (cI (v8l1 + 1)))]) (st' := ⟨[], [⟨51, 4, v3outl1.length⟩]⟩) (.cons rfl (.rfl' _) (.cons rfl (.rfl' _) (.cons rfl (.rfl' _) (.cons rfl (.rfl' _) (.nil))))) rfl rfl rfl rfl rfl (by rw [hS]; exact Nat.le_of_ble_eq_true rfl) (by rw [hS]; exact Nat.le_of_ble_eq_true rfl) <| .sub (.cons rfl (.rfl' _) (.cons rfl (.rfl' _) (.cons rfl (.rfl' _) (.cons rfl (.rfl' _) (.nil))))) (ih1 (n1, (v3outl1, v8l1 + 1)) HK1 hm1)
  · replace H := ifF hc H; clear hc
    refine .exit rfl ?_
    refine .seq ?_
    refine .region ?_
    refine .q (x := .tsl 4 (v3outl1.map Leak.row) 0) (q_move rfl) rfl ?_
    refine .q (x := .tsl 4 (v3outl1.map Leak.row) 0) (q_assign rfl) rfl ?_
    refine .nil ?_
    refine .retN [.tmp 2] [.tsl 4 (v3outl1.map Leak.row) 0] Try.func7 Try.results7 ⟨rfl, trivial⟩ ?_
    cases H
    cases HK1
    exact ⟨_, .tsl _ _ _, rfl⟩

set_option maxRecDepth 100000 in
set_option maxHeartbeats 1000000 in
theorem c_f_billingref37_within {v0n : Int} {v1low : Int} {v2high : Int} {r : Bool} (H : f_billingref37_within v0n v1low v2high = some r) : ACall Try.prog 26 [cI v0n, cI v1low, cI v2high] (· = cB r) := by
  refine ACall.enter' Try.func26 rfl Try.ntmps26 rfl fun S hS => ?_
  unfold f_billingref37_within at H
  change ARun _ _ _ _ _ _ [(0, .d (cI v0n)), (1, .d (cI v1low)), (2, .d (cI v2high))] _
  refine .seq ?_
  refine .region ?_
  refine .q (x := .d (cB false)) (q_assign rfl) rfl ?_
  refine .nil ?_
  refine .seq ?_
  refine .region ?_
  refine .q (x := .d (cI v0n)) (q_move rfl) rfl ?_
  refine .q (x := .d (cI v1low)) (q_move rfl) rfl ?_
  refine .q (x := .d (cB (decide (v0n ≥ v1low)))) (q_geq rfl rfl) rfl ?_
  refine .q (x := .d (cB (decide (v0n ≥ v1low)))) (q_move rfl) rfl ?_
  refine .guardG (b := decide (v0n ≥ v1low)) (x := .d (cI v0n)) (env' := [(0, _)]) rfl rfl rfl ⟨.inl rfl, trivial⟩ rfl (fun hg => OpQ.g (q_move rfl)) ?_
  refine .guardG (b := decide (v0n ≥ v1low)) (x := .d (cI v2high)) (env' := [(2, _)]) rfl rfl rfl ⟨.inl rfl, trivial⟩ rfl (fun hg => OpQ.g (q_move rfl)) ?_
  refine .guardG (b := decide (v0n ≥ v1low)) (x := .d (cB (decide (v0n ≤ v2high)))) (env' := [(11, _), (12, _)]) rfl rfl rfl ⟨.inr (.inl rfl), ⟨.inr (.inl rfl), trivial⟩⟩ rfl (fun hg => OpQ.g (q_leq rfl rfl)) ?_
  refine .q (x := .d (cB ((decide (v0n ≥ v1low)) && (decide (v0n ≤ v2high))))) (q_pickAndB rfl rfl rfl) rfl ?_
  refine .q (x := .d (cB ((decide (v0n ≥ v1low)) && (decide (v0n ≤ v2high))))) (q_assign rfl) rfl ?_
  refine .nil ?_
  refine .retN [.tmp 6] [.d (cB ((decide (v0n ≥ v1low)) && (decide (v0n ≤ v2high))))] Try.func26 Try.results26 ⟨rfl, trivial⟩ ?_
  cases H
  exact ⟨_, .rfl' _, rfl⟩

set_option maxRecDepth 100000 in
set_option maxHeartbeats 1000000 in
theorem c_f_billingref37_Check {v0 : Rated} {r : Bool} (H : f_billingref37_Check v0 = some r) : ACall Try.prog 15 [.agg (Rated.row v0)] (· = cB r) := by
  obtain ⟨i39, hi39, hz39, hs39, hb39⟩ := in_39
  obtain ⟨i41, hi41, hz41, hs41, hb41⟩ := in_41
  obtain ⟨i43, hi43, hz43, hs43, hb43⟩ := in_43
  refine ACall.enter' Try.func15 rfl Try.ntmps15 rfl fun S hS => ?_
  unfold f_billingref37_Check at H
  change ARun _ _ _ _ _ _ [(0, .d (.agg (Rated.row v0)))] _
  refine .seq ?_
  refine .region ?_
  refine .v (x := .ref 0 0) (v_box rfl rfl) rfl ?_
  refine .withSt (st' := ⟨[.row 36 [.d (cI v0.usage.id), .d (cI v0.usage.kind), .d (cI v0.usage.account), .d (cI v0.usage.sub), .d (cS v0.usage.a), .d (cS v0.usage.b), .d (cI v0.usage.start), .d (cI v0.usage.units), .d (cI v0.usage.trunk), .d (cB v0.usage.inbound), .d (cI v0.usage.source), .d (cI v0.usage.serial), .d (cI v0.err), .d (cS v0.plan), .d (cI v0.version), .d (cS v0.zone), .d (slOf 5 Take.row v0.takes), .d (slOf 4 Segment.row v0.segments), .d (cI v0.setup), .d (cI v0.gross), .d (cI v0.net), .d (slOf 2 Given.row v0.given), .d (cI v0.paid), .d (cI v0.owed)]], []⟩) rfl ?_
  refine .q (x := .d (cB false)) (q_assign rfl) rfl ?_
  refine .nil ?_
  refine .seq ?_
  refine .seq ?_
  refine .region ?_
  refine .q (x := .ref 0 0) (q_fieldRef fo_36_0 rfl) rfl ?_
  refine .q (x := .ref 0 9) (q_fieldRef fo_30_9 rfl) rfl ?_
  refine .q (x := .d (cB v0.usage.inbound)) (q_loadO one_4 rfl rfl rfl) rfl ?_
  refine .q (x := .d (cB v0.usage.inbound)) (q_move rfl) rfl ?_
  refine .guardG (b := (!v0.usage.inbound)) (x := .ref 0 0) (env' := [(1, _)]) rfl rfl rfl ⟨.inl rfl, trivial⟩ rfl (fun hg => OpQ.g (q_fieldRef fo_36_0 rfl)) ?_
  refine .guardG (b := (!v0.usage.inbound)) (x := .ref 0 7) (env' := [(13, _)]) rfl rfl rfl ⟨.inr (.inl rfl), trivial⟩ rfl (fun hg => OpQ.g (q_fieldRef fo_30_7 rfl)) ?_
  refine .guardG (b := (!v0.usage.inbound)) (x := .d (cI v0.usage.units)) (env' := [(14, _)]) rfl rfl rfl ⟨.inr (.inl rfl), trivial⟩ rfl (fun hg => OpQ.g (q_loadO one_3 rfl rfl rfl)) ?_
  refine .guardG (b := (!v0.usage.inbound)) (x := .d (cB (v0.usage.units == 0))) (env' := [(15, _)]) rfl rfl rfl ⟨.inr (.inl rfl), trivial⟩ rfl (fun hg => OpQ.g (q_eql rfl rfl)) ?_
  refine .q (x := .d (cB (v0.usage.inbound || (v0.usage.units == 0)))) (q_pickOrB rfl rfl rfl) rfl ?_
  refine .q (x := .d (cB (v0.usage.inbound || (v0.usage.units == 0)))) (q_move rfl) rfl ?_
  refine .guardG (b := (!(v0.usage.inbound || (v0.usage.units == 0)))) (x := .ref 0 12) (env' := [(1, _)]) rfl rfl rfl ⟨.inl rfl, trivial⟩ rfl (fun hg => OpQ.g (q_fieldRef fo_36_1 rfl)) ?_
  refine .guardG (b := (!(v0.usage.inbound || (v0.usage.units == 0)))) (x := .d (cI v0.err)) (env' := [(19, _)]) rfl rfl rfl ⟨.inr (.inl rfl), trivial⟩ rfl (fun hg => OpQ.g (q_loadO one_31 rfl rfl rfl)) ?_
  refine .guardG (b := (!(v0.usage.inbound || (v0.usage.units == 0)))) (x := .d (cB (v0.err != 0))) (env' := [(20, _)]) rfl rfl rfl ⟨.inr (.inl rfl), trivial⟩ rfl (fun hg => OpQ.g (q_neq rfl rfl)) ?_
  refine .q (x := .d (cB ((v0.usage.inbound || (v0.usage.units == 0)) || (v0.err != 0)))) (q_pickOrB rfl rfl rfl) rfl ?_
  refine .nil ?_
  refine .cond rfl (fun hc => ?_) (fun hc => ?_)
  · replace H := ifT hc H; clear hc
    refine .seq ?_
    refine .region ?_
    refine .q (x := .ref 0 13) (q_fieldRef fo_36_2 rfl) rfl ?_
    refine .q (x := .d (cS v0.plan)) (q_loadO one_9 rfl rfl rfl) rfl ?_
    refine .q (x := .d (cB (v0.plan == ([] : List UInt8)))) (q_seql rfl rfl) rfl ?_
    refine .q (x := .d (cB (v0.plan == ([] : List UInt8)))) (q_move rfl) rfl ?_
    refine .guardG (b := (v0.plan == ([] : List UInt8))) (x := .ref 0 15) (env' := [(1, _)]) rfl rfl rfl ⟨.inl rfl, trivial⟩ rfl (fun hg => OpQ.g (q_fieldRef fo_36_4 rfl)) ?_
    refine .guardG (b := (v0.plan == ([] : List UInt8))) (x := .d (cS v0.zone)) (env' := [(27, _)]) rfl rfl rfl ⟨.inr (.inl rfl), trivial⟩ rfl (fun hg => OpQ.g (q_loadO one_9 rfl rfl rfl)) ?_
    refine .guardG (b := (v0.plan == ([] : List UInt8))) (x := .d (cB (v0.zone == ([] : List UInt8)))) (env' := [(28, _)]) rfl rfl rfl ⟨.inr (.inl rfl), trivial⟩ rfl (fun hg => OpQ.g (q_seql rfl rfl)) ?_
    refine .q (x := .d (cB ((v0.plan == ([] : List UInt8)) && (v0.zone == ([] : List UInt8))))) (q_pickAndB rfl rfl rfl) rfl ?_
    refine .q (x := .d (cB ((v0.plan == ([] : List UInt8)) && (v0.zone == ([] : List UInt8))))) (q_move rfl) rfl ?_
    refine .guardG (b := ((v0.plan == ([] : List UInt8)) && (v0.zone == ([] : List UInt8)))) (x := .ref 0 14) (env' := [(1, _)]) rfl rfl rfl ⟨.inl rfl, trivial⟩ rfl (fun hg => OpQ.g (q_fieldRef fo_36_3 rfl)) ?_
    refine .guardG (b := ((v0.plan == ([] : List UInt8)) && (v0.zone == ([] : List UInt8)))) (x := .d (cI v0.version)) (env' := [(32, _)]) rfl rfl rfl ⟨.inr (.inl rfl), trivial⟩ rfl (fun hg => OpQ.g (q_loadO one_3 rfl rfl rfl)) ?_
    refine .guardG (b := ((v0.plan == ([] : List UInt8)) && (v0.zone == ([] : List UInt8)))) (x := .d (cB (v0.version == 0))) (env' := [(33, _)]) rfl rfl rfl ⟨.inr (.inl rfl), trivial⟩ rfl (fun hg => OpQ.g (q_eql rfl rfl)) ?_
    refine .q (x := .d (cB (((v0.plan == ([] : List UInt8)) && (v0.zone == ([] : List UInt8))) && (v0.version == 0)))) (q_pickAndB rfl rfl rfl) rfl ?_
    refine .q (x := .d (cB (((v0.plan == ([] : List UInt8)) && (v0.zone == ([] : List UInt8))) && (v0.version == 0)))) (q_move rfl) rfl ?_
    refine .guardG (b := (((v0.plan == ([] : List UInt8)) && (v0.zone == ([] : List UInt8))) && (v0.version == 0))) (x := .ref 0 18) (env' := [(1, _)]) rfl rfl rfl ⟨.inl rfl, trivial⟩ rfl (fun hg => OpQ.g (q_fieldRef fo_36_7 rfl)) ?_
    refine .guardG (b := (((v0.plan == ([] : List UInt8)) && (v0.zone == ([] : List UInt8))) && (v0.version == 0))) (x := .d (cI v0.setup)) (env' := [(37, _)]) rfl rfl rfl ⟨.inr (.inl rfl), trivial⟩ rfl (fun hg => OpQ.g (q_loadO one_3 rfl rfl rfl)) ?_
    refine .guardG (b := (((v0.plan == ([] : List UInt8)) && (v0.zone == ([] : List UInt8))) && (v0.version == 0))) (x := .d (cB (v0.setup == 0))) (env' := [(38, _)]) rfl rfl rfl ⟨.inr (.inl rfl), trivial⟩ rfl (fun hg => OpQ.g (q_eql rfl rfl)) ?_
    refine .q (x := .d (cB ((((v0.plan == ([] : List UInt8)) && (v0.zone == ([] : List UInt8))) && (v0.version == 0)) && (v0.setup == 0)))) (q_pickAndB rfl rfl rfl) rfl ?_
    refine .q (x := .d (cB ((((v0.plan == ([] : List UInt8)) && (v0.zone == ([] : List UInt8))) && (v0.version == 0)) && (v0.setup == 0)))) (q_move rfl) rfl ?_
    refine .guardG (b := ((((v0.plan == ([] : List UInt8)) && (v0.zone == ([] : List UInt8))) && (v0.version == 0)) && (v0.setup == 0))) (x := .ref 0 19) (env' := [(1, _)]) rfl rfl rfl ⟨.inl rfl, trivial⟩ rfl (fun hg => OpQ.g (q_fieldRef fo_36_8 rfl)) ?_
    refine .guardG (b := ((((v0.plan == ([] : List UInt8)) && (v0.zone == ([] : List UInt8))) && (v0.version == 0)) && (v0.setup == 0))) (x := .d (cI v0.gross)) (env' := [(42, _)]) rfl rfl rfl ⟨.inr (.inl rfl), trivial⟩ rfl (fun hg => OpQ.g (q_loadO one_3 rfl rfl rfl)) ?_
    refine .guardG (b := ((((v0.plan == ([] : List UInt8)) && (v0.zone == ([] : List UInt8))) && (v0.version == 0)) && (v0.setup == 0))) (x := .d (cB (v0.gross == 0))) (env' := [(43, _)]) rfl rfl rfl ⟨.inr (.inl rfl), trivial⟩ rfl (fun hg => OpQ.g (q_eql rfl rfl)) ?_
    refine .q (x := .d (cB (((((v0.plan == ([] : List UInt8)) && (v0.zone == ([] : List UInt8))) && (v0.version == 0)) && (v0.setup == 0)) && (v0.gross == 0)))) (q_pickAndB rfl rfl rfl) rfl ?_
    refine .q (x := .d (cB (((((v0.plan == ([] : List UInt8)) && (v0.zone == ([] : List UInt8))) && (v0.version == 0)) && (v0.setup == 0)) && (v0.gross == 0)))) (q_move rfl) rfl ?_
    refine .guardG (b := (((((v0.plan == ([] : List UInt8)) && (v0.zone == ([] : List UInt8))) && (v0.version == 0)) && (v0.setup == 0)) && (v0.gross == 0))) (x := .ref 0 20) (env' := [(1, _)]) rfl rfl rfl ⟨.inl rfl, trivial⟩ rfl (fun hg => OpQ.g (q_fieldRef fo_36_9 rfl)) ?_
    refine .guardG (b := (((((v0.plan == ([] : List UInt8)) && (v0.zone == ([] : List UInt8))) && (v0.version == 0)) && (v0.setup == 0)) && (v0.gross == 0))) (x := .d (cI v0.net)) (env' := [(47, _)]) rfl rfl rfl ⟨.inr (.inl rfl), trivial⟩ rfl (fun hg => OpQ.g (q_loadO one_3 rfl rfl rfl)) ?_
    refine .guardG (b := (((((v0.plan == ([] : List UInt8)) && (v0.zone == ([] : List UInt8))) && (v0.version == 0)) && (v0.setup == 0)) && (v0.gross == 0))) (x := .d (cB (v0.net == 0))) (env' := [(48, _)]) rfl rfl rfl ⟨.inr (.inl rfl), trivial⟩ rfl (fun hg => OpQ.g (q_eql rfl rfl)) ?_
    refine .q (x := .d (cB ((((((v0.plan == ([] : List UInt8)) && (v0.zone == ([] : List UInt8))) && (v0.version == 0)) && (v0.setup == 0)) && (v0.gross == 0)) && (v0.net == 0)))) (q_pickAndB rfl rfl rfl) rfl ?_
    refine .q (x := .d (cB ((((((v0.plan == ([] : List UInt8)) && (v0.zone == ([] : List UInt8))) && (v0.version == 0)) && (v0.setup == 0)) && (v0.gross == 0)) && (v0.net == 0)))) (q_move rfl) rfl ?_
    refine .guardG (b := ((((((v0.plan == ([] : List UInt8)) && (v0.zone == ([] : List UInt8))) && (v0.version == 0)) && (v0.setup == 0)) && (v0.gross == 0)) && (v0.net == 0))) (x := .ref 0 22) (env' := [(1, _)]) rfl rfl rfl ⟨.inl rfl, trivial⟩ rfl (fun hg => OpQ.g (q_fieldRef fo_36_11 rfl)) ?_
    refine .guardG (b := ((((((v0.plan == ([] : List UInt8)) && (v0.zone == ([] : List UInt8))) && (v0.version == 0)) && (v0.setup == 0)) && (v0.gross == 0)) && (v0.net == 0))) (x := .d (cI v0.paid)) (env' := [(52, _)]) rfl rfl rfl ⟨.inr (.inl rfl), trivial⟩ rfl (fun hg => OpQ.g (q_loadO one_3 rfl rfl rfl)) ?_
    refine .guardG (b := ((((((v0.plan == ([] : List UInt8)) && (v0.zone == ([] : List UInt8))) && (v0.version == 0)) && (v0.setup == 0)) && (v0.gross == 0)) && (v0.net == 0))) (x := .d (cB (v0.paid == 0))) (env' := [(53, _)]) rfl rfl rfl ⟨.inr (.inl rfl), trivial⟩ rfl (fun hg => OpQ.g (q_eql rfl rfl)) ?_
    refine .q (x := .d (cB (((((((v0.plan == ([] : List UInt8)) && (v0.zone == ([] : List UInt8))) && (v0.version == 0)) && (v0.setup == 0)) && (v0.gross == 0)) && (v0.net == 0)) && (v0.paid == 0)))) (q_pickAndB rfl rfl rfl) rfl ?_
    refine .q (x := .d (cB (((((((v0.plan == ([] : List UInt8)) && (v0.zone == ([] : List UInt8))) && (v0.version == 0)) && (v0.setup == 0)) && (v0.gross == 0)) && (v0.net == 0)) && (v0.paid == 0)))) (q_move rfl) rfl ?_
    refine .guardG (b := (((((((v0.plan == ([] : List UInt8)) && (v0.zone == ([] : List UInt8))) && (v0.version == 0)) && (v0.setup == 0)) && (v0.gross == 0)) && (v0.net == 0)) && (v0.paid == 0))) (x := .ref 0 23) (env' := [(1, _)]) rfl rfl rfl ⟨.inl rfl, trivial⟩ rfl (fun hg => OpQ.g (q_fieldRef fo_36_12 rfl)) ?_
    refine .guardG (b := (((((((v0.plan == ([] : List UInt8)) && (v0.zone == ([] : List UInt8))) && (v0.version == 0)) && (v0.setup == 0)) && (v0.gross == 0)) && (v0.net == 0)) && (v0.paid == 0))) (x := .d (cI v0.owed)) (env' := [(57, _)]) rfl rfl rfl ⟨.inr (.inl rfl), trivial⟩ rfl (fun hg => OpQ.g (q_loadO one_3 rfl rfl rfl)) ?_
    refine .guardG (b := (((((((v0.plan == ([] : List UInt8)) && (v0.zone == ([] : List UInt8))) && (v0.version == 0)) && (v0.setup == 0)) && (v0.gross == 0)) && (v0.net == 0)) && (v0.paid == 0))) (x := .d (cB (v0.owed == 0))) (env' := [(58, _)]) rfl rfl rfl ⟨.inr (.inl rfl), trivial⟩ rfl (fun hg => OpQ.g (q_eql rfl rfl)) ?_
    refine .q (x := .d (cB ((((((((v0.plan == ([] : List UInt8)) && (v0.zone == ([] : List UInt8))) && (v0.version == 0)) && (v0.setup == 0)) && (v0.gross == 0)) && (v0.net == 0)) && (v0.paid == 0)) && (v0.owed == 0)))) (q_pickAndB rfl rfl rfl) rfl ?_
    refine .q (x := .d (cB ((((((((v0.plan == ([] : List UInt8)) && (v0.zone == ([] : List UInt8))) && (v0.version == 0)) && (v0.setup == 0)) && (v0.gross == 0)) && (v0.net == 0)) && (v0.paid == 0)) && (v0.owed == 0)))) (q_move rfl) rfl ?_
    refine .guardG (b := ((((((((v0.plan == ([] : List UInt8)) && (v0.zone == ([] : List UInt8))) && (v0.version == 0)) && (v0.setup == 0)) && (v0.gross == 0)) && (v0.net == 0)) && (v0.paid == 0)) && (v0.owed == 0))) (x := .ref 0 16) (env' := [(1, _)]) rfl rfl rfl ⟨.inl rfl, trivial⟩ rfl (fun hg => OpQ.g (q_fieldRef fo_36_5 rfl)) ?_
    refine .guardG (b := ((((((((v0.plan == ([] : List UInt8)) && (v0.zone == ([] : List UInt8))) && (v0.version == 0)) && (v0.setup == 0)) && (v0.gross == 0)) && (v0.net == 0)) && (v0.paid == 0)) && (v0.owed == 0))) (x := .d (slOf 5 Take.row v0.takes)) (env' := [(62, _)]) rfl rfl rfl ⟨.inr (.inl rfl), trivial⟩ rfl (fun hg => OpQ.g (q_loadO one_32 rfl rfl rfl)) ?_
    refine .guardG (b := ((((((((v0.plan == ([] : List UInt8)) && (v0.zone == ([] : List UInt8))) && (v0.version == 0)) && (v0.setup == 0)) && (v0.gross == 0)) && (v0.net == 0)) && (v0.paid == 0)) && (v0.owed == 0))) (x := .d (cI (v0.takes.length : Int))) (env' := [(63, _)]) rfl rfl rfl ⟨.inr (.inl rfl), trivial⟩ rfl (fun hg => OpQ.g (q_lenL (l := v0.takes) (row := Take.row) Try.underlying32 rfl rfl)) ?_
    refine .guardG (b := ((((((((v0.plan == ([] : List UInt8)) && (v0.zone == ([] : List UInt8))) && (v0.version == 0)) && (v0.setup == 0)) && (v0.gross == 0)) && (v0.net == 0)) && (v0.paid == 0)) && (v0.owed == 0))) (x := .d (cB ((v0.takes.length : Int) == 0))) (env' := [(64, _)]) rfl rfl rfl ⟨.inr (.inl rfl), trivial⟩ rfl (fun hg => OpQ.g (q_eql rfl rfl)) ?_
    refine .q (x := .d (cB (((((((((v0.plan == ([] : List UInt8)) && (v0.zone == ([] : List UInt8))) && (v0.version == 0)) && (v0.setup == 0)) && (v0.gross == 0)) && (v0.net == 0)) && (v0.paid == 0)) && (v0.owed == 0)) && ((v0.takes.length : Int) == 0)))) (q_pickAndB rfl rfl rfl) rfl ?_
    refine .q (x := .d (cB (((((((((v0.plan == ([] : List UInt8)) && (v0.zone == ([] : List UInt8))) && (v0.version == 0)) && (v0.setup == 0)) && (v0.gross == 0)) && (v0.net == 0)) && (v0.paid == 0)) && (v0.owed == 0)) && ((v0.takes.length : Int) == 0)))) (q_move rfl) rfl ?_
    refine .guardG (b := (((((((((v0.plan == ([] : List UInt8)) && (v0.zone == ([] : List UInt8))) && (v0.version == 0)) && (v0.setup == 0)) && (v0.gross == 0)) && (v0.net == 0)) && (v0.paid == 0)) && (v0.owed == 0)) && ((v0.takes.length : Int) == 0))) (x := .ref 0 17) (env' := [(1, _)]) rfl rfl rfl ⟨.inl rfl, trivial⟩ rfl (fun hg => OpQ.g (q_fieldRef fo_36_6 rfl)) ?_
    refine .guardG (b := (((((((((v0.plan == ([] : List UInt8)) && (v0.zone == ([] : List UInt8))) && (v0.version == 0)) && (v0.setup == 0)) && (v0.gross == 0)) && (v0.net == 0)) && (v0.paid == 0)) && (v0.owed == 0)) && ((v0.takes.length : Int) == 0))) (x := .d (slOf 4 Segment.row v0.segments)) (env' := [(68, _)]) rfl rfl rfl ⟨.inr (.inl rfl), trivial⟩ rfl (fun hg => OpQ.g (q_loadO one_33 rfl rfl rfl)) ?_
    refine .guardG (b := (((((((((v0.plan == ([] : List UInt8)) && (v0.zone == ([] : List UInt8))) && (v0.version == 0)) && (v0.setup == 0)) && (v0.gross == 0)) && (v0.net == 0)) && (v0.paid == 0)) && (v0.owed == 0)) && ((v0.takes.length : Int) == 0))) (x := .d (cI (v0.segments.length : Int))) (env' := [(69, _)]) rfl rfl rfl ⟨.inr (.inl rfl), trivial⟩ rfl (fun hg => OpQ.g (q_lenL (l := v0.segments) (row := Segment.row) Try.underlying33 rfl rfl)) ?_
    refine .guardG (b := (((((((((v0.plan == ([] : List UInt8)) && (v0.zone == ([] : List UInt8))) && (v0.version == 0)) && (v0.setup == 0)) && (v0.gross == 0)) && (v0.net == 0)) && (v0.paid == 0)) && (v0.owed == 0)) && ((v0.takes.length : Int) == 0))) (x := .d (cB ((v0.segments.length : Int) == 0))) (env' := [(70, _)]) rfl rfl rfl ⟨.inr (.inl rfl), trivial⟩ rfl (fun hg => OpQ.g (q_eql rfl rfl)) ?_
    refine .q (x := .d (cB ((((((((((v0.plan == ([] : List UInt8)) && (v0.zone == ([] : List UInt8))) && (v0.version == 0)) && (v0.setup == 0)) && (v0.gross == 0)) && (v0.net == 0)) && (v0.paid == 0)) && (v0.owed == 0)) && ((v0.takes.length : Int) == 0)) && ((v0.segments.length : Int) == 0)))) (q_pickAndB rfl rfl rfl) rfl ?_
    refine .q (x := .d (cB ((((((((((v0.plan == ([] : List UInt8)) && (v0.zone == ([] : List UInt8))) && (v0.version == 0)) && (v0.setup == 0)) && (v0.gross == 0)) && (v0.net == 0)) && (v0.paid == 0)) && (v0.owed == 0)) && ((v0.takes.length : Int) == 0)) && ((v0.segments.length : Int) == 0)))) (q_move rfl) rfl ?_
    refine .guardG (b := ((((((((((v0.plan == ([] : List UInt8)) && (v0.zone == ([] : List UInt8))) && (v0.version == 0)) && (v0.setup == 0)) && (v0.gross == 0)) && (v0.net == 0)) && (v0.paid == 0)) && (v0.owed == 0)) && ((v0.takes.length : Int) == 0)) && ((v0.segments.length : Int) == 0))) (x := .ref 0 21) (env' := [(1, _)]) rfl rfl rfl ⟨.inl rfl, trivial⟩ rfl (fun hg => OpQ.g (q_fieldRef fo_36_10 rfl)) ?_
    refine .guardG (b := ((((((((((v0.plan == ([] : List UInt8)) && (v0.zone == ([] : List UInt8))) && (v0.version == 0)) && (v0.setup == 0)) && (v0.gross == 0)) && (v0.net == 0)) && (v0.paid == 0)) && (v0.owed == 0)) && ((v0.takes.length : Int) == 0)) && ((v0.segments.length : Int) == 0))) (x := .d (slOf 2 Given.row v0.given)) (env' := [(74, _)]) rfl rfl rfl ⟨.inr (.inl rfl), trivial⟩ rfl (fun hg => OpQ.g (q_loadO one_34 rfl rfl rfl)) ?_
    refine .guardG (b := ((((((((((v0.plan == ([] : List UInt8)) && (v0.zone == ([] : List UInt8))) && (v0.version == 0)) && (v0.setup == 0)) && (v0.gross == 0)) && (v0.net == 0)) && (v0.paid == 0)) && (v0.owed == 0)) && ((v0.takes.length : Int) == 0)) && ((v0.segments.length : Int) == 0))) (x := .d (cI (v0.given.length : Int))) (env' := [(75, _)]) rfl rfl rfl ⟨.inr (.inl rfl), trivial⟩ rfl (fun hg => OpQ.g (q_lenL (l := v0.given) (row := Given.row) Try.underlying34 rfl rfl)) ?_
    refine .guardG (b := ((((((((((v0.plan == ([] : List UInt8)) && (v0.zone == ([] : List UInt8))) && (v0.version == 0)) && (v0.setup == 0)) && (v0.gross == 0)) && (v0.net == 0)) && (v0.paid == 0)) && (v0.owed == 0)) && ((v0.takes.length : Int) == 0)) && ((v0.segments.length : Int) == 0))) (x := .d (cB ((v0.given.length : Int) == 0))) (env' := [(76, _)]) rfl rfl rfl ⟨.inr (.inl rfl), trivial⟩ rfl (fun hg => OpQ.g (q_eql rfl rfl)) ?_
    refine .q (x := .d (cB (((((((((((v0.plan == ([] : List UInt8)) && (v0.zone == ([] : List UInt8))) && (v0.version == 0)) && (v0.setup == 0)) && (v0.gross == 0)) && (v0.net == 0)) && (v0.paid == 0)) && (v0.owed == 0)) && ((v0.takes.length : Int) == 0)) && ((v0.segments.length : Int) == 0)) && ((v0.given.length : Int) == 0)))) (q_pickAndB rfl rfl rfl) rfl ?_
    refine .q (x := .d (cB (((((((((((v0.plan == ([] : List UInt8)) && (v0.zone == ([] : List UInt8))) && (v0.version == 0)) && (v0.setup == 0)) && (v0.gross == 0)) && (v0.net == 0)) && (v0.paid == 0)) && (v0.owed == 0)) && ((v0.takes.length : Int) == 0)) && ((v0.segments.length : Int) == 0)) && ((v0.given.length : Int) == 0)))) (q_assign rfl) rfl ?_
    refine .nil ?_
    refine .retN [.tmp 2] [.d (cB (((((((((((v0.plan == ([] : List UInt8)) && (v0.zone == ([] : List UInt8))) && (v0.version == 0)) && (v0.setup == 0)) && (v0.gross == 0)) && (v0.net == 0)) && (v0.paid == 0)) && (v0.owed == 0)) && ((v0.takes.length : Int) == 0)) && ((v0.segments.length : Int) == 0)) && ((v0.given.length : Int) == 0)))] Try.func15 Try.results15 ⟨rfl, trivial⟩ ?_
    cases H
    exact ⟨_, .rfl' _, rfl⟩
  · replace H := ifF hc H; clear hc
    refine .skip ?_
    refine .seq ?_
    refine .seq ?_
    refine .region ?_
    refine .q (x := .ref 0 16) (q_fieldRef fo_36_5 rfl) rfl ?_
    refine .q (x := .d (slOf 5 Take.row v0.takes)) (q_loadO one_32 rfl rfl rfl) rfl ?_
    refine .q (x := .d (cI (v0.takes.length : Int))) (q_lenL (l := v0.takes) (row := Take.row) Try.underlying32 rfl rfl) rfl ?_
    refine .q (x := .d (cB (decide ((v0.takes.length : Int) > 262144)))) (q_gtr rfl rfl) rfl ?_
    refine .q (x := .d (cB (decide ((v0.takes.length : Int) > 262144)))) (q_move rfl) rfl ?_
    refine .guardG (b := (!(decide ((v0.takes.length : Int) > 262144)))) (x := .ref 0 17) (env' := [(1, _)]) rfl rfl rfl ⟨.inl rfl, trivial⟩ rfl (fun hg => OpQ.g (q_fieldRef fo_36_6 rfl)) ?_
    refine .guardG (b := (!(decide ((v0.takes.length : Int) > 262144)))) (x := .d (slOf 4 Segment.row v0.segments)) (env' := [(84, _)]) rfl rfl rfl ⟨.inr (.inl rfl), trivial⟩ rfl (fun hg => OpQ.g (q_loadO one_33 rfl rfl rfl)) ?_
    refine .guardG (b := (!(decide ((v0.takes.length : Int) > 262144)))) (x := .d (cI (v0.segments.length : Int))) (env' := [(85, _)]) rfl rfl rfl ⟨.inr (.inl rfl), trivial⟩ rfl (fun hg => OpQ.g (q_lenL (l := v0.segments) (row := Segment.row) Try.underlying33 rfl rfl)) ?_
    refine .guardG (b := (!(decide ((v0.takes.length : Int) > 262144)))) (x := .d (cB (decide ((v0.segments.length : Int) > 12288)))) (env' := [(86, _)]) rfl rfl rfl ⟨.inr (.inl rfl), trivial⟩ rfl (fun hg => OpQ.g (q_gtr rfl rfl)) ?_
    refine .q (x := .d (cB ((decide ((v0.takes.length : Int) > 262144)) || (decide ((v0.segments.length : Int) > 12288))))) (q_pickOrB rfl rfl rfl) rfl ?_
    refine .q (x := .d (cB ((decide ((v0.takes.length : Int) > 262144)) || (decide ((v0.segments.length : Int) > 12288))))) (q_move rfl) rfl ?_
    refine .guardG (b := (!((decide ((v0.takes.length : Int) > 262144)) || (decide ((v0.segments.length : Int) > 12288))))) (x := .ref 0 21) (env' := [(1, _)]) rfl rfl rfl ⟨.inl rfl, trivial⟩ rfl (fun hg => OpQ.g (q_fieldRef fo_36_10 rfl)) ?_
    refine .guardG (b := (!((decide ((v0.takes.length : Int) > 262144)) || (decide ((v0.segments.length : Int) > 12288))))) (x := .d (slOf 2 Given.row v0.given)) (env' := [(90, _)]) rfl rfl rfl ⟨.inr (.inl rfl), trivial⟩ rfl (fun hg => OpQ.g (q_loadO one_34 rfl rfl rfl)) ?_
    refine .guardG (b := (!((decide ((v0.takes.length : Int) > 262144)) || (decide ((v0.segments.length : Int) > 12288))))) (x := .d (cI (v0.given.length : Int))) (env' := [(91, _)]) rfl rfl rfl ⟨.inr (.inl rfl), trivial⟩ rfl (fun hg => OpQ.g (q_lenL (l := v0.given) (row := Given.row) Try.underlying34 rfl rfl)) ?_
    refine .guardG (b := (!((decide ((v0.takes.length : Int) > 262144)) || (decide ((v0.segments.length : Int) > 12288))))) (x := .d (cB (decide ((v0.given.length : Int) > 4096)))) (env' := [(92, _)]) rfl rfl rfl ⟨.inr (.inl rfl), trivial⟩ rfl (fun hg => OpQ.g (q_gtr rfl rfl)) ?_
    refine .q (x := .d (cB (((decide ((v0.takes.length : Int) > 262144)) || (decide ((v0.segments.length : Int) > 12288))) || (decide ((v0.given.length : Int) > 4096))))) (q_pickOrB rfl rfl rfl) rfl ?_
    refine .q (x := .d (cB (((decide ((v0.takes.length : Int) > 262144)) || (decide ((v0.segments.length : Int) > 12288))) || (decide ((v0.given.length : Int) > 4096))))) (q_move rfl) rfl ?_
    refine .guardG (b := (!(((decide ((v0.takes.length : Int) > 262144)) || (decide ((v0.segments.length : Int) > 12288))) || (decide ((v0.given.length : Int) > 4096))))) (x := .ref 0 18) (env' := [(1, _)]) rfl rfl rfl ⟨.inl rfl, trivial⟩ rfl (fun hg => OpQ.g (q_fieldRef fo_36_7 rfl)) ?_
    refine .guardG (b := (!(((decide ((v0.takes.length : Int) > 262144)) || (decide ((v0.segments.length : Int) > 12288))) || (decide ((v0.given.length : Int) > 4096))))) (x := .d (cI v0.setup)) (env' := [(96, _)]) rfl rfl rfl ⟨.inr (.inl rfl), trivial⟩ rfl (fun hg => OpQ.g (q_loadO one_3 rfl rfl rfl)) ?_
    obtain ⟨y1, hy1, H⟩ := bind_some' H
    refine .guardG (b := (!(((decide ((v0.takes.length : Int) > 262144)) || (decide ((v0.segments.length : Int) > 12288))) || (decide ((v0.given.length : Int) > 4096))))) (x := .d (cB y1)) (env' := [(97, _)]) rfl rfl rfl ⟨.inr (.inl rfl), trivial⟩ rfl (fun hg => (g_call en_26 rfl rfl (c_f_billingref37_within (gcall_some hy1 hg)))) ?_
    refine .guardG (b := (!(((decide ((v0.takes.length : Int) > 262144)) || (decide ((v0.segments.length : Int) > 12288))) || (decide ((v0.given.length : Int) > 4096))))) (x := .d (cB (!y1))) (env' := [(98, _)]) rfl rfl rfl ⟨.inr (.inl rfl), trivial⟩ rfl (fun hg => OpQ.g (q_not rfl)) ?_
    refine .q (x := .d (cB ((((decide ((v0.takes.length : Int) > 262144)) || (decide ((v0.segments.length : Int) > 12288))) || (decide ((v0.given.length : Int) > 4096))) || (!y1)))) (q_pickOrB rfl rfl rfl) rfl ?_
    refine .nil ?_
    refine .cond rfl (fun hc => ?_) (fun hc => ?_)
    · replace H := ifT hc H; clear hc
      refine .seq ?_
      refine .region ?_
      refine .q (x := .d (cB false)) (q_assign rfl) rfl ?_
      refine .nil ?_
      refine .retN [.tmp 2] [.d (cB false)] Try.func15 Try.results15 ⟨rfl, trivial⟩ ?_
      cases H
      exact ⟨_, .rfl' _, rfl⟩
    · replace H := ifF hc H; clear hc
      refine .skip ?_
      refine .seq ?_
      refine .drawn 7 hMix (by kernel_rfl) ?_
      show DOps _ _ _ _ _ _ _ (_ :: _) _ _ _
      refine .q (x := .ref 0 18) (q_fieldRef fo_36_7 rfl) rfl ?_
      refine .q (x := .d (cI v0.setup)) (q_loadO one_3 rfl rfl rfl) rfl ?_
      refine .q (x := .ref 0 19) (q_fieldRef fo_36_8 rfl) rfl ?_
      refine .q (x := .d (cI v0.gross)) (q_loadO one_3 rfl rfl rfl) rfl ?_
      refine .q (x := .d (cI 0)) (q_assign rfl) rfl ?_
      refine .q (x := .d (cI v0.setup)) (q_assign rfl) rfl ?_
      refine .q (x := .d (cI v0.gross)) (q_assign rfl) rfl ?_
      refine .nil ?_
      show AOps _ _ _ _ _ _ [] _ _ _
      refine .nil ?_
      refine .seq ?_
      refine .seq ?_
      refine .region ?_
      refine .q (x := .d (cI 0)) (q_assign rfl) rfl ?_
      refine .nil ?_
      refine .blockJoin2 (ι := Int) (fun s => [(1, .ref 0 0), (3, .d (cI s)), (4, .d (cI v0.setup)), (5, .d (cI v0.gross))]) (fun s => ⟨[.row 36 [.d (cI v0.usage.id), .d (cI v0.usage.kind), .d (cI v0.usage.account), .d (cI v0.usage.sub), .d (cS v0.usage.a), .d (cS v0.usage.b), .d (cI v0.usage.start), .d (cI v0.usage.units), .d (cI v0.usage.trunk), .d (cB v0.usage.inbound), .d (cI v0.usage.source), .d (cI v0.usage.serial), .d (cI v0.err), .d (cS v0.plan), .d (cI v0.version), .d (cS v0.zone), .d (slOf 5 Take.row v0.takes), .d (slOf 4 Segment.row v0.segments), .d (cI v0.setup), .d (cI v0.gross), .d (cI v0.net), .d (slOf 2 Given.row v0.given), .d (cI v0.paid), .d (cI v0.owed)]], []⟩) (fun s => f_billingref37_Check_j1 v0 s = some r) ?_ ?_
      · rintro v3j1 H
        replace H : f_billingref37_Check_j1 v0 v3j1 = some r := H
        unfold f_billingref37_Check_j1 at H
        change ARun _ _ _ _ _ _ [(1, .ref 0 0), (3, .d (cI v3j1)), (4, .d (cI v0.setup)), (5, .d (cI v0.gross))] ⟨[.row 36 [.d (cI v0.usage.id), .d (cI v0.usage.kind), .d (cI v0.usage.account), .d (cI v0.usage.sub), .d (cS v0.usage.a), .d (cS v0.usage.b), .d (cI v0.usage.start), .d (cI v0.usage.units), .d (cI v0.usage.trunk), .d (cB v0.usage.inbound), .d (cI v0.usage.source), .d (cI v0.usage.serial), .d (cI v0.err), .d (cS v0.plan), .d (cI v0.version), .d (cS v0.zone), .d (slOf 5 Take.row v0.takes), .d (slOf 4 Segment.row v0.segments), .d (cI v0.setup), .d (cI v0.gross), .d (cI v0.net), .d (slOf 2 Given.row v0.given), .d (cI v0.paid), .d (cI v0.owed)]], []⟩
        refine .seq ?_
        refine .seq ?_
        refine .region ?_
        refine .q (x := .d (cI 0)) (q_assign rfl) rfl ?_
        refine .nil ?_
        refine .blockJoin2 (ι := Int × Int) (fun s => [(1, .ref 0 0), (3, .d (cI s.1)), (4, .d (cI s.2)), (5, .d (cI v0.gross))]) (fun s => ⟨[.row 36 [.d (cI v0.usage.id), .d (cI v0.usage.kind), .d (cI v0.usage.account), .d (cI v0.usage.sub), .d (cS v0.usage.a), .d (cS v0.usage.b), .d (cI v0.usage.start), .d (cI v0.usage.units), .d (cI v0.usage.trunk), .d (cB v0.usage.inbound), .d (cI v0.usage.source), .d (cI v0.usage.serial), .d (cI v0.err), .d (cS v0.plan), .d (cI v0.version), .d (cS v0.zone), .d (slOf 5 Take.row v0.takes), .d (slOf 4 Segment.row v0.segments), .d (cI v0.setup), .d (cI v0.gross), .d (cI v0.net), .d (slOf 2 Given.row v0.given), .d (cI v0.paid), .d (cI v0.owed)]], []⟩) (fun s => f_billingref37_Check_j2 v0 s.1 s.2 = some r) ?_ ?_
        · rintro ⟨v3j2, v4j2⟩ H
          replace H : f_billingref37_Check_j2 v0 v3j2 v4j2 = some r := H
          unfold f_billingref37_Check_j2 at H
          change ARun _ _ _ _ _ _ [(1, .ref 0 0), (3, .d (cI v3j2)), (4, .d (cI v4j2)), (5, .d (cI v0.gross))] ⟨[.row 36 [.d (cI v0.usage.id), .d (cI v0.usage.kind), .d (cI v0.usage.account), .d (cI v0.usage.sub), .d (cS v0.usage.a), .d (cS v0.usage.b), .d (cI v0.usage.start), .d (cI v0.usage.units), .d (cI v0.usage.trunk), .d (cB v0.usage.inbound), .d (cI v0.usage.source), .d (cI v0.usage.serial), .d (cI v0.err), .d (cS v0.plan), .d (cI v0.version), .d (cS v0.zone), .d (slOf 5 Take.row v0.takes), .d (slOf 4 Segment.row v0.segments), .d (cI v0.setup), .d (cI v0.gross), .d (cI v0.net), .d (slOf 2 Given.row v0.given), .d (cI v0.paid), .d (cI v0.owed)]], []⟩
          refine .seq ?_
          refine .seq ?_
          refine .region ?_
          refine .q (x := .d (cI v3j2)) (q_move rfl) rfl ?_
          refine .q (x := .ref 0 0) (q_fieldRef fo_36_0 rfl) rfl ?_
          refine .q (x := .ref 0 7) (q_fieldRef fo_30_7 rfl) rfl ?_
          refine .q (x := .d (cI v0.usage.units)) (q_loadO one_3 rfl rfl rfl) rfl ?_
          refine .q (x := .d (cB (v3j2 != v0.usage.units))) (q_neq rfl rfl) rfl ?_
          refine .q (x := .d (cB (v3j2 != v0.usage.units))) (q_move rfl) rfl ?_
          refine .guardG (b := (!(v3j2 != v0.usage.units))) (x := .d (cI v4j2)) (env' := [(4, _)]) rfl rfl rfl ⟨.inl rfl, trivial⟩ rfl (fun hg => OpQ.g (q_move rfl)) ?_
          refine .guardG (b := (!(v3j2 != v0.usage.units))) (x := .ref 0 19) (env' := [(1, _)]) rfl rfl rfl ⟨.inl rfl, trivial⟩ rfl (fun hg => OpQ.g (q_fieldRef fo_36_8 rfl)) ?_
          refine .guardG (b := (!(v3j2 != v0.usage.units))) (x := .d (cI v0.gross)) (env' := [(193, _)]) rfl rfl rfl ⟨.inr (.inl rfl), trivial⟩ rfl (fun hg => OpQ.g (q_loadO one_3 rfl rfl rfl)) ?_
          refine .guardG (b := (!(v3j2 != v0.usage.units))) (x := .d (cB (v4j2 != v0.gross))) (env' := [(192, _), (194, _)]) rfl rfl rfl ⟨.inr (.inl rfl), ⟨.inr (.inl rfl), trivial⟩⟩ rfl (fun hg => OpQ.g (q_neq rfl rfl)) ?_
          refine .q (x := .d (cB ((v3j2 != v0.usage.units) || (v4j2 != v0.gross)))) (q_pickOrB rfl rfl rfl) rfl ?_
          refine .nil ?_
          refine .cond rfl (fun hc => ?_) (fun hc => ?_)
          · replace H := ifT hc H; clear hc
            refine .seq ?_
            refine .region ?_
            refine .q (x := .d (cB false)) (q_assign rfl) rfl ?_
            refine .nil ?_
            refine .retN [.tmp 2] [.d (cB false)] Try.func15 Try.results15 ⟨rfl, trivial⟩ ?_
            cases H
            exact ⟨_, .rfl' _, rfl⟩
          · replace H := ifF hc H; clear hc
            refine .skip ?_
            refine .seq ?_
            refine .seq ?_
            refine .region ?_
            refine .q (x := .d (cI 0)) (q_assign rfl) rfl ?_
            refine .nil ?_
            refine .blockJoin2 (ι := Int) (fun s => [(1, .ref 0 0), (5, .d (cI s))]) (fun s => ⟨[.row 36 [.d (cI v0.usage.id), .d (cI v0.usage.kind), .d (cI v0.usage.account), .d (cI v0.usage.sub), .d (cS v0.usage.a), .d (cS v0.usage.b), .d (cI v0.usage.start), .d (cI v0.usage.units), .d (cI v0.usage.trunk), .d (cB v0.usage.inbound), .d (cI v0.usage.source), .d (cI v0.usage.serial), .d (cI v0.err), .d (cS v0.plan), .d (cI v0.version), .d (cS v0.zone), .d (slOf 5 Take.row v0.takes), .d (slOf 4 Segment.row v0.segments), .d (cI v0.setup), .d (cI v0.gross), .d (cI v0.net), .d (slOf 2 Given.row v0.given), .d (cI v0.paid), .d (cI v0.owed)]], []⟩) (fun s => f_billingref37_Check_j3 v0 s = some r) ?_ ?_
            · rintro v5j3 H
              replace H : f_billingref37_Check_j3 v0 v5j3 = some r := H
              unfold f_billingref37_Check_j3 at H
              change ARun _ _ _ _ _ _ [(1, .ref 0 0), (5, .d (cI v5j3))] ⟨[.row 36 [.d (cI v0.usage.id), .d (cI v0.usage.kind), .d (cI v0.usage.account), .d (cI v0.usage.sub), .d (cS v0.usage.a), .d (cS v0.usage.b), .d (cI v0.usage.start), .d (cI v0.usage.units), .d (cI v0.usage.trunk), .d (cB v0.usage.inbound), .d (cI v0.usage.source), .d (cI v0.usage.serial), .d (cI v0.err), .d (cS v0.plan), .d (cI v0.version), .d (cS v0.zone), .d (slOf 5 Take.row v0.takes), .d (slOf 4 Segment.row v0.segments), .d (cI v0.setup), .d (cI v0.gross), .d (cI v0.net), .d (slOf 2 Given.row v0.given), .d (cI v0.paid), .d (cI v0.owed)]], []⟩
              refine .seq ?_
              refine .region ?_
              refine .q (x := .d (cI v5j3)) (q_move rfl) rfl ?_
              refine .q (x := .ref 0 20) (q_fieldRef fo_36_9 rfl) rfl ?_
              refine .q (x := .d (cI v0.net)) (q_loadO one_3 rfl rfl rfl) rfl ?_
              refine .q (x := .d (cB (v5j3 == v0.net))) (q_eql rfl rfl) rfl ?_
              refine .q (x := .d (cB (v5j3 == v0.net))) (q_move rfl) rfl ?_
              refine .guardG (b := (v5j3 == v0.net)) (x := .ref 0 22) (env' := [(1, _)]) rfl rfl rfl ⟨.inl rfl, trivial⟩ rfl (fun hg => OpQ.g (q_fieldRef fo_36_11 rfl)) ?_
              refine .guardG (b := (v5j3 == v0.net)) (x := .d (cI v0.paid)) (env' := [(225, _)]) rfl rfl rfl ⟨.inr (.inl rfl), trivial⟩ rfl (fun hg => OpQ.g (q_loadO one_3 rfl rfl rfl)) ?_
              refine .guardG (b := (v5j3 == v0.net)) (x := .d (cB (decide (v0.paid ≥ 0)))) (env' := [(226, _)]) rfl rfl rfl ⟨.inr (.inl rfl), trivial⟩ rfl (fun hg => OpQ.g (q_geq rfl rfl)) ?_
              refine .q (x := .d (cB ((v5j3 == v0.net) && (decide (v0.paid ≥ 0))))) (q_pickAndB rfl rfl rfl) rfl ?_
              refine .q (x := .d (cB ((v5j3 == v0.net) && (decide (v0.paid ≥ 0))))) (q_move rfl) rfl ?_
              refine .guardG (b := ((v5j3 == v0.net) && (decide (v0.paid ≥ 0)))) (x := .ref 0 23) (env' := [(1, _)]) rfl rfl rfl ⟨.inl rfl, trivial⟩ rfl (fun hg => OpQ.g (q_fieldRef fo_36_12 rfl)) ?_
              refine .guardG (b := ((v5j3 == v0.net) && (decide (v0.paid ≥ 0)))) (x := .d (cI v0.owed)) (env' := [(230, _)]) rfl rfl rfl ⟨.inr (.inl rfl), trivial⟩ rfl (fun hg => OpQ.g (q_loadO one_3 rfl rfl rfl)) ?_
              refine .guardG (b := ((v5j3 == v0.net) && (decide (v0.paid ≥ 0)))) (x := .d (cB (decide (v0.owed ≥ 0)))) (env' := [(231, _)]) rfl rfl rfl ⟨.inr (.inl rfl), trivial⟩ rfl (fun hg => OpQ.g (q_geq rfl rfl)) ?_
              refine .q (x := .d (cB (((v5j3 == v0.net) && (decide (v0.paid ≥ 0))) && (decide (v0.owed ≥ 0))))) (q_pickAndB rfl rfl rfl) rfl ?_
              refine .q (x := .d (cB (((v5j3 == v0.net) && (decide (v0.paid ≥ 0))) && (decide (v0.owed ≥ 0))))) (q_move rfl) rfl ?_
              refine .guardG (b := (((v5j3 == v0.net) && (decide (v0.paid ≥ 0))) && (decide (v0.owed ≥ 0)))) (x := .ref 0 22) (env' := [(1, _)]) rfl rfl rfl ⟨.inl rfl, trivial⟩ rfl (fun hg => OpQ.g (q_fieldRef fo_36_11 rfl)) ?_
              refine .guardG (b := (((v5j3 == v0.net) && (decide (v0.paid ≥ 0))) && (decide (v0.owed ≥ 0)))) (x := .d (cI v0.paid)) (env' := [(235, _)]) rfl rfl rfl ⟨.inr (.inl rfl), trivial⟩ rfl (fun hg => OpQ.g (q_loadO one_3 rfl rfl rfl)) ?_
              refine .guardG (b := (((v5j3 == v0.net) && (decide (v0.paid ≥ 0))) && (decide (v0.owed ≥ 0)))) (x := .ref 0 20) (env' := [(1, _)]) rfl rfl rfl ⟨.inl rfl, trivial⟩ rfl (fun hg => OpQ.g (q_fieldRef fo_36_9 rfl)) ?_
              refine .guardG (b := (((v5j3 == v0.net) && (decide (v0.paid ≥ 0))) && (decide (v0.owed ≥ 0)))) (x := .d (cI v0.net)) (env' := [(237, _)]) rfl rfl rfl ⟨.inr (.inl rfl), trivial⟩ rfl (fun hg => OpQ.g (q_loadO one_3 rfl rfl rfl)) ?_
              refine .guardG (b := (((v5j3 == v0.net) && (decide (v0.paid ≥ 0))) && (decide (v0.owed ≥ 0)))) (x := .d (cB (decide (v0.paid ≤ v0.net)))) (env' := [(236, _), (238, _)]) rfl rfl rfl ⟨.inr (.inl rfl), ⟨.inr (.inl rfl), trivial⟩⟩ rfl (fun hg => OpQ.g (q_leq rfl rfl)) ?_
              refine .q (x := .d (cB ((((v5j3 == v0.net) && (decide (v0.paid ≥ 0))) && (decide (v0.owed ≥ 0))) && (decide (v0.paid ≤ v0.net))))) (q_pickAndB rfl rfl rfl) rfl ?_
              refine .q (x := .d (cB ((((v5j3 == v0.net) && (decide (v0.paid ≥ 0))) && (decide (v0.owed ≥ 0))) && (decide (v0.paid ≤ v0.net))))) (q_move rfl) rfl ?_
              refine .guardG (b := ((((v5j3 == v0.net) && (decide (v0.paid ≥ 0))) && (decide (v0.owed ≥ 0))) && (decide (v0.paid ≤ v0.net)))) (x := .ref 0 23) (env' := [(1, _)]) rfl rfl rfl ⟨.inl rfl, trivial⟩ rfl (fun hg => OpQ.g (q_fieldRef fo_36_12 rfl)) ?_
              refine .guardG (b := ((((v5j3 == v0.net) && (decide (v0.paid ≥ 0))) && (decide (v0.owed ≥ 0))) && (decide (v0.paid ≤ v0.net)))) (x := .d (cI v0.owed)) (env' := [(242, _)]) rfl rfl rfl ⟨.inr (.inl rfl), trivial⟩ rfl (fun hg => OpQ.g (q_loadO one_3 rfl rfl rfl)) ?_
              refine .guardG (b := ((((v5j3 == v0.net) && (decide (v0.paid ≥ 0))) && (decide (v0.owed ≥ 0))) && (decide (v0.paid ≤ v0.net)))) (x := .ref 0 20) (env' := [(1, _)]) rfl rfl rfl ⟨.inl rfl, trivial⟩ rfl (fun hg => OpQ.g (q_fieldRef fo_36_9 rfl)) ?_
              refine .guardG (b := ((((v5j3 == v0.net) && (decide (v0.paid ≥ 0))) && (decide (v0.owed ≥ 0))) && (decide (v0.paid ≤ v0.net)))) (x := .d (cI v0.net)) (env' := [(244, _)]) rfl rfl rfl ⟨.inr (.inl rfl), trivial⟩ rfl (fun hg => OpQ.g (q_loadO one_3 rfl rfl rfl)) ?_
              refine .guardG (b := ((((v5j3 == v0.net) && (decide (v0.paid ≥ 0))) && (decide (v0.owed ≥ 0))) && (decide (v0.paid ≤ v0.net)))) (x := .ref 0 22) (env' := [(1, _)]) rfl rfl rfl ⟨.inl rfl, trivial⟩ rfl (fun hg => OpQ.g (q_fieldRef fo_36_11 rfl)) ?_
              refine .guardG (b := ((((v5j3 == v0.net) && (decide (v0.paid ≥ 0))) && (decide (v0.owed ≥ 0))) && (decide (v0.paid ≤ v0.net)))) (x := .d (cI v0.paid)) (env' := [(246, _)]) rfl rfl rfl ⟨.inr (.inl rfl), trivial⟩ rfl (fun hg => OpQ.g (q_loadO one_3 rfl rfl rfl)) ?_
              obtain ⟨hk1, H⟩ := ck_some H
              refine .guardG (b := ((((v5j3 == v0.net) && (decide (v0.paid ≥ 0))) && (decide (v0.owed ≥ 0))) && (decide (v0.paid ≤ v0.net)))) (x := .d (cI (v0.net - v0.paid))) (env' := [(245, _), (247, _)]) rfl rfl rfl ⟨.inr (.inl rfl), ⟨.inr (.inl rfl), trivial⟩⟩ rfl (fun hg => OpQ.g (q_subI rfl rfl (hk1 hg).1 (hk1 hg).2)) ?_
              refine .guardG (b := ((((v5j3 == v0.net) && (decide (v0.paid ≥ 0))) && (decide (v0.owed ≥ 0))) && (decide (v0.paid ≤ v0.net)))) (x := .d (cB (v0.owed == (v0.net - v0.paid)))) (env' := [(243, _), (248, _)]) rfl rfl rfl ⟨.inr (.inl rfl), ⟨.inr (.inl rfl), trivial⟩⟩ rfl (fun hg => OpQ.g (q_eql rfl rfl)) ?_
              refine .q (x := .d (cB (((((v5j3 == v0.net) && (decide (v0.paid ≥ 0))) && (decide (v0.owed ≥ 0))) && (decide (v0.paid ≤ v0.net))) && (v0.owed == (v0.net - v0.paid))))) (q_pickAndB rfl rfl rfl) rfl ?_
              refine .q (x := .d (cB (((((v5j3 == v0.net) && (decide (v0.paid ≥ 0))) && (decide (v0.owed ≥ 0))) && (decide (v0.paid ≤ v0.net))) && (v0.owed == (v0.net - v0.paid))))) (q_assign rfl) rfl ?_
              refine .nil ?_
              refine .retN [.tmp 2] [.d (cB (((((v5j3 == v0.net) && (decide (v0.paid ≥ 0))) && (decide (v0.owed ≥ 0))) && (decide (v0.paid ≤ v0.net))) && (v0.owed == (v0.net - v0.paid))))] Try.func15 Try.results15 ⟨rfl, trivial⟩ ?_
              cases H
              exact ⟨_, .rfl' _, rfl⟩
            · intro hj3 hj3x
              obtain ⟨n1, H⟩ := loop_some H
              refine .loop (ι := Nat × (Int × Int)) (fun p => [(1, .ref 0 0), (5, .d (cI p.2.1)), (8, .d (cI p.2.2))]) (fun p => ⟨[.row 36 [.d (cI v0.usage.id), .d (cI v0.usage.kind), .d (cI v0.usage.account), .d (cI v0.usage.sub), .d (cS v0.usage.a), .d (cS v0.usage.b), .d (cI v0.usage.start), .d (cI v0.usage.units), .d (cI v0.usage.trunk), .d (cB v0.usage.inbound), .d (cI v0.usage.source), .d (cI v0.usage.serial), .d (cI v0.err), .d (cS v0.plan), .d (cI v0.version), .d (cS v0.zone), .d (slOf 5 Take.row v0.takes), .d (slOf 4 Segment.row v0.segments), .d (cI v0.setup), .d (cI v0.gross), .d (cI v0.net), .d (slOf 2 Given.row v0.given), .d (cI v0.paid), .d (cI v0.owed)]], []⟩) (fun p => iter (fun s => f_billingref37_Check_l1 v0 s.1 s.2) p.1 p.2 = some r) (·.1) (n1, (v0.gross, 0)) H (.cons rfl (.rfl' _) (.cons rfl (.rfl' _) (.cons rfl (.rfl' _) (.nil)))) rfl ?_
              rintro ⟨m1, v5l1, v8l1⟩ HI ih1
              obtain ⟨n1, q1, hm1, H, HK1⟩ := iter_succ HI
              clear HI
              replace H : f_billingref37_Check_l1 v0 v5l1 v8l1 = some q1 := H
              unfold f_billingref37_Check_l1 at H
              change ARun _ _ _ _ _ _ [(1, .ref 0 0), (5, .d (cI v5l1)), (8, .d (cI v8l1))] ⟨[.row 36 [.d (cI v0.usage.id), .d (cI v0.usage.kind), .d (cI v0.usage.account), .d (cI v0.usage.sub), .d (cS v0.usage.a), .d (cS v0.usage.b), .d (cI v0.usage.start), .d (cI v0.usage.units), .d (cI v0.usage.trunk), .d (cB v0.usage.inbound), .d (cI v0.usage.source), .d (cI v0.usage.serial), .d (cI v0.err), .d (cS v0.plan), .d (cI v0.version), .d (cS v0.zone), .d (slOf 5 Take.row v0.takes), .d (slOf 4 Segment.row v0.segments), .d (cI v0.setup), .d (cI v0.gross), .d (cI v0.net), .d (slOf 2 Given.row v0.given), .d (cI v0.paid), .d (cI v0.owed)]], []⟩
              refine .seq ?_
              refine .seq ?_
              refine .region ?_
              refine .q (x := .d (cI v8l1)) (q_move rfl) rfl ?_
              refine .q (x := .ref 0 21) (q_fieldRef fo_36_10 rfl) rfl ?_
              refine .q (x := .d (slOf 2 Given.row v0.given)) (q_loadO one_34 rfl rfl rfl) rfl ?_
              refine .q (x := .d (cI (v0.given.length : Int))) (q_lenL (l := v0.given) (row := Given.row) Try.underlying34 rfl rfl) rfl ?_
              refine .q (x := .d (cB (decide (v8l1 < (v0.given.length : Int))))) (q_lss rfl rfl) rfl ?_
              refine .nil ?_
              refine .cond rfl (fun hc => ?_) (fun hc => ?_)
              · replace H := ifT hc H; clear hc
                refine .skip ?_
                refine .seq ?_
                refine .block ?_
                refine .seq ?_
                refine .seq ?_
                refine .region ?_
                refine .q (x := .ref 0 21) (q_fieldRef fo_36_10 rfl) rfl ?_
                refine .q (x := .d (slOf 2 Given.row v0.given)) (q_loadO one_34 rfl rfl rfl) rfl ?_
                refine .q (x := .d (cI v8l1)) (q_move rfl) rfl ?_
                obtain ⟨hk2, H⟩ := ck_some H
                refine .q (x := .d (.ro (Given.row (nth v0.given (Int.toNat (v8l1)))))) (q_idxL (row := Given.row) (l := v0.given) (i := v8l1) Try.underlying34 hi43 hs43 rfl rfl rfl hk2) rfl ?_
                refine .q (x := .d (.ro ((Given.row (nth v0.given (Int.toNat (v8l1)))).drop 1))) (q_fieldRo fo_43_1 rfl) rfl ?_
                refine .q (x := .d (cI ((nth v0.given (Int.toNat (v8l1))).amount))) (q_load one_3 rfl) rfl ?_
                obtain ⟨y2, hy2, H⟩ := bind_some' H
                refine .g (x := .d (cB y2)) (g_call en_26 rfl rfl (c_f_billingref37_within (hy2))) rfl ?_
                refine .q (x := .d (cB (!y2))) (q_not rfl) rfl ?_
                refine .nil ?_
                refine .cond rfl (fun hc => ?_) (fun hc => ?_)
                · replace H := ifT hc H; clear hc
                  refine .seq ?_
                  refine .region ?_
                  refine .q (x := .d (cB false)) (q_assign rfl) rfl ?_
                  refine .nil ?_
                  refine .retN [.tmp 2] [.d (cB false)] Try.func15 Try.results15 ⟨rfl, trivial⟩ ?_
                  cases H
                  cases HK1
                  exact ⟨_, .rfl' _, rfl⟩
                · replace H := ifF hc H; clear hc
                  refine .skip ?_
                  refine .region ?_
                  refine .q (x := .d (cI v5l1)) (q_move rfl) rfl ?_
                  refine .q (x := .ref 0 21) (q_fieldRef fo_36_10 rfl) rfl ?_
                  refine .q (x := .d (slOf 2 Given.row v0.given)) (q_loadO one_34 rfl rfl rfl) rfl ?_
                  refine .q (x := .d (cI v8l1)) (q_move rfl) rfl ?_
                  obtain ⟨hk3, H⟩ := ck_some H
                  refine .q (x := .d (.ro (Given.row (nth v0.given (Int.toNat (v8l1)))))) (q_idxL (row := Given.row) (l := v0.given) (i := v8l1) Try.underlying34 hi43 hs43 rfl rfl rfl hk3) rfl ?_
                  refine .q (x := .d (.ro ((Given.row (nth v0.given (Int.toNat (v8l1)))).drop 1))) (q_fieldRo fo_43_1 rfl) rfl ?_
                  refine .q (x := .d (cI ((nth v0.given (Int.toNat (v8l1))).amount))) (q_load one_3 rfl) rfl ?_
                  obtain ⟨hk4, H⟩ := ck_some H
                  refine .q (x := .d (cI (v5l1 - ((nth v0.given (Int.toNat (v8l1))).amount)))) (q_subI rfl rfl hk4.1 hk4.2) rfl ?_
                  refine .q (x := .d (cI (v5l1 - ((nth v0.given (Int.toNat (v8l1))).amount)))) (q_assign rfl) rfl ?_
                  refine .nil ?_
                  refine .inBlock ?_
                  refine .region ?_
                  refine .q (x := .d (cI v8l1)) (q_move rfl) rfl ?_
                  obtain ⟨hk5, H⟩ := ck_some H
                  refine .q (x := .d (cI (v8l1 + 1))) (q_addI rfl rfl hk5.1 hk5.2) rfl ?_
                  refine .q (x := .d (cI (v8l1 + 1))) (q_assign rfl) rfl ?_
                  refine .nil ?_
                  cases H
                  exact .sub (.cons rfl (.rfl' _) (.cons rfl (.rfl' _) (.cons rfl (.rfl' _) (.nil)))) (ih1 (n1, (v5l1 - ((nth v0.given (Int.toNat (v8l1))).amount), v8l1 + 1)) HK1 hm1)
              · replace H := ifF hc H; clear hc
                refine .exit rfl ?_
                obtain ⟨q0, H9, hq0⟩ := map_some' H; clear H; cases hq0
                cases HK1
                have H := H9
                exact .sub (.cons rfl (.rfl' _) (.cons rfl (.rfl' _) (.nil))) (hj3x v5l1 H)
        · intro hj2 hj2x
          obtain ⟨n2, H⟩ := loop_some H
          refine .loop (ι := Nat × (Int × Int × Int)) (fun p => [(1, .ref 0 0), (3, .d (cI p.2.1)), (4, .d (cI p.2.2.1)), (5, .d (cI v0.gross)), (7, .d (cI p.2.2.2))]) (fun p => ⟨[.row 36 [.d (cI v0.usage.id), .d (cI v0.usage.kind), .d (cI v0.usage.account), .d (cI v0.usage.sub), .d (cS v0.usage.a), .d (cS v0.usage.b), .d (cI v0.usage.start), .d (cI v0.usage.units), .d (cI v0.usage.trunk), .d (cB v0.usage.inbound), .d (cI v0.usage.source), .d (cI v0.usage.serial), .d (cI v0.err), .d (cS v0.plan), .d (cI v0.version), .d (cS v0.zone), .d (slOf 5 Take.row v0.takes), .d (slOf 4 Segment.row v0.segments), .d (cI v0.setup), .d (cI v0.gross), .d (cI v0.net), .d (slOf 2 Given.row v0.given), .d (cI v0.paid), .d (cI v0.owed)]], []⟩) (fun p => iter (fun s => f_billingref37_Check_l2 v0 s.1 s.2.1 s.2.2) p.1 p.2 = some r) (·.1) (n2, (v3j1, v0.setup, 0)) H (.cons rfl (.rfl' _) (.cons rfl (.rfl' _) (.cons rfl (.rfl' _) (.cons rfl (.rfl' _) (.cons rfl (.rfl' _) (.nil)))))) rfl ?_
          rintro ⟨m1, v3l2, v4l2, v7l2⟩ HI ih1
          obtain ⟨n1, q1, hm1, H, HK1⟩ := iter_succ HI
          clear HI
          replace H : f_billingref37_Check_l2 v0 v3l2 v4l2 v7l2 = some q1 := H
          unfold f_billingref37_Check_l2 at H
          change ARun _ _ _ _ _ _ [(1, .ref 0 0), (3, .d (cI v3l2)), (4, .d (cI v4l2)), (5, .d (cI v0.gross)), (7, .d (cI v7l2))] ⟨[.row 36 [.d (cI v0.usage.id), .d (cI v0.usage.kind), .d (cI v0.usage.account), .d (cI v0.usage.sub), .d (cS v0.usage.a), .d (cS v0.usage.b), .d (cI v0.usage.start), .d (cI v0.usage.units), .d (cI v0.usage.trunk), .d (cB v0.usage.inbound), .d (cI v0.usage.source), .d (cI v0.usage.serial), .d (cI v0.err), .d (cS v0.plan), .d (cI v0.version), .d (cS v0.zone), .d (slOf 5 Take.row v0.takes), .d (slOf 4 Segment.row v0.segments), .d (cI v0.setup), .d (cI v0.gross), .d (cI v0.net), .d (slOf 2 Given.row v0.given), .d (cI v0.paid), .d (cI v0.owed)]], []⟩
          refine .seq ?_
          refine .seq ?_
          refine .region ?_
          refine .q (x := .d (cI v7l2)) (q_move rfl) rfl ?_
          refine .q (x := .ref 0 17) (q_fieldRef fo_36_6 rfl) rfl ?_
          refine .q (x := .d (slOf 4 Segment.row v0.segments)) (q_loadO one_33 rfl rfl rfl) rfl ?_
          refine .q (x := .d (cI (v0.segments.length : Int))) (q_lenL (l := v0.segments) (row := Segment.row) Try.underlying33 rfl rfl) rfl ?_
          refine .q (x := .d (cB (decide (v7l2 < (v0.segments.length : Int))))) (q_lss rfl rfl) rfl ?_
          refine .nil ?_
          refine .cond rfl (fun hc => ?_) (fun hc => ?_)
          · replace H := ifT hc H; clear hc
            refine .skip ?_
            refine .seq ?_
            refine .block ?_
            refine .seq ?_
            refine .seq ?_
            refine .region ?_
            refine .q (x := .ref 0 17) (q_fieldRef fo_36_6 rfl) rfl ?_
            refine .q (x := .d (slOf 4 Segment.row v0.segments)) (q_loadO one_33 rfl rfl rfl) rfl ?_
            refine .q (x := .d (cI v7l2)) (q_move rfl) rfl ?_
            obtain ⟨hk6, H⟩ := ck_some H
            refine .q (x := .d (.ro (Segment.row (nth v0.segments (Int.toNat (v7l2)))))) (q_idxL (row := Segment.row) (l := v0.segments) (i := v7l2) Try.underlying33 hi41 hs41 rfl rfl rfl hk6) rfl ?_
            refine .q (x := .d (.ro ((Segment.row (nth v0.segments (Int.toNat (v7l2)))).drop 2))) (q_fieldRo fo_41_2 rfl) rfl ?_
            refine .q (x := .d (cI ((nth v0.segments (Int.toNat (v7l2))).units))) (q_load one_3 rfl) rfl ?_
            obtain ⟨y3, hy3, H⟩ := bind_some' H
            refine .g (x := .d (cB y3)) (g_call en_26 rfl rfl (c_f_billingref37_within (hy3))) rfl ?_
            refine .q (x := .d (cB (!y3))) (q_not rfl) rfl ?_
            refine .q (x := .d (cB (!y3))) (q_move rfl) rfl ?_
            refine .guardG (b := (!(!y3))) (x := .ref 0 17) (env' := [(1, _)]) rfl rfl rfl ⟨.inl rfl, trivial⟩ rfl (fun hg => OpQ.g (q_fieldRef fo_36_6 rfl)) ?_
            refine .guardG (b := (!(!y3))) (x := .d (slOf 4 Segment.row v0.segments)) (env' := [(144, _)]) rfl rfl rfl ⟨.inr (.inl rfl), trivial⟩ rfl (fun hg => OpQ.g (q_loadO one_33 rfl rfl rfl)) ?_
            refine .guardG (b := (!(!y3))) (x := .d (cI v7l2)) (env' := [(7, _)]) rfl rfl rfl ⟨.inl rfl, trivial⟩ rfl (fun hg => OpQ.g (q_move rfl)) ?_
            obtain ⟨hk7, H⟩ := ck_some H
            refine .guardG (b := (!(!y3))) (x := .d (.ro (Segment.row (nth v0.segments (Int.toNat (v7l2)))))) (env' := [(145, _), (146, _)]) rfl rfl rfl ⟨.inr (.inl rfl), ⟨.inr (.inl rfl), trivial⟩⟩ rfl (fun hg => OpQ.g (q_idxL (row := Segment.row) (l := v0.segments) (i := v7l2) Try.underlying33 hi41 hs41 rfl rfl rfl (hk7 hg))) ?_
            refine .guardG (b := (!(!y3))) (x := .d (.ro ((Segment.row (nth v0.segments (Int.toNat (v7l2)))).drop 3))) (env' := [(147, _)]) rfl rfl rfl ⟨.inr (.inl rfl), trivial⟩ rfl (fun hg => OpQ.g (q_fieldRo fo_41_3 rfl)) ?_
            refine .guardG (b := (!(!y3))) (x := .d (cI ((nth v0.segments (Int.toNat (v7l2))).amount))) (env' := [(148, _)]) rfl rfl rfl ⟨.inr (.inl rfl), trivial⟩ rfl (fun hg => OpQ.g (q_load one_3 rfl)) ?_
            obtain ⟨y4, hy4, H⟩ := bind_some' H
            refine .guardG (b := (!(!y3))) (x := .d (cB y4)) (env' := [(149, _)]) rfl rfl rfl ⟨.inr (.inl rfl), trivial⟩ rfl (fun hg => (g_call en_26 rfl rfl (c_f_billingref37_within (gcall_some hy4 hg)))) ?_
            refine .guardG (b := (!(!y3))) (x := .d (cB (!y4))) (env' := [(150, _)]) rfl rfl rfl ⟨.inr (.inl rfl), trivial⟩ rfl (fun hg => OpQ.g (q_not rfl)) ?_
            refine .q (x := .d (cB ((!y3) || (!y4)))) (q_pickOrB rfl rfl rfl) rfl ?_
            refine .nil ?_
            refine .cond rfl (fun hc => ?_) (fun hc => ?_)
            · replace H := ifT hc H; clear hc
              refine .seq ?_
              refine .region ?_
              refine .q (x := .d (cB false)) (q_assign rfl) rfl ?_
              refine .nil ?_
              refine .retN [.tmp 2] [.d (cB false)] Try.func15 Try.results15 ⟨rfl, trivial⟩ ?_
              cases H
              cases HK1
              exact ⟨_, .rfl' _, rfl⟩
            · replace H := ifF hc H; clear hc
              refine .skip ?_
              refine .seq ?_
              refine .seq ?_
              refine .drawn 16 hMix (by kernel_rfl) ?_
              show DOps _ _ _ _ _ _ _ (_ :: _) _ _ _
              refine .q (x := .d (cI v4l2)) (q_move rfl) rfl ?_
              refine .q (x := .ref 0 19) (q_fieldRef fo_36_8 rfl) rfl ?_
              refine .q (x := .d (cI v0.gross)) (q_loadO one_3 rfl rfl rfl) rfl ?_
              refine .q (x := .d (cB (decide (v4l2 > v0.gross)))) (q_gtr rfl rfl) rfl ?_
              refine .q (x := .d (cB (decide (v4l2 > v0.gross)))) (q_move rfl) rfl ?_
              refine .guardG (b := (!(decide (v4l2 > v0.gross)))) (x := .ref 0 17) (env' := [(1, _)]) rfl rfl rfl ⟨.inl rfl, trivial⟩ rfl (fun hg => OpQ.g (q_fieldRef fo_36_6 rfl)) ?_
              refine .guardG (b := (!(decide (v4l2 > v0.gross)))) (x := .d (slOf 4 Segment.row v0.segments)) (env' := [(158, _)]) rfl rfl rfl ⟨.inr (.inl rfl), trivial⟩ rfl (fun hg => OpQ.g (q_loadO one_33 rfl rfl rfl)) ?_
              refine .guardG (b := (!(decide (v4l2 > v0.gross)))) (x := .d (cI v7l2)) (env' := [(7, _)]) rfl rfl rfl ⟨.inl rfl, trivial⟩ rfl (fun hg => OpQ.g (q_move rfl)) ?_
              obtain ⟨hk8, H⟩ := ck_some H
              refine .guardG (b := (!(decide (v4l2 > v0.gross)))) (x := .d (.ro (Segment.row (nth v0.segments (Int.toNat (v7l2)))))) (env' := [(159, _), (160, _)]) rfl rfl rfl ⟨.inr (.inl rfl), ⟨.inr (.inl rfl), trivial⟩⟩ rfl (fun hg => OpQ.g (q_idxL (row := Segment.row) (l := v0.segments) (i := v7l2) Try.underlying33 hi41 hs41 rfl rfl rfl (hk8 hg))) ?_
              refine .guardG (b := (!(decide (v4l2 > v0.gross)))) (x := .d (.ro ((Segment.row (nth v0.segments (Int.toNat (v7l2)))).drop 3))) (env' := [(161, _)]) rfl rfl rfl ⟨.inr (.inl rfl), trivial⟩ rfl (fun hg => OpQ.g (q_fieldRo fo_41_3 rfl)) ?_
              refine .guardG (b := (!(decide (v4l2 > v0.gross)))) (x := .d (cI ((nth v0.segments (Int.toNat (v7l2))).amount))) (env' := [(162, _)]) rfl rfl rfl ⟨.inr (.inl rfl), trivial⟩ rfl (fun hg => OpQ.g (q_load one_3 rfl)) ?_
              refine .guardG (b := (!(decide (v4l2 > v0.gross)))) (x := .ref 0 19) (env' := [(1, _)]) rfl rfl rfl ⟨.inl rfl, trivial⟩ rfl (fun hg => OpQ.g (q_fieldRef fo_36_8 rfl)) ?_
              refine .guardG (b := (!(decide (v4l2 > v0.gross)))) (x := .d (cI v0.gross)) (env' := [(164, _)]) rfl rfl rfl ⟨.inr (.inl rfl), trivial⟩ rfl (fun hg => OpQ.g (q_loadO one_3 rfl rfl rfl)) ?_
              refine .guardG (b := (!(decide (v4l2 > v0.gross)))) (x := .d (cI v4l2)) (env' := [(4, _)]) rfl rfl rfl ⟨.inl rfl, trivial⟩ rfl (fun hg => OpQ.g (q_move rfl)) ?_
              obtain ⟨hk9, H⟩ := ck_some H
              refine .guardG (b := (!(decide (v4l2 > v0.gross)))) (x := .d (cI (v0.gross - v4l2))) (env' := [(165, _), (166, _)]) rfl rfl rfl ⟨.inr (.inl rfl), ⟨.inr (.inl rfl), trivial⟩⟩ rfl (fun hg => OpQ.g (q_subI rfl rfl (hk9 hg).1 (hk9 hg).2)) ?_
              refine .guardG (b := (!(decide (v4l2 > v0.gross)))) (x := .d (cB (decide (((nth v0.segments (Int.toNat (v7l2))).amount) > (v0.gross - v4l2))))) (env' := [(163, _), (167, _)]) rfl rfl rfl ⟨.inr (.inl rfl), ⟨.inr (.inl rfl), trivial⟩⟩ rfl (fun hg => OpQ.g (q_gtr rfl rfl)) ?_
              refine .nil ?_
              show AOps _ _ _ _ _ _ (_ :: _) _ _ _
              refine .q (x := .d (cB ((decide (v4l2 > v0.gross)) || (decide (((nth v0.segments (Int.toNat (v7l2))).amount) > (v0.gross - v4l2)))))) (q_pickOrB rfl rfl rfl) rfl ?_
              refine .nil ?_
              refine .cond rfl (fun hc => ?_) (fun hc => ?_)
              · replace H := ifT hc H; clear hc
                refine .seq ?_
                refine .region ?_
                refine .q (x := .d (cB false)) (q_assign rfl) rfl ?_
                refine .nil ?_
                refine .retN [.tmp 2] [.d (cB false)] Try.func15 Try.results15 ⟨rfl, trivial⟩ ?_
                cases H
                cases HK1
                exact ⟨_, .rfl' _, rfl⟩
              · replace H := ifF hc H; clear hc
                refine .skip ?_
                refine .drawn 18 hMix (by kernel_rfl) ?_
                show DOps _ _ _ _ _ _ _ (_ :: _) _ _ _
                refine .q (x := .d (cI v3l2)) (q_move rfl) rfl ?_
                refine .q (x := .ref 0 17) (q_fieldRef fo_36_6 rfl) rfl ?_
                refine .q (x := .d (slOf 4 Segment.row v0.segments)) (q_loadO one_33 rfl rfl rfl) rfl ?_
                refine .q (x := .d (cI v7l2)) (q_move rfl) rfl ?_
                obtain ⟨hk10, H⟩ := ck_some H
                refine .q (x := .d (.ro (Segment.row (nth v0.segments (Int.toNat (v7l2)))))) (q_idxL (row := Segment.row) (l := v0.segments) (i := v7l2) Try.underlying33 hi41 hs41 rfl rfl rfl hk10) rfl ?_
                refine .q (x := .d (.ro ((Segment.row (nth v0.segments (Int.toNat (v7l2)))).drop 2))) (q_fieldRo fo_41_2 rfl) rfl ?_
                refine .q (x := .d (cI ((nth v0.segments (Int.toNat (v7l2))).units))) (q_load one_3 rfl) rfl ?_
                obtain ⟨hk11, H⟩ := ck_some H
                refine .q (x := .d (cI (v3l2 + ((nth v0.segments (Int.toNat (v7l2))).units)))) (q_addI rfl rfl hk11.1 hk11.2) rfl ?_
                refine .q (x := .d (cI v4l2)) (q_move rfl) rfl ?_
                refine .q (x := .ref 0 17) (q_fieldRef fo_36_6 rfl) rfl ?_
                refine .q (x := .d (slOf 4 Segment.row v0.segments)) (q_loadO one_33 rfl rfl rfl) rfl ?_
                refine .q (x := .d (cI v7l2)) (q_move rfl) rfl ?_
                obtain ⟨hk12, H⟩ := ck_some H
                refine .q (x := .d (.ro (Segment.row (nth v0.segments (Int.toNat (v7l2)))))) (q_idxL (row := Segment.row) (l := v0.segments) (i := v7l2) Try.underlying33 hi41 hs41 rfl rfl rfl hk12) rfl ?_
                refine .q (x := .d (.ro ((Segment.row (nth v0.segments (Int.toNat (v7l2)))).drop 3))) (q_fieldRo fo_41_3 rfl) rfl ?_
                refine .q (x := .d (cI ((nth v0.segments (Int.toNat (v7l2))).amount))) (q_load one_3 rfl) rfl ?_
                obtain ⟨hk13, H⟩ := ck_some H
                refine .q (x := .d (cI (v4l2 + ((nth v0.segments (Int.toNat (v7l2))).amount)))) (q_addI rfl rfl hk13.1 hk13.2) rfl ?_
                refine .q (x := .d (cI (v3l2 + ((nth v0.segments (Int.toNat (v7l2))).units)))) (q_assign rfl) rfl ?_
                refine .q (x := .d (cI (v4l2 + ((nth v0.segments (Int.toNat (v7l2))).amount)))) (q_assign rfl) rfl ?_
                refine .nil ?_
                show AOps _ _ _ _ _ _ [] _ _ _
                refine .nil ?_
                refine .inBlock ?_
                refine .region ?_
                refine .q (x := .d (cI v7l2)) (q_move rfl) rfl ?_
                obtain ⟨hk14, H⟩ := ck_some H
                refine .q (x := .d (cI (v7l2 + 1))) (q_addI rfl rfl hk14.1 hk14.2) rfl ?_
                refine .q (x := .d (cI (v7l2 + 1))) (q_assign rfl) rfl ?_
                refine .nil ?_
                cases H
                exact .sub (.cons rfl (.rfl' _) (.cons rfl (.rfl' _) (.cons rfl (.rfl' _) (.cons rfl (.rfl' _) (.cons rfl (.rfl' _) (.nil)))))) (ih1 (n1, (v3l2 + ((nth v0.segments (Int.toNat (v7l2))).units), v4l2 + ((nth v0.segments (Int.toNat (v7l2))).amount), v7l2 + 1)) HK1 hm1)
          · replace H := ifF hc H; clear hc
            refine .exit rfl ?_
            obtain ⟨q0, H9, hq0⟩ := map_some' H; clear H; cases hq0
            cases HK1
            have H := H9
            exact .sub (.cons rfl (.rfl' _) (.cons rfl (.rfl' _) (.cons rfl (.rfl' _) (.cons rfl (.rfl' _) (.nil))))) (hj2x (v3l2, v4l2) H)
      · intro hj1 hj1x
        obtain ⟨n3, H⟩ := loop_some H
        refine .loop (ι := Nat × (Int × Int)) (fun p => [(1, .ref 0 0), (3, .d (cI p.2.1)), (4, .d (cI v0.setup)), (5, .d (cI v0.gross)), (6, .d (cI p.2.2))]) (fun p => ⟨[.row 36 [.d (cI v0.usage.id), .d (cI v0.usage.kind), .d (cI v0.usage.account), .d (cI v0.usage.sub), .d (cS v0.usage.a), .d (cS v0.usage.b), .d (cI v0.usage.start), .d (cI v0.usage.units), .d (cI v0.usage.trunk), .d (cB v0.usage.inbound), .d (cI v0.usage.source), .d (cI v0.usage.serial), .d (cI v0.err), .d (cS v0.plan), .d (cI v0.version), .d (cS v0.zone), .d (slOf 5 Take.row v0.takes), .d (slOf 4 Segment.row v0.segments), .d (cI v0.setup), .d (cI v0.gross), .d (cI v0.net), .d (slOf 2 Given.row v0.given), .d (cI v0.paid), .d (cI v0.owed)]], []⟩) (fun p => iter (fun s => f_billingref37_Check_l3 v0 s.1 s.2) p.1 p.2 = some r) (·.1) (n3, (0, 0)) H (.cons rfl (.rfl' _) (.cons rfl (.rfl' _) (.cons rfl (.rfl' _) (.cons rfl (.rfl' _) (.cons rfl (.rfl' _) (.nil)))))) rfl ?_
        rintro ⟨m1, v3l3, v6l3⟩ HI ih1
        obtain ⟨n1, q1, hm1, H, HK1⟩ := iter_succ HI
        clear HI
        replace H : f_billingref37_Check_l3 v0 v3l3 v6l3 = some q1 := H
        unfold f_billingref37_Check_l3 at H
        change ARun _ _ _ _ _ _ [(1, .ref 0 0), (3, .d (cI v3l3)), (4, .d (cI v0.setup)), (5, .d (cI v0.gross)), (6, .d (cI v6l3))] ⟨[.row 36 [.d (cI v0.usage.id), .d (cI v0.usage.kind), .d (cI v0.usage.account), .d (cI v0.usage.sub), .d (cS v0.usage.a), .d (cS v0.usage.b), .d (cI v0.usage.start), .d (cI v0.usage.units), .d (cI v0.usage.trunk), .d (cB v0.usage.inbound), .d (cI v0.usage.source), .d (cI v0.usage.serial), .d (cI v0.err), .d (cS v0.plan), .d (cI v0.version), .d (cS v0.zone), .d (slOf 5 Take.row v0.takes), .d (slOf 4 Segment.row v0.segments), .d (cI v0.setup), .d (cI v0.gross), .d (cI v0.net), .d (slOf 2 Given.row v0.given), .d (cI v0.paid), .d (cI v0.owed)]], []⟩
        refine .seq ?_
        refine .seq ?_
        refine .region ?_
        refine .q (x := .d (cI v6l3)) (q_move rfl) rfl ?_
        refine .q (x := .ref 0 16) (q_fieldRef fo_36_5 rfl) rfl ?_
        refine .q (x := .d (slOf 5 Take.row v0.takes)) (q_loadO one_32 rfl rfl rfl) rfl ?_
        refine .q (x := .d (cI (v0.takes.length : Int))) (q_lenL (l := v0.takes) (row := Take.row) Try.underlying32 rfl rfl) rfl ?_
        refine .q (x := .d (cB (decide (v6l3 < (v0.takes.length : Int))))) (q_lss rfl rfl) rfl ?_
        refine .nil ?_
        refine .cond rfl (fun hc => ?_) (fun hc => ?_)
        · replace H := ifT hc H; clear hc
          refine .skip ?_
          refine .seq ?_
          refine .block ?_
          refine .seq ?_
          refine .seq ?_
          refine .region ?_
          refine .q (x := .ref 0 16) (q_fieldRef fo_36_5 rfl) rfl ?_
          refine .q (x := .d (slOf 5 Take.row v0.takes)) (q_loadO one_32 rfl rfl rfl) rfl ?_
          refine .q (x := .d (cI v6l3)) (q_move rfl) rfl ?_
          obtain ⟨hk15, H⟩ := ck_some H
          refine .q (x := .d (.ro (Take.row (nth v0.takes (Int.toNat (v6l3)))))) (q_idxL (row := Take.row) (l := v0.takes) (i := v6l3) Try.underlying32 hi39 hs39 rfl rfl rfl hk15) rfl ?_
          refine .q (x := .d (.ro ((Take.row (nth v0.takes (Int.toNat (v6l3)))).drop 4))) (q_fieldRo fo_39_4 rfl) rfl ?_
          refine .q (x := .d (cI ((nth v0.takes (Int.toNat (v6l3))).units))) (q_load one_3 rfl) rfl ?_
          obtain ⟨y5, hy5, H⟩ := bind_some' H
          refine .g (x := .d (cB y5)) (g_call en_26 rfl rfl (c_f_billingref37_within (hy5))) rfl ?_
          refine .q (x := .d (cB (!y5))) (q_not rfl) rfl ?_
          refine .nil ?_
          refine .cond rfl (fun hc => ?_) (fun hc => ?_)
          · replace H := ifT hc H; clear hc
            refine .seq ?_
            refine .region ?_
            refine .q (x := .d (cB false)) (q_assign rfl) rfl ?_
            refine .nil ?_
            refine .retN [.tmp 2] [.d (cB false)] Try.func15 Try.results15 ⟨rfl, trivial⟩ ?_
            cases H
            cases HK1
            exact ⟨_, .rfl' _, rfl⟩
          · replace H := ifF hc H; clear hc
            refine .skip ?_
            refine .region ?_
            refine .q (x := .d (cI v3l3)) (q_move rfl) rfl ?_
            refine .q (x := .ref 0 16) (q_fieldRef fo_36_5 rfl) rfl ?_
            refine .q (x := .d (slOf 5 Take.row v0.takes)) (q_loadO one_32 rfl rfl rfl) rfl ?_
            refine .q (x := .d (cI v6l3)) (q_move rfl) rfl ?_
            obtain ⟨hk16, H⟩ := ck_some H
            refine .q (x := .d (.ro (Take.row (nth v0.takes (Int.toNat (v6l3)))))) (q_idxL (row := Take.row) (l := v0.takes) (i := v6l3) Try.underlying32 hi39 hs39 rfl rfl rfl hk16) rfl ?_
            refine .q (x := .d (.ro ((Take.row (nth v0.takes (Int.toNat (v6l3)))).drop 4))) (q_fieldRo fo_39_4 rfl) rfl ?_
            refine .q (x := .d (cI ((nth v0.takes (Int.toNat (v6l3))).units))) (q_load one_3 rfl) rfl ?_
            obtain ⟨hk17, H⟩ := ck_some H
            refine .q (x := .d (cI (v3l3 + ((nth v0.takes (Int.toNat (v6l3))).units)))) (q_addI rfl rfl hk17.1 hk17.2) rfl ?_
            refine .q (x := .d (cI (v3l3 + ((nth v0.takes (Int.toNat (v6l3))).units)))) (q_assign rfl) rfl ?_
            refine .nil ?_
            refine .inBlock ?_
            refine .region ?_
            refine .q (x := .d (cI v6l3)) (q_move rfl) rfl ?_
            obtain ⟨hk18, H⟩ := ck_some H
            refine .q (x := .d (cI (v6l3 + 1))) (q_addI rfl rfl hk18.1 hk18.2) rfl ?_
            refine .q (x := .d (cI (v6l3 + 1))) (q_assign rfl) rfl ?_
            refine .nil ?_
            cases H
            exact .sub (.cons rfl (.rfl' _) (.cons rfl (.rfl' _) (.cons rfl (.rfl' _) (.cons rfl (.rfl' _) (.cons rfl (.rfl' _) (.nil)))))) (ih1 (n1, (v3l3 + ((nth v0.takes (Int.toNat (v6l3))).units), v6l3 + 1)) HK1 hm1)
        · replace H := ifF hc H; clear hc
          refine .exit rfl ?_
          obtain ⟨q0, H9, hq0⟩ := map_some' H; clear H; cases hq0
          cases HK1
          have H := H9
          exact .sub (.cons rfl (.rfl' _) (.cons rfl (.rfl' _) (.cons rfl (.rfl' _) (.cons rfl (.rfl' _) (.nil))))) (hj1x v3l3 H)

set_option maxRecDepth 100000 in
set_option maxHeartbeats 1000000 in
theorem c_f_billingref54_Money {v0rated : List Rated} {r : (List Leak)} (H : f_billingref54_Money v0rated = some r) : ACall Try.prog 8 [slOf 24 Rated.row v0rated] (· = slOf 4 Leak.row r) := by
  obtain ⟨i36, hi36, hz36, hs36, hb36⟩ := in_36
  obtain ⟨i51, hi51, hz51, hs51, hb51⟩ := in_51
  refine ACall.enter' Try.func8 rfl Try.ntmps8 rfl fun S hS => ?_
  unfold f_billingref54_Money at H
  change ARun _ _ _ _ _ _ [(0, .d (slOf 24 Rated.row v0rated))] _
  refine .seq ?_
  refine .region ?_
  refine .q (x := .d (nilD)) (q_assign rfl) rfl ?_
  refine .nil ?_
  refine .seq ?_
  refine .region ?_
  refine .v (x := .tsl 4 (([] : List Leak).map Leak.row) 0) (v_build0T Try.underlying26 hi51 hs51) rfl ?_
  refine .withSt (st' := ⟨[], [⟨51, 4, ([] : List Leak).length⟩]⟩) rfl ?_
  refine .q (x := .tsl 4 (([] : List Leak).map Leak.row) 0) (q_assign rfl) rfl ?_
  refine .nil ?_
  refine .seq ?_
  refine .seq ?_
  refine .region ?_
  refine .q (x := .d (cI 0)) (q_assign rfl) rfl ?_
  refine .nil ?_
  refine .block ?_
  obtain ⟨n1, H⟩ := loop_some H
  refine .withSt (st' := ⟨[], [⟨51, 4, ([] : List Leak).length⟩]⟩) rfl <| .loop (ι := Nat × (List Leak × Int)) (fun p => [(0, .d (slOf 24 Rated.row v0rated)), (3, .tsl 4 (p.2.1.map Leak.row) 0), (4, .d (cI p.2.2))]) (fun p => ⟨[], [⟨51, 4, p.2.1.length⟩]⟩) (fun p => iter (fun s => f_billingref54_Money_l1 v0rated s.1 s.2) p.1 p.2 = some r) (·.1) (n1, (([] : List Leak), 0)) H (.cons rfl (.rfl' _) (.cons rfl (.rfl' _) (.cons rfl (.rfl' _) (.nil)))) rfl ?_
  rintro ⟨m1, v3outl1, v4il1⟩ HI ih1
  obtain ⟨n1, q1, hm1, H, HK1⟩ := iter_succ HI
  clear HI
  replace H : f_billingref54_Money_l1 v0rated v3outl1 v4il1 = some q1 := H
  unfold f_billingref54_Money_l1 at H
  change ARun _ _ _ _ _ _ [(0, .d (slOf 24 Rated.row v0rated)), (3, .tsl 4 (v3outl1.map Leak.row) 0), (4, .d (cI v4il1))] ⟨[], [⟨51, 4, v3outl1.length⟩]⟩
  refine .seq ?_
  refine .seq ?_
  refine .region ?_
  refine .q (x := .d (cI v4il1)) (q_move rfl) rfl ?_
  refine .q (x := .d (slOf 24 Rated.row v0rated)) (q_move rfl) rfl ?_
  refine .q (x := .d (cI (v0rated.length : Int))) (q_lenL (l := v0rated) (row := Rated.row) Try.underlying22 rfl rfl) rfl ?_
  refine .q (x := .d (cB (decide (v4il1 < (v0rated.length : Int))))) (q_lss rfl rfl) rfl ?_
  refine .nil ?_
  refine .cond rfl (fun hc => ?_) (fun hc => ?_)
  · replace H := ifT hc H; clear hc
    refine .skip ?_
    refine .seq ?_
    refine .block ?_
    refine .seq ?_
    refine .region ?_
    refine .q (x := .d (slOf 24 Rated.row v0rated)) (q_move rfl) rfl ?_
    refine .q (x := .d (cI v4il1)) (q_move rfl) rfl ?_
    obtain ⟨hk1, H⟩ := ck_some H
    refine .q (x := .d (.ro (Rated.row (nth v0rated (Int.toNat (v4il1)))))) (q_idxL (row := Rated.row) (l := v0rated) (i := v4il1) Try.underlying22 hi36 hs36 rfl rfl rfl hk1) rfl ?_
    refine .q (x := .d (.agg (Rated.row (nth v0rated (Int.toNat (v4il1)))))) (q_loadAll one_36 sz_36 rfl rfl) rfl ?_
    obtain ⟨y1, hy1, H⟩ := bind_some' H
    refine .g (x := .d (cB y1)) (g_call en_15 rfl rfl (c_f_billingref37_Check (hy1))) rfl ?_
    refine .q (x := .d (cB (!y1))) (q_not rfl) rfl ?_
    refine .nil ?_
    refine .cond rfl (fun hc => ?_) (fun hc => ?_)
    · replace H := ifT hc H; clear hc
      refine .drawn 25 hMix (by kernel_rfl) ?_
      show DOps _ _ _ _ _ _ _ (_ :: _) _ _ _
      refine .q (x := .tsl 4 (v3outl1.map Leak.row) 0) (q_move rfl) rfl ?_
      refine .q (x := .d (slOf 24 Rated.row v0rated)) (q_move rfl) rfl ?_
      refine .q (x := .d (cI v4il1)) (q_move rfl) rfl ?_
      obtain ⟨hk2, H⟩ := ck_some H
      refine .q (x := .d (.ro (Rated.row (nth v0rated (Int.toNat (v4il1)))))) (q_idxL (row := Rated.row) (l := v0rated) (i := v4il1) Try.underlying22 hi36 hs36 rfl rfl rfl hk2) rfl ?_
      refine .q (x := .d (.ro (Rated.row (nth v0rated (Int.toNat (v4il1)))))) (q_fieldRo fo_36_0 rfl) rfl ?_
      refine .q (x := .d (.ro (Rated.row (nth v0rated (Int.toNat (v4il1)))))) (q_fieldRo fo_30_0 rfl) rfl ?_
      refine .q (x := .d (cI (((nth v0rated (Int.toNat (v4il1))).usage).id))) (q_load one_3 rfl) rfl ?_
      refine .q (x := .d (slOf 24 Rated.row v0rated)) (q_move rfl) rfl ?_
      refine .q (x := .d (cI v4il1)) (q_move rfl) rfl ?_
      obtain ⟨hk3, H⟩ := ck_some H
      refine .q (x := .d (.ro (Rated.row (nth v0rated (Int.toNat (v4il1)))))) (q_idxL (row := Rated.row) (l := v0rated) (i := v4il1) Try.underlying22 hi36 hs36 rfl rfl rfl hk3) rfl ?_
      refine .q (x := .d (.ro ((Rated.row (nth v0rated (Int.toNat (v4il1)))).drop 20))) (q_fieldRo fo_36_9 rfl) rfl ?_
      refine .q (x := .d (cI ((nth v0rated (Int.toNat (v4il1))).net))) (q_load one_3 rfl) rfl ?_
      refine .q (x := .d (slOf 24 Rated.row v0rated)) (q_move rfl) rfl ?_
      refine .q (x := .d (cI v4il1)) (q_move rfl) rfl ?_
      obtain ⟨hk4, H⟩ := ck_some H
      refine .q (x := .d (.ro (Rated.row (nth v0rated (Int.toNat (v4il1)))))) (q_idxL (row := Rated.row) (l := v0rated) (i := v4il1) Try.underlying22 hi36 hs36 rfl rfl rfl hk4) rfl ?_
      refine .q (x := .d (.ro ((Rated.row (nth v0rated (Int.toNat (v4il1)))).drop 22))) (q_fieldRo fo_36_11 rfl) rfl ?_
      refine .q (x := .d (cI ((nth v0rated (Int.toNat (v4il1))).paid))) (q_load one_3 rfl) rfl ?_
      refine .q (x := .d (slOf 24 Rated.row v0rated)) (q_move rfl) rfl ?_
      refine .q (x := .d (cI v4il1)) (q_move rfl) rfl ?_
      obtain ⟨hk5, H⟩ := ck_some H
      refine .q (x := .d (.ro (Rated.row (nth v0rated (Int.toNat (v4il1)))))) (q_idxL (row := Rated.row) (l := v0rated) (i := v4il1) Try.underlying22 hi36 hs36 rfl rfl rfl hk5) rfl ?_
      refine .q (x := .d (.ro ((Rated.row (nth v0rated (Int.toNat (v4il1)))).drop 23))) (q_fieldRo fo_36_12 rfl) rfl ?_
      refine .q (x := .d (cI ((nth v0rated (Int.toNat (v4il1))).owed))) (q_load one_3 rfl) rfl ?_
      obtain ⟨hk6, H⟩ := ck_some H
      refine .q (x := .d (cI (((nth v0rated (Int.toNat (v4il1))).paid) + ((nth v0rated (Int.toNat (v4il1))).owed)))) (q_addI rfl rfl hk6.1 hk6.2) rfl ?_
      refine .q (x := .d (.agg (Leak.row (⟨4, ((nth v0rated (Int.toNat (v4il1))).usage).id, (nth v0rated (Int.toNat (v4il1))).net, ((nth v0rated (Int.toNat (v4il1))).paid) + ((nth v0rated (Int.toNat (v4il1))).owed)⟩ : Leak)))) (q_buildP pl_51 hi51 hz51 rfl rfl) rfl ?_
      refine .g (x := .d (slOf 4 Leak.row ([(⟨4, ((nth v0rated (Int.toNat (v4il1))).usage).id, (nth v0rated (Int.toNat (v4il1))).net, ((nth v0rated (Int.toNat (v4il1))).paid) + ((nth v0rated (Int.toNat (v4il1))).owed)⟩ : Leak)]))) (g_buildSlice1 Try.underlying26 hi51 hs51 hz51 rfl rfl rfl rfl rfl) rfl ?_
      refine .nil ?_
      show AOps _ _ _ _ _ _ (_ :: _) _ _ _
      obtain ⟨hk7, H⟩ := ck_some H
      refine .v (x := .tsl 4 ((v3outl1 ++ ([(⟨4, ((nth v0rated (Int.toNat (v4il1))).usage).id, (nth v0rated (Int.toNat (v4il1))).net, ((nth v0rated (Int.toNat (v4il1))).paid) + ((nth v0rated (Int.toNat (v4il1))).owed)⟩ : Leak)])).map Leak.row) 0) (v_appendL (l := v3outl1) (l' := [(⟨4, ((nth v0rated (Int.toNat (v4il1))).usage).id, (nth v0rated (Int.toNat (v4il1))).net, ((nth v0rated (Int.toNat (v4il1))).paid) + ((nth v0rated (Int.toNat (v4il1))).owed)⟩ : Leak)]) (row := Leak.row) Try.underlying26 hi51 hz51 hs51 rfl (by rw [hb51]; decide) rfl rfl rfl rfl hk7) rfl ?_
      refine .withSt (st' := ⟨[], [⟨51, 4, (v3outl1 ++ ([(⟨4, ((nth v0rated (Int.toNat (v4il1))).usage).id, (nth v0rated (Int.toNat (v4il1))).net, ((nth v0rated (Int.toNat (v4il1))).paid) + ((nth v0rated (Int.toNat (v4il1))).owed)⟩ : Leak)])).length⟩]⟩) rfl ?_
      refine .q (x := .tsl 4 ((v3outl1 ++ ([(⟨4, ((nth v0rated (Int.toNat (v4il1))).usage).id, (nth v0rated (Int.toNat (v4il1))).net, ((nth v0rated (Int.toNat (v4il1))).paid) + ((nth v0rated (Int.toNat (v4il1))).owed)⟩ : Leak)])).map Leak.row) 0) (q_assign rfl) rfl ?_
      refine .nil ?_
      refine .inBlock ?_
      refine .region ?_
      refine .q (x := .d (cI v4il1)) (q_move rfl) rfl ?_
      obtain ⟨hk8, H⟩ := ck_some H
      refine .q (x := .d (cI (v4il1 + 1))) (q_addI rfl rfl hk8.1 hk8.2) rfl ?_
      refine .q (x := .d (cI (v4il1 + 1))) (q_assign rfl) rfl ?_
      refine .nil ?_
      cases H
      exact .withSt (st' := ⟨[], [⟨51, 4, (v3outl1 ++ ([(⟨4, ((nth v0rated (Int.toNat (v4il1))).usage).id, (nth v0rated (Int.toNat (v4il1))).net, ((nth v0rated (Int.toNat (v4il1))).paid) + ((nth v0rated (Int.toNat (v4il1))).owed)⟩ : Leak)])).length⟩]⟩) rfl <| .sub (.cons rfl (.rfl' _) (.cons rfl (.rfl' _) (.cons rfl (.rfl' _) (.nil)))) (ih1 (n1, (v3outl1 ++ ([(⟨4, ((nth v0rated (Int.toNat (v4il1))).usage).id, (nth v0rated (Int.toNat (v4il1))).net, ((nth v0rated (Int.toNat (v4il1))).paid) + ((nth v0rated (Int.toNat (v4il1))).owed)⟩ : Leak)]), v4il1 + 1)) HK1 hm1)
    · replace H := ifF hc H; clear hc
      refine .skip ?_
      refine .inBlock ?_
      refine .region ?_
      refine .q (x := .d (cI v4il1)) (q_move rfl) rfl ?_
      obtain ⟨hk9, H⟩ := ck_some H
      refine .q (x := .d (cI (v4il1 + 1))) (q_addI rfl rfl hk9.1 hk9.2) rfl ?_
      refine .q (x := .d (cI (v4il1 + 1))) (q_assign rfl) rfl ?_
      refine .nil ?_
      cases H
      exact .sub (.cons rfl (.rfl' _) (.cons rfl (.rfl' _) (.cons rfl (.rfl' _) (.nil)))) (ih1 (n1, (v3outl1, v4il1 + 1)) HK1 hm1)
  · replace H := ifF hc H; clear hc
    refine .exit rfl ?_
    refine .seq ?_
    refine .region ?_
    refine .q (x := .tsl 4 (v3outl1.map Leak.row) 0) (q_move rfl) rfl ?_
    refine .q (x := .tsl 4 (v3outl1.map Leak.row) 0) (q_assign rfl) rfl ?_
    refine .nil ?_
    refine .retN [.tmp 2] [.tsl 4 (v3outl1.map Leak.row) 0] Try.func8 Try.results8 ⟨rfl, trivial⟩ ?_
    cases H
    cases HK1
    exact ⟨_, .tsl _ _ _, rfl⟩

set_option maxRecDepth 100000 in
set_option maxHeartbeats 1000000 in
theorem c_f_billinglaw54_AssureMoney {v0rated : List Rated} {r : Bool} (H : f_billinglaw54_AssureMoney v0rated = some r) : ACall Try.prog 3 [slOf 24 Rated.row v0rated] (· = cB r) := by
  obtain ⟨i36, hi36, hz36, hs36, hb36⟩ := in_36
  refine ACall.enter' Try.func3 rfl Try.ntmps3 rfl fun S hS => ?_
  unfold f_billinglaw54_AssureMoney at H
  change ARun _ _ _ _ _ _ [(0, .d (slOf 24 Rated.row v0rated))] _
  refine .seq ?_
  refine .region ?_
  refine .q (x := .d (cB false)) (q_assign rfl) rfl ?_
  refine .nil ?_
  refine .seq ?_
  refine .seq ?_
  refine .region ?_
  refine .q (x := .d (slOf 24 Rated.row v0rated)) (q_move rfl) rfl ?_
  obtain ⟨y1, hy1, H⟩ := bind_some' H
  refine .g (x := .d (cB y1)) (g_call en_4 rfl rfl (c_f_billingref54_Rated (hy1))) rfl ?_
  refine .q (x := .d (cB (!y1))) (q_not rfl) rfl ?_
  refine .nil ?_
  refine .cond rfl (fun hc => ?_) (fun hc => ?_)
  · replace H := ifT hc H; clear hc
    refine .seq ?_
    refine .region ?_
    obtain ⟨y2, hy2, H⟩ := bind_some' H
    refine .g (x := .d (cB y2)) (g_call en_5 rfl rfl (c_x_awake (hy2))) rfl ?_
    refine .q (x := .d (cB y2)) (q_assign rfl) rfl ?_
    refine .nil ?_
    refine .retN [.tmp 2] [.d (cB y2)] Try.func3 Try.results3 ⟨rfl, trivial⟩ ?_
    cases H
    exact ⟨_, .rfl' _, rfl⟩
  · replace H := ifF hc H; clear hc
    refine .skip ?_
    refine .seq ?_
    refine .region ?_
    refine .g (x := .d (.e0 24)) ((hs36 ▸ g_buildSlice0 Try.underlying22 hi36)) rfl ?_
    refine .q (x := .d (slOf 24 Rated.row v0rated)) (q_move rfl) rfl ?_
    obtain ⟨hk1, H⟩ := ck_some H
    refine .g (x := .d (slOf 24 Rated.row v0rated)) (g_append0L (l' := v0rated) (row := Rated.row) Try.underlying22 hi36 hz36 hs36 rfl (by rw [hb36]; decide) rfl (.inl rfl) rfl rfl hk1) rfl ?_
    obtain ⟨y3, hy3, H⟩ := bind_some' H
    refine .g (x := .d (slOf 4 Leak.row y3)) (g_call en_7 rfl rfl (c_f_assure_Money (hy3))) rfl ?_
    refine .q (x := .d (slOf 24 Rated.row v0rated)) (q_move rfl) rfl ?_
    obtain ⟨y4, hy4, H⟩ := bind_some' H
    refine .g (x := .d (slOf 4 Leak.row y4)) (g_call en_8 rfl rfl (c_f_billingref54_Money (hy4))) rfl ?_
    obtain ⟨y5, hy5, H⟩ := bind_some' H
    refine .g (x := .d (cB y5)) (g_call en_6 rfl rfl (c_x_Same (hy5))) rfl ?_
    refine .q (x := .d (cB y5)) (q_move rfl) rfl ?_
    obtain ⟨y6, hy6, H⟩ := bind_some' H
    refine .guardG (b := y5) (x := .d (cB y6)) (env' := []) rfl rfl rfl trivial rfl (fun hg => (g_call en_5 rfl rfl (c_x_awake (gcall_some hy6 hg)))) ?_
    refine .q (x := .d (cB (y5 && y6))) (q_pickAndB rfl rfl rfl) rfl ?_
    refine .q (x := .d (cB (y5 && y6))) (q_assign rfl) rfl ?_
    refine .nil ?_
    refine .retN [.tmp 2] [.d (cB (y5 && y6))] Try.func3 Try.results3 ⟨rfl, trivial⟩ ?_
    cases H
    exact ⟨_, .rfl' _, rfl⟩

end Go.Proofs.Ytpdanklncjopoab.L
