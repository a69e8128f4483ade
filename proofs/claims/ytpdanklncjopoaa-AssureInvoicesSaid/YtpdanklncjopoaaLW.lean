import Derived.Test.YtpdanklncjopoaaLTys
import Derived.Test.YtpdanklncjopoaaLF
import Derived.Test.YtpdanklncjopoaaW9
set_option linter.unusedSimpArgs false
set_option linter.unusedVariables false
namespace Go.Proofs.Ytpdanklncjopoaa.L
open Go.RowKit Go.Abs
theorem c_x_Usages {us : List Usage} {rs : List Rated} {r : List Leak} (H : x_Usages us rs = some r) : ACall Try.prog 19 [slOf 12 Usage.row us, slOf 24 Rated.row rs] (· = slOf 4 Leak.row r) := by
  obtain ⟨h, H⟩ := ck_some H; cases H; exact c_Usages us rs h.1 h.2
theorem c_x_rUsages {us : List Usage} {rs : List Rated} {r : List Leak} (H : x_rUsages us rs = some r) : ACall Try.prog 20 [slOf 12 Usage.row us, slOf 24 Rated.row rs] (· = slOf 4 Leak.row r) := by
  obtain ⟨h, H⟩ := ck_some H; cases H; exact c_rUsages us rs h.1 h.2
theorem c_x_Invoices {rs : List Rated} {ls : List Line} {r : List Leak} (H : x_Invoices rs ls = some r) : ACall Try.prog 21 [slOf 24 Rated.row rs, slOf 8 Line.row ls] (· = slOf 4 Leak.row r) := by
  obtain ⟨h, H⟩ := ck_some H; cases H; exact c_Invoices rs ls h.1 h.2
theorem c_x_rInvoices {rs : List Rated} {ls : List Line} {r : List Leak} (H : x_rInvoices rs ls = some r) : ACall Try.prog 22 [slOf 24 Rated.row rs, slOf 8 Line.row ls] (· = slOf 4 Leak.row r) := by
  obtain ⟨h, H⟩ := ck_some H; cases H; exact c_rInvoices rs ls h.1 h.2
theorem c_x_Same {a b : List Leak} {r : Bool} (H : x_Same a b = some r) : ACall Try.prog 13 [slOf 4 Leak.row a, slOf 4 Leak.row b] (· = cB r) := by
  obtain ⟨h, H⟩ := ck_some H; cases H; exact c_Same a b h.1 h.2
theorem c_x_awake {r : Bool} (H : x_awake = some r) : ACall Try.prog 10 [] (· = cB r) := by
  cases H; exact c_awake
set_option maxRecDepth 100000 in
set_option maxHeartbeats 1000000 in
theorem c_f_billinglaw54_usages {v0list : List Usage} {r : Bool} (H : f_billinglaw54_usages v0list = some r) : ACall Try.prog 17 [slOf 12 Usage.row v0list] (· = cB r) := by
  obtain ⟨i52, hi52, hz52, hs52, hb52⟩ := in_52
  refine ACall.enter' Try.func17 rfl Try.ntmps17 rfl fun S hS => ?_
  unfold f_billinglaw54_usages at H
  change ARun _ _ _ _ _ _ [(0, .d (slOf 12 Usage.row v0list))] _
  refine .seq ?_
  refine .region ?_
  refine .q (x := .d (cB false)) (q_assign rfl) rfl ?_
  refine .nil ?_
  refine .seq ?_
  refine .seq ?_
  refine .region ?_
  refine .q (x := .d (cI 0)) (q_assign rfl) rfl ?_
  refine .nil ?_
  refine .blockJoin2 (ι := Unit) (fun s => [(0, .d (slOf 12 Usage.row v0list))]) (fun s => ⟨[], []⟩) (fun s => f_billinglaw54_usages_j1 v0list = some r) ?_ ?_
  · rintro _ H
    replace H : f_billinglaw54_usages_j1 v0list = some r := H
    unfold f_billinglaw54_usages_j1 at H
    change ARun _ _ _ _ _ _ [(0, .d (slOf 12 Usage.row v0list))] ⟨[], []⟩
    refine .seq ?_
    refine .region ?_
    refine .q (x := .d (slOf 12 Usage.row v0list)) (q_move rfl) rfl ?_
    refine .q (x := .d (cI (v0list.length : Int))) (q_lenL (l := v0list) (row := Usage.row) Try.underlying31 rfl rfl) rfl ?_
    refine .q (x := .d (cB (decide ((v0list.length : Int) ≤ 24)))) (q_leq rfl rfl) rfl ?_
    refine .q (x := .d (cB (decide ((v0list.length : Int) ≤ 24)))) (q_assign rfl) rfl ?_
    refine .nil ?_
    refine .retN [.tmp 2] [.d (cB (decide ((v0list.length : Int) ≤ 24)))] Try.func17 Try.results17 ⟨rfl, trivial⟩ ?_
    cases H
    exact ⟨_, .rfl' _, rfl⟩
  · intro hj1 hj1x
    obtain ⟨n1, H⟩ := loop_some H
    refine .loop (ι := Nat × (Int)) (fun p => [(0, .d (slOf 12 Usage.row v0list)), (3, .d (cI p.2))]) (fun p => ⟨[], []⟩) (fun p => iter (fun s => f_billinglaw54_usages_l1 v0list s) p.1 p.2 = some r) (·.1) (n1, 0) H (.cons rfl (.rfl' _) (.cons rfl (.rfl' _) (.nil))) rfl ?_
    rintro ⟨m1, v3il1⟩ HI ih1
    obtain ⟨n1, q1, hm1, H, HK1⟩ := iter_succ HI
    clear HI
    replace H : f_billinglaw54_usages_l1 v0list v3il1 = some q1 := H
    unfold f_billinglaw54_usages_l1 at H
    change ARun _ _ _ _ _ _ [(0, .d (slOf 12 Usage.row v0list)), (3, .d (cI v3il1))] ⟨[], []⟩
    refine .seq ?_
    refine .seq ?_
    refine .region ?_
    refine .q (x := .d (cI v3il1)) (q_move rfl) rfl ?_
    refine .q (x := .d (slOf 12 Usage.row v0list)) (q_move rfl) rfl ?_
    refine .q (x := .d (cI (v0list.length : Int))) (q_lenL (l := v0list) (row := Usage.row) Try.underlying31 rfl rfl) rfl ?_
    refine .q (x := .d (cB (decide (v3il1 < (v0list.length : Int))))) (q_lss rfl rfl) rfl ?_
    refine .q (x := .d (cB (decide (v3il1 < (v0list.length : Int))))) (q_move rfl) rfl ?_
    refine .guardG (b := decide (v3il1 < (v0list.length : Int))) (x := .d (cI v3il1)) (env' := [(3, _)]) rfl rfl rfl ⟨.inl rfl, trivial⟩ rfl (fun hg => OpQ.g (q_move rfl)) ?_
    refine .guardG (b := decide (v3il1 < (v0list.length : Int))) (x := .d (cB (decide (v3il1 ≤ 24)))) (env' := [(9, _)]) rfl rfl rfl ⟨.inr (.inl rfl), trivial⟩ rfl (fun hg => OpQ.g (q_leq rfl rfl)) ?_
    refine .q (x := .d (cB ((decide (v3il1 < (v0list.length : Int))) && (decide (v3il1 ≤ 24))))) (q_pickAndB rfl rfl rfl) rfl ?_
    refine .nil ?_
    refine .cond rfl (fun hc => ?_) (fun hc => ?_)
    · replace H := ifT hc H; clear hc
      refine .skip ?_
      refine .seq ?_
      refine .block ?_
      refine .seq ?_
      refine .region ?_
      refine .q (x := .d (slOf 12 Usage.row v0list)) (q_move rfl) rfl ?_
      refine .q (x := .d (cI v3il1)) (q_move rfl) rfl ?_
      obtain ⟨hk1, H⟩ := ck_some H
      refine .q (x := .d (.ro (Usage.row (nth v0list (Int.toNat (v3il1)))))) (q_idxL (row := Usage.row) (l := v0list) (i := v3il1) Try.underlying31 hi52 hs52 rfl rfl rfl hk1) rfl ?_
      refine .q (x := .d (.ro ((Usage.row (nth v0list (Int.toNat (v3il1)))).drop 7))) (q_fieldRo fo_52_7 rfl) rfl ?_
      refine .q (x := .d (cI ((nth v0list (Int.toNat (v3il1))).units))) (q_load one_3 rfl) rfl ?_
      refine .q (x := .d (cB (decide (((nth v0list (Int.toNat (v3il1))).units) < 0)))) (q_lss rfl rfl) rfl ?_
      refine .q (x := .d (cB (decide (((nth v0list (Int.toNat (v3il1))).units) < 0)))) (q_move rfl) rfl ?_
      refine .guardG (b := (!(decide (((nth v0list (Int.toNat (v3il1))).units) < 0)))) (x := .d (slOf 12 Usage.row v0list)) (env' := [(0, _)]) rfl rfl rfl ⟨.inl rfl, trivial⟩ rfl (fun hg => OpQ.g (q_move rfl)) ?_
      refine .guardG (b := (!(decide (((nth v0list (Int.toNat (v3il1))).units) < 0)))) (x := .d (cI v3il1)) (env' := [(3, _)]) rfl rfl rfl ⟨.inl rfl, trivial⟩ rfl (fun hg => OpQ.g (q_move rfl)) ?_
      obtain ⟨hk2, H⟩ := ck_some H
      refine .guardG (b := (!(decide (((nth v0list (Int.toNat (v3il1))).units) < 0)))) (x := .d (.ro (Usage.row (nth v0list (Int.toNat (v3il1)))))) (env' := [(21, _), (22, _)]) rfl rfl rfl ⟨.inr (.inl rfl), ⟨.inr (.inl rfl), trivial⟩⟩ rfl (fun hg => OpQ.g (q_idxL (row := Usage.row) (l := v0list) (i := v3il1) Try.underlying31 hi52 hs52 rfl rfl rfl (hk2 hg))) ?_
      refine .guardG (b := (!(decide (((nth v0list (Int.toNat (v3il1))).units) < 0)))) (x := .d (.ro ((Usage.row (nth v0list (Int.toNat (v3il1)))).drop 7))) (env' := [(23, _)]) rfl rfl rfl ⟨.inr (.inl rfl), trivial⟩ rfl (fun hg => OpQ.g (q_fieldRo fo_52_7 rfl)) ?_
      refine .guardG (b := (!(decide (((nth v0list (Int.toNat (v3il1))).units) < 0)))) (x := .d (cI ((nth v0list (Int.toNat (v3il1))).units))) (env' := [(24, _)]) rfl rfl rfl ⟨.inr (.inl rfl), trivial⟩ rfl (fun hg => OpQ.g (q_load one_3 rfl)) ?_
      refine .guardG (b := (!(decide (((nth v0list (Int.toNat (v3il1))).units) < 0)))) (x := .d (cB (decide (((nth v0list (Int.toNat (v3il1))).units) > 1099511627776)))) (env' := [(25, _)]) rfl rfl rfl ⟨.inr (.inl rfl), trivial⟩ rfl (fun hg => OpQ.g (q_gtr rfl rfl)) ?_
      refine .q (x := .d (cB ((decide (((nth v0list (Int.toNat (v3il1))).units) < 0)) || (decide (((nth v0list (Int.toNat (v3il1))).units) > 1099511627776))))) (q_pickOrB rfl rfl rfl) rfl ?_
      refine .nil ?_
      refine .cond rfl (fun hc => ?_) (fun hc => ?_)
      · replace H := ifT hc H; clear hc
        refine .seq ?_
        refine .region ?_
        refine .q (x := .d (cB false)) (q_assign rfl) rfl ?_
        refine .nil ?_
        refine .retN [.tmp 2] [.d (cB false)] Try.func17 Try.results17 ⟨rfl, trivial⟩ ?_
        cases H
        cases HK1
        exact ⟨_, .rfl' _, rfl⟩
      · replace H := ifF hc H; clear hc
        refine .skip ?_
        refine .inBlock ?_
        refine .region ?_
        refine .q (x := .d (cI v3il1)) (q_move rfl) rfl ?_
        obtain ⟨hk3, H⟩ := ck_some H
        refine .q (x := .d (cI (v3il1 + 1))) (q_addI rfl rfl hk3.1 hk3.2) rfl ?_
        refine .q (x := .d (cI (v3il1 + 1))) (q_assign rfl) rfl ?_
        refine .nil ?_
        cases H
        exact .sub (.cons rfl (.rfl' _) (.cons rfl (.rfl' _) (.nil))) (ih1 (n1, v3il1 + 1) HK1 hm1)
    · replace H := ifF hc H; clear hc
      refine .exit rfl ?_
      obtain ⟨q0, H9, hq0⟩ := map_some' H; clear H; cases hq0
      cases HK1
      have H := H9
      exact .sub (.cons rfl (.rfl' _) (.nil)) (hj1x () H)

set_option maxRecDepth 100000 in
set_option maxHeartbeats 1000000 in
theorem c_f_billingref01_Valid {v0a : Int} {r : Bool} (H : f_billingref01_Valid v0a = some r) : ACall Try.prog 50 [cI v0a] (· = cB r) := by
  refine ACall.enter' Try.func50 rfl Try.ntmps50 rfl fun S hS => ?_
  unfold f_billingref01_Valid at H
  change ARun _ _ _ _ _ _ [(0, .d (cI v0a))] _
  refine .seq ?_
  refine .region ?_
  refine .q (x := .d (cB false)) (q_assign rfl) rfl ?_
  refine .nil ?_
  refine .seq ?_
  refine .region ?_
  refine .q (x := .d (cI v0a)) (q_move rfl) rfl ?_
  refine .q (x := .d (cB (decide (v0a ≥ (-1125899906842624))))) (q_geq rfl rfl) rfl ?_
  refine .q (x := .d (cB (decide (v0a ≥ (-1125899906842624))))) (q_move rfl) rfl ?_
  refine .guardG (b := decide (v0a ≥ (-1125899906842624))) (x := .d (cI v0a)) (env' := [(0, _)]) rfl rfl rfl ⟨.inl rfl, trivial⟩ rfl (fun hg => OpQ.g (q_move rfl)) ?_
  refine .guardG (b := decide (v0a ≥ (-1125899906842624))) (x := .d (cB (decide (v0a ≤ 1125899906842624)))) (env' := [(6, _)]) rfl rfl rfl ⟨.inr (.inl rfl), trivial⟩ rfl (fun hg => OpQ.g (q_leq rfl rfl)) ?_
  refine .q (x := .d (cB ((decide (v0a ≥ (-1125899906842624))) && (decide (v0a ≤ 1125899906842624))))) (q_pickAndB rfl rfl rfl) rfl ?_
  refine .q (x := .d (cB ((decide (v0a ≥ (-1125899906842624))) && (decide (v0a ≤ 1125899906842624))))) (q_assign rfl) rfl ?_
  refine .nil ?_
  refine .retN [.tmp 2] [.d (cB ((decide (v0a ≥ (-1125899906842624))) && (decide (v0a ≤ 1125899906842624))))] Try.func50 Try.results50 ⟨rfl, trivial⟩ ?_
  cases H
  exact ⟨_, .rfl' _, rfl⟩

set_option maxRecDepth 100000 in
set_option maxHeartbeats 1000000 in
theorem c_f_billingref54_amount {v0n : Int} {r : Bool} (H : f_billingref54_amount v0n = some r) : ACall Try.prog 33 [cI v0n] (· = cB r) := by
  refine ACall.enter' Try.func33 rfl Try.ntmps33 rfl fun S hS => ?_
  unfold f_billingref54_amount at H
  change ARun _ _ _ _ _ _ [(0, .d (cI v0n))] _
  refine .seq ?_
  refine .region ?_
  refine .q (x := .d (cB false)) (q_assign rfl) rfl ?_
  refine .nil ?_
  refine .seq ?_
  refine .region ?_
  refine .q (x := .d (cI v0n)) (q_move rfl) rfl ?_
  obtain ⟨y1, hy1, H⟩ := bind_some' H
  refine .g (x := .d (cB y1)) (g_call en_50 rfl rfl (c_f_billingref01_Valid (hy1))) rfl ?_
  refine .q (x := .d (cB y1)) (q_assign rfl) rfl ?_
  refine .nil ?_
  refine .retN [.tmp 2] [.d (cB y1)] Try.func33 Try.results33 ⟨rfl, trivial⟩ ?_
  cases H
  exact ⟨_, .rfl' _, rfl⟩

set_option maxRecDepth 100000 in
set_option maxHeartbeats 1000000 in
theorem c_f_billingref54_Rated {v0 : List Rated} {v1 : Int} {r : Bool} (H : f_billingref54_Rated v0 v1 = some r) : ACall Try.prog 18 [slOf 24 Rated.row v0, cI v1] (· = cB r) := by
  obtain ⟨i58, hi58, hz58, hs58, hb58⟩ := in_58
  obtain ⟨i95, hi95, hz95, hs95, hb95⟩ := in_95
  obtain ⟨i97, hi97, hz97, hs97, hb97⟩ := in_97
  obtain ⟨i99, hi99, hz99, hs99, hb99⟩ := in_99
  refine ACall.enter' Try.func18 rfl Try.ntmps18 rfl fun S hS => ?_
  unfold f_billingref54_Rated at H
  change ARun _ _ _ _ _ _ [(0, .d (slOf 24 Rated.row v0)), (1, .d (cI v1))] _
  refine .seq ?_
  refine .region ?_
  refine .q (x := .d (cB false)) (q_assign rfl) rfl ?_
  refine .nil ?_
  refine .seq ?_
  refine .seq ?_
  refine .region ?_
  refine .q (x := .d (slOf 24 Rated.row v0)) (q_move rfl) rfl ?_
  refine .q (x := .d (cI (v0.length : Int))) (q_lenL (l := v0) (row := Rated.row) Try.underlying46 rfl rfl) rfl ?_
  refine .q (x := .d (cI v1)) (q_move rfl) rfl ?_
  refine .q (x := .d (cB (decide ((v0.length : Int) > v1)))) (q_gtr rfl rfl) rfl ?_
  refine .nil ?_
  refine .cond rfl (fun hc => ?_) (fun hc => ?_)
  · replace H := ifT hc H; clear hc
    refine .seq ?_
    refine .region ?_
    refine .q (x := .d (cB false)) (q_assign rfl) rfl ?_
    refine .nil ?_
    refine .retN [.tmp 4] [.d (cB false)] Try.func18 Try.results18 ⟨rfl, trivial⟩ ?_
    cases H
    exact ⟨_, .rfl' _, rfl⟩
  · replace H := ifF hc H; clear hc
    refine .skip ?_
    refine .seq ?_
    refine .seq ?_
    refine .region ?_
    refine .q (x := .d (cI 0)) (q_assign rfl) rfl ?_
    refine .nil ?_
    refine .block ?_
    obtain ⟨n1, H⟩ := loop_some H
    refine .loop (ι := Nat × (Int)) (fun p => [(0, .d (slOf 24 Rated.row v0)), (1, .d (cI v1)), (5, .d (cI p.2))]) (fun p => ⟨[], []⟩) (fun p => iter (fun s => f_billingref54_Rated_l1 v0 v1 s) p.1 p.2 = some r) (·.1) (n1, 0) H (.cons rfl (.rfl' _) (.cons rfl (.rfl' _) (.cons rfl (.rfl' _) (.nil)))) rfl ?_
    rintro ⟨m1, v5l1⟩ HI ih1
    obtain ⟨n1, q1, hm1, H, HK1⟩ := iter_succ HI
    clear HI
    replace H : f_billingref54_Rated_l1 v0 v1 v5l1 = some q1 := H
    unfold f_billingref54_Rated_l1 at H
    change ARun _ _ _ _ _ _ [(0, .d (slOf 24 Rated.row v0)), (1, .d (cI v1)), (5, .d (cI v5l1))] ⟨[], []⟩
    refine .seq ?_
    refine .seq ?_
    refine .region ?_
    refine .q (x := .d (cI v5l1)) (q_move rfl) rfl ?_
    refine .q (x := .d (slOf 24 Rated.row v0)) (q_move rfl) rfl ?_
    refine .q (x := .d (cI (v0.length : Int))) (q_lenL (l := v0) (row := Rated.row) Try.underlying46 rfl rfl) rfl ?_
    refine .q (x := .d (cB (decide (v5l1 < (v0.length : Int))))) (q_lss rfl rfl) rfl ?_
    refine .nil ?_
    refine .cond rfl (fun hc => ?_) (fun hc => ?_)
    · replace H := ifT hc H; clear hc
      refine .skip ?_
      refine .seq ?_
      refine .block ?_
      refine .seq ?_
      refine .region ?_
      refine .q (x := .d (slOf 24 Rated.row v0)) (q_move rfl) rfl ?_
      refine .q (x := .d (cI v5l1)) (q_move rfl) rfl ?_
      obtain ⟨hk1, H⟩ := ck_some H
      refine .q (x := .d (.ro (Rated.row (nth v0 (Int.toNat (v5l1)))))) (q_idxL (row := Rated.row) (l := v0) (i := v5l1) Try.underlying46 hi58 hs58 rfl rfl rfl hk1) rfl ?_
      refine .q (x := .d (.agg (Rated.row (nth v0 (Int.toNat (v5l1)))))) (q_loadAll one_58 sz_58 rfl rfl) rfl ?_
      refine .v (x := .ref 0 0) (v_alloc zr_58 rfl) rfl ?_
      refine .withSt (st' := ⟨[.row 58 [.d (cI 0), .d (cI 0), .d (cI 0), .d (cI 0), .d (cS ([] : List UInt8)), .d (cS ([] : List UInt8)), .d (cI 0), .d (cI 0), .d (cI 0), .d (cB false), .d (cI 0), .d (cI 0), .d (cI 0), .d (cS ([] : List UInt8)), .d (cI 0), .d (cS ([] : List UInt8)), .d (nilD), .d (nilD), .d (cI 0), .d (cI 0), .d (cI 0), .d (nilD), .d (cI 0), .d (cI 0)]], []⟩) rfl ?_
      refine .u (u_store rfl rfl rfl rfl (Nat.le_of_ble_eq_true rfl) sz_58) rfl ?_
      refine .withSt (st' := ⟨[.row 58 [.d (cI (((nth v0 (Int.toNat (v5l1))).usage).id)), .d (cI (((nth v0 (Int.toNat (v5l1))).usage).kind)), .d (cI (((nth v0 (Int.toNat (v5l1))).usage).account)), .d (cI (((nth v0 (Int.toNat (v5l1))).usage).sub)), .d (cS (((nth v0 (Int.toNat (v5l1))).usage).a)), .d (cS (((nth v0 (Int.toNat (v5l1))).usage).b)), .d (cI (((nth v0 (Int.toNat (v5l1))).usage).start)), .d (cI (((nth v0 (Int.toNat (v5l1))).usage).units)), .d (cI (((nth v0 (Int.toNat (v5l1))).usage).trunk)), .d (cB (((nth v0 (Int.toNat (v5l1))).usage).inbound)), .d (cI (((nth v0 (Int.toNat (v5l1))).usage).source)), .d (cI (((nth v0 (Int.toNat (v5l1))).usage).serial)), .d (cI ((nth v0 (Int.toNat (v5l1))).err)), .d (cS ((nth v0 (Int.toNat (v5l1))).plan)), .d (cI ((nth v0 (Int.toNat (v5l1))).version)), .d (cS ((nth v0 (Int.toNat (v5l1))).zone)), .d (slOf 5 Take.row ((nth v0 (Int.toNat (v5l1))).takes)), .d (slOf 4 Segment.row ((nth v0 (Int.toNat (v5l1))).segments)), .d (cI ((nth v0 (Int.toNat (v5l1))).setup)), .d (cI ((nth v0 (Int.toNat (v5l1))).gross)), .d (cI ((nth v0 (Int.toNat (v5l1))).net)), .d (slOf 2 Given.row ((nth v0 (Int.toNat (v5l1))).given)), .d (cI ((nth v0 (Int.toNat (v5l1))).paid)), .d (cI ((nth v0 (Int.toNat (v5l1))).owed))]], []⟩) rfl ?_
      refine .nil ?_
      refine .seq ?_
      refine .seq ?_
      refine .region ?_
      refine .q (x := .ref 0 16) (q_fieldRef fo_58_5 rfl) rfl ?_
      refine .q (x := .d (slOf 5 Take.row ((nth v0 (Int.toNat (v5l1))).takes))) (q_loadO one_54 rfl rfl rfl) rfl ?_
      refine .q (x := .d (cI (((nth v0 (Int.toNat (v5l1))).takes).length : Int))) (q_lenL (l := (nth v0 (Int.toNat (v5l1))).takes) (row := Take.row) Try.underlying54 rfl rfl) rfl ?_
      refine .q (x := .d (cI v1)) (q_move rfl) rfl ?_
      refine .q (x := .d (cB (decide ((((nth v0 (Int.toNat (v5l1))).takes).length : Int) > v1)))) (q_gtr rfl rfl) rfl ?_
      refine .q (x := .d (cB (decide ((((nth v0 (Int.toNat (v5l1))).takes).length : Int) > v1)))) (q_move rfl) rfl ?_
      refine .guardG (b := (!(decide ((((nth v0 (Int.toNat (v5l1))).takes).length : Int) > v1)))) (x := .ref 0 17) (env' := [(6, _)]) rfl rfl rfl ⟨.inl rfl, trivial⟩ rfl (fun hg => OpQ.g (q_fieldRef fo_58_6 rfl)) ?_
      refine .guardG (b := (!(decide ((((nth v0 (Int.toNat (v5l1))).takes).length : Int) > v1)))) (x := .d (slOf 4 Segment.row ((nth v0 (Int.toNat (v5l1))).segments))) (env' := [(30, _)]) rfl rfl rfl ⟨.inr (.inl rfl), trivial⟩ rfl (fun hg => OpQ.g (q_loadO one_55 rfl rfl rfl)) ?_
      refine .guardG (b := (!(decide ((((nth v0 (Int.toNat (v5l1))).takes).length : Int) > v1)))) (x := .d (cI (((nth v0 (Int.toNat (v5l1))).segments).length : Int))) (env' := [(31, _)]) rfl rfl rfl ⟨.inr (.inl rfl), trivial⟩ rfl (fun hg => OpQ.g (q_lenL (l := (nth v0 (Int.toNat (v5l1))).segments) (row := Segment.row) Try.underlying55 rfl rfl)) ?_
      refine .guardG (b := (!(decide ((((nth v0 (Int.toNat (v5l1))).takes).length : Int) > v1)))) (x := .d (cI v1)) (env' := [(1, _)]) rfl rfl rfl ⟨.inl rfl, trivial⟩ rfl (fun hg => OpQ.g (q_move rfl)) ?_
      refine .guardG (b := (!(decide ((((nth v0 (Int.toNat (v5l1))).takes).length : Int) > v1)))) (x := .d (cB (decide ((((nth v0 (Int.toNat (v5l1))).segments).length : Int) > v1)))) (env' := [(32, _), (33, _)]) rfl rfl rfl ⟨.inr (.inl rfl), ⟨.inr (.inl rfl), trivial⟩⟩ rfl (fun hg => OpQ.g (q_gtr rfl rfl)) ?_
      refine .q (x := .d (cB ((decide ((((nth v0 (Int.toNat (v5l1))).takes).length : Int) > v1)) || (decide ((((nth v0 (Int.toNat (v5l1))).segments).length : Int) > v1))))) (q_pickOrB rfl rfl rfl) rfl ?_
      refine .q (x := .d (cB ((decide ((((nth v0 (Int.toNat (v5l1))).takes).length : Int) > v1)) || (decide ((((nth v0 (Int.toNat (v5l1))).segments).length : Int) > v1))))) (q_move rfl) rfl ?_
      refine .guardG (b := (!((decide ((((nth v0 (Int.toNat (v5l1))).takes).length : Int) > v1)) || (decide ((((nth v0 (Int.toNat (v5l1))).segments).length : Int) > v1))))) (x := .ref 0 21) (env' := [(6, _)]) rfl rfl rfl ⟨.inl rfl, trivial⟩ rfl (fun hg => OpQ.g (q_fieldRef fo_58_10 rfl)) ?_
      refine .guardG (b := (!((decide ((((nth v0 (Int.toNat (v5l1))).takes).length : Int) > v1)) || (decide ((((nth v0 (Int.toNat (v5l1))).segments).length : Int) > v1))))) (x := .d (slOf 2 Given.row ((nth v0 (Int.toNat (v5l1))).given))) (env' := [(37, _)]) rfl rfl rfl ⟨.inr (.inl rfl), trivial⟩ rfl (fun hg => OpQ.g (q_loadO one_56 rfl rfl rfl)) ?_
      refine .guardG (b := (!((decide ((((nth v0 (Int.toNat (v5l1))).takes).length : Int) > v1)) || (decide ((((nth v0 (Int.toNat (v5l1))).segments).length : Int) > v1))))) (x := .d (cI (((nth v0 (Int.toNat (v5l1))).given).length : Int))) (env' := [(38, _)]) rfl rfl rfl ⟨.inr (.inl rfl), trivial⟩ rfl (fun hg => OpQ.g (q_lenL (l := (nth v0 (Int.toNat (v5l1))).given) (row := Given.row) Try.underlying56 rfl rfl)) ?_
      refine .guardG (b := (!((decide ((((nth v0 (Int.toNat (v5l1))).takes).length : Int) > v1)) || (decide ((((nth v0 (Int.toNat (v5l1))).segments).length : Int) > v1))))) (x := .d (cI v1)) (env' := [(1, _)]) rfl rfl rfl ⟨.inl rfl, trivial⟩ rfl (fun hg => OpQ.g (q_move rfl)) ?_
      refine .guardG (b := (!((decide ((((nth v0 (Int.toNat (v5l1))).takes).length : Int) > v1)) || (decide ((((nth v0 (Int.toNat (v5l1))).segments).length : Int) > v1))))) (x := .d (cB (decide ((((nth v0 (Int.toNat (v5l1))).given).length : Int) > v1)))) (env' := [(39, _), (40, _)]) rfl rfl rfl ⟨.inr (.inl rfl), ⟨.inr (.inl rfl), trivial⟩⟩ rfl (fun hg => OpQ.g (q_gtr rfl rfl)) ?_
      refine .q (x := .d (cB (((decide ((((nth v0 (Int.toNat (v5l1))).takes).length : Int) > v1)) || (decide ((((nth v0 (Int.toNat (v5l1))).segments).length : Int) > v1))) || (decide ((((nth v0 (Int.toNat (v5l1))).given).length : Int) > v1))))) (q_pickOrB rfl rfl rfl) rfl ?_
      refine .q (x := .d (cB (((decide ((((nth v0 (Int.toNat (v5l1))).takes).length : Int) > v1)) || (decide ((((nth v0 (Int.toNat (v5l1))).segments).length : Int) > v1))) || (decide ((((nth v0 (Int.toNat (v5l1))).given).length : Int) > v1))))) (q_move rfl) rfl ?_
      refine .guardG (b := (!(((decide ((((nth v0 (Int.toNat (v5l1))).takes).length : Int) > v1)) || (decide ((((nth v0 (Int.toNat (v5l1))).segments).length : Int) > v1))) || (decide ((((nth v0 (Int.toNat (v5l1))).given).length : Int) > v1))))) (x := .ref 0 20) (env' := [(6, _)]) rfl rfl rfl ⟨.inl rfl, trivial⟩ rfl (fun hg => OpQ.g (q_fieldRef fo_58_9 rfl)) ?_
      refine .guardG (b := (!(((decide ((((nth v0 (Int.toNat (v5l1))).takes).length : Int) > v1)) || (decide ((((nth v0 (Int.toNat (v5l1))).segments).length : Int) > v1))) || (decide ((((nth v0 (Int.toNat (v5l1))).given).length : Int) > v1))))) (x := .d (cI ((nth v0 (Int.toNat (v5l1))).net))) (env' := [(44, _)]) rfl rfl rfl ⟨.inr (.inl rfl), trivial⟩ rfl (fun hg => OpQ.g (q_loadO one_3 rfl rfl rfl)) ?_
      obtain ⟨y1, hy1, H⟩ := bind_some' H
      refine .guardG (b := (!(((decide ((((nth v0 (Int.toNat (v5l1))).takes).length : Int) > v1)) || (decide ((((nth v0 (Int.toNat (v5l1))).segments).length : Int) > v1))) || (decide ((((nth v0 (Int.toNat (v5l1))).given).length : Int) > v1))))) (x := .d (cB y1)) (env' := [(45, _)]) rfl rfl rfl ⟨.inr (.inl rfl), trivial⟩ rfl (fun hg => (g_call en_33 rfl rfl (c_f_billingref54_amount (gcall_some hy1 hg)))) ?_
      refine .guardG (b := (!(((decide ((((nth v0 (Int.toNat (v5l1))).takes).length : Int) > v1)) || (decide ((((nth v0 (Int.toNat (v5l1))).segments).length : Int) > v1))) || (decide ((((nth v0 (Int.toNat (v5l1))).given).length : Int) > v1))))) (x := .d (cB (!y1))) (env' := [(46, _)]) rfl rfl rfl ⟨.inr (.inl rfl), trivial⟩ rfl (fun hg => OpQ.g (q_not rfl)) ?_
      refine .q (x := .d (cB ((((decide ((((nth v0 (Int.toNat (v5l1))).takes).length : Int) > v1)) || (decide ((((nth v0 (Int.toNat (v5l1))).segments).length : Int) > v1))) || (decide ((((nth v0 (Int.toNat (v5l1))).given).length : Int) > v1))) || (!y1)))) (q_pickOrB rfl rfl rfl) rfl ?_
      refine .q (x := .d (cB ((((decide ((((nth v0 (Int.toNat (v5l1))).takes).length : Int) > v1)) || (decide ((((nth v0 (Int.toNat (v5l1))).segments).length : Int) > v1))) || (decide ((((nth v0 (Int.toNat (v5l1))).given).length : Int) > v1))) || (!y1)))) (q_move rfl) rfl ?_
      refine .guardG (b := (!((((decide ((((nth v0 (Int.toNat (v5l1))).takes).length : Int) > v1)) || (decide ((((nth v0 (Int.toNat (v5l1))).segments).length : Int) > v1))) || (decide ((((nth v0 (Int.toNat (v5l1))).given).length : Int) > v1))) || (!y1)))) (x := .ref 0 22) (env' := [(6, _)]) rfl rfl rfl ⟨.inl rfl, trivial⟩ rfl (fun hg => OpQ.g (q_fieldRef fo_58_11 rfl)) ?_
      refine .guardG (b := (!((((decide ((((nth v0 (Int.toNat (v5l1))).takes).length : Int) > v1)) || (decide ((((nth v0 (Int.toNat (v5l1))).segments).length : Int) > v1))) || (decide ((((nth v0 (Int.toNat (v5l1))).given).length : Int) > v1))) || (!y1)))) (x := .d (cI ((nth v0 (Int.toNat (v5l1))).paid))) (env' := [(50, _)]) rfl rfl rfl ⟨.inr (.inl rfl), trivial⟩ rfl (fun hg => OpQ.g (q_loadO one_3 rfl rfl rfl)) ?_
      obtain ⟨y2, hy2, H⟩ := bind_some' H
      refine .guardG (b := (!((((decide ((((nth v0 (Int.toNat (v5l1))).takes).length : Int) > v1)) || (decide ((((nth v0 (Int.toNat (v5l1))).segments).length : Int) > v1))) || (decide ((((nth v0 (Int.toNat (v5l1))).given).length : Int) > v1))) || (!y1)))) (x := .d (cB y2)) (env' := [(51, _)]) rfl rfl rfl ⟨.inr (.inl rfl), trivial⟩ rfl (fun hg => (g_call en_33 rfl rfl (c_f_billingref54_amount (gcall_some hy2 hg)))) ?_
      refine .guardG (b := (!((((decide ((((nth v0 (Int.toNat (v5l1))).takes).length : Int) > v1)) || (decide ((((nth v0 (Int.toNat (v5l1))).segments).length : Int) > v1))) || (decide ((((nth v0 (Int.toNat (v5l1))).given).length : Int) > v1))) || (!y1)))) (x := .d (cB (!y2))) (env' := [(52, _)]) rfl rfl rfl ⟨.inr (.inl rfl), trivial⟩ rfl (fun hg => OpQ.g (q_not rfl)) ?_
      refine .q (x := .d (cB (((((decide ((((nth v0 (Int.toNat (v5l1))).takes).length : Int) > v1)) || (decide ((((nth v0 (Int.toNat (v5l1))).segments).length : Int) > v1))) || (decide ((((nth v0 (Int.toNat (v5l1))).given).length : Int) > v1))) || (!y1)) || (!y2)))) (q_pickOrB rfl rfl rfl) rfl ?_
      refine .q (x := .d (cB (((((decide ((((nth v0 (Int.toNat (v5l1))).takes).length : Int) > v1)) || (decide ((((nth v0 (Int.toNat (v5l1))).segments).length : Int) > v1))) || (decide ((((nth v0 (Int.toNat (v5l1))).given).length : Int) > v1))) || (!y1)) || (!y2)))) (q_move rfl) rfl ?_
      refine .guardG (b := (!(((((decide ((((nth v0 (Int.toNat (v5l1))).takes).length : Int) > v1)) || (decide ((((nth v0 (Int.toNat (v5l1))).segments).length : Int) > v1))) || (decide ((((nth v0 (Int.toNat (v5l1))).given).length : Int) > v1))) || (!y1)) || (!y2)))) (x := .ref 0 23) (env' := [(6, _)]) rfl rfl rfl ⟨.inl rfl, trivial⟩ rfl (fun hg => OpQ.g (q_fieldRef fo_58_12 rfl)) ?_
      refine .guardG (b := (!(((((decide ((((nth v0 (Int.toNat (v5l1))).takes).length : Int) > v1)) || (decide ((((nth v0 (Int.toNat (v5l1))).segments).length : Int) > v1))) || (decide ((((nth v0 (Int.toNat (v5l1))).given).length : Int) > v1))) || (!y1)) || (!y2)))) (x := .d (cI ((nth v0 (Int.toNat (v5l1))).owed))) (env' := [(56, _)]) rfl rfl rfl ⟨.inr (.inl rfl), trivial⟩ rfl (fun hg => OpQ.g (q_loadO one_3 rfl rfl rfl)) ?_
      obtain ⟨y3, hy3, H⟩ := bind_some' H
      refine .guardG (b := (!(((((decide ((((nth v0 (Int.toNat (v5l1))).takes).length : Int) > v1)) || (decide ((((nth v0 (Int.toNat (v5l1))).segments).length : Int) > v1))) || (decide ((((nth v0 (Int.toNat (v5l1))).given).length : Int) > v1))) || (!y1)) || (!y2)))) (x := .d (cB y3)) (env' := [(57, _)]) rfl rfl rfl ⟨.inr (.inl rfl), trivial⟩ rfl (fun hg => (g_call en_33 rfl rfl (c_f_billingref54_amount (gcall_some hy3 hg)))) ?_
      refine .guardG (b := (!(((((decide ((((nth v0 (Int.toNat (v5l1))).takes).length : Int) > v1)) || (decide ((((nth v0 (Int.toNat (v5l1))).segments).length : Int) > v1))) || (decide ((((nth v0 (Int.toNat (v5l1))).given).length : Int) > v1))) || (!y1)) || (!y2)))) (x := .d (cB (!y3))) (env' := [(58, _)]) rfl rfl rfl ⟨.inr (.inl rfl), trivial⟩ rfl (fun hg => OpQ.g (q_not rfl)) ?_
      refine .q (x := .d (cB ((((((decide ((((nth v0 (Int.toNat (v5l1))).takes).length : Int) > v1)) || (decide ((((nth v0 (Int.toNat (v5l1))).segments).length : Int) > v1))) || (decide ((((nth v0 (Int.toNat (v5l1))).given).length : Int) > v1))) || (!y1)) || (!y2)) || (!y3)))) (q_pickOrB rfl rfl rfl) rfl ?_
      refine .q (x := .d (cB ((((((decide ((((nth v0 (Int.toNat (v5l1))).takes).length : Int) > v1)) || (decide ((((nth v0 (Int.toNat (v5l1))).segments).length : Int) > v1))) || (decide ((((nth v0 (Int.toNat (v5l1))).given).length : Int) > v1))) || (!y1)) || (!y2)) || (!y3)))) (q_move rfl) rfl ?_
      refine .guardG (b := (!((((((decide ((((nth v0 (Int.toNat (v5l1))).takes).length : Int) > v1)) || (decide ((((nth v0 (Int.toNat (v5l1))).segments).length : Int) > v1))) || (decide ((((nth v0 (Int.toNat (v5l1))).given).length : Int) > v1))) || (!y1)) || (!y2)) || (!y3)))) (x := .ref 0 19) (env' := [(6, _)]) rfl rfl rfl ⟨.inl rfl, trivial⟩ rfl (fun hg => OpQ.g (q_fieldRef fo_58_8 rfl)) ?_
      refine .guardG (b := (!((((((decide ((((nth v0 (Int.toNat (v5l1))).takes).length : Int) > v1)) || (decide ((((nth v0 (Int.toNat (v5l1))).segments).length : Int) > v1))) || (decide ((((nth v0 (Int.toNat (v5l1))).given).length : Int) > v1))) || (!y1)) || (!y2)) || (!y3)))) (x := .d (cI ((nth v0 (Int.toNat (v5l1))).gross))) (env' := [(62, _)]) rfl rfl rfl ⟨.inr (.inl rfl), trivial⟩ rfl (fun hg => OpQ.g (q_loadO one_3 rfl rfl rfl)) ?_
      obtain ⟨y4, hy4, H⟩ := bind_some' H
      refine .guardG (b := (!((((((decide ((((nth v0 (Int.toNat (v5l1))).takes).length : Int) > v1)) || (decide ((((nth v0 (Int.toNat (v5l1))).segments).length : Int) > v1))) || (decide ((((nth v0 (Int.toNat (v5l1))).given).length : Int) > v1))) || (!y1)) || (!y2)) || (!y3)))) (x := .d (cB y4)) (env' := [(63, _)]) rfl rfl rfl ⟨.inr (.inl rfl), trivial⟩ rfl (fun hg => (g_call en_33 rfl rfl (c_f_billingref54_amount (gcall_some hy4 hg)))) ?_
      refine .guardG (b := (!((((((decide ((((nth v0 (Int.toNat (v5l1))).takes).length : Int) > v1)) || (decide ((((nth v0 (Int.toNat (v5l1))).segments).length : Int) > v1))) || (decide ((((nth v0 (Int.toNat (v5l1))).given).length : Int) > v1))) || (!y1)) || (!y2)) || (!y3)))) (x := .d (cB (!y4))) (env' := [(64, _)]) rfl rfl rfl ⟨.inr (.inl rfl), trivial⟩ rfl (fun hg => OpQ.g (q_not rfl)) ?_
      refine .q (x := .d (cB (((((((decide ((((nth v0 (Int.toNat (v5l1))).takes).length : Int) > v1)) || (decide ((((nth v0 (Int.toNat (v5l1))).segments).length : Int) > v1))) || (decide ((((nth v0 (Int.toNat (v5l1))).given).length : Int) > v1))) || (!y1)) || (!y2)) || (!y3)) || (!y4)))) (q_pickOrB rfl rfl rfl) rfl ?_
      refine .q (x := .d (cB (((((((decide ((((nth v0 (Int.toNat (v5l1))).takes).length : Int) > v1)) || (decide ((((nth v0 (Int.toNat (v5l1))).segments).length : Int) > v1))) || (decide ((((nth v0 (Int.toNat (v5l1))).given).length : Int) > v1))) || (!y1)) || (!y2)) || (!y3)) || (!y4)))) (q_move rfl) rfl ?_
      refine .guardG (b := (!(((((((decide ((((nth v0 (Int.toNat (v5l1))).takes).length : Int) > v1)) || (decide ((((nth v0 (Int.toNat (v5l1))).segments).length : Int) > v1))) || (decide ((((nth v0 (Int.toNat (v5l1))).given).length : Int) > v1))) || (!y1)) || (!y2)) || (!y3)) || (!y4)))) (x := .ref 0 18) (env' := [(6, _)]) rfl rfl rfl ⟨.inl rfl, trivial⟩ rfl (fun hg => OpQ.g (q_fieldRef fo_58_7 rfl)) ?_
      refine .guardG (b := (!(((((((decide ((((nth v0 (Int.toNat (v5l1))).takes).length : Int) > v1)) || (decide ((((nth v0 (Int.toNat (v5l1))).segments).length : Int) > v1))) || (decide ((((nth v0 (Int.toNat (v5l1))).given).length : Int) > v1))) || (!y1)) || (!y2)) || (!y3)) || (!y4)))) (x := .d (cI ((nth v0 (Int.toNat (v5l1))).setup))) (env' := [(68, _)]) rfl rfl rfl ⟨.inr (.inl rfl), trivial⟩ rfl (fun hg => OpQ.g (q_loadO one_3 rfl rfl rfl)) ?_
      obtain ⟨y5, hy5, H⟩ := bind_some' H
      refine .guardG (b := (!(((((((decide ((((nth v0 (Int.toNat (v5l1))).takes).length : Int) > v1)) || (decide ((((nth v0 (Int.toNat (v5l1))).segments).length : Int) > v1))) || (decide ((((nth v0 (Int.toNat (v5l1))).given).length : Int) > v1))) || (!y1)) || (!y2)) || (!y3)) || (!y4)))) (x := .d (cB y5)) (env' := [(69, _)]) rfl rfl rfl ⟨.inr (.inl rfl), trivial⟩ rfl (fun hg => (g_call en_33 rfl rfl (c_f_billingref54_amount (gcall_some hy5 hg)))) ?_
      refine .guardG (b := (!(((((((decide ((((nth v0 (Int.toNat (v5l1))).takes).length : Int) > v1)) || (decide ((((nth v0 (Int.toNat (v5l1))).segments).length : Int) > v1))) || (decide ((((nth v0 (Int.toNat (v5l1))).given).length : Int) > v1))) || (!y1)) || (!y2)) || (!y3)) || (!y4)))) (x := .d (cB (!y5))) (env' := [(70, _)]) rfl rfl rfl ⟨.inr (.inl rfl), trivial⟩ rfl (fun hg => OpQ.g (q_not rfl)) ?_
      refine .q (x := .d (cB ((((((((decide ((((nth v0 (Int.toNat (v5l1))).takes).length : Int) > v1)) || (decide ((((nth v0 (Int.toNat (v5l1))).segments).length : Int) > v1))) || (decide ((((nth v0 (Int.toNat (v5l1))).given).length : Int) > v1))) || (!y1)) || (!y2)) || (!y3)) || (!y4)) || (!y5)))) (q_pickOrB rfl rfl rfl) rfl ?_
      refine .q (x := .d (cB ((((((((decide ((((nth v0 (Int.toNat (v5l1))).takes).length : Int) > v1)) || (decide ((((nth v0 (Int.toNat (v5l1))).segments).length : Int) > v1))) || (decide ((((nth v0 (Int.toNat (v5l1))).given).length : Int) > v1))) || (!y1)) || (!y2)) || (!y3)) || (!y4)) || (!y5)))) (q_move rfl) rfl ?_
      refine .guardG (b := (!((((((((decide ((((nth v0 (Int.toNat (v5l1))).takes).length : Int) > v1)) || (decide ((((nth v0 (Int.toNat (v5l1))).segments).length : Int) > v1))) || (decide ((((nth v0 (Int.toNat (v5l1))).given).length : Int) > v1))) || (!y1)) || (!y2)) || (!y3)) || (!y4)) || (!y5)))) (x := .ref 0 0) (env' := [(6, _)]) rfl rfl rfl ⟨.inl rfl, trivial⟩ rfl (fun hg => OpQ.g (q_fieldRef fo_58_0 rfl)) ?_
      refine .guardG (b := (!((((((((decide ((((nth v0 (Int.toNat (v5l1))).takes).length : Int) > v1)) || (decide ((((nth v0 (Int.toNat (v5l1))).segments).length : Int) > v1))) || (decide ((((nth v0 (Int.toNat (v5l1))).given).length : Int) > v1))) || (!y1)) || (!y2)) || (!y3)) || (!y4)) || (!y5)))) (x := .ref 0 7) (env' := [(74, _)]) rfl rfl rfl ⟨.inr (.inl rfl), trivial⟩ rfl (fun hg => OpQ.g (q_fieldRef fo_52_7 rfl)) ?_
      refine .guardG (b := (!((((((((decide ((((nth v0 (Int.toNat (v5l1))).takes).length : Int) > v1)) || (decide ((((nth v0 (Int.toNat (v5l1))).segments).length : Int) > v1))) || (decide ((((nth v0 (Int.toNat (v5l1))).given).length : Int) > v1))) || (!y1)) || (!y2)) || (!y3)) || (!y4)) || (!y5)))) (x := .d (cI (((nth v0 (Int.toNat (v5l1))).usage).units))) (env' := [(75, _)]) rfl rfl rfl ⟨.inr (.inl rfl), trivial⟩ rfl (fun hg => OpQ.g (q_loadO one_3 rfl rfl rfl)) ?_
      refine .guardG (b := (!((((((((decide ((((nth v0 (Int.toNat (v5l1))).takes).length : Int) > v1)) || (decide ((((nth v0 (Int.toNat (v5l1))).segments).length : Int) > v1))) || (decide ((((nth v0 (Int.toNat (v5l1))).given).length : Int) > v1))) || (!y1)) || (!y2)) || (!y3)) || (!y4)) || (!y5)))) (x := .d (cB (decide ((((nth v0 (Int.toNat (v5l1))).usage).units) < 0)))) (env' := [(76, _)]) rfl rfl rfl ⟨.inr (.inl rfl), trivial⟩ rfl (fun hg => OpQ.g (q_lss rfl rfl)) ?_
      refine .q (x := .d (cB (((((((((decide ((((nth v0 (Int.toNat (v5l1))).takes).length : Int) > v1)) || (decide ((((nth v0 (Int.toNat (v5l1))).segments).length : Int) > v1))) || (decide ((((nth v0 (Int.toNat (v5l1))).given).length : Int) > v1))) || (!y1)) || (!y2)) || (!y3)) || (!y4)) || (!y5)) || (decide ((((nth v0 (Int.toNat (v5l1))).usage).units) < 0))))) (q_pickOrB rfl rfl rfl) rfl ?_
      refine .q (x := .d (cB (((((((((decide ((((nth v0 (Int.toNat (v5l1))).takes).length : Int) > v1)) || (decide ((((nth v0 (Int.toNat (v5l1))).segments).length : Int) > v1))) || (decide ((((nth v0 (Int.toNat (v5l1))).given).length : Int) > v1))) || (!y1)) || (!y2)) || (!y3)) || (!y4)) || (!y5)) || (decide ((((nth v0 (Int.toNat (v5l1))).usage).units) < 0))))) (q_move rfl) rfl ?_
      refine .guardG (b := (!(((((((((decide ((((nth v0 (Int.toNat (v5l1))).takes).length : Int) > v1)) || (decide ((((nth v0 (Int.toNat (v5l1))).segments).length : Int) > v1))) || (decide ((((nth v0 (Int.toNat (v5l1))).given).length : Int) > v1))) || (!y1)) || (!y2)) || (!y3)) || (!y4)) || (!y5)) || (decide ((((nth v0 (Int.toNat (v5l1))).usage).units) < 0))))) (x := .ref 0 0) (env' := [(6, _)]) rfl rfl rfl ⟨.inl rfl, trivial⟩ rfl (fun hg => OpQ.g (q_fieldRef fo_58_0 rfl)) ?_
      refine .guardG (b := (!(((((((((decide ((((nth v0 (Int.toNat (v5l1))).takes).length : Int) > v1)) || (decide ((((nth v0 (Int.toNat (v5l1))).segments).length : Int) > v1))) || (decide ((((nth v0 (Int.toNat (v5l1))).given).length : Int) > v1))) || (!y1)) || (!y2)) || (!y3)) || (!y4)) || (!y5)) || (decide ((((nth v0 (Int.toNat (v5l1))).usage).units) < 0))))) (x := .ref 0 7) (env' := [(80, _)]) rfl rfl rfl ⟨.inr (.inl rfl), trivial⟩ rfl (fun hg => OpQ.g (q_fieldRef fo_52_7 rfl)) ?_
      refine .guardG (b := (!(((((((((decide ((((nth v0 (Int.toNat (v5l1))).takes).length : Int) > v1)) || (decide ((((nth v0 (Int.toNat (v5l1))).segments).length : Int) > v1))) || (decide ((((nth v0 (Int.toNat (v5l1))).given).length : Int) > v1))) || (!y1)) || (!y2)) || (!y3)) || (!y4)) || (!y5)) || (decide ((((nth v0 (Int.toNat (v5l1))).usage).units) < 0))))) (x := .d (cI (((nth v0 (Int.toNat (v5l1))).usage).units))) (env' := [(81, _)]) rfl rfl rfl ⟨.inr (.inl rfl), trivial⟩ rfl (fun hg => OpQ.g (q_loadO one_3 rfl rfl rfl)) ?_
      refine .guardG (b := (!(((((((((decide ((((nth v0 (Int.toNat (v5l1))).takes).length : Int) > v1)) || (decide ((((nth v0 (Int.toNat (v5l1))).segments).length : Int) > v1))) || (decide ((((nth v0 (Int.toNat (v5l1))).given).length : Int) > v1))) || (!y1)) || (!y2)) || (!y3)) || (!y4)) || (!y5)) || (decide ((((nth v0 (Int.toNat (v5l1))).usage).units) < 0))))) (x := .d (cB (decide ((((nth v0 (Int.toNat (v5l1))).usage).units) > 1099511627776)))) (env' := [(82, _)]) rfl rfl rfl ⟨.inr (.inl rfl), trivial⟩ rfl (fun hg => OpQ.g (q_gtr rfl rfl)) ?_
      refine .q (x := .d (cB ((((((((((decide ((((nth v0 (Int.toNat (v5l1))).takes).length : Int) > v1)) || (decide ((((nth v0 (Int.toNat (v5l1))).segments).length : Int) > v1))) || (decide ((((nth v0 (Int.toNat (v5l1))).given).length : Int) > v1))) || (!y1)) || (!y2)) || (!y3)) || (!y4)) || (!y5)) || (decide ((((nth v0 (Int.toNat (v5l1))).usage).units) < 0))) || (decide ((((nth v0 (Int.toNat (v5l1))).usage).units) > 1099511627776))))) (q_pickOrB rfl rfl rfl) rfl ?_
      refine .nil ?_
      refine .cond rfl (fun hc => ?_) (fun hc => ?_)
      · replace H := ifT hc H; clear hc
        refine .seq ?_
        refine .region ?_
        refine .q (x := .d (cB false)) (q_assign rfl) rfl ?_
        refine .nil ?_
        refine .retN [.tmp 4] [.d (cB false)] Try.func18 Try.results18 ⟨rfl, trivial⟩ ?_
        cases H
        cases HK1
        exact ⟨_, .rfl' _, rfl⟩
      · replace H := ifF hc H; clear hc
        refine .skip ?_
        refine .seq ?_
        refine .seq ?_
        refine .region ?_
        refine .q (x := .d (cI 0)) (q_assign rfl) rfl ?_
        refine .nil ?_
        refine .blockJoin2 (ι := Unit) (fun s => [(0, .d (slOf 24 Rated.row v0)), (1, .d (cI v1)), (5, .d (cI v5l1)), (6, .ref 0 0)]) (fun s => ⟨[.row 58 [.d (cI (((nth v0 (Int.toNat (v5l1))).usage).id)), .d (cI (((nth v0 (Int.toNat (v5l1))).usage).kind)), .d (cI (((nth v0 (Int.toNat (v5l1))).usage).account)), .d (cI (((nth v0 (Int.toNat (v5l1))).usage).sub)), .d (cS (((nth v0 (Int.toNat (v5l1))).usage).a)), .d (cS (((nth v0 (Int.toNat (v5l1))).usage).b)), .d (cI (((nth v0 (Int.toNat (v5l1))).usage).start)), .d (cI (((nth v0 (Int.toNat (v5l1))).usage).units)), .d (cI (((nth v0 (Int.toNat (v5l1))).usage).trunk)), .d (cB (((nth v0 (Int.toNat (v5l1))).usage).inbound)), .d (cI (((nth v0 (Int.toNat (v5l1))).usage).source)), .d (cI (((nth v0 (Int.toNat (v5l1))).usage).serial)), .d (cI ((nth v0 (Int.toNat (v5l1))).err)), .d (cS ((nth v0 (Int.toNat (v5l1))).plan)), .d (cI ((nth v0 (Int.toNat (v5l1))).version)), .d (cS ((nth v0 (Int.toNat (v5l1))).zone)), .d (slOf 5 Take.row ((nth v0 (Int.toNat (v5l1))).takes)), .d (slOf 4 Segment.row ((nth v0 (Int.toNat (v5l1))).segments)), .d (cI ((nth v0 (Int.toNat (v5l1))).setup)), .d (cI ((nth v0 (Int.toNat (v5l1))).gross)), .d (cI ((nth v0 (Int.toNat (v5l1))).net)), .d (slOf 2 Given.row ((nth v0 (Int.toNat (v5l1))).given)), .d (cI ((nth v0 (Int.toNat (v5l1))).paid)), .d (cI ((nth v0 (Int.toNat (v5l1))).owed))]], []⟩) (fun s => f_billingref54_Rated_j1 v0 v5l1 = some q1) ?_ ?_
        · rintro _ H
          replace H : f_billingref54_Rated_j1 v0 v5l1 = some q1 := H
          unfold f_billingref54_Rated_j1 at H
          change ARun _ _ _ _ _ _ [(0, .d (slOf 24 Rated.row v0)), (1, .d (cI v1)), (5, .d (cI v5l1)), (6, .ref 0 0)] ⟨[.row 58 [.d (cI (((nth v0 (Int.toNat (v5l1))).usage).id)), .d (cI (((nth v0 (Int.toNat (v5l1))).usage).kind)), .d (cI (((nth v0 (Int.toNat (v5l1))).usage).account)), .d (cI (((nth v0 (Int.toNat (v5l1))).usage).sub)), .d (cS (((nth v0 (Int.toNat (v5l1))).usage).a)), .d (cS (((nth v0 (Int.toNat (v5l1))).usage).b)), .d (cI (((nth v0 (Int.toNat (v5l1))).usage).start)), .d (cI (((nth v0 (Int.toNat (v5l1))).usage).units)), .d (cI (((nth v0 (Int.toNat (v5l1))).usage).trunk)), .d (cB (((nth v0 (Int.toNat (v5l1))).usage).inbound)), .d (cI (((nth v0 (Int.toNat (v5l1))).usage).source)), .d (cI (((nth v0 (Int.toNat (v5l1))).usage).serial)), .d (cI ((nth v0 (Int.toNat (v5l1))).err)), .d (cS ((nth v0 (Int.toNat (v5l1))).plan)), .d (cI ((nth v0 (Int.toNat (v5l1))).version)), .d (cS ((nth v0 (Int.toNat (v5l1))).zone)), .d (slOf 5 Take.row ((nth v0 (Int.toNat (v5l1))).takes)), .d (slOf 4 Segment.row ((nth v0 (Int.toNat (v5l1))).segments)), .d (cI ((nth v0 (Int.toNat (v5l1))).setup)), .d (cI ((nth v0 (Int.toNat (v5l1))).gross)), .d (cI ((nth v0 (Int.toNat (v5l1))).net)), .d (slOf 2 Given.row ((nth v0 (Int.toNat (v5l1))).given)), .d (cI ((nth v0 (Int.toNat (v5l1))).paid)), .d (cI ((nth v0 (Int.toNat (v5l1))).owed))]], []⟩
          refine .seq ?_
          refine .seq ?_
          refine .region ?_
          refine .q (x := .d (cI 0)) (q_assign rfl) rfl ?_
          refine .nil ?_
          refine .blockJoin2 (ι := Unit) (fun s => [(0, .d (slOf 24 Rated.row v0)), (1, .d (cI v1)), (5, .d (cI v5l1)), (6, .ref 0 0)]) (fun s => ⟨[.row 58 [.d (cI (((nth v0 (Int.toNat (v5l1))).usage).id)), .d (cI (((nth v0 (Int.toNat (v5l1))).usage).kind)), .d (cI (((nth v0 (Int.toNat (v5l1))).usage).account)), .d (cI (((nth v0 (Int.toNat (v5l1))).usage).sub)), .d (cS (((nth v0 (Int.toNat (v5l1))).usage).a)), .d (cS (((nth v0 (Int.toNat (v5l1))).usage).b)), .d (cI (((nth v0 (Int.toNat (v5l1))).usage).start)), .d (cI (((nth v0 (Int.toNat (v5l1))).usage).units)), .d (cI (((nth v0 (Int.toNat (v5l1))).usage).trunk)), .d (cB (((nth v0 (Int.toNat (v5l1))).usage).inbound)), .d (cI (((nth v0 (Int.toNat (v5l1))).usage).source)), .d (cI (((nth v0 (Int.toNat (v5l1))).usage).serial)), .d (cI ((nth v0 (Int.toNat (v5l1))).err)), .d (cS ((nth v0 (Int.toNat (v5l1))).plan)), .d (cI ((nth v0 (Int.toNat (v5l1))).version)), .d (cS ((nth v0 (Int.toNat (v5l1))).zone)), .d (slOf 5 Take.row ((nth v0 (Int.toNat (v5l1))).takes)), .d (slOf 4 Segment.row ((nth v0 (Int.toNat (v5l1))).segments)), .d (cI ((nth v0 (Int.toNat (v5l1))).setup)), .d (cI ((nth v0 (Int.toNat (v5l1))).gross)), .d (cI ((nth v0 (Int.toNat (v5l1))).net)), .d (slOf 2 Given.row ((nth v0 (Int.toNat (v5l1))).given)), .d (cI ((nth v0 (Int.toNat (v5l1))).paid)), .d (cI ((nth v0 (Int.toNat (v5l1))).owed))]], []⟩) (fun s => f_billingref54_Rated_j2 v0 v5l1 = some q1) ?_ ?_
          · rintro _ H
            replace H : f_billingref54_Rated_j2 v0 v5l1 = some q1 := H
            unfold f_billingref54_Rated_j2 at H
            change ARun _ _ _ _ _ _ [(0, .d (slOf 24 Rated.row v0)), (1, .d (cI v1)), (5, .d (cI v5l1)), (6, .ref 0 0)] ⟨[.row 58 [.d (cI (((nth v0 (Int.toNat (v5l1))).usage).id)), .d (cI (((nth v0 (Int.toNat (v5l1))).usage).kind)), .d (cI (((nth v0 (Int.toNat (v5l1))).usage).account)), .d (cI (((nth v0 (Int.toNat (v5l1))).usage).sub)), .d (cS (((nth v0 (Int.toNat (v5l1))).usage).a)), .d (cS (((nth v0 (Int.toNat (v5l1))).usage).b)), .d (cI (((nth v0 (Int.toNat (v5l1))).usage).start)), .d (cI (((nth v0 (Int.toNat (v5l1))).usage).units)), .d (cI (((nth v0 (Int.toNat (v5l1))).usage).trunk)), .d (cB (((nth v0 (Int.toNat (v5l1))).usage).inbound)), .d (cI (((nth v0 (Int.toNat (v5l1))).usage).source)), .d (cI (((nth v0 (Int.toNat (v5l1))).usage).serial)), .d (cI ((nth v0 (Int.toNat (v5l1))).err)), .d (cS ((nth v0 (Int.toNat (v5l1))).plan)), .d (cI ((nth v0 (Int.toNat (v5l1))).version)), .d (cS ((nth v0 (Int.toNat (v5l1))).zone)), .d (slOf 5 Take.row ((nth v0 (Int.toNat (v5l1))).takes)), .d (slOf 4 Segment.row ((nth v0 (Int.toNat (v5l1))).segments)), .d (cI ((nth v0 (Int.toNat (v5l1))).setup)), .d (cI ((nth v0 (Int.toNat (v5l1))).gross)), .d (cI ((nth v0 (Int.toNat (v5l1))).net)), .d (slOf 2 Given.row ((nth v0 (Int.toNat (v5l1))).given)), .d (cI ((nth v0 (Int.toNat (v5l1))).paid)), .d (cI ((nth v0 (Int.toNat (v5l1))).owed))]], []⟩
            refine .seq ?_
            refine .region ?_
            refine .q (x := .d (cI 0)) (q_assign rfl) rfl ?_
            refine .nil ?_
            refine .block ?_
            obtain ⟨n2, H⟩ := loop_some H
            refine .loop (ι := Nat × (Int)) (fun p => [(0, .d (slOf 24 Rated.row v0)), (1, .d (cI v1)), (5, .d (cI v5l1)), (6, .ref 0 0), (9, .d (cI p.2))]) (fun p => ⟨[.row 58 [.d (cI (((nth v0 (Int.toNat (v5l1))).usage).id)), .d (cI (((nth v0 (Int.toNat (v5l1))).usage).kind)), .d (cI (((nth v0 (Int.toNat (v5l1))).usage).account)), .d (cI (((nth v0 (Int.toNat (v5l1))).usage).sub)), .d (cS (((nth v0 (Int.toNat (v5l1))).usage).a)), .d (cS (((nth v0 (Int.toNat (v5l1))).usage).b)), .d (cI (((nth v0 (Int.toNat (v5l1))).usage).start)), .d (cI (((nth v0 (Int.toNat (v5l1))).usage).units)), .d (cI (((nth v0 (Int.toNat (v5l1))).usage).trunk)), .d (cB (((nth v0 (Int.toNat (v5l1))).usage).inbound)), .d (cI (((nth v0 (Int.toNat (v5l1))).usage).source)), .d (cI (((nth v0 (Int.toNat (v5l1))).usage).serial)), .d (cI ((nth v0 (Int.toNat (v5l1))).err)), .d (cS ((nth v0 (Int.toNat (v5l1))).plan)), .d (cI ((nth v0 (Int.toNat (v5l1))).version)), .d (cS ((nth v0 (Int.toNat (v5l1))).zone)), .d (slOf 5 Take.row ((nth v0 (Int.toNat (v5l1))).takes)), .d (slOf 4 Segment.row ((nth v0 (Int.toNat (v5l1))).segments)), .d (cI ((nth v0 (Int.toNat (v5l1))).setup)), .d (cI ((nth v0 (Int.toNat (v5l1))).gross)), .d (cI ((nth v0 (Int.toNat (v5l1))).net)), .d (slOf 2 Given.row ((nth v0 (Int.toNat (v5l1))).given)), .d (cI ((nth v0 (Int.toNat (v5l1))).paid)), .d (cI ((nth v0 (Int.toNat (v5l1))).owed))]], []⟩) (fun p => iter (fun s => f_billingref54_Rated_l2 v0 v5l1 s) p.1 p.2 = some q1) (·.1) (n2, 0) H (.cons rfl (.rfl' _) (.cons rfl (.rfl' _) (.cons rfl (.rfl' _) (.cons rfl (.rfl' _) (.cons rfl (.rfl' _) (.nil)))))) rfl ?_
            rintro ⟨m2, v9l2⟩ HI ih2
            obtain ⟨n2, q2, hm2, H, HK2⟩ := iter_succ HI
            clear HI
            replace H : f_billingref54_Rated_l2 v0 v5l1 v9l2 = some q2 := H
            unfold f_billingref54_Rated_l2 at H
            change ARun _ _ _ _ _ _ [(0, .d (slOf 24 Rated.row v0)), (1, .d (cI v1)), (5, .d (cI v5l1)), (6, .ref 0 0), (9, .d (cI v9l2))] ⟨[.row 58 [.d (cI (((nth v0 (Int.toNat (v5l1))).usage).id)), .d (cI (((nth v0 (Int.toNat (v5l1))).usage).kind)), .d (cI (((nth v0 (Int.toNat (v5l1))).usage).account)), .d (cI (((nth v0 (Int.toNat (v5l1))).usage).sub)), .d (cS (((nth v0 (Int.toNat (v5l1))).usage).a)), .d (cS (((nth v0 (Int.toNat (v5l1))).usage).b)), .d (cI (((nth v0 (Int.toNat (v5l1))).usage).start)), .d (cI (((nth v0 (Int.toNat (v5l1))).usage).units)), .d (cI (((nth v0 (Int.toNat (v5l1))).usage).trunk)), .d (cB (((nth v0 (Int.toNat (v5l1))).usage).inbound)), .d (cI (((nth v0 (Int.toNat (v5l1))).usage).source)), .d (cI (((nth v0 (Int.toNat (v5l1))).usage).serial)), .d (cI ((nth v0 (Int.toNat (v5l1))).err)), .d (cS ((nth v0 (Int.toNat (v5l1))).plan)), .d (cI ((nth v0 (Int.toNat (v5l1))).version)), .d (cS ((nth v0 (Int.toNat (v5l1))).zone)), .d (slOf 5 Take.row ((nth v0 (Int.toNat (v5l1))).takes)), .d (slOf 4 Segment.row ((nth v0 (Int.toNat (v5l1))).segments)), .d (cI ((nth v0 (Int.toNat (v5l1))).setup)), .d (cI ((nth v0 (Int.toNat (v5l1))).gross)), .d (cI ((nth v0 (Int.toNat (v5l1))).net)), .d (slOf 2 Given.row ((nth v0 (Int.toNat (v5l1))).given)), .d (cI ((nth v0 (Int.toNat (v5l1))).paid)), .d (cI ((nth v0 (Int.toNat (v5l1))).owed))]], []⟩
            refine .seq ?_
            refine .seq ?_
            refine .region ?_
            refine .q (x := .d (cI v9l2)) (q_move rfl) rfl ?_
            refine .q (x := .ref 0 21) (q_fieldRef fo_58_10 rfl) rfl ?_
            refine .q (x := .d (slOf 2 Given.row ((nth v0 (Int.toNat (v5l1))).given))) (q_loadO one_56 rfl rfl rfl) rfl ?_
            refine .q (x := .d (cI (((nth v0 (Int.toNat (v5l1))).given).length : Int))) (q_lenL (l := (nth v0 (Int.toNat (v5l1))).given) (row := Given.row) Try.underlying56 rfl rfl) rfl ?_
            refine .q (x := .d (cB (decide (v9l2 < (((nth v0 (Int.toNat (v5l1))).given).length : Int))))) (q_lss rfl rfl) rfl ?_
            refine .nil ?_
            refine .cond rfl (fun hc => ?_) (fun hc => ?_)
            · replace H := ifT hc H; clear hc
              refine .skip ?_
              refine .seq ?_
              refine .block ?_
              refine .seq ?_
              refine .region ?_
              refine .q (x := .ref 0 21) (q_fieldRef fo_58_10 rfl) rfl ?_
              refine .q (x := .d (slOf 2 Given.row ((nth v0 (Int.toNat (v5l1))).given))) (q_loadO one_56 rfl rfl rfl) rfl ?_
              refine .q (x := .d (cI v9l2)) (q_move rfl) rfl ?_
              obtain ⟨hk2, H⟩ := ck_some H
              refine .q (x := .d (.ro (Given.row (nth ((nth v0 (Int.toNat (v5l1))).given) (Int.toNat (v9l2)))))) (q_idxL (row := Given.row) (l := (nth v0 (Int.toNat (v5l1))).given) (i := v9l2) Try.underlying56 hi99 hs99 rfl rfl rfl hk2) rfl ?_
              refine .q (x := .d (.ro ((Given.row (nth ((nth v0 (Int.toNat (v5l1))).given) (Int.toNat (v9l2)))).drop 1))) (q_fieldRo fo_99_1 rfl) rfl ?_
              refine .q (x := .d (cI ((nth ((nth v0 (Int.toNat (v5l1))).given) (Int.toNat (v9l2))).amount))) (q_load one_3 rfl) rfl ?_
              obtain ⟨y6, hy6, H⟩ := bind_some' H
              refine .g (x := .d (cB y6)) (g_call en_33 rfl rfl (c_f_billingref54_amount (hy6))) rfl ?_
              refine .q (x := .d (cB (!y6))) (q_not rfl) rfl ?_
              refine .nil ?_
              refine .cond rfl (fun hc => ?_) (fun hc => ?_)
              · replace H := ifT hc H; clear hc
                refine .seq ?_
                refine .region ?_
                refine .q (x := .d (cB false)) (q_assign rfl) rfl ?_
                refine .nil ?_
                refine .retN [.tmp 4] [.d (cB false)] Try.func18 Try.results18 ⟨rfl, trivial⟩ ?_
                cases H
                cases HK2
                cases HK1
                exact ⟨_, .rfl' _, rfl⟩
              · replace H := ifF hc H; clear hc
                refine .skip ?_
                refine .inBlock ?_
                refine .region ?_
                refine .q (x := .d (cI v9l2)) (q_move rfl) rfl ?_
                obtain ⟨hk3, H⟩ := ck_some H
                refine .q (x := .d (cI (v9l2 + 1))) (q_addI rfl rfl hk3.1 hk3.2) rfl ?_
                refine .q (x := .d (cI (v9l2 + 1))) (q_assign rfl) rfl ?_
                refine .nil ?_
                cases H
                exact .sub (.cons rfl (.rfl' _) (.cons rfl (.rfl' _) (.cons rfl (.rfl' _) (.cons rfl (.rfl' _) (.cons rfl (.rfl' _) (.nil)))))) (ih2 (n2, v9l2 + 1) HK2 hm2)
            · replace H := ifF hc H; clear hc
              refine .exit rfl ?_
              refine .inBlock ?_
              refine .region ?_
              refine .q (x := .d (cI v5l1)) (q_move rfl) rfl ?_
              obtain ⟨hk4, H⟩ := ck_some H
              refine .q (x := .d (cI (v5l1 + 1))) (q_addI rfl rfl hk4.1 hk4.2) rfl ?_
              refine .q (x := .d (cI (v5l1 + 1))) (q_assign rfl) rfl ?_
              refine .nil ?_
              cases H
              cases HK2
              exact .to 0 0 (env' := [(0, .d (slOf 24 Rated.row v0)), (1, .d (cI v1)), (5, .d (cI (v5l1 + 1)))]) (st' := ⟨[], []⟩) (.cons rfl (.rfl' _) (.cons rfl (.rfl' _) (.cons rfl (.rfl' _) (.nil)))) rfl rfl rfl rfl rfl (by rw [hS]; exact Nat.zero_le _) (by rw [hS]; exact Nat.zero_le _) <| .sub (.cons rfl (.rfl' _) (.cons rfl (.rfl' _) (.cons rfl (.rfl' _) (.nil)))) (ih1 (n1, v5l1 + 1) HK1 hm1)
          · intro hj2 hj2x
            obtain ⟨n3, H⟩ := loop_some H
            refine .loop (ι := Nat × (Int)) (fun p => [(0, .d (slOf 24 Rated.row v0)), (1, .d (cI v1)), (5, .d (cI v5l1)), (6, .ref 0 0), (8, .d (cI p.2))]) (fun p => ⟨[.row 58 [.d (cI (((nth v0 (Int.toNat (v5l1))).usage).id)), .d (cI (((nth v0 (Int.toNat (v5l1))).usage).kind)), .d (cI (((nth v0 (Int.toNat (v5l1))).usage).account)), .d (cI (((nth v0 (Int.toNat (v5l1))).usage).sub)), .d (cS (((nth v0 (Int.toNat (v5l1))).usage).a)), .d (cS (((nth v0 (Int.toNat (v5l1))).usage).b)), .d (cI (((nth v0 (Int.toNat (v5l1))).usage).start)), .d (cI (((nth v0 (Int.toNat (v5l1))).usage).units)), .d (cI (((nth v0 (Int.toNat (v5l1))).usage).trunk)), .d (cB (((nth v0 (Int.toNat (v5l1))).usage).inbound)), .d (cI (((nth v0 (Int.toNat (v5l1))).usage).source)), .d (cI (((nth v0 (Int.toNat (v5l1))).usage).serial)), .d (cI ((nth v0 (Int.toNat (v5l1))).err)), .d (cS ((nth v0 (Int.toNat (v5l1))).plan)), .d (cI ((nth v0 (Int.toNat (v5l1))).version)), .d (cS ((nth v0 (Int.toNat (v5l1))).zone)), .d (slOf 5 Take.row ((nth v0 (Int.toNat (v5l1))).takes)), .d (slOf 4 Segment.row ((nth v0 (Int.toNat (v5l1))).segments)), .d (cI ((nth v0 (Int.toNat (v5l1))).setup)), .d (cI ((nth v0 (Int.toNat (v5l1))).gross)), .d (cI ((nth v0 (Int.toNat (v5l1))).net)), .d (slOf 2 Given.row ((nth v0 (Int.toNat (v5l1))).given)), .d (cI ((nth v0 (Int.toNat (v5l1))).paid)), .d (cI ((nth v0 (Int.toNat (v5l1))).owed))]], []⟩) (fun p => iter (fun s => f_billingref54_Rated_l3 v0 v5l1 s) p.1 p.2 = some q1) (·.1) (n3, 0) H (.cons rfl (.rfl' _) (.cons rfl (.rfl' _) (.cons rfl (.rfl' _) (.cons rfl (.rfl' _) (.cons rfl (.rfl' _) (.nil)))))) rfl ?_
            rintro ⟨m2, v8l3⟩ HI ih2
            obtain ⟨n2, q2, hm2, H, HK2⟩ := iter_succ HI
            clear HI
            replace H : f_billingref54_Rated_l3 v0 v5l1 v8l3 = some q2 := H
            unfold f_billingref54_Rated_l3 at H
            change ARun _ _ _ _ _ _ [(0, .d (slOf 24 Rated.row v0)), (1, .d (cI v1)), (5, .d (cI v5l1)), (6, .ref 0 0), (8, .d (cI v8l3))] ⟨[.row 58 [.d (cI (((nth v0 (Int.toNat (v5l1))).usage).id)), .d (cI (((nth v0 (Int.toNat (v5l1))).usage).kind)), .d (cI (((nth v0 (Int.toNat (v5l1))).usage).account)), .d (cI (((nth v0 (Int.toNat (v5l1))).usage).sub)), .d (cS (((nth v0 (Int.toNat (v5l1))).usage).a)), .d (cS (((nth v0 (Int.toNat (v5l1))).usage).b)), .d (cI (((nth v0 (Int.toNat (v5l1))).usage).start)), .d (cI (((nth v0 (Int.toNat (v5l1))).usage).units)), .d (cI (((nth v0 (Int.toNat (v5l1))).usage).trunk)), .d (cB (((nth v0 (Int.toNat (v5l1))).usage).inbound)), .d (cI (((nth v0 (Int.toNat (v5l1))).usage).source)), .d (cI (((nth v0 (Int.toNat (v5l1))).usage).serial)), .d (cI ((nth v0 (Int.toNat (v5l1))).err)), .d (cS ((nth v0 (Int.toNat (v5l1))).plan)), .d (cI ((nth v0 (Int.toNat (v5l1))).version)), .d (cS ((nth v0 (Int.toNat (v5l1))).zone)), .d (slOf 5 Take.row ((nth v0 (Int.toNat (v5l1))).takes)), .d (slOf 4 Segment.row ((nth v0 (Int.toNat (v5l1))).segments)), .d (cI ((nth v0 (Int.toNat (v5l1))).setup)), .d (cI ((nth v0 (Int.toNat (v5l1))).gross)), .d (cI ((nth v0 (Int.toNat (v5l1))).net)), .d (slOf 2 Given.row ((nth v0 (Int.toNat (v5l1))).given)), .d (cI ((nth v0 (Int.toNat (v5l1))).paid)), .d (cI ((nth v0 (Int.toNat (v5l1))).owed))]], []⟩
            refine .seq ?_
            refine .seq ?_
            refine .region ?_
            refine .q (x := .d (cI v8l3)) (q_move rfl) rfl ?_
            refine .q (x := .ref 0 17) (q_fieldRef fo_58_6 rfl) rfl ?_
            refine .q (x := .d (slOf 4 Segment.row ((nth v0 (Int.toNat (v5l1))).segments))) (q_loadO one_55 rfl rfl rfl) rfl ?_
            refine .q (x := .d (cI (((nth v0 (Int.toNat (v5l1))).segments).length : Int))) (q_lenL (l := (nth v0 (Int.toNat (v5l1))).segments) (row := Segment.row) Try.underlying55 rfl rfl) rfl ?_
            refine .q (x := .d (cB (decide (v8l3 < (((nth v0 (Int.toNat (v5l1))).segments).length : Int))))) (q_lss rfl rfl) rfl ?_
            refine .nil ?_
            refine .cond rfl (fun hc => ?_) (fun hc => ?_)
            · replace H := ifT hc H; clear hc
              refine .skip ?_
              refine .seq ?_
              refine .block ?_
              refine .seq ?_
              refine .region ?_
              refine .q (x := .ref 0 17) (q_fieldRef fo_58_6 rfl) rfl ?_
              refine .q (x := .d (slOf 4 Segment.row ((nth v0 (Int.toNat (v5l1))).segments))) (q_loadO one_55 rfl rfl rfl) rfl ?_
              refine .q (x := .d (cI v8l3)) (q_move rfl) rfl ?_
              obtain ⟨hk5, H⟩ := ck_some H
              refine .q (x := .d (.ro (Segment.row (nth ((nth v0 (Int.toNat (v5l1))).segments) (Int.toNat (v8l3)))))) (q_idxL (row := Segment.row) (l := (nth v0 (Int.toNat (v5l1))).segments) (i := v8l3) Try.underlying55 hi97 hs97 rfl rfl rfl hk5) rfl ?_
              refine .q (x := .d (.ro ((Segment.row (nth ((nth v0 (Int.toNat (v5l1))).segments) (Int.toNat (v8l3)))).drop 2))) (q_fieldRo fo_97_2 rfl) rfl ?_
              refine .q (x := .d (cI ((nth ((nth v0 (Int.toNat (v5l1))).segments) (Int.toNat (v8l3))).units))) (q_load one_3 rfl) rfl ?_
              refine .q (x := .d (cB (decide (((nth ((nth v0 (Int.toNat (v5l1))).segments) (Int.toNat (v8l3))).units) < 0)))) (q_lss rfl rfl) rfl ?_
              refine .q (x := .d (cB (decide (((nth ((nth v0 (Int.toNat (v5l1))).segments) (Int.toNat (v8l3))).units) < 0)))) (q_move rfl) rfl ?_
              refine .guardG (b := (!(decide (((nth ((nth v0 (Int.toNat (v5l1))).segments) (Int.toNat (v8l3))).units) < 0)))) (x := .ref 0 17) (env' := [(6, _)]) rfl rfl rfl ⟨.inl rfl, trivial⟩ rfl (fun hg => OpQ.g (q_fieldRef fo_58_6 rfl)) ?_
              refine .guardG (b := (!(decide (((nth ((nth v0 (Int.toNat (v5l1))).segments) (Int.toNat (v8l3))).units) < 0)))) (x := .d (slOf 4 Segment.row ((nth v0 (Int.toNat (v5l1))).segments))) (env' := [(123, _)]) rfl rfl rfl ⟨.inr (.inl rfl), trivial⟩ rfl (fun hg => OpQ.g (q_loadO one_55 rfl rfl rfl)) ?_
              refine .guardG (b := (!(decide (((nth ((nth v0 (Int.toNat (v5l1))).segments) (Int.toNat (v8l3))).units) < 0)))) (x := .d (cI v8l3)) (env' := [(8, _)]) rfl rfl rfl ⟨.inl rfl, trivial⟩ rfl (fun hg => OpQ.g (q_move rfl)) ?_
              obtain ⟨hk6, H⟩ := ck_some H
              refine .guardG (b := (!(decide (((nth ((nth v0 (Int.toNat (v5l1))).segments) (Int.toNat (v8l3))).units) < 0)))) (x := .d (.ro (Segment.row (nth ((nth v0 (Int.toNat (v5l1))).segments) (Int.toNat (v8l3)))))) (env' := [(124, _), (125, _)]) rfl rfl rfl ⟨.inr (.inl rfl), ⟨.inr (.inl rfl), trivial⟩⟩ rfl (fun hg => OpQ.g (q_idxL (row := Segment.row) (l := (nth v0 (Int.toNat (v5l1))).segments) (i := v8l3) Try.underlying55 hi97 hs97 rfl rfl rfl (hk6 hg))) ?_
              refine .guardG (b := (!(decide (((nth ((nth v0 (Int.toNat (v5l1))).segments) (Int.toNat (v8l3))).units) < 0)))) (x := .d (.ro ((Segment.row (nth ((nth v0 (Int.toNat (v5l1))).segments) (Int.toNat (v8l3)))).drop 2))) (env' := [(126, _)]) rfl rfl rfl ⟨.inr (.inl rfl), trivial⟩ rfl (fun hg => OpQ.g (q_fieldRo fo_97_2 rfl)) ?_
              refine .guardG (b := (!(decide (((nth ((nth v0 (Int.toNat (v5l1))).segments) (Int.toNat (v8l3))).units) < 0)))) (x := .d (cI ((nth ((nth v0 (Int.toNat (v5l1))).segments) (Int.toNat (v8l3))).units))) (env' := [(127, _)]) rfl rfl rfl ⟨.inr (.inl rfl), trivial⟩ rfl (fun hg => OpQ.g (q_load one_3 rfl)) ?_
              refine .guardG (b := (!(decide (((nth ((nth v0 (Int.toNat (v5l1))).segments) (Int.toNat (v8l3))).units) < 0)))) (x := .d (cB (decide (((nth ((nth v0 (Int.toNat (v5l1))).segments) (Int.toNat (v8l3))).units) > 1099511627776)))) (env' := [(128, _)]) rfl rfl rfl ⟨.inr (.inl rfl), trivial⟩ rfl (fun hg => OpQ.g (q_gtr rfl rfl)) ?_
              refine .q (x := .d (cB ((decide (((nth ((nth v0 (Int.toNat (v5l1))).segments) (Int.toNat (v8l3))).units) < 0)) || (decide (((nth ((nth v0 (Int.toNat (v5l1))).segments) (Int.toNat (v8l3))).units) > 1099511627776))))) (q_pickOrB rfl rfl rfl) rfl ?_
              refine .q (x := .d (cB ((decide (((nth ((nth v0 (Int.toNat (v5l1))).segments) (Int.toNat (v8l3))).units) < 0)) || (decide (((nth ((nth v0 (Int.toNat (v5l1))).segments) (Int.toNat (v8l3))).units) > 1099511627776))))) (q_move rfl) rfl ?_
              refine .guardG (b := (!((decide (((nth ((nth v0 (Int.toNat (v5l1))).segments) (Int.toNat (v8l3))).units) < 0)) || (decide (((nth ((nth v0 (Int.toNat (v5l1))).segments) (Int.toNat (v8l3))).units) > 1099511627776))))) (x := .ref 0 17) (env' := [(6, _)]) rfl rfl rfl ⟨.inl rfl, trivial⟩ rfl (fun hg => OpQ.g (q_fieldRef fo_58_6 rfl)) ?_
              refine .guardG (b := (!((decide (((nth ((nth v0 (Int.toNat (v5l1))).segments) (Int.toNat (v8l3))).units) < 0)) || (decide (((nth ((nth v0 (Int.toNat (v5l1))).segments) (Int.toNat (v8l3))).units) > 1099511627776))))) (x := .d (slOf 4 Segment.row ((nth v0 (Int.toNat (v5l1))).segments))) (env' := [(132, _)]) rfl rfl rfl ⟨.inr (.inl rfl), trivial⟩ rfl (fun hg => OpQ.g (q_loadO one_55 rfl rfl rfl)) ?_
              refine .guardG (b := (!((decide (((nth ((nth v0 (Int.toNat (v5l1))).segments) (Int.toNat (v8l3))).units) < 0)) || (decide (((nth ((nth v0 (Int.toNat (v5l1))).segments) (Int.toNat (v8l3))).units) > 1099511627776))))) (x := .d (cI v8l3)) (env' := [(8, _)]) rfl rfl rfl ⟨.inl rfl, trivial⟩ rfl (fun hg => OpQ.g (q_move rfl)) ?_
              obtain ⟨hk7, H⟩ := ck_some H
              refine .guardG (b := (!((decide (((nth ((nth v0 (Int.toNat (v5l1))).segments) (Int.toNat (v8l3))).units) < 0)) || (decide (((nth ((nth v0 (Int.toNat (v5l1))).segments) (Int.toNat (v8l3))).units) > 1099511627776))))) (x := .d (.ro (Segment.row (nth ((nth v0 (Int.toNat (v5l1))).segments) (Int.toNat (v8l3)))))) (env' := [(133, _), (134, _)]) rfl rfl rfl ⟨.inr (.inl rfl), ⟨.inr (.inl rfl), trivial⟩⟩ rfl (fun hg => OpQ.g (q_idxL (row := Segment.row) (l := (nth v0 (Int.toNat (v5l1))).segments) (i := v8l3) Try.underlying55 hi97 hs97 rfl rfl rfl (hk7 hg))) ?_
              refine .guardG (b := (!((decide (((nth ((nth v0 (Int.toNat (v5l1))).segments) (Int.toNat (v8l3))).units) < 0)) || (decide (((nth ((nth v0 (Int.toNat (v5l1))).segments) (Int.toNat (v8l3))).units) > 1099511627776))))) (x := .d (.ro ((Segment.row (nth ((nth v0 (Int.toNat (v5l1))).segments) (Int.toNat (v8l3)))).drop 3))) (env' := [(135, _)]) rfl rfl rfl ⟨.inr (.inl rfl), trivial⟩ rfl (fun hg => OpQ.g (q_fieldRo fo_97_3 rfl)) ?_
              refine .guardG (b := (!((decide (((nth ((nth v0 (Int.toNat (v5l1))).segments) (Int.toNat (v8l3))).units) < 0)) || (decide (((nth ((nth v0 (Int.toNat (v5l1))).segments) (Int.toNat (v8l3))).units) > 1099511627776))))) (x := .d (cI ((nth ((nth v0 (Int.toNat (v5l1))).segments) (Int.toNat (v8l3))).amount))) (env' := [(136, _)]) rfl rfl rfl ⟨.inr (.inl rfl), trivial⟩ rfl (fun hg => OpQ.g (q_load one_3 rfl)) ?_
              obtain ⟨y7, hy7, H⟩ := bind_some' H
              refine .guardG (b := (!((decide (((nth ((nth v0 (Int.toNat (v5l1))).segments) (Int.toNat (v8l3))).units) < 0)) || (decide (((nth ((nth v0 (Int.toNat (v5l1))).segments) (Int.toNat (v8l3))).units) > 1099511627776))))) (x := .d (cB y7)) (env' := [(137, _)]) rfl rfl rfl ⟨.inr (.inl rfl), trivial⟩ rfl (fun hg => (g_call en_33 rfl rfl (c_f_billingref54_amount (gcall_some hy7 hg)))) ?_
              refine .guardG (b := (!((decide (((nth ((nth v0 (Int.toNat (v5l1))).segments) (Int.toNat (v8l3))).units) < 0)) || (decide (((nth ((nth v0 (Int.toNat (v5l1))).segments) (Int.toNat (v8l3))).units) > 1099511627776))))) (x := .d (cB (!y7))) (env' := [(138, _)]) rfl rfl rfl ⟨.inr (.inl rfl), trivial⟩ rfl (fun hg => OpQ.g (q_not rfl)) ?_
              refine .q (x := .d (cB (((decide (((nth ((nth v0 (Int.toNat (v5l1))).segments) (Int.toNat (v8l3))).units) < 0)) || (decide (((nth ((nth v0 (Int.toNat (v5l1))).segments) (Int.toNat (v8l3))).units) > 1099511627776))) || (!y7)))) (q_pickOrB rfl rfl rfl) rfl ?_
              refine .nil ?_
              refine .cond rfl (fun hc => ?_) (fun hc => ?_)
              · replace H := ifT hc H; clear hc
                refine .seq ?_
                refine .region ?_
                refine .q (x := .d (cB false)) (q_assign rfl) rfl ?_
                refine .nil ?_
                refine .retN [.tmp 4] [.d (cB false)] Try.func18 Try.results18 ⟨rfl, trivial⟩ ?_
                cases H
                cases HK2
                cases HK1
                exact ⟨_, .rfl' _, rfl⟩
              · replace H := ifF hc H; clear hc
                refine .skip ?_
                refine .inBlock ?_
                refine .region ?_
                refine .q (x := .d (cI v8l3)) (q_move rfl) rfl ?_
                obtain ⟨hk8, H⟩ := ck_some H
                refine .q (x := .d (cI (v8l3 + 1))) (q_addI rfl rfl hk8.1 hk8.2) rfl ?_
                refine .q (x := .d (cI (v8l3 + 1))) (q_assign rfl) rfl ?_
                refine .nil ?_
                cases H
                exact .sub (.cons rfl (.rfl' _) (.cons rfl (.rfl' _) (.cons rfl (.rfl' _) (.cons rfl (.rfl' _) (.cons rfl (.rfl' _) (.nil)))))) (ih2 (n2, v8l3 + 1) HK2 hm2)
            · replace H := ifF hc H; clear hc
              refine .exit rfl ?_
              obtain ⟨q0, H9, hq0⟩ := map_some' H; clear H; cases hq0
              cases HK2
              have H := H9
              exact .sub (.cons rfl (.rfl' _) (.cons rfl (.rfl' _) (.cons rfl (.rfl' _) (.cons rfl (.rfl' _) (.nil))))) (hj2x () H)
        · intro hj1 hj1x
          obtain ⟨n4, H⟩ := loop_some H
          refine .loop (ι := Nat × (Int)) (fun p => [(0, .d (slOf 24 Rated.row v0)), (1, .d (cI v1)), (5, .d (cI v5l1)), (6, .ref 0 0), (7, .d (cI p.2))]) (fun p => ⟨[.row 58 [.d (cI (((nth v0 (Int.toNat (v5l1))).usage).id)), .d (cI (((nth v0 (Int.toNat (v5l1))).usage).kind)), .d (cI (((nth v0 (Int.toNat (v5l1))).usage).account)), .d (cI (((nth v0 (Int.toNat (v5l1))).usage).sub)), .d (cS (((nth v0 (Int.toNat (v5l1))).usage).a)), .d (cS (((nth v0 (Int.toNat (v5l1))).usage).b)), .d (cI (((nth v0 (Int.toNat (v5l1))).usage).start)), .d (cI (((nth v0 (Int.toNat (v5l1))).usage).units)), .d (cI (((nth v0 (Int.toNat (v5l1))).usage).trunk)), .d (cB (((nth v0 (Int.toNat (v5l1))).usage).inbound)), .d (cI (((nth v0 (Int.toNat (v5l1))).usage).source)), .d (cI (((nth v0 (Int.toNat (v5l1))).usage).serial)), .d (cI ((nth v0 (Int.toNat (v5l1))).err)), .d (cS ((nth v0 (Int.toNat (v5l1))).plan)), .d (cI ((nth v0 (Int.toNat (v5l1))).version)), .d (cS ((nth v0 (Int.toNat (v5l1))).zone)), .d (slOf 5 Take.row ((nth v0 (Int.toNat (v5l1))).takes)), .d (slOf 4 Segment.row ((nth v0 (Int.toNat (v5l1))).segments)), .d (cI ((nth v0 (Int.toNat (v5l1))).setup)), .d (cI ((nth v0 (Int.toNat (v5l1))).gross)), .d (cI ((nth v0 (Int.toNat (v5l1))).net)), .d (slOf 2 Given.row ((nth v0 (Int.toNat (v5l1))).given)), .d (cI ((nth v0 (Int.toNat (v5l1))).paid)), .d (cI ((nth v0 (Int.toNat (v5l1))).owed))]], []⟩) (fun p => iter (fun s => f_billingref54_Rated_l4 v0 v5l1 s) p.1 p.2 = some q1) (·.1) (n4, 0) H (.cons rfl (.rfl' _) (.cons rfl (.rfl' _) (.cons rfl (.rfl' _) (.cons rfl (.rfl' _) (.cons rfl (.rfl' _) (.nil)))))) rfl ?_
          rintro ⟨m2, v7l4⟩ HI ih2
          obtain ⟨n2, q2, hm2, H, HK2⟩ := iter_succ HI
          clear HI
          replace H : f_billingref54_Rated_l4 v0 v5l1 v7l4 = some q2 := H
          unfold f_billingref54_Rated_l4 at H
          change ARun _ _ _ _ _ _ [(0, .d (slOf 24 Rated.row v0)), (1, .d (cI v1)), (5, .d (cI v5l1)), (6, .ref 0 0), (7, .d (cI v7l4))] ⟨[.row 58 [.d (cI (((nth v0 (Int.toNat (v5l1))).usage).id)), .d (cI (((nth v0 (Int.toNat (v5l1))).usage).kind)), .d (cI (((nth v0 (Int.toNat (v5l1))).usage).account)), .d (cI (((nth v0 (Int.toNat (v5l1))).usage).sub)), .d (cS (((nth v0 (Int.toNat (v5l1))).usage).a)), .d (cS (((nth v0 (Int.toNat (v5l1))).usage).b)), .d (cI (((nth v0 (Int.toNat (v5l1))).usage).start)), .d (cI (((nth v0 (Int.toNat (v5l1))).usage).units)), .d (cI (((nth v0 (Int.toNat (v5l1))).usage).trunk)), .d (cB (((nth v0 (Int.toNat (v5l1))).usage).inbound)), .d (cI (((nth v0 (Int.toNat (v5l1))).usage).source)), .d (cI (((nth v0 (Int.toNat (v5l1))).usage).serial)), .d (cI ((nth v0 (Int.toNat (v5l1))).err)), .d (cS ((nth v0 (Int.toNat (v5l1))).plan)), .d (cI ((nth v0 (Int.toNat (v5l1))).version)), .d (cS ((nth v0 (Int.toNat (v5l1))).zone)), .d (slOf 5 Take.row ((nth v0 (Int.toNat (v5l1))).takes)), .d (slOf 4 Segment.row ((nth v0 (Int.toNat (v5l1))).segments)), .d (cI ((nth v0 (Int.toNat (v5l1))).setup)), .d (cI ((nth v0 (Int.toNat (v5l1))).gross)), .d (cI ((nth v0 (Int.toNat (v5l1))).net)), .d (slOf 2 Given.row ((nth v0 (Int.toNat (v5l1))).given)), .d (cI ((nth v0 (Int.toNat (v5l1))).paid)), .d (cI ((nth v0 (Int.toNat (v5l1))).owed))]], []⟩
          refine .seq ?_
          refine .seq ?_
          refine .region ?_
          refine .q (x := .d (cI v7l4)) (q_move rfl) rfl ?_
          refine .q (x := .ref 0 16) (q_fieldRef fo_58_5 rfl) rfl ?_
          refine .q (x := .d (slOf 5 Take.row ((nth v0 (Int.toNat (v5l1))).takes))) (q_loadO one_54 rfl rfl rfl) rfl ?_
          refine .q (x := .d (cI (((nth v0 (Int.toNat (v5l1))).takes).length : Int))) (q_lenL (l := (nth v0 (Int.toNat (v5l1))).takes) (row := Take.row) Try.underlying54 rfl rfl) rfl ?_
          refine .q (x := .d (cB (decide (v7l4 < (((nth v0 (Int.toNat (v5l1))).takes).length : Int))))) (q_lss rfl rfl) rfl ?_
          refine .nil ?_
          refine .cond rfl (fun hc => ?_) (fun hc => ?_)
          · replace H := ifT hc H; clear hc
            refine .skip ?_
            refine .seq ?_
            refine .block ?_
            refine .seq ?_
            refine .region ?_
            refine .q (x := .ref 0 16) (q_fieldRef fo_58_5 rfl) rfl ?_
            refine .q (x := .d (slOf 5 Take.row ((nth v0 (Int.toNat (v5l1))).takes))) (q_loadO one_54 rfl rfl rfl) rfl ?_
            refine .q (x := .d (cI v7l4)) (q_move rfl) rfl ?_
            obtain ⟨hk9, H⟩ := ck_some H
            refine .q (x := .d (.ro (Take.row (nth ((nth v0 (Int.toNat (v5l1))).takes) (Int.toNat (v7l4)))))) (q_idxL (row := Take.row) (l := (nth v0 (Int.toNat (v5l1))).takes) (i := v7l4) Try.underlying54 hi95 hs95 rfl rfl rfl hk9) rfl ?_
            refine .q (x := .d (.ro ((Take.row (nth ((nth v0 (Int.toNat (v5l1))).takes) (Int.toNat (v7l4)))).drop 4))) (q_fieldRo fo_95_4 rfl) rfl ?_
            refine .q (x := .d (cI ((nth ((nth v0 (Int.toNat (v5l1))).takes) (Int.toNat (v7l4))).units))) (q_load one_3 rfl) rfl ?_
            refine .q (x := .d (cB (decide (((nth ((nth v0 (Int.toNat (v5l1))).takes) (Int.toNat (v7l4))).units) < 0)))) (q_lss rfl rfl) rfl ?_
            refine .q (x := .d (cB (decide (((nth ((nth v0 (Int.toNat (v5l1))).takes) (Int.toNat (v7l4))).units) < 0)))) (q_move rfl) rfl ?_
            refine .guardG (b := (!(decide (((nth ((nth v0 (Int.toNat (v5l1))).takes) (Int.toNat (v7l4))).units) < 0)))) (x := .ref 0 16) (env' := [(6, _)]) rfl rfl rfl ⟨.inl rfl, trivial⟩ rfl (fun hg => OpQ.g (q_fieldRef fo_58_5 rfl)) ?_
            refine .guardG (b := (!(decide (((nth ((nth v0 (Int.toNat (v5l1))).takes) (Int.toNat (v7l4))).units) < 0)))) (x := .d (slOf 5 Take.row ((nth v0 (Int.toNat (v5l1))).takes))) (env' := [(100, _)]) rfl rfl rfl ⟨.inr (.inl rfl), trivial⟩ rfl (fun hg => OpQ.g (q_loadO one_54 rfl rfl rfl)) ?_
            refine .guardG (b := (!(decide (((nth ((nth v0 (Int.toNat (v5l1))).takes) (Int.toNat (v7l4))).units) < 0)))) (x := .d (cI v7l4)) (env' := [(7, _)]) rfl rfl rfl ⟨.inl rfl, trivial⟩ rfl (fun hg => OpQ.g (q_move rfl)) ?_
            obtain ⟨hk10, H⟩ := ck_some H
            refine .guardG (b := (!(decide (((nth ((nth v0 (Int.toNat (v5l1))).takes) (Int.toNat (v7l4))).units) < 0)))) (x := .d (.ro (Take.row (nth ((nth v0 (Int.toNat (v5l1))).takes) (Int.toNat (v7l4)))))) (env' := [(101, _), (102, _)]) rfl rfl rfl ⟨.inr (.inl rfl), ⟨.inr (.inl rfl), trivial⟩⟩ rfl (fun hg => OpQ.g (q_idxL (row := Take.row) (l := (nth v0 (Int.toNat (v5l1))).takes) (i := v7l4) Try.underlying54 hi95 hs95 rfl rfl rfl (hk10 hg))) ?_
            refine .guardG (b := (!(decide (((nth ((nth v0 (Int.toNat (v5l1))).takes) (Int.toNat (v7l4))).units) < 0)))) (x := .d (.ro ((Take.row (nth ((nth v0 (Int.toNat (v5l1))).takes) (Int.toNat (v7l4)))).drop 4))) (env' := [(103, _)]) rfl rfl rfl ⟨.inr (.inl rfl), trivial⟩ rfl (fun hg => OpQ.g (q_fieldRo fo_95_4 rfl)) ?_
            refine .guardG (b := (!(decide (((nth ((nth v0 (Int.toNat (v5l1))).takes) (Int.toNat (v7l4))).units) < 0)))) (x := .d (cI ((nth ((nth v0 (Int.toNat (v5l1))).takes) (Int.toNat (v7l4))).units))) (env' := [(104, _)]) rfl rfl rfl ⟨.inr (.inl rfl), trivial⟩ rfl (fun hg => OpQ.g (q_load one_3 rfl)) ?_
            refine .guardG (b := (!(decide (((nth ((nth v0 (Int.toNat (v5l1))).takes) (Int.toNat (v7l4))).units) < 0)))) (x := .d (cB (decide (((nth ((nth v0 (Int.toNat (v5l1))).takes) (Int.toNat (v7l4))).units) > 1099511627776)))) (env' := [(105, _)]) rfl rfl rfl ⟨.inr (.inl rfl), trivial⟩ rfl (fun hg => OpQ.g (q_gtr rfl rfl)) ?_
            refine .q (x := .d (cB ((decide (((nth ((nth v0 (Int.toNat (v5l1))).takes) (Int.toNat (v7l4))).units) < 0)) || (decide (((nth ((nth v0 (Int.toNat (v5l1))).takes) (Int.toNat (v7l4))).units) > 1099511627776))))) (q_pickOrB rfl rfl rfl) rfl ?_
            refine .nil ?_
            refine .cond rfl (fun hc => ?_) (fun hc => ?_)
            · replace H := ifT hc H; clear hc
              refine .seq ?_
              refine .region ?_
              refine .q (x := .d (cB false)) (q_assign rfl) rfl ?_
              refine .nil ?_
              refine .retN [.tmp 4] [.d (cB false)] Try.func18 Try.results18 ⟨rfl, trivial⟩ ?_
              cases H
              cases HK2
              cases HK1
              exact ⟨_, .rfl' _, rfl⟩
            · replace H := ifF hc H; clear hc
              refine .skip ?_
              refine .inBlock ?_
              refine .region ?_
              refine .q (x := .d (cI v7l4)) (q_move rfl) rfl ?_
              obtain ⟨hk11, H⟩ := ck_some H
              refine .q (x := .d (cI (v7l4 + 1))) (q_addI rfl rfl hk11.1 hk11.2) rfl ?_
              refine .q (x := .d (cI (v7l4 + 1))) (q_assign rfl) rfl ?_
              refine .nil ?_
              cases H
              exact .sub (.cons rfl (.rfl' _) (.cons rfl (.rfl' _) (.cons rfl (.rfl' _) (.cons rfl (.rfl' _) (.cons rfl (.rfl' _) (.nil)))))) (ih2 (n2, v7l4 + 1) HK2 hm2)
          · replace H := ifF hc H; clear hc
            refine .exit rfl ?_
            obtain ⟨q0, H9, hq0⟩ := map_some' H; clear H; cases hq0
            cases HK2
            have H := H9
            exact .sub (.cons rfl (.rfl' _) (.cons rfl (.rfl' _) (.cons rfl (.rfl' _) (.cons rfl (.rfl' _) (.nil))))) (hj1x () H)
    · replace H := ifF hc H; clear hc
      refine .exit rfl ?_
      refine .seq ?_
      refine .region ?_
      refine .q (x := .d (cB true)) (q_assign rfl) rfl ?_
      refine .nil ?_
      refine .retN [.tmp 4] [.d (cB true)] Try.func18 Try.results18 ⟨rfl, trivial⟩ ?_
      cases H
      cases HK1
      exact ⟨_, .rfl' _, rfl⟩

set_option maxRecDepth 100000 in
set_option maxHeartbeats 1000000 in
theorem c_f_billinglaw54_AssureUsages {v0list : List Usage} {v1rated : List Rated} {r : Bool} (H : f_billinglaw54_AssureUsages v0list v1rated = some r) : ACall Try.prog 4 [slOf 12 Usage.row v0list, slOf 24 Rated.row v1rated] (· = cB r) := by
  obtain ⟨i52, hi52, hz52, hs52, hb52⟩ := in_52
  obtain ⟨i58, hi58, hz58, hs58, hb58⟩ := in_58
  refine ACall.enter' Try.func4 rfl Try.ntmps4 rfl fun S hS => ?_
  unfold f_billinglaw54_AssureUsages at H
  change ARun _ _ _ _ _ _ [(0, .d (slOf 12 Usage.row v0list)), (1, .d (slOf 24 Rated.row v1rated))] _
  refine .seq ?_
  refine .region ?_
  refine .q (x := .d (cB false)) (q_assign rfl) rfl ?_
  refine .nil ?_
  refine .seq ?_
  refine .seq ?_
  refine .region ?_
  refine .q (x := .d (slOf 12 Usage.row v0list)) (q_move rfl) rfl ?_
  obtain ⟨y1, hy1, H⟩ := bind_some' H
  refine .g (x := .d (cB y1)) (g_call en_17 rfl rfl (c_f_billinglaw54_usages (hy1))) rfl ?_
  refine .q (x := .d (cB (!y1))) (q_not rfl) rfl ?_
  refine .q (x := .d (cB (!y1))) (q_move rfl) rfl ?_
  refine .guardG (b := (!(!y1))) (x := .d (slOf 24 Rated.row v1rated)) (env' := [(1, _)]) rfl rfl rfl ⟨.inl rfl, trivial⟩ rfl (fun hg => OpQ.g (q_move rfl)) ?_
  obtain ⟨y2, hy2, H⟩ := bind_some' H
  refine .guardG (b := (!(!y1))) (x := .d (cB y2)) (env' := [(9, _)]) rfl rfl rfl ⟨.inr (.inl rfl), trivial⟩ rfl (fun hg => (g_call en_18 rfl rfl (c_f_billingref54_Rated (gcall_some hy2 hg)))) ?_
  refine .guardG (b := (!(!y1))) (x := .d (cB (!y2))) (env' := [(10, _)]) rfl rfl rfl ⟨.inr (.inl rfl), trivial⟩ rfl (fun hg => OpQ.g (q_not rfl)) ?_
  refine .q (x := .d (cB ((!y1) || (!y2)))) (q_pickOrB rfl rfl rfl) rfl ?_
  refine .nil ?_
  refine .cond rfl (fun hc => ?_) (fun hc => ?_)
  · replace H := ifT hc H; clear hc
    refine .seq ?_
    refine .region ?_
    obtain ⟨y3, hy3, H⟩ := bind_some' H
    refine .g (x := .d (cB y3)) (g_call en_10 rfl rfl (c_x_awake (hy3))) rfl ?_
    refine .q (x := .d (cB y3)) (q_assign rfl) rfl ?_
    refine .nil ?_
    refine .retN [.tmp 4] [.d (cB y3)] Try.func4 Try.results4 ⟨rfl, trivial⟩ ?_
    cases H
    exact ⟨_, .rfl' _, rfl⟩
  · replace H := ifF hc H; clear hc
    refine .skip ?_
    refine .seq ?_
    refine .region ?_
    refine .v (x := .tsl 12 (([] : List Usage).map Usage.row) 0) (v_build0T Try.underlying31 hi52 hs52) rfl ?_
    refine .withSt (st' := ⟨[], [⟨52, 12, ([] : List Usage).length⟩]⟩) rfl ?_
    refine .q (x := .d (slOf 12 Usage.row v0list)) (q_move rfl) rfl ?_
    obtain ⟨hk1, H⟩ := ck_some H
    refine .v (x := .tsl 12 ((([] : List Usage) ++ v0list).map Usage.row) 0) (v_appendL (l := ([] : List Usage)) (l' := v0list) (row := Usage.row) Try.underlying31 hi52 hz52 hs52 rfl (by rw [hb52]; decide) rfl rfl rfl rfl hk1) rfl ?_
    refine .withSt (st' := ⟨[], [⟨52, 12, (([] : List Usage) ++ v0list).length⟩]⟩) rfl ?_
    refine .v (x := .tsl 24 (([] : List Rated).map Rated.row) 1) (v_build0T Try.underlying46 hi58 hs58) rfl ?_
    refine .withSt (st' := ⟨[], [⟨52, 12, (([] : List Usage) ++ v0list).length⟩, ⟨58, 24, ([] : List Rated).length⟩]⟩) rfl ?_
    refine .q (x := .d (slOf 24 Rated.row v1rated)) (q_move rfl) rfl ?_
    obtain ⟨hk2, H⟩ := ck_some H
    refine .v (x := .tsl 24 ((([] : List Rated) ++ v1rated).map Rated.row) 1) (v_appendL (l := ([] : List Rated)) (l' := v1rated) (row := Rated.row) Try.underlying46 hi58 hz58 hs58 rfl (by rw [hb58]; decide) rfl rfl rfl rfl hk2) rfl ?_
    refine .withSt (st' := ⟨[], [⟨52, 12, (([] : List Usage) ++ v0list).length⟩, ⟨58, 24, (([] : List Rated) ++ v1rated).length⟩]⟩) rfl ?_
    obtain ⟨y4, hy4, H⟩ := bind_some' H
    refine .g (x := .d (slOf 4 Leak.row y4)) (g_call en_19 rfl rfl (c_x_Usages (hy4))) rfl ?_
    refine .q (x := .d (slOf 12 Usage.row v0list)) (q_move rfl) rfl ?_
    refine .q (x := .d (slOf 24 Rated.row v1rated)) (q_move rfl) rfl ?_
    obtain ⟨y5, hy5, H⟩ := bind_some' H
    refine .g (x := .d (slOf 4 Leak.row y5)) (g_call en_20 rfl rfl (c_x_rUsages (hy5))) rfl ?_
    obtain ⟨y6, hy6, H⟩ := bind_some' H
    refine .g (x := .d (cB y6)) (g_call en_13 rfl rfl (c_x_Same (hy6))) rfl ?_
    refine .q (x := .d (cB y6)) (q_move rfl) rfl ?_
    obtain ⟨y7, hy7, H⟩ := bind_some' H
    refine .guardG (b := y6) (x := .d (cB y7)) (env' := []) rfl rfl rfl trivial rfl (fun hg => (g_call en_10 rfl rfl (c_x_awake (gcall_some hy7 hg)))) ?_
    refine .q (x := .d (cB (y6 && y7))) (q_pickAndB rfl rfl rfl) rfl ?_
    refine .q (x := .d (cB (y6 && y7))) (q_assign rfl) rfl ?_
    refine .nil ?_
    refine .retN [.tmp 4] [.d (cB (y6 && y7))] Try.func4 Try.results4 ⟨rfl, trivial⟩ ?_
    cases H
    exact ⟨_, .rfl' _, rfl⟩

set_option maxRecDepth 100000 in
set_option maxHeartbeats 1000000 in
theorem c_f_billinglaw54_AssureInvoices {v0rated : List Rated} {v1lines : List Line} {r : Bool} (H : f_billinglaw54_AssureInvoices v0rated v1lines = some r) : ACall Try.prog 6 [slOf 24 Rated.row v0rated, slOf 8 Line.row v1lines] (· = cB r) := by
  obtain ⟨i58, hi58, hz58, hs58, hb58⟩ := in_58
  obtain ⟨i64, hi64, hz64, hs64, hb64⟩ := in_64
  refine ACall.enter' Try.func6 rfl Try.ntmps6 rfl fun S hS => ?_
  unfold f_billinglaw54_AssureInvoices at H
  change ARun _ _ _ _ _ _ [(0, .d (slOf 24 Rated.row v0rated)), (1, .d (slOf 8 Line.row v1lines))] _
  refine .seq ?_
  refine .region ?_
  refine .q (x := .d (cB false)) (q_assign rfl) rfl ?_
  refine .nil ?_
  refine .seq ?_
  refine .seq ?_
  refine .region ?_
  refine .q (x := .d (slOf 24 Rated.row v0rated)) (q_move rfl) rfl ?_
  obtain ⟨y1, hy1, H⟩ := bind_some' H
  refine .g (x := .d (cB y1)) (g_call en_18 rfl rfl (c_f_billingref54_Rated (hy1))) rfl ?_
  refine .q (x := .d (cB (!y1))) (q_not rfl) rfl ?_
  refine .q (x := .d (cB (!y1))) (q_move rfl) rfl ?_
  refine .guardG (b := (!(!y1))) (x := .d (slOf 8 Line.row v1lines)) (env' := [(1, _)]) rfl rfl rfl ⟨.inl rfl, trivial⟩ rfl (fun hg => OpQ.g (q_move rfl)) ?_
  refine .guardG (b := (!(!y1))) (x := .d (cI (v1lines.length : Int))) (env' := [(10, _)]) rfl rfl rfl ⟨.inr (.inl rfl), trivial⟩ rfl (fun hg => OpQ.g (q_lenL (l := v1lines) (row := Line.row) Try.underlying62 rfl rfl)) ?_
  refine .guardG (b := (!(!y1))) (x := .d (cB (decide ((v1lines.length : Int) > 24)))) (env' := [(11, _)]) rfl rfl rfl ⟨.inr (.inl rfl), trivial⟩ rfl (fun hg => OpQ.g (q_gtr rfl rfl)) ?_
  refine .q (x := .d (cB ((!y1) || (decide ((v1lines.length : Int) > 24))))) (q_pickOrB rfl rfl rfl) rfl ?_
  refine .nil ?_
  refine .cond rfl (fun hc => ?_) (fun hc => ?_)
  · replace H := ifT hc H; clear hc
    refine .seq ?_
    refine .region ?_
    obtain ⟨y2, hy2, H⟩ := bind_some' H
    refine .g (x := .d (cB y2)) (g_call en_10 rfl rfl (c_x_awake (hy2))) rfl ?_
    refine .q (x := .d (cB y2)) (q_assign rfl) rfl ?_
    refine .nil ?_
    refine .retN [.tmp 4] [.d (cB y2)] Try.func6 Try.results6 ⟨rfl, trivial⟩ ?_
    cases H
    exact ⟨_, .rfl' _, rfl⟩
  · replace H := ifF hc H; clear hc
    refine .skip ?_
    refine .seq ?_
    refine .seq ?_
    refine .region ?_
    refine .q (x := .d (cI 0)) (q_assign rfl) rfl ?_
    refine .nil ?_
    refine .blockJoin2 (ι := Unit) (fun s => [(0, .d (slOf 24 Rated.row v0rated)), (1, .d (slOf 8 Line.row v1lines))]) (fun s => ⟨[], []⟩) (fun s => f_billinglaw54_AssureInvoices_j1 v0rated v1lines = some r) ?_ ?_
    · rintro _ H
      replace H : f_billinglaw54_AssureInvoices_j1 v0rated v1lines = some r := H
      unfold f_billinglaw54_AssureInvoices_j1 at H
      change ARun _ _ _ _ _ _ [(0, .d (slOf 24 Rated.row v0rated)), (1, .d (slOf 8 Line.row v1lines))] ⟨[], []⟩
      refine .seq ?_
      refine .region ?_
      refine .v (x := .tsl 24 (([] : List Rated).map Rated.row) 0) (v_build0T Try.underlying46 hi58 hs58) rfl ?_
      refine .withSt (st' := ⟨[], [⟨58, 24, ([] : List Rated).length⟩]⟩) rfl ?_
      refine .q (x := .d (slOf 24 Rated.row v0rated)) (q_move rfl) rfl ?_
      obtain ⟨hk1, H⟩ := ck_some H
      refine .v (x := .tsl 24 ((([] : List Rated) ++ v0rated).map Rated.row) 0) (v_appendL (l := ([] : List Rated)) (l' := v0rated) (row := Rated.row) Try.underlying46 hi58 hz58 hs58 rfl (by rw [hb58]; decide) rfl rfl rfl rfl hk1) rfl ?_
      refine .withSt (st' := ⟨[], [⟨58, 24, (([] : List Rated) ++ v0rated).length⟩]⟩) rfl ?_
      refine .v (x := .tsl 8 (([] : List Line).map Line.row) 1) (v_build0T Try.underlying62 hi64 hs64) rfl ?_
      refine .withSt (st' := ⟨[], [⟨58, 24, (([] : List Rated) ++ v0rated).length⟩, ⟨64, 8, ([] : List Line).length⟩]⟩) rfl ?_
      refine .q (x := .d (slOf 8 Line.row v1lines)) (q_move rfl) rfl ?_
      obtain ⟨hk2, H⟩ := ck_some H
      refine .v (x := .tsl 8 ((([] : List Line) ++ v1lines).map Line.row) 1) (v_appendL (l := ([] : List Line)) (l' := v1lines) (row := Line.row) Try.underlying62 hi64 hz64 hs64 rfl (by rw [hb64]; decide) rfl rfl rfl rfl hk2) rfl ?_
      refine .withSt (st' := ⟨[], [⟨58, 24, (([] : List Rated) ++ v0rated).length⟩, ⟨64, 8, (([] : List Line) ++ v1lines).length⟩]⟩) rfl ?_
      obtain ⟨y3, hy3, H⟩ := bind_some' H
      refine .g (x := .d (slOf 4 Leak.row y3)) (g_call en_21 rfl rfl (c_x_Invoices (hy3))) rfl ?_
      refine .q (x := .d (slOf 24 Rated.row v0rated)) (q_move rfl) rfl ?_
      refine .q (x := .d (slOf 8 Line.row v1lines)) (q_move rfl) rfl ?_
      obtain ⟨y4, hy4, H⟩ := bind_some' H
      refine .g (x := .d (slOf 4 Leak.row y4)) (g_call en_22 rfl rfl (c_x_rInvoices (hy4))) rfl ?_
      obtain ⟨y5, hy5, H⟩ := bind_some' H
      refine .g (x := .d (cB y5)) (g_call en_13 rfl rfl (c_x_Same (hy5))) rfl ?_
      refine .q (x := .d (cB y5)) (q_move rfl) rfl ?_
      obtain ⟨y6, hy6, H⟩ := bind_some' H
      refine .guardG (b := y5) (x := .d (cB y6)) (env' := []) rfl rfl rfl trivial rfl (fun hg => (g_call en_10 rfl rfl (c_x_awake (gcall_some hy6 hg)))) ?_
      refine .q (x := .d (cB (y5 && y6))) (q_pickAndB rfl rfl rfl) rfl ?_
      refine .q (x := .d (cB (y5 && y6))) (q_assign rfl) rfl ?_
      refine .nil ?_
      refine .retN [.tmp 4] [.d (cB (y5 && y6))] Try.func6 Try.results6 ⟨rfl, trivial⟩ ?_
      cases H
      exact ⟨_, .rfl' _, rfl⟩
    · intro hj1 hj1x
      obtain ⟨n1, H⟩ := loop_some H
      refine .loop (ι := Nat × (Int)) (fun p => [(0, .d (slOf 24 Rated.row v0rated)), (1, .d (slOf 8 Line.row v1lines)), (5, .d (cI p.2))]) (fun p => ⟨[], []⟩) (fun p => iter (fun s => f_billinglaw54_AssureInvoices_l1 v0rated v1lines s) p.1 p.2 = some r) (·.1) (n1, 0) H (.cons rfl (.rfl' _) (.cons rfl (.rfl' _) (.cons rfl (.rfl' _) (.nil)))) rfl ?_
      rintro ⟨m1, v5il1⟩ HI ih1
      obtain ⟨n1, q1, hm1, H, HK1⟩ := iter_succ HI
      clear HI
      replace H : f_billinglaw54_AssureInvoices_l1 v0rated v1lines v5il1 = some q1 := H
      unfold f_billinglaw54_AssureInvoices_l1 at H
      change ARun _ _ _ _ _ _ [(0, .d (slOf 24 Rated.row v0rated)), (1, .d (slOf 8 Line.row v1lines)), (5, .d (cI v5il1))] ⟨[], []⟩
      refine .seq ?_
      refine .seq ?_
      refine .region ?_
      refine .q (x := .d (cI v5il1)) (q_move rfl) rfl ?_
      refine .q (x := .d (slOf 8 Line.row v1lines)) (q_move rfl) rfl ?_
      refine .q (x := .d (cI (v1lines.length : Int))) (q_lenL (l := v1lines) (row := Line.row) Try.underlying62 rfl rfl) rfl ?_
      refine .q (x := .d (cB (decide (v5il1 < (v1lines.length : Int))))) (q_lss rfl rfl) rfl ?_
      refine .nil ?_
      refine .cond rfl (fun hc => ?_) (fun hc => ?_)
      · replace H := ifT hc H; clear hc
        refine .skip ?_
        refine .seq ?_
        refine .block ?_
        refine .seq ?_
        refine .region ?_
        refine .q (x := .d (slOf 8 Line.row v1lines)) (q_move rfl) rfl ?_
        refine .q (x := .d (cI v5il1)) (q_move rfl) rfl ?_
        obtain ⟨hk3, H⟩ := ck_some H
        refine .q (x := .d (.ro (Line.row (nth v1lines (Int.toNat (v5il1)))))) (q_idxL (row := Line.row) (l := v1lines) (i := v5il1) Try.underlying62 hi64 hs64 rfl rfl rfl hk3) rfl ?_
        refine .q (x := .d (.ro ((Line.row (nth v1lines (Int.toNat (v5il1)))).drop 6))) (q_fieldRo fo_64_6 rfl) rfl ?_
        refine .q (x := .d (cI ((nth v1lines (Int.toNat (v5il1))).amount))) (q_load one_3 rfl) rfl ?_
        refine .q (x := .d (cB (decide (((nth v1lines (Int.toNat (v5il1))).amount) < (-1125899906842624))))) (q_lss rfl rfl) rfl ?_
        refine .q (x := .d (cB (decide (((nth v1lines (Int.toNat (v5il1))).amount) < (-1125899906842624))))) (q_move rfl) rfl ?_
        refine .guardG (b := (!(decide (((nth v1lines (Int.toNat (v5il1))).amount) < (-1125899906842624))))) (x := .d (slOf 8 Line.row v1lines)) (env' := [(1, _)]) rfl rfl rfl ⟨.inl rfl, trivial⟩ rfl (fun hg => OpQ.g (q_move rfl)) ?_
        refine .guardG (b := (!(decide (((nth v1lines (Int.toNat (v5il1))).amount) < (-1125899906842624))))) (x := .d (cI v5il1)) (env' := [(5, _)]) rfl rfl rfl ⟨.inl rfl, trivial⟩ rfl (fun hg => OpQ.g (q_move rfl)) ?_
        obtain ⟨hk4, H⟩ := ck_some H
        refine .guardG (b := (!(decide (((nth v1lines (Int.toNat (v5il1))).amount) < (-1125899906842624))))) (x := .d (.ro (Line.row (nth v1lines (Int.toNat (v5il1)))))) (env' := [(28, _), (29, _)]) rfl rfl rfl ⟨.inr (.inl rfl), ⟨.inr (.inl rfl), trivial⟩⟩ rfl (fun hg => OpQ.g (q_idxL (row := Line.row) (l := v1lines) (i := v5il1) Try.underlying62 hi64 hs64 rfl rfl rfl (hk4 hg))) ?_
        refine .guardG (b := (!(decide (((nth v1lines (Int.toNat (v5il1))).amount) < (-1125899906842624))))) (x := .d (.ro ((Line.row (nth v1lines (Int.toNat (v5il1)))).drop 6))) (env' := [(30, _)]) rfl rfl rfl ⟨.inr (.inl rfl), trivial⟩ rfl (fun hg => OpQ.g (q_fieldRo fo_64_6 rfl)) ?_
        refine .guardG (b := (!(decide (((nth v1lines (Int.toNat (v5il1))).amount) < (-1125899906842624))))) (x := .d (cI ((nth v1lines (Int.toNat (v5il1))).amount))) (env' := [(31, _)]) rfl rfl rfl ⟨.inr (.inl rfl), trivial⟩ rfl (fun hg => OpQ.g (q_load one_3 rfl)) ?_
        refine .guardG (b := (!(decide (((nth v1lines (Int.toNat (v5il1))).amount) < (-1125899906842624))))) (x := .d (cB (decide (((nth v1lines (Int.toNat (v5il1))).amount) > 1125899906842624)))) (env' := [(32, _)]) rfl rfl rfl ⟨.inr (.inl rfl), trivial⟩ rfl (fun hg => OpQ.g (q_gtr rfl rfl)) ?_
        refine .q (x := .d (cB ((decide (((nth v1lines (Int.toNat (v5il1))).amount) < (-1125899906842624))) || (decide (((nth v1lines (Int.toNat (v5il1))).amount) > 1125899906842624))))) (q_pickOrB rfl rfl rfl) rfl ?_
        refine .nil ?_
        refine .cond rfl (fun hc => ?_) (fun hc => ?_)
        · replace H := ifT hc H; clear hc
          refine .seq ?_
          refine .region ?_
          obtain ⟨y7, hy7, H⟩ := bind_some' H
          refine .g (x := .d (cB y7)) (g_call en_10 rfl rfl (c_x_awake (hy7))) rfl ?_
          refine .q (x := .d (cB y7)) (q_assign rfl) rfl ?_
          refine .nil ?_
          refine .retN [.tmp 4] [.d (cB y7)] Try.func6 Try.results6 ⟨rfl, trivial⟩ ?_
          cases H
          cases HK1
          exact ⟨_, .rfl' _, rfl⟩
        · replace H := ifF hc H; clear hc
          refine .skip ?_
          refine .inBlock ?_
          refine .region ?_
          refine .q (x := .d (cI v5il1)) (q_move rfl) rfl ?_
          obtain ⟨hk5, H⟩ := ck_some H
          refine .q (x := .d (cI (v5il1 + 1))) (q_addI rfl rfl hk5.1 hk5.2) rfl ?_
          refine .q (x := .d (cI (v5il1 + 1))) (q_assign rfl) rfl ?_
          refine .nil ?_
          cases H
          exact .sub (.cons rfl (.rfl' _) (.cons rfl (.rfl' _) (.cons rfl (.rfl' _) (.nil)))) (ih1 (n1, v5il1 + 1) HK1 hm1)
      · replace H := ifF hc H; clear hc
        refine .exit rfl ?_
        obtain ⟨q0, H9, hq0⟩ := map_some' H; clear H; cases hq0
        cases HK1
        have H := H9
        exact .sub (.cons rfl (.rfl' _) (.cons rfl (.rfl' _) (.nil))) (hj1x () H)

end Go.Proofs.Ytpdanklncjopoaa.L
