import Derived.Test.YtpdanklncjopoabW2
set_option linter.unusedSimpArgs false
set_option linter.unusedVariables false
namespace Go.Proofs.Ytpdanklncjopoab
open Go.RowKit Go.Abs

theorem castA {P : Program} {f : FuncId} {l bs : List D} {q : D → Prop} (h : ACall P f l q) (e : l = bs) : ACall P f bs q := e ▸ h
theorem dec_more {m : Nat} {ds : List UInt8} (hc : (if decide ((m : Int) > 0) = true then true else (((20 - ds.length : Nat) : Int) == 20)) = true) (hd : ds.length ≤ 20) (hx : ds.length = 20 → ¬ 0 < m) : ds.length ≤ 19 ∧ (0 < m ∨ ds = []) := by
  rcases Nat.eq_zero_or_pos m with h | h
  · subst h
    simp at hc
    have : ds = [] := List.eq_nil_of_length_eq_zero (by omega)
    subst this
    exact ⟨by simp, .inr rfl⟩
  · refine ⟨?_, .inl h⟩
    by_cases h2 : ds.length = 20
    · exact absurd h (hx h2)
    · omega
theorem arr_set {ds : List UInt8} {m : Nat} (h : ds.length ≤ 19) : List.take 1 (((⟨[.row 79 (arr ds)], []⟩ : St)).set 0 (.row 79 (putCells (arr ds) (0 + (19 - ds.length) * 1) [EV.d (D.ex (.int .u8 (IntKind.u8.wrap (IntKind.u64.wrap (48 + (m : Int).tmod 10)))))]))).objs = [.row 79 (arr (digit (m % 10) :: ds))] := by
  rw [u8_digit, ← arr_put h]; rfl
theorem dec_full {m n0 : Nat} {ds : List UInt8} (h : ds = [] ∧ m = n0 ∨ ds ≠ [] ∧ digs n0 = (if m = 0 then [] else digs m) ++ ds) (h2 : ds.length = 20) : ¬ 0 < m := by
  rcases h with ⟨h, _⟩ | ⟨_, h⟩
  · subst h; simp at h2
  · intro h0
    have h1 := digs_len20 n0
    rw [h, if_neg (by omega)] at h1
    have : digs m ≠ [] := by
      unfold digs digF
      split <;> simp
    have := List.length_pos_iff.2 this
    simp at h1; omega
theorem dec_end {m n0 : Nat} {ds : List UInt8} (hc : (if decide ((m : Int) > 0) = true then true else (((20 - ds.length : Nat) : Int) == 20)) = false) (hd : ds.length ≤ 20) (h : ds = [] ∧ m = n0 ∨ ds ≠ [] ∧ digs n0 = (if m = 0 then [] else digs m) ++ ds) : ds = digs n0 ∧ 0 < ds.length := by
  have hm : m = 0 := by
    rcases Nat.eq_zero_or_pos m with h | h
    · exact h
    · simp [h] at hc
  subst hm
  rcases h with ⟨h, _⟩ | ⟨h0, h⟩
  · subst h; simp at hc
  · exact ⟨by rw [h]; simp, List.length_pos_iff.2 (by assumption)⟩
theorem dec_mu {m : Nat} {ds : List UInt8} {b : UInt8} (h : 0 < m ∨ ds = []) : m / 10 + (if b :: ds = [] then 1 else 0) < m + (if ds = [] then 1 else 0) := by
  rcases h with h | h
  · simp; split <;> omega
  · subst h; simp; omega
theorem tq {n : Int} (h : n ≤ 0) : n.tdiv 10 = -(((-n).toNat / 10 : Nat) : Int) := by
  have : n = -(((-n).toNat : Nat) : Int) := by omega
  rw [this, Int.neg_tdiv, Int.tdiv_eq_ediv_of_nonneg (by omega)]
  omega
theorem tr {n : Int} (h : n ≤ 0) : n.tmod 10 = -(((-n).toNat % 10 : Nat) : Int) := by
  have : n = -(((-n).toNat : Nat) : Int) := by omega
  rw [this, Int.neg_tmod, Int.tmod_eq_emod_of_nonneg (by omega)]
  omega
theorem decF_big {n : Int} (h : n ≤ -10) (h1 : -9223372036854775808 ≤ n) : decF n = 45 :: (digs ((-n).toNat / 10) ++ digs ((-n).toNat % 10)) := by
  rw [decF, if_neg (by omega), digs_big (n := (-n).toNat) (by omega) (by omega), digs_small (n := (-n).toNat % 10) (by omega)]


set_option maxRecDepth 100000 in
set_option maxHeartbeats 400000 in
theorem c_decimal (n : Int) (h1 : -9223372036854775808 ≤ n) (h2 : n ≤ 9223372036854775807) : ACall Try.prog 20 [cI n] (· = cS (decF n)) := by
  refine ACall.enter' Try.func20 rfl Try.ntmps20 rfl fun S hS => ?_
  obtain ⟨i5, hi5, hz5, hs5, hb5⟩ := in_5
  refine .seq ?_
  refine .region ?_
  refine .q (q_assign rfl) rfl ?_
  refine .nil ?_
  refine .seq ?_
  refine .region ?_
  refine .q (q_move rfl) rfl ?_
  refine .q (q_conv Try.underlying3 Try.underlying78 rfl (rfl)) rfl ?_
  refine .q (q_assign rfl) rfl ?_
  refine .nil ?_
  refine .seqJoin (ι := Unit) (fun _ => [(0, .d (cI n)), (3, .d (.ex (.int .u64 (n.natAbs : Int))))]) (fun _ => ⟨[], []⟩) (fun _ => True) ?_ ?_
  · rintro _ -
    refine .seq ?_
    refine .region ?_
    refine .v (v_alloc zr_79 rfl) rfl ?_
    refine .nil ?_
    refine .seq ?_
    refine .region ?_
    refine .q (q_assign rfl) rfl ?_
    refine .nil ?_
    refine .seq ?_
    refine .block ?_
    refine .loop (ι := Nat × List UInt8) (fun (m, ds) => [(0, .d (cI n)), (3, .d (.ex (.int .u64 (m : Int)))), (4, .ref 0 0), (5, .d (cI ((20 - ds.length : Nat) : Int)))]) (fun (m, ds) => ⟨[.row 79 (arr ds)], []⟩) (fun (m, ds) => m ≤ 9223372036854775808 ∧ ds.length ≤ 20 ∧ (ds = [] ∧ m = n.natAbs ∨ ds ≠ [] ∧ digs n.natAbs = (if m = 0 then [] else digs m) ++ ds)) (fun (m, ds) => m + (if ds = [] then 1 else 0)) (n.natAbs, []) ⟨by show n.natAbs ≤ _; omega, by simp, .inl ⟨rfl, rfl⟩⟩ (.cons rfl (.rfl' _) (.cons rfl (.rfl' _) (.cons rfl (.rfl' _) (.cons rfl (.rfl' _) (.nil))))) rfl ?_
    rintro ⟨m, ds⟩ hI ih
    have hm := hI.1
    have hd := hI.2.1
    refine .seq ?_
    refine .seq ?_
    refine .region ?_
    refine .q (q_move rfl) rfl ?_
    refine .q (q_gtr rfl rfl) rfl ?_
    refine .q (q_move rfl) rfl ?_
    refine .guardG (env' := [(5, _)]) rfl rfl rfl ⟨.inl rfl, trivial⟩ rfl (fun _ => (q_move rfl).g) ?_
    refine .guardG (env' := [(15, _)]) rfl rfl rfl ⟨.inr (.inl rfl), trivial⟩ rfl (fun _ => (q_eql rfl rfl).g) ?_
    refine .q (q_pickOr rfl rfl rfl) rfl ?_
    refine .nil ?_
    refine .cond rfl (fun hc1 => ?_) (fun hc1 => ?_)
    · skip
      obtain ⟨hd19, hm0⟩ := dec_more hc1 hd (dec_full hI.2.2)
      refine .skip ?_
      refine .block ?_
      refine .seq ?_
      refine .region ?_
      refine .q (q_move rfl) rfl ?_
      refine .q (q_subI rfl rfl (by first | omega | (simp; omega) | (simp [arr]; omega)) (by first | omega | (simp; omega) | (simp [arr]; omega))) rfl ?_
      refine .q (q_assign rfl) rfl ?_
      refine .nil ?_
      refine .seq ?_
      refine .region ?_
      refine .q (q_move rfl) rfl ?_
      refine .q (q_move rfl) rfl ?_
      refine .q (q_rem rfl rfl (by decide) rfl) rfl ?_
      refine .q (q_add rfl rfl rfl) rfl ?_
      refine .q (q_conv Try.underlying78 Try.underlying5 rfl (rfl)) rfl ?_
      refine .q (q_idxArr (m := 19 - ds.length) Try.underlying79 ⟨_, hi5, hs5⟩ rfl rfl (by omega) (by omega)) rfl ?_
      refine .u (u_store rfl rfl rfl rfl (by first | omega | (simp; omega) | (simp [arr]; omega)) sz_5) rfl ?_
      refine .nil ?_
      refine .region ?_
      refine .q (q_move rfl) rfl ?_
      refine .q (q_quo rfl rfl (by decide) rfl) rfl ?_
      refine .q (q_assign rfl) rfl ?_
      refine .nil ?_
      refine .inBlock ?_
      refine .withSt (congrArg (fun o => (⟨o, []⟩ : St)) (arr_set hd19)) (.sub (.cons rfl (.rfl' _) (.cons rfl (.eq (by rw [u64_quo (by omega)])) (.cons rfl (.rfl' _) (.cons rfl (.eq (by simp; omega)) (.nil))))) (ih (m / 10, digit (m % 10) :: ds) ?_ (dec_mu hm0)))
      refine ⟨by show m / 10 ≤ _; omega, by simp; omega, .inr ⟨by simp, ?_⟩⟩
      rcases hI.2.2 with ⟨h3, h4⟩ | ⟨h3, h4⟩
      · subst h3; rw [← h4]; exact digs_first (by omega)
      · rw [h4]; exact digs_step ds (by rcases hm0 with h | h; exact h; exact absurd h h3) (by omega)
    · skip
      obtain ⟨h3, h4⟩ := dec_end hc1 hd hI.2.2
      refine .exit rfl ?_
      refine .seq ?_
      refine .seq ?_
      refine .region ?_
      refine .q (q_move rfl) rfl ?_
      refine .q (q_lss rfl rfl) rfl ?_
      refine .nil ?_
      refine .cond rfl (fun hc2 => ?_) (fun hc2 => ?_)
      · try simp at hc2
        refine .seq ?_
        refine .region ?_
        refine .q (q_move rfl) rfl ?_
        refine .q (q_arrL (m := 20 - ds.length) Try.underlying79 ⟨_, hi5, hs5⟩ rfl rfl (by omega) (by omega)) rfl ?_
        refine .q (q_ownStr (l := ds) Try.underlying68 Try.underlying5 Try.underlying9 rfl rfl (by rw [Nat.sub_sub_self hd]) (fun j b h => arr_get hd h)) rfl ?_
        refine .q (q_sadd rfl rfl (by first | omega | (simp; omega))) rfl ?_
        refine .q (q_assign rfl) rfl ?_
        refine .nil ?_
        refine .ret1 Try.func20 Try.results20 rfl ?_
        exact .d (by rw [h3, decF, if_neg (by omega), show (-n).toNat = n.natAbs by omega]; rfl)
      · try simp at hc2
        refine .skip ?_
        refine .seq ?_
        refine .region ?_
        refine .q (q_move rfl) rfl ?_
        refine .q (q_arrL (m := 20 - ds.length) Try.underlying79 ⟨_, hi5, hs5⟩ rfl rfl (by omega) (by omega)) rfl ?_
        refine .q (q_ownStr (l := ds) Try.underlying68 Try.underlying5 Try.underlying9 rfl rfl (by rw [Nat.sub_sub_self hd]) (fun j b h => arr_get hd h)) rfl ?_
        refine .q (q_assign rfl) rfl ?_
        refine .nil ?_
        refine .ret1 Try.func20 Try.results20 rfl ?_
        exact .d (by rw [h3, decF, if_pos (by omega), show n.toNat = n.natAbs by omega])
  · intro hj
    refine .seq ?_
    refine .region ?_
    refine .q (q_move rfl) rfl ?_
    refine .q (q_lss rfl rfl) rfl ?_
    refine .nil ?_
    refine .cond rfl (fun hc3 => ?_) (fun hc3 => ?_)
    · try simp at hc3
      refine .region ?_
      refine .q (q_move rfl) rfl ?_
      refine .q (q_neg rfl rfl) rfl ?_
      refine .q (q_assign rfl) rfl ?_
      refine .nil ?_
      refine .sub (.cons rfl (.rfl' _) (.cons rfl (.eq (by rw [u64_neg h1 (by omega)]; simp; omega)) .nil)) (hj () trivial)
    · try simp at hc3
      refine .skip ?_
      refine .sub (.cons rfl (.rfl' _) (.cons rfl (.eq (by rw [u64_pos (by omega) h2]; simp; omega)) .nil)) (hj () trivial)

end Go.Proofs.Ytpdanklncjopoab
