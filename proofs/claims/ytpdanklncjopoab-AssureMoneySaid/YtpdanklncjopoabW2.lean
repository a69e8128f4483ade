import Derived.Test.YtpdanklncjopoabW1
import Derived.Test.YtpdanklncjopoabPl2
set_option linter.unusedSimpArgs false
set_option linter.unusedVariables false
namespace Go.Proofs.Ytpdanklncjopoab
open Go.RowKit Go.Abs

theorem u8d (m : Nat) : IntKind.u8.wrap (48 + (m : Int) % 10) = ((digit (m % 10)).toNat : Int) := by
  rw [digit_byte (by omega)]
  simp only [IntKind.wrap]
  simp [IntKind.signed, IntKind.bits]
  omega
theorem digs_len20 (n : Nat) : (digs n).length ≤ 20 := digs_len 20 n
theorem u64w (n : Int) (h1 : -9223372036854775808 ≤ n) (h2 : n ≤ 9223372036854775807) : (if n < 0 then IntKind.u64.wrap (0 - IntKind.u64.wrap n) else IntKind.u64.wrap n) = (n.natAbs : Int) := by
  split
  · rw [u64_neg h1 (by assumption)]; omega
  · rw [u64_pos (by omega) h2]; omega
def dcell (b : UInt8) : EV := .d (.ex (.int .u8 (b.toNat : Int)))
def arr (ds : List UInt8) : List EV := List.replicate (20 - ds.length) (.d (.ex (.int .u8 0))) ++ ds.map dcell
theorem arr_len {ds : List UInt8} (h : ds.length ≤ 20) : (arr ds).length = 20 := by simp [arr]; omega
theorem arr_put {ds : List UInt8} {b : UInt8} (h : ds.length ≤ 19) : putCells (arr ds) (0 + (19 - ds.length) * 1) [dcell b] = arr (b :: ds) := by
  unfold putCells arr
  have e : 20 - ds.length = (19 - ds.length) + 1 := by omega
  have e2 : 20 - (b :: ds).length = 19 - ds.length := by simp
  rw [e, e2]
  generalize 19 - ds.length = k
  rw [List.take_append_of_le_length (by simp), List.take_replicate, List.drop_append_of_le_length (by simp), List.drop_replicate]
  have : min (0 + k * 1) (k + 1) = k := by omega
  rw [this]
  have : k + 1 - (0 + k * 1 + [dcell b].length) = 0 := by simp; try omega
  rw [this]
  simp
theorem arr_get {ds : List UInt8} {j : Nat} {b : UInt8} (hl : ds.length ≤ 20) (h : ds[j]? = some b) : (arr ds)[(0 + (20 - ds.length) * 1) + j]? = some (.d (.ex (.int .u8 (b.toNat : Int)))) := by
  unfold arr
  rw [List.getElem?_append_right (by simp)]
  simp only [List.length_replicate]
  rw [show (0 + (20 - ds.length) * 1) + j - (20 - ds.length) = j from by omega, List.getElem?_map, h]
  rfl

set_option maxRecDepth 100000 in
set_option maxHeartbeats 400000 in
theorem c_Same (a b : List Leak) (ha : a.length ≤ 1000000) (hb' : b.length ≤ 1000000) : ACall Try.prog 6 [slOf 4 Leak.row a, slOf 4 Leak.row b] (· = cB (sameL a b)) := by
  refine ACall.enter' Try.func6 rfl Try.ntmps6 rfl fun S hS => ?_
  obtain ⟨i51, hi51, hz51, hs51, hb51⟩ := in_51
  refine .seq ?_
  refine .region ?_
  refine .q (q_assign rfl) rfl ?_
  refine .nil ?_
  refine .seq ?_
  refine .seq ?_
  refine .region ?_
  refine .q (q_move rfl) rfl ?_
  refine .q (q_lenA Try.underlying26 rfl rfl) rfl ?_
  refine .q (q_move rfl) rfl ?_
  refine .q (q_lenA Try.underlying26 rfl rfl) rfl ?_
  refine .q (q_neq rfl rfl) rfl ?_
  refine .nil ?_
  refine .cond rfl (fun hc1 => ?_) (fun hc1 => ?_)
  · try simp at hc1
    refine .seq ?_
    refine .region ?_
    refine .q (q_assign rfl) rfl ?_
    refine .nil ?_
    refine .ret1 Try.func6 Try.results6 rfl ?_
    exact .d (by simp only [D.ex.injEq, Value.bool.injEq]; cases h : sameL a b with | false => rfl | true => exact absurd (sameL_len h) (by omega))
  · try simp at hc1
    refine .skip ?_
    refine .seq ?_
    refine .seq ?_
    refine .region ?_
    refine .q (q_assign rfl) rfl ?_
    refine .nil ?_
    refine .block ?_
    have hab : a.length = b.length := by omega
    refine .loop (ι := Nat) (fun k => [(0, .d (slOf 4 Leak.row a)), (1, .d (slOf 4 Leak.row b)), (5, .d (cI k))]) (fun _ => ⟨[], []⟩) (fun k => k ≤ a.length ∧ sameL a b = sameL (a.drop k) (b.drop k)) (fun k => a.length - k) 0 ⟨Nat.zero_le _, rfl⟩ (.cons rfl (.rfl' _) (.cons rfl (.rfl' _) (.cons rfl (.rfl' _) (.nil)))) rfl ?_
    rintro k hI ih
    have hk := hI.1
    refine .seq ?_
    refine .seq ?_
    refine .region ?_
    refine .q (q_move rfl) rfl ?_
    refine .q (q_move rfl) rfl ?_
    refine .q (q_lenA Try.underlying26 rfl rfl) rfl ?_
    refine .q (q_lss rfl rfl) rfl ?_
    refine .nil ?_
    refine .cond rfl (fun hc2 => ?_) (fun hc2 => ?_)
    · try simp at hc2
      refine .skip ?_
      refine .seq ?_
      refine .block ?_
      refine .seq ?_
      refine .drawn 9 hMix (by kernel_rfl) ?_
      show DOps _ _ _ _ _ _ _ (_ :: _) _ _ _
      refine .q (q_move rfl) rfl ?_
      refine .q (q_move rfl) rfl ?_
      refine .q (q_idxN Try.underlying26 hi51 hs51 rfl rfl rfl (by first | rfl | omega) (mapnth (by omega))) rfl ?_
      refine .q (q_loadAll one_51 sz_51 rfl rfl) rfl ?_
      refine .q (q_move rfl) rfl ?_
      refine .q (q_move rfl) rfl ?_
      refine .q (q_idxN Try.underlying26 hi51 hs51 rfl rfl rfl (by first | rfl | omega) (mapnth (by omega))) rfl ?_
      refine .q (q_loadAll one_51 sz_51 rfl rfl) rfl ?_
      refine .q (q_stneq fk_51 rfl rfl (xs := (nth a k).vals) (ys := (nth b k).vals) rfl rfl rfl rfl) rfl ?_
      refine .nil ?_
      show AOps _ _ _ _ _ _ [] _ _ _
      refine .nil ?_
      refine .cond rfl (fun hc3 => ?_) (fun hc3 => ?_)
      · try simp at hc3
        refine .seq ?_
        refine .region ?_
        refine .q (q_assign rfl) rfl ?_
        refine .nil ?_
        refine .ret1 Try.func6 Try.results6 rfl ?_
        exact .d (by rw [hI.2, sameL_cons (by omega) (by omega), hc3]; rfl)
      · try simp at hc3
        refine .skip ?_
        refine .inBlock ?_
        refine .region ?_
        refine .q (q_move rfl) rfl ?_
        refine .q (q_addI rfl rfl (by first | omega | (simp; omega)) (by first | omega | (simp; omega))) rfl ?_
        refine .q (q_assign rfl) rfl ?_
        refine .nil ?_
        refine .sub (.cons rfl (.rfl' _) (.cons rfl (.rfl' _) (.cons rfl (.rfl' _) (.nil)))) (ih (k + 1) ?_ (by show _ - _ < _ - _; omega))
        refine ⟨by omega, ?_⟩
        rw [hI.2, sameL_cons (by omega) (by omega), hc3]; rfl
    · try simp at hc2
      refine .exit rfl ?_
      refine .seq ?_
      refine .region ?_
      refine .q (q_assign rfl) rfl ?_
      refine .nil ?_
      refine .ret1 Try.func6 Try.results6 rfl ?_
      exact .d (by rw [hI.2, List.drop_of_length_le (by omega), List.drop_of_length_le (by omega)]; rfl)



end Go.Proofs.Ytpdanklncjopoab
