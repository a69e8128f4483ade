import Derived.Test.YtoknjmclbfgkiaaDoorLF
import Derived.Test.YtoknjmclbfgkiaaDoorLTys
import Derived.Test.YtoknjmclbfgkiaaDoorE2
import Derived.Test.YtoknjmclbfgkiaaDoorSh
set_option linter.unusedVariables false
namespace Go.Proofs.YtoknjmclbfgkiaaDoor
open Go.RowKit Go.Abs
theorem tab_is {w : World} (h : Globs w.heap.size w) : Go.Lib.TabIs Tryd.prog w "internal/strconv.uint64pow10" .u64 Go.Lib.pow10Tab := by
  obtain ⟨_, ty, fr, h2⟩ := h.1 (1, (Go.Lib.pow10Tab.map fun z => Value.int .u64 z).toArray) (by simp [GL])
  have hn : Tryd.prog.globalNamed "internal/strconv.uint64pow10" = some 1 := by kernel_rfl
  unfold Go.Lib.TabIs World.var?
  rw [hn]
  simp only [Option.bind_some]
  simp only at h2
  rw [h2]
theorem max_is {w : World} (h : Globs w.heap.size w) : ∃ m, w.cell? ⟨0, 0, none⟩ = some (.int .i64 m) := (h.2 0 (by simp [GI])).2
theorem c_x_Itoa {n : Int} {r : List UInt8} (H : x_Itoa n = some r) : ACall Tryd.prog 21 [cI n] (· = cS r) := by
  obtain ⟨h, H⟩ := ck_some H; cases H
  refine ACall.lib fun lim w vs hg ha => ?_
  obtain ⟨v, rfl, hv⟩ := ha.one
  rw [drep_ex hv]
  refine (Tryd.strconv_Itoa n h.1 h.2 w (tab_is hg)).mono ?_
  rintro e w' ⟨rfl, k, os, rfl⟩
  exact ⟨rfl, below_grow w k os⟩
theorem c_x_Join {xs : List (List UInt8)} {sep r : List UInt8} (H : x_Join xs sep = some r) : ACall Tryd.prog 22 [slOf 1 rS xs, cS sep] (· = cS r) := by
  obtain ⟨h, H⟩ := ck_some H; cases H
  refine ACall.lib fun lim w vs hg ha => ?_
  obtain ⟨v, u, rfl, hv, hu⟩ := ha.two
  rw [drep_ex hu]
  rcases strs_cells hv with ⟨A, c, rfl, rfl⟩ | ⟨b, off, c, rfl, hc, hb, hcell⟩
  · exact (Tryd.strings_Join_none A c ⟨sep.toArray⟩ w).mono fun e w' ⟨he, hw⟩ => ⟨he, hw ▸ Below.refl _ _⟩
  · have hm : (xs.map fun x => (⟨x.toArray⟩ : ByteArray)).map (·.data.toList) = xs := by simp [Function.comp_def]
    have := Tryd.strings_Join b off c (xs.map fun x => (⟨x.toArray⟩ : ByteArray)) ⟨sep.toArray⟩ w (fun j x hj => by
      rw [List.getElem?_map] at hj
      obtain ⟨y, hy, rfl⟩ := Option.map_eq_some_iff.1 hj
      exact hcell j y hy) hb (by simp; omega) (by simpa using hc) (by rw [hm]; simp; omega)
    rw [hm, List.length_map] at this
    exact this
theorem c_x_Index {s sub : List UInt8} {r : Int} (H : x_Index s sub = some r) : ACall Tryd.prog 27 [cS s, cS sub] (· = cI r) := by
  obtain ⟨h, H⟩ := ck_some H; cases H
  refine ACall.lib fun lim w vs hg ha => ?_
  obtain ⟨v, u, rfl, hv, hu⟩ := ha.two
  rw [drep_ex hv, drep_ex hu]
  obtain ⟨m, hm⟩ := max_is hg
  refine (Tryd.strings_Index ⟨s.toArray⟩ ⟨sub.toArray⟩ m w (by simp [ByteArray.size]; omega) hm).mono ?_
  rintro e w' ⟨rfl, rfl⟩
  exact ⟨by simp, Below.refl _ _⟩
theorem c_x_CutSuffix {s p : List UInt8} {r : List UInt8 × Bool} (H : x_CutSuffix s p = some r) : ACall Tryd.prog 32 [cS s, cS p] (· = .tup [cS r.1, cB r.2]) := by
  obtain ⟨h, H⟩ := ck_some H; cases H
  refine ACall.libPair fun lim w vs hg ha => ?_
  obtain ⟨v, u, rfl, hv, hu⟩ := ha.two
  rw [drep_ex hv, drep_ex hu]
  refine (Tryd.strings_CutSuffix ⟨s.toArray⟩ ⟨p.toArray⟩ w (by simp [ByteArray.size]; omega)).mono ?_
  rintro e w' ⟨rfl, rfl⟩
  exact ⟨by simp, Below.refl _ _⟩
theorem c_x_Split {s sep : List UInt8} {r : List (List UInt8)} (H : x_Split s sep = some r) : ACall Tryd.prog 25 [cS s, cS sep] (· = slOf 1 rS r) := by
  obtain ⟨h, H⟩ := ck_some H; cases H
  refine ACall.libStrs (T := 9) fun lim w vs hg ha => ?_
  obtain ⟨v, u, rfl, hv, hu⟩ := ha.two
  rw [drep_ex hv, drep_ex hu]
  obtain ⟨m, hm⟩ := max_is hg
  have h1 : 1 ≤ (⟨sep.toArray⟩ : ByteArray).size := by simp [ByteArray.size]; omega
  have hlen := Go.Lib.splitB_all ⟨sep.toArray⟩ h1 0 _ (⟨s.toArray⟩ : ByteArray) rfl
  have e1 : (Go.Lib.splitB ⟨sep.toArray⟩ 0 (Go.Lib.countB ⟨s.toArray⟩ ⟨sep.toArray⟩) ⟨s.toArray⟩).map (·.data.toList) = Go.Lib.split s sep := by
    rw [Go.Lib.splitB_data]
    simp [Go.Lib.split, Go.Lib.countB]
  have e3 : (Go.Lib.split s sep).length = Go.Lib.countB ⟨s.toArray⟩ ⟨sep.toArray⟩ + 1 := by rw [← e1, List.length_map, hlen]
  have e2 : (Go.Lib.splitB ⟨sep.toArray⟩ 0 (Go.Lib.countB ⟨s.toArray⟩ ⟨sep.toArray⟩) ⟨s.toArray⟩).map Value.string = (Go.Lib.split s sep).map fun x => Value.string ⟨x.toArray⟩ := by
    rw [← e1, List.map_map]
    apply List.map_congr_left
    intro x _
    simp
  refine (Tryd.strings_Split ⟨s.toArray⟩ ⟨sep.toArray⟩ m w (by simp [ByteArray.size]; omega) hm h1).mono ?_
  rintro e w' ⟨rfl, rfl⟩
  exact ⟨by rw [e3], by rw [e2]⟩
end Go.Proofs.YtoknjmclbfgkiaaDoor
