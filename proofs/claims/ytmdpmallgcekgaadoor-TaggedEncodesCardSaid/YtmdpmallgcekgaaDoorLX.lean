import Derived.Test.YtmdpmallgcekgaaDoorLF
import Derived.Test.YtmdpmallgcekgaaDoorLTys
import Derived.Test.YtmdpmallgcekgaaDoorE1
import Derived.Test.YtmdpmallgcekgaaDoorSh
set_option linter.unusedVariables false
namespace Go.Proofs.YtmdpmallgcekgaaDoor
open Go.RowKit Go.Abs
theorem tab_is {w : World} (h : Globs w.heap.size w) : Go.Lib.TabIs Tryd.prog w "internal/strconv.uint64pow10" .u64 Go.Lib.pow10Tab := by
  obtain ⟨_, ty, fr, h2⟩ := h.1 (0, (Go.Lib.pow10Tab.map fun z => Value.int .u64 z).toArray) (by simp [GL])
  have hn : Tryd.prog.globalNamed "internal/strconv.uint64pow10" = some 0 := by kernel_rfl
  unfold Go.Lib.TabIs World.var?
  rw [hn]
  simp only [Option.bind_some]
  simp only at h2
  rw [h2]
theorem c_x_Itoa {n : Int} {r : List UInt8} (H : x_Itoa n = some r) : ACall Tryd.prog 39 [cI n] (· = cS r) := by
  obtain ⟨h, H⟩ := ck_some H; cases H
  refine ACall.lib fun lim w vs hg ha => ?_
  obtain ⟨v, rfl, hv⟩ := ha.one
  rw [drep_ex hv]
  refine (Tryd.strconv_Itoa n h.1 h.2 w (tab_is hg)).mono ?_
  rintro e w' ⟨rfl, k, os, rfl⟩
  exact ⟨rfl, below_grow w k os⟩
theorem c_x_Join {xs : List (List UInt8)} {sep r : List UInt8} (H : x_Join xs sep = some r) : ACall Tryd.prog 40 [slOf 1 rS xs, cS sep] (· = cS r) := by
  obtain ⟨h, H⟩ := ck_some H; cases H
  refine ACall.lib fun lim w vs hg ha => ?_
  obtain ⟨v, u, rfl, hv, hu⟩ := ha.two
  rw [drep_ex hu]
  rcases strs_cells hv with ⟨A, c, rfl, rfl⟩ | ⟨b, off, c, rfl, hc, hb, hcell⟩
  · exact (Tryd.strings_Join_none A c ⟨sep.toArray⟩ w).mono fun e w' ⟨he, hw⟩ => ⟨he, hw ▸ Below.refl _ _⟩
  · have hm : (xs.map fun x => (⟨x.toArray⟩ : ByteArray)).map (·.data.toList) = xs := by simp [Function.comp_def]
    have := Tryd.strings_Join b off c (xs.map fun x => (⟨x.toArray⟩ : ByteArray)) ⟨sep.toArray⟩ w (fun j x hj => by
      rw [List.getElem?_map] at hj
      obtain ⟨y, hy, rfl⟩ := Option.map_eq_some_iff.1 hj
      exact hcell j y hy) hb (by simp; omega) (by simpa using hc) (by rw [hm]; simp; omega)
    rw [hm, List.length_map] at this
    exact this
end Go.Proofs.YtmdpmallgcekgaaDoor
