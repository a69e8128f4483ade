/- Our own texts Sh LX LW0 LW1 LW2 LW3 of this seat in one. -/
import Derived.Test.YtccmaffefdcikaaDoorZ2
import Derived.Shelf.Strings.Builder1
import Derived.Shelf.Strings.Builder2
import Derived.Shelf.Strings.OnBuilder
import Derived.Shelf.Strings.BuilderF
import Derived.Shelf.Strings.BuilderK
import Derived.Shelf.Strings.Builder2Cap
import Derived.Shelf.Strconv.Itoa0
import Derived.Shelf.Strconv.Itoa1
import Derived.Shelf.LaysM
import Derived.Shelf.Strconv.Itoa2
import Derived.Shelf.Strconv.Itoa3
import Derived.Test.YtccmaffefdcikaaDoorProg
/- Contracts of the library at this program (laid by the shelf's program, in plain words). -/
set_option linter.unusedVariables false
namespace Go.Proofs.YtccmaffefdcikaaDoor
open Go.Shelf
def Tryd.lays156_ren : Go.Shelf.Ren := ⟨fun | 156 => 42 | 165 => 73 | 166 => 74 | 169 => 75 | 240 => 84 | 241 => 85 | 276 => 92 | 277 => 93 | n => n, fun | 31 => 69 | 9 => 9 | 3 => 3 | 4 => 4 | 0 => 0 | 20 => 20 | 72 => 97 | 76 => 101 | 70 => 95 | 37 => 32 | 75 => 100 | 127 => 115 | 164 => 121 | 5 => 5 | 80 => 103 | n => n, fun | n => n⟩
theorem Tryd.lays156 : Go.Proofs.Lays.n156 Tryd.prog Tryd.lays156_ren := {
  mixed := by kernel_rfl
  f156 := Tryd.func42.trans (congrArg some (by kernel_rfl))
  f165 := Tryd.func73.trans (congrArg some (by kernel_rfl))
  f166 := Tryd.func74.trans (congrArg some (by kernel_rfl))
  f169 := Tryd.func75.trans (congrArg some (by kernel_rfl))
  f240 := Tryd.func84.trans (congrArg some (by kernel_rfl))
  f241 := Tryd.func85.trans (congrArg some (by kernel_rfl))
  f276 := Tryd.func92.trans (congrArg some (by kernel_rfl))
  f277 := Tryd.func93.trans (congrArg some (by kernel_rfl))
  t0 := Tryd.underlying0
  a0 := Tryd.isAgg0
  z0 := Tryd.sizeOf0
  v0 := Tryd.zeroValue0
  t3 := Tryd.underlying3
  a3 := Tryd.isAgg3
  z3 := Tryd.sizeOf3
  v3 := Tryd.zeroValue3
  t4 := Tryd.underlying4
  a4 := Tryd.isAgg4
  z4 := Tryd.sizeOf4
  v4 := Tryd.zeroValue4
  t9 := Tryd.underlying9
  a9 := Tryd.isAgg9
  z9 := Tryd.sizeOf9
  v9 := Tryd.zeroValue9
  t20 := Tryd.underlying20
  a20 := Tryd.isAgg20
  z20 := Tryd.sizeOf20
  v20 := Tryd.zeroValue20
  t31 := Tryd.underlying69
  a31 := Tryd.isAgg69
  z31 := Tryd.sizeOf69
  v31 := Tryd.zeroValue69
  t37 := Tryd.underlying32
  a37 := Tryd.isAgg32
  z37 := Tryd.sizeOf32
  v37 := Tryd.zeroValue32
  t70 := Tryd.underlying95
  a70 := Tryd.isAgg95
  z70 := Tryd.sizeOf95
  v70 := Tryd.zeroValue95
  t72 := Tryd.underlying97
  a72 := Tryd.isAgg97
  z72 := Tryd.sizeOf97
  v72 := Tryd.zeroValue97
  t75 := Tryd.underlying100
  a75 := Tryd.isAgg100
  z75 := Tryd.sizeOf100
  v75 := Tryd.zeroValue100
  t76 := Tryd.underlying101
  a76 := Tryd.isAgg101
  z76 := Tryd.sizeOf101
  v76 := Tryd.zeroValue101
  t127 := Tryd.underlying115
  a127 := Tryd.isAgg115
  z127 := Tryd.sizeOf115
  v127 := Tryd.zeroValue115
  t164 := Tryd.underlying121
  a164 := Tryd.isAgg121
  z164 := Tryd.sizeOf121
  v164 := Tryd.zeroValue121 }
theorem Tryd.Builder_Extra_156 : Builder.Extra Tryd.prog Tryd.lays156_ren := {
  sizeBuilder := by kernel_rfl
  liesBuilder := by kernel_rfl
  t5 := Tryd.underlying5
  a5 := Tryd.isAgg5
  z5 := Tryd.sizeOf5
  v5 := Tryd.zeroValue5
  infoByte := by kernel_rfl
  cellsByte := by kernel_rfl
  sizeByte := by kernel_rfl
  neB5 := by decide }
open Go.RowKit in
/-- No element: the empty string; the world is as it was. (Whatever the slice's address and capacity: a nil slice too.) (LAID: no walk: one application.) -/
theorem Tryd.strings_Join_none (a : Option Addr) (c : Nat) (sep : ByteArray) (w : World) :
    Calls Tryd.prog 42 #[.slice a 0 c, .string sep] w fun e w' => e = .returned (.string ⟨#[]⟩) ∧ w' = w := Any.strings_Join_none Tryd.lays156 Tryd.Builder_Extra_156 a c sep w
open Go.RowKit in
/-- strings.Join: "Join concatenates the elements of its first argument to create a single string. The separator string sep is placed between elements in the resulting string.": HOWEVER MANY ELEMENTS. Below the heap's end the world is as it was. (LAID: no walk: one application.) -/
theorem Tryd.strings_Join (bk o c : Nat) (xs : List ByteArray) (sep : ByteArray) (w : World) (hcells : ∀ (j : Nat) x, xs[j]? = some x → w.cell? ⟨bk, o + j, none⟩ = some (.string x)) (hbk : bk < w.heap.size) (hN : xs.length ≤ 140737488355328) (hcap : xs.length ≤ c) (hlen : (Lib.join (xs.map (·.data.toList)) sep.data.toList).length ≤ 140737488355328) :
    Calls Tryd.prog 42 #[.slice (some ⟨bk, o, none⟩) xs.length c, .string sep] w fun e w' => e = .returned (.string ⟨(Lib.join (xs.map (·.data.toList)) sep.data.toList).toArray⟩) ∧ Below w.heap.size w w' := Any.strings_Join Tryd.lays156 Tryd.Builder_Extra_156 bk o c xs sep w hcells hbk hN hcap hlen
def Tryd.laysM171_ren : Go.Shelf.Ren := ⟨fun | 171 => 41 | 243 => 72 | 246 => 83 | 283 => 88 | 284 => 89 | 285 => 90 | 286 => 91 | 129 => 96 | 317 => 95 | 318 => 97 | 319 => 98 | 320 => 99 | 337 => 100 | 338 => 101 | n => n, fun | 3 => 3 | 9 => 9 | 2 => 2 | 4 => 4 | 171 => 116 | 0 => 0 | 53 => 110 | 37 => 32 | 5 => 5 | 173 => 119 | 212 => 125 | 51 => 76 | 20 => 20 | 213 => 126 | 46 => 78 | 232 => 130 | 233 => 131 | n => n, fun | 17 => 0 | 18 => 2 | 19 => 3 | n => n⟩
theorem Tryd.laysM171 : Go.Proofs.LaysM.n171 Tryd.prog Tryd.laysM171_ren := {
  mixed := by kernel_rfl
  f129 := Tryd.func96.trans (congrArg some (by kernel_rfl))
  f171 := Tryd.func41.trans (congrArg some (by kernel_rfl))
  f243 := Tryd.func72.trans (congrArg some (by kernel_rfl))
  f246 := Tryd.func83.trans (congrArg some (by kernel_rfl))
  f283 := Tryd.func88.trans (congrArg some (by kernel_rfl))
  f284 := Tryd.func89.trans (congrArg some (by kernel_rfl))
  f285 := Tryd.func90.trans (congrArg some (by kernel_rfl))
  f286 := Tryd.func91.trans (congrArg some (by kernel_rfl))
  f317 := Tryd.func95.trans (congrArg some (by kernel_rfl))
  f318 := Tryd.func97.trans (congrArg some (by kernel_rfl))
  f319 := Tryd.func98.trans (congrArg some (by kernel_rfl))
  f320 := Tryd.func99.trans (congrArg some (by kernel_rfl))
  f337 := Tryd.func100.trans (congrArg some (by kernel_rfl))
  f338 := Tryd.func101.trans (congrArg some (by kernel_rfl))
  t0 := Tryd.underlying0
  a0 := Tryd.isAgg0
  z0 := Tryd.sizeOf0
  v0 := Tryd.zeroValue0
  t2 := Tryd.underlying2
  a2 := Tryd.isAgg2
  z2 := Tryd.sizeOf2
  v2 := Tryd.zeroValue2
  t3 := Tryd.underlying3
  a3 := Tryd.isAgg3
  z3 := Tryd.sizeOf3
  v3 := Tryd.zeroValue3
  t4 := Tryd.underlying4
  a4 := Tryd.isAgg4
  z4 := Tryd.sizeOf4
  v4 := Tryd.zeroValue4
  t5 := Tryd.underlying5
  a5 := Tryd.isAgg5
  z5 := Tryd.sizeOf5
  v5 := Tryd.zeroValue5
  t9 := Tryd.underlying9
  a9 := Tryd.isAgg9
  z9 := Tryd.sizeOf9
  v9 := Tryd.zeroValue9
  t20 := Tryd.underlying20
  a20 := Tryd.isAgg20
  z20 := Tryd.sizeOf20
  v20 := Tryd.zeroValue20
  t37 := Tryd.underlying32
  a37 := Tryd.isAgg32
  z37 := Tryd.sizeOf32
  v37 := Tryd.zeroValue32
  t46 := Tryd.underlying78
  a46 := Tryd.isAgg78
  z46 := Tryd.sizeOf78
  v46 := Tryd.zeroValue78
  t51 := Tryd.underlying76
  a51 := Tryd.isAgg76
  z51 := Tryd.sizeOf76
  v51 := Tryd.zeroValue76
  t53 := Tryd.underlying110
  a53 := Tryd.isAgg110
  z53 := Tryd.sizeOf110
  v53 := Tryd.zeroValue110
  t171 := Tryd.underlying116
  a171 := Tryd.isAgg116
  z171 := Tryd.sizeOf116
  v171 := Tryd.zeroValue116
  t173 := Tryd.underlying119
  a173 := Tryd.isAgg119
  z173 := Tryd.sizeOf119
  v173 := Tryd.zeroValue119
  t212 := Tryd.underlying125
  a212 := Tryd.isAgg125
  z212 := Tryd.sizeOf125
  v212 := Tryd.zeroValue125
  t213 := Tryd.underlying126
  a213 := Tryd.isAgg126
  z213 := Tryd.sizeOf126
  t232 := Tryd.underlying130
  a232 := Tryd.isAgg130
  z232 := Tryd.sizeOf130
  v232 := Tryd.zeroValue130
  t233 := Tryd.underlying131
  a233 := Tryd.isAgg131
  z233 := Tryd.sizeOf131
  v233 := Tryd.zeroValue131
  g17 := by kernel_rfl
  g18 := by kernel_rfl
  g19 := by kernel_rfl
  i0 := by kernel_rfl
  i2 := by kernel_rfl
  i3 := by kernel_rfl
  i4 := by kernel_rfl
  i5 := by kernel_rfl
  i9 := by kernel_rfl
  i20 := by kernel_rfl
  i37 := by kernel_rfl
  i46 := by kernel_rfl
  i51 := by kernel_rfl
  i53 := by kernel_rfl
  i171 := by kernel_rfl
  i173 := by kernel_rfl
  i212 := by kernel_rfl
  i232 := by kernel_rfl
  i233 := by kernel_rfl
  m17 := by kernel_rfl
  m18 := by kernel_rfl
  m19 := by kernel_rfl }
open Go.RowKit Go.Sort Go.Lib in
/-- strconv.Itoa: "Itoa is equivalent to FormatInt(int64(i), 10).": i's DECIMAL NUMERAL ('Lib.itoa': a '-' where i is negative, then the digits), FOR EVERY int. The world behind the call: the world before it, new blocks behind the heap (the library's 'var a [24]byte'), draws. (LAID: no walk: one application.) -/
theorem Tryd.strconv_Itoa (n : Int) (h0 : -9223372036854775808 ≤ n) (h1 : n ≤ 9223372036854775807) (w : World) (htab : Lib.TabIs Tryd.prog w "internal/strconv.uint64pow10" .u64 Lib.pow10Tab) :
    Calls Tryd.prog 41 #[.int .i64 n] w fun e w' => e = .returned (.string ⟨(Lib.itoa n).toArray⟩) ∧ ∃ k os, w' = grow (w.drewN k) os := Any.strconv_Itoa Tryd.laysM171 n h0 h1 w htab
end Go.Proofs.YtccmaffefdcikaaDoor

set_option linter.unusedVariables false
namespace Go.Proofs.YtccmaffefdcikaaDoor
open Go.RowKit Go.Abs
theorem tab_is {w : World} (h : Globs w.heap.size w) : Go.Lib.TabIs Tryd.prog w "internal/strconv.uint64pow10" .u64 Go.Lib.pow10Tab := by
  obtain ⟨_, ty, fr, h2⟩ := h.1 (0, (Go.Lib.pow10Tab.map fun z => Value.int .u64 z).toArray) (by simp [GL])
  have hn : Tryd.prog.globalNamed "internal/strconv.uint64pow10" = some 0 := by kernel_rfl
  unfold Go.Lib.TabIs World.var?
  rw [hn]
  simp only [Option.bind_some]
  simp only at h2
  rw [h2]
theorem c_x_Itoa {n : Int} {r : List UInt8} (H : x_Itoa n = some r) : ACall Tryd.prog 41 [cI n] (· = cS r) := by
  obtain ⟨h, H⟩ := ck_some H; cases H
  refine ACall.lib fun lim w vs hg ha => ?_
  obtain ⟨v, rfl, hv⟩ := ha.one
  rw [drep_ex hv]
  refine (Tryd.strconv_Itoa n h.1 h.2 w (tab_is hg)).mono ?_
  rintro e w' ⟨rfl, k, os, rfl⟩
  exact ⟨rfl, below_grow w k os⟩
theorem c_x_Join {xs : List (List UInt8)} {sep r : List UInt8} (H : x_Join xs sep = some r) : ACall Tryd.prog 42 [slOf 1 rS xs, cS sep] (· = cS r) := by
  obtain ⟨h, H⟩ := ck_some H; cases H
  refine ACall.lib fun lim w vs hg ha => ?_
  obtain ⟨v, u, rfl, hv, hu⟩ := ha.two
  rw [drep_ex hu]
  rcases strs_cells hv with ⟨A, c, rfl, rfl⟩ | ⟨b, off, c, rfl, hc, hb, hcell⟩
  · exact (Tryd.strings_Join_none A c ⟨sep.toArray⟩ w).mono fun e w' ⟨he, hw⟩ => ⟨he, hw ▸ Below.refl _ _⟩
  · have hm : (xs.map fun x => (⟨x.toArray⟩ : ByteArray)).map (·.data.toList) = xs := by simp [Function.comp_def]
    have := Tryd.strings_Join b off c (xs.map fun x => (⟨x.toArray⟩ : ByteArray)) ⟨sep.toArray⟩ w (fun j x hj => by
      rw [List.getElem?_map] at hj
      obtain ⟨y, hy, rfl⟩ := Option.map_eq_some_iff.1 hj
      exact hcell j y hy) hb (by simp; omega) (by simpa using hc) (by rw [hm]; simp; omega)
    rw [hm, List.length_map] at this
    exact this
end Go.Proofs.YtccmaffefdcikaaDoor

set_option linter.unusedSimpArgs false
set_option linter.unusedVariables false
namespace Go.Proofs.YtccmaffefdcikaaDoor
open Go.RowKit Go.Abs
set_option maxRecDepth 100000 in
set_option maxHeartbeats 1000000 in
theorem c_f_billinglaw12_few {v0l : List Record} {r : Bool} (H : f_billinglaw12_few v0l = some r) : ACall Tryd.prog 6 [slOf 12 Record.row v0l] (· = cB r) := by
  obtain ⟨i39, hi39, hz39, hs39, hb39⟩ := in_39
  refine ACall.enter' Tryd.func6 rfl Tryd.ntmps6 rfl fun S hS => ?_
  unfold f_billinglaw12_few at H
  change ARun _ _ _ _ _ _ [(0, .d (slOf 12 Record.row v0l))] _
  refine .seq ?_
  refine .region ?_
  refine .q (q_assign rfl) rfl ?_
  refine .nil ?_
  refine .seq ?_
  refine .seq ?_
  refine .region ?_
  refine .q (q_assign rfl) rfl ?_
  refine .nil ?_
  refine .blockJoin2 (ι := Unit) (fun s => [(0, .d (slOf 12 Record.row v0l))]) (fun s => ⟨[], []⟩) (fun s => f_billinglaw12_few_j1 v0l = some r) ?_ ?_
  · rintro _ H
    replace H : f_billinglaw12_few_j1 v0l = some r := H
    unfold f_billinglaw12_few_j1 at H
    change ARun _ _ _ _ _ _ [(0, .d (slOf 12 Record.row v0l))] ⟨[], []⟩
    refine .seq ?_
    refine .region ?_
    refine .q (q_move rfl) rfl ?_
    refine .q (q_lenL (l := v0l) (row := Record.row) Tryd.underlying22 rfl rfl) rfl ?_
    refine .q (q_leq rfl rfl) rfl ?_
    refine .q (q_assign rfl) rfl ?_
    refine .nil ?_
    refine .retN [.tmp 2] [.d (cB (decide ((v0l.length : Int) ≤ 40)))] Tryd.func6 Tryd.results6 ⟨rfl, trivial⟩ ?_
    cases H
    exact ⟨_, .rfl' _, rfl⟩
  · intro hj1 hj1x
    obtain ⟨n1, H⟩ := loop_some H
    refine .loop (ι := Nat × (Int)) (fun p => [(0, .d (slOf 12 Record.row v0l)), (3, .d (cI p.2))]) (fun p => ⟨[], []⟩) (fun p => iter (fun s => f_billinglaw12_few_l1 v0l s) p.1 p.2 = some r) (·.1) (n1, 0) H (.cons rfl (.rfl' _) (.cons rfl (.rfl' _) (.nil))) rfl ?_
    rintro ⟨m1, v3il1⟩ HI ih1
    obtain ⟨n1, q1, hm1, H, HK1⟩ := iter_succ HI
    clear HI
    replace H : f_billinglaw12_few_l1 v0l v3il1 = some q1 := H
    unfold f_billinglaw12_few_l1 at H
    change ARun _ _ _ _ _ _ [(0, .d (slOf 12 Record.row v0l)), (3, .d (cI v3il1))] ⟨[], []⟩
    refine .seq ?_
    refine .seq ?_
    refine .region ?_
    refine .q (q_move rfl) rfl ?_
    refine .q (q_move rfl) rfl ?_
    refine .q (q_lenL (l := v0l) (row := Record.row) Tryd.underlying22 rfl rfl) rfl ?_
    refine .q (q_lss rfl rfl) rfl ?_
    refine .q (q_move rfl) rfl ?_
    refine .guardG (env' := [(3, _)]) rfl rfl rfl ⟨.inl rfl, trivial⟩ rfl (fun hg => OpQ.g (q_move rfl)) ?_
    refine .guardG (env' := [(9, _)]) rfl rfl rfl ⟨.inr (.inl rfl), trivial⟩ rfl (fun hg => OpQ.g (q_lss rfl rfl)) ?_
    refine .q (q_pickAndB rfl rfl rfl) rfl ?_
    refine .nil ?_
    refine .cond rfl (fun hc => ?_) (fun hc => ?_)
    · replace H := ifT hc H; clear hc
      refine .skip ?_
      refine .seq ?_
      refine .block ?_
      refine .seq ?_
      refine .region ?_
      refine .q (q_move rfl) rfl ?_
      refine .q (q_move rfl) rfl ?_
      obtain ⟨hk1, H⟩ := ck_some H
      refine .q (x := .d (.ro (Record.row (nth v0l (Int.toNat (v3il1)))))) (q_idxL (row := Record.row) (l := v0l) (i := v3il1) Tryd.underlying22 hi39 hs39 rfl rfl rfl hk1) rfl ?_
      refine .q (q_fieldRo fo_39_3 rfl) rfl ?_
      refine .q (x := .d (cS ((nth v0l (Int.toNat (v3il1))).a))) (q_load one_9 rfl) rfl ?_
      refine .q (q_lenS Tryd.underlying9 rfl) rfl ?_
      refine .q (q_gtr rfl rfl) rfl ?_
      refine .q (q_move rfl) rfl ?_
      refine .guardG (env' := [(0, _)]) rfl rfl rfl ⟨.inl rfl, trivial⟩ rfl (fun hg => OpQ.g (q_move rfl)) ?_
      refine .guardG (env' := [(3, _)]) rfl rfl rfl ⟨.inl rfl, trivial⟩ rfl (fun hg => OpQ.g (q_move rfl)) ?_
      obtain ⟨hk2, H⟩ := ck_some H
      refine .guardG (b := (!(decide ((((nth v0l (Int.toNat (v3il1))).a).length : Int) > 200)))) (x := .d (.ro (Record.row (nth v0l (Int.toNat (v3il1)))))) (env' := [(22, _), (23, _)]) rfl rfl rfl ⟨.inr (.inl rfl), ⟨.inr (.inl rfl), trivial⟩⟩ rfl (fun hg => OpQ.g (q_idxL (row := Record.row) (l := v0l) (i := v3il1) Tryd.underlying22 hi39 hs39 rfl rfl rfl (hk2 hg))) ?_
      refine .guardG (env' := [(24, _)]) rfl rfl rfl ⟨.inr (.inl rfl), trivial⟩ rfl (fun hg => OpQ.g (q_fieldRo fo_39_4 rfl)) ?_
      refine .guardG (b := (!(decide ((((nth v0l (Int.toNat (v3il1))).a).length : Int) > 200)))) (x := .d (cS ((nth v0l (Int.toNat (v3il1))).b))) (env' := [(25, _)]) rfl rfl rfl ⟨.inr (.inl rfl), trivial⟩ rfl (fun hg => OpQ.g (q_load one_9 rfl)) ?_
      refine .guardG (env' := [(26, _)]) rfl rfl rfl ⟨.inr (.inl rfl), trivial⟩ rfl (fun hg => OpQ.g (q_lenS Tryd.underlying9 rfl)) ?_
      refine .guardG (env' := [(27, _)]) rfl rfl rfl ⟨.inr (.inl rfl), trivial⟩ rfl (fun hg => OpQ.g (q_gtr rfl rfl)) ?_
      refine .q (q_pickOrB rfl rfl rfl) rfl ?_
      refine .nil ?_
      refine .cond rfl (fun hc => ?_) (fun hc => ?_)
      · replace H := ifT hc H; clear hc
        refine .seq ?_
        refine .region ?_
        refine .q (q_assign rfl) rfl ?_
        refine .nil ?_
        refine .retN [.tmp 2] [.d (cB false)] Tryd.func6 Tryd.results6 ⟨rfl, trivial⟩ ?_
        cases H
        cases HK1
        exact ⟨_, .rfl' _, rfl⟩
      · replace H := ifF hc H; clear hc
        refine .skip ?_
        refine .inBlock ?_
        refine .region ?_
        refine .q (q_move rfl) rfl ?_
        obtain ⟨hk3, H⟩ := ck_some H
        refine .q (q_addI rfl rfl hk3.1 hk3.2) rfl ?_
        refine .q (q_assign rfl) rfl ?_
        refine .nil ?_
        cases H
        exact .sub (.cons rfl (.rfl' _) (.cons rfl (.rfl' _) (.nil))) (ih1 (n1, (v3il1 + 1)) HK1 hm1)
    · replace H := ifF hc H; clear hc
      refine .exit rfl ?_
      obtain ⟨q0, H9, hq0⟩ := map_some' H; clear H; cases hq0
      cases HK1
      have H := H9
      exact .sub (.cons rfl (.rfl' _) (.nil)) (hj1x () H)

set_option maxRecDepth 100000 in
set_option maxHeartbeats 1000000 in
theorem c_f_batch_within {v0n : Int} {v1lo : Int} {v2hi : Int} {r : Bool} (H : f_batch_within v0n v1lo v2hi = some r) : ACall Tryd.prog 15 [cI v0n, cI v1lo, cI v2hi] (· = cB r) := by
  refine ACall.enter' Tryd.func15 rfl Tryd.ntmps15 rfl fun S hS => ?_
  unfold f_batch_within at H
  change ARun _ _ _ _ _ _ [(0, .d (cI v0n)), (1, .d (cI v1lo)), (2, .d (cI v2hi))] _
  refine .seq ?_
  refine .region ?_
  refine .q (q_assign rfl) rfl ?_
  refine .nil ?_
  refine .seq ?_
  refine .region ?_
  refine .q (q_move rfl) rfl ?_
  refine .q (q_move rfl) rfl ?_
  refine .q (q_geq rfl rfl) rfl ?_
  refine .q (q_move rfl) rfl ?_
  refine .guardG (env' := [(0, _)]) rfl rfl rfl ⟨.inl rfl, trivial⟩ rfl (fun hg => OpQ.g (q_move rfl)) ?_
  refine .guardG (env' := [(2, _)]) rfl rfl rfl ⟨.inl rfl, trivial⟩ rfl (fun hg => OpQ.g (q_move rfl)) ?_
  refine .guardG (env' := [(11, _), (12, _)]) rfl rfl rfl ⟨.inr (.inl rfl), ⟨.inr (.inl rfl), trivial⟩⟩ rfl (fun hg => OpQ.g (q_leq rfl rfl)) ?_
  refine .q (q_pickAndB rfl rfl rfl) rfl ?_
  refine .q (q_assign rfl) rfl ?_
  refine .nil ?_
  refine .retN [.tmp 6] [.d (cB ((decide (v0n ≥ v1lo)) && (decide (v0n ≤ v2hi))))] Tryd.func15 Tryd.results15 ⟨rfl, trivial⟩ ?_
  cases H
  exact ⟨_, .rfl' _, rfl⟩

set_option maxRecDepth 100000 in
set_option maxHeartbeats 1000000 in
theorem c_f_batch_Totals {v0records : List Record} {r : Totals} (H : f_batch_Totals v0records = some r) : ACall Tryd.prog 8 [slOf 12 Record.row v0records] (· = .agg (Totals.row r)) := by
  obtain ⟨i3, hi3, hz3, hs3, hb3⟩ := in_3
  obtain ⟨i27, hi27, hz27, hs27, hb27⟩ := in_27
  obtain ⟨i39, hi39, hz39, hs39, hb39⟩ := in_39
  refine ACall.enter' Tryd.func8 rfl Tryd.ntmps8 rfl fun S hS => ?_
  unfold f_batch_Totals at H
  change ARun _ _ _ _ _ _ [(0, .d (slOf 12 Record.row v0records))] _
  refine .seq ?_
  refine .region ?_
  refine .v (x := .ref 0 0) (v_alloc zr_27 rfl) rfl ?_
  refine .withSt (st' := ⟨[.row 27 [.d (cI 0), .d (cI 0), .d (cI 0), .d (cI 0), .d (cI 0), .d (cI 0)]], []⟩) rfl ?_
  refine .nil ?_
  refine .seq ?_
  refine .region ?_
  refine .q (q_move rfl) rfl ?_
  refine .q (q_lenL (l := v0records) (row := Record.row) Tryd.underlying22 rfl rfl) rfl ?_
  refine .q (x := .d (.agg (Totals.row (⟨(v0records.length : Int), ([0, 0, 0, 0, 0] : List Int)⟩ : Totals)))) (q_buildP pl_27 hi27 hz27 rfl rfl) rfl ?_
  refine .v (x := .ref 1 0) (v_alloc zr_27 rfl) rfl ?_
  refine .withSt (st' := ⟨[.row 27 [.d (cI 0), .d (cI 0), .d (cI 0), .d (cI 0), .d (cI 0), .d (cI 0)], .row 27 [.d (cI 0), .d (cI 0), .d (cI 0), .d (cI 0), .d (cI 0), .d (cI 0)]], []⟩) rfl ?_
  refine .u (u_store rfl rfl rfl rfl (Nat.le_of_ble_eq_true rfl) sz_27) rfl ?_
  refine .withSt (st' := ⟨[.row 27 [.d (cI 0), .d (cI 0), .d (cI 0), .d (cI 0), .d (cI 0), .d (cI 0)], .row 27 [.d (cI (v0records.length : Int)), .d (cI 0), .d (cI 0), .d (cI 0), .d (cI 0), .d (cI 0)]], []⟩) rfl ?_
  refine .nil ?_
  refine .seq ?_
  refine .seq ?_
  refine .region ?_
  refine .q (q_move rfl) rfl ?_
  refine .q (q_lenL (l := v0records) (row := Record.row) Tryd.underlying22 rfl rfl) rfl ?_
  refine .q (q_move rfl) rfl ?_
  refine .nil ?_
  refine .block ?_
  obtain ⟨n1, H⟩ := loop_some H
  refine .withSt (st' := ⟨[.row 27 [.d (cI 0), .d (cI 0), .d (cI 0), .d (cI 0), .d (cI 0), .d (cI 0)], .row 27 [.d (cI (v0records.length : Int)), .d (cI 0), .d (cI 0), .d (cI 0), .d (cI 0), .d (cI 0)]], []⟩) rfl <| .loop (ι := Nat × (Int × Int × Int × Int × Int × Int)) (fun p => [(2, .ref 0 0), (3, .ref 1 0), (9, .d (slOf 12 Record.row v0records)), (10, .d (cI (v0records.length : Int))), (11, .d (cI p.2.1))]) (fun p => ⟨[.row 27 [.d (cI 0), .d (cI 0), .d (cI 0), .d (cI 0), .d (cI 0), .d (cI 0)], .row 27 [.d (cI (v0records.length : Int)), .d (cI p.2.2.1), .d (cI p.2.2.2.1), .d (cI p.2.2.2.2.1), .d (cI p.2.2.2.2.2.1), .d (cI p.2.2.2.2.2.2)]], []⟩) (fun p => iter (fun s => f_batch_Totals_l1 v0records s.1 s.2.1 s.2.2.1 s.2.2.2.1 s.2.2.2.2.1 s.2.2.2.2.2) p.1 p.2 = some r) (·.1) (n1, (0, 0, 0, 0, 0, 0)) H (.cons rfl (.rfl' _) (.cons rfl (.rfl' _) (.cons rfl (.rfl' _) (.cons rfl (.rfl' _) (.cons rfl (.rfl' _) (.nil)))))) rfl ?_
  rintro ⟨m1, v11l1, o1c1l1, o1c2l1, o1c3l1, o1c4l1, o1c5l1⟩ HI ih1
  obtain ⟨n1, q1, hm1, H, HK1⟩ := iter_succ HI
  clear HI
  replace H : f_batch_Totals_l1 v0records v11l1 o1c1l1 o1c2l1 o1c3l1 o1c4l1 o1c5l1 = some q1 := H
  unfold f_batch_Totals_l1 at H
  change ARun _ _ _ _ _ _ [(2, .ref 0 0), (3, .ref 1 0), (9, .d (slOf 12 Record.row v0records)), (10, .d (cI (v0records.length : Int))), (11, .d (cI v11l1))] ⟨[.row 27 [.d (cI 0), .d (cI 0), .d (cI 0), .d (cI 0), .d (cI 0), .d (cI 0)], .row 27 [.d (cI (v0records.length : Int)), .d (cI o1c1l1), .d (cI o1c2l1), .d (cI o1c3l1), .d (cI o1c4l1), .d (cI o1c5l1)]], []⟩
  refine .seq ?_
  refine .region ?_
  refine .q (q_lss rfl rfl) rfl ?_
  refine .nil ?_
  refine .seq ?_
  refine .cond rfl (fun hc => ?_) (fun hc => ?_)
  · replace H := ifT hc H; clear hc
    refine .skip ?_
    refine .seq ?_
    refine .block ?_
    refine .seq ?_
    refine .region ?_
    obtain ⟨hk1, H⟩ := ck_some H
    refine .q (x := .d (.ro (Record.row (nth v0records (Int.toNat (v11l1)))))) (q_idxL (row := Record.row) (l := v0records) (i := v11l1) Tryd.underlying22 hi39 hs39 rfl rfl rfl hk1) rfl ?_
    refine .q (x := .d (.agg (Record.row (nth v0records (Int.toNat (v11l1)))))) (q_loadAll one_39 sz_39 rfl rfl) rfl ?_
    refine .v (x := .ref 2 0) (v_alloc zr_39 rfl) rfl ?_
    refine .withSt (st' := ⟨[.row 27 [.d (cI 0), .d (cI 0), .d (cI 0), .d (cI 0), .d (cI 0), .d (cI 0)], .row 27 [.d (cI (v0records.length : Int)), .d (cI o1c1l1), .d (cI o1c2l1), .d (cI o1c3l1), .d (cI o1c4l1), .d (cI o1c5l1)], .row 39 [.d (cI 0), .d (cI 0), .d (cI 0), .d (cS ([] : List UInt8)), .d (cS ([] : List UInt8)), .d (cI 0), .d (cI 0), .d (cI 0), .d (cI 0), .d (cB false), .d (cI 0), .d (cB false)]], []⟩) rfl ?_
    refine .u (u_store rfl rfl rfl rfl (Nat.le_of_ble_eq_true rfl) sz_39) rfl ?_
    refine .withSt (st' := ⟨[.row 27 [.d (cI 0), .d (cI 0), .d (cI 0), .d (cI 0), .d (cI 0), .d (cI 0)], .row 27 [.d (cI (v0records.length : Int)), .d (cI o1c1l1), .d (cI o1c2l1), .d (cI o1c3l1), .d (cI o1c4l1), .d (cI o1c5l1)], .row 39 [.d (cI ((nth v0records (Int.toNat (v11l1))).source)), .d (cI ((nth v0records (Int.toNat (v11l1))).serial)), .d (cI ((nth v0records (Int.toNat (v11l1))).kind)), .d (cS ((nth v0records (Int.toNat (v11l1))).a)), .d (cS ((nth v0records (Int.toNat (v11l1))).b)), .d (cI ((nth v0records (Int.toNat (v11l1))).start)), .d (cI ((nth v0records (Int.toNat (v11l1))).units)), .d (cI ((nth v0records (Int.toNat (v11l1))).call)), .d (cI ((nth v0records (Int.toNat (v11l1))).part)), .d (cB ((nth v0records (Int.toNat (v11l1))).last)), .d (cI ((nth v0records (Int.toNat (v11l1))).trunk)), .d (cB ((nth v0records (Int.toNat (v11l1))).inbound))]], []⟩) rfl ?_
    refine .nil ?_
    refine .seq ?_
    refine .region ?_
    refine .q (q_fieldRef fo_39_2 rfl) rfl ?_
    refine .q (x := .d (cI ((nth v0records (Int.toNat (v11l1))).kind))) (q_loadO one_3 rfl rfl rfl) rfl ?_
    obtain ⟨y1, hy1, H⟩ := bind_some' H
    refine .g (x := .d (cB y1)) (g_call en_15 rfl rfl (c_f_batch_within (hy1))) rfl ?_
    refine .q (q_move rfl) rfl ?_
    refine .guardG (env' := [(5, _)]) rfl rfl rfl ⟨.inl rfl, trivial⟩ rfl (fun hg => OpQ.g (q_fieldRef fo_39_6 rfl)) ?_
    refine .guardG (b := y1) (x := .d (cI ((nth v0records (Int.toNat (v11l1))).units))) (env' := [(19, _)]) rfl rfl rfl ⟨.inr (.inl rfl), trivial⟩ rfl (fun hg => OpQ.g (q_loadO one_3 rfl rfl rfl)) ?_
    obtain ⟨y2, hy2, H⟩ := bind_some' H
    refine .guardG (b := y1) (x := .d (cB y2)) (env' := [(20, _)]) rfl rfl rfl ⟨.inr (.inl rfl), trivial⟩ rfl (fun hg => (g_call en_15 rfl rfl (c_f_batch_within (gcall_some hy2 hg)))) ?_
    refine .q (q_pickAndB rfl rfl rfl) rfl ?_
    refine .nil ?_
    refine .cond rfl (fun hc => ?_) (fun hc => ?_)
    · replace H := ifT hc H; clear hc
      refine .drawn 10 hMix (by kernel_rfl) ?_
      show DOps _ _ _ _ _ _ _ (_ :: _) _ _ _
      refine .q (q_fieldRef fo_39_2 rfl) rfl ?_
      refine .q (x := .d (cI ((nth v0records (Int.toNat (v11l1))).kind))) (q_loadO one_3 rfl rfl rfl) rfl ?_
      refine .q (q_fieldRef fo_27_1 rfl) rfl ?_
      obtain ⟨hk2, H⟩ := ck_some H
      refine .q (x := .ref 1 (1 + Int.toNat ((nth v0records (Int.toNat (v11l1))).kind))) (q_idxK (off := 1) (i := (nth v0records (Int.toNat (v11l1))).kind) Tryd.underlying25 ⟨_, hi3, hs3⟩ rfl rfl hk2) rfl ?_
      obtain ⟨hk3, H⟩ := ck_some H
      refine .q (x := .d (cI (nth ([o1c1l1, o1c2l1, o1c3l1, o1c4l1, o1c5l1] : List Int) (Int.toNat ((nth v0records (Int.toNat (v11l1))).kind))))) (q_loadK (n := 5) (off := 1) (i := Int.toNat ((nth v0records (Int.toNat (v11l1))).kind)) (l := ([o1c1l1, o1c2l1, o1c3l1, o1c4l1, o1c5l1] : List Int)) (c1 := cI) one_3 rfl rfl rfl hk3) rfl ?_
      refine .q (q_fieldRef fo_39_6 rfl) rfl ?_
      refine .q (x := .d (cI ((nth v0records (Int.toNat (v11l1))).units))) (q_loadO one_3 rfl rfl rfl) rfl ?_
      obtain ⟨hk4, H⟩ := ck_some H
      refine .q (q_addI rfl rfl hk4.1 hk4.2) rfl ?_
      refine .q (q_fieldRef fo_27_1 rfl) rfl ?_
      obtain ⟨hk5, H⟩ := ck_some H
      refine .q (x := .ref 1 (1 + Int.toNat ((nth v0records (Int.toNat (v11l1))).kind))) (q_idxK (off := 1) (i := (nth v0records (Int.toNat (v11l1))).kind) Tryd.underlying25 ⟨_, hi3, hs3⟩ rfl rfl hk5) rfl ?_
      refine .nil ?_
      show AOps _ _ _ _ _ _ (_ :: _) _ _ _
      obtain ⟨hk6, H⟩ := ck_some H
      refine .u (u_storeK (n := 5) (off := 1) (i := Int.toNat ((nth v0records (Int.toNat (v11l1))).kind)) (l := ([o1c1l1, o1c2l1, o1c3l1, o1c4l1, o1c5l1] : List Int)) (c1 := cI) (a := (nth ([o1c1l1, o1c2l1, o1c3l1, o1c4l1, o1c5l1] : List Int) (Int.toNat ((nth v0records (Int.toNat (v11l1))).kind))) + ((nth v0records (Int.toNat (v11l1))).units)) rfl rfl rfl rfl rfl hk6 sz_3) rfl ?_
      refine .withSt (st' := ⟨[.row 27 [.d (cI 0), .d (cI 0), .d (cI 0), .d (cI 0), .d (cI 0), .d (cI 0)], .row 27 [.d (cI (v0records.length : Int)), .d (cI (nth (setN ([o1c1l1, o1c2l1, o1c3l1, o1c4l1, o1c5l1] : List Int) 5 (Int.toNat ((nth v0records (Int.toNat (v11l1))).kind)) ((nth ([o1c1l1, o1c2l1, o1c3l1, o1c4l1, o1c5l1] : List Int) (Int.toNat ((nth v0records (Int.toNat (v11l1))).kind))) + ((nth v0records (Int.toNat (v11l1))).units))) 0)), .d (cI (nth (setN ([o1c1l1, o1c2l1, o1c3l1, o1c4l1, o1c5l1] : List Int) 5 (Int.toNat ((nth v0records (Int.toNat (v11l1))).kind)) ((nth ([o1c1l1, o1c2l1, o1c3l1, o1c4l1, o1c5l1] : List Int) (Int.toNat ((nth v0records (Int.toNat (v11l1))).kind))) + ((nth v0records (Int.toNat (v11l1))).units))) 1)), .d (cI (nth (setN ([o1c1l1, o1c2l1, o1c3l1, o1c4l1, o1c5l1] : List Int) 5 (Int.toNat ((nth v0records (Int.toNat (v11l1))).kind)) ((nth ([o1c1l1, o1c2l1, o1c3l1, o1c4l1, o1c5l1] : List Int) (Int.toNat ((nth v0records (Int.toNat (v11l1))).kind))) + ((nth v0records (Int.toNat (v11l1))).units))) 2)), .d (cI (nth (setN ([o1c1l1, o1c2l1, o1c3l1, o1c4l1, o1c5l1] : List Int) 5 (Int.toNat ((nth v0records (Int.toNat (v11l1))).kind)) ((nth ([o1c1l1, o1c2l1, o1c3l1, o1c4l1, o1c5l1] : List Int) (Int.toNat ((nth v0records (Int.toNat (v11l1))).kind))) + ((nth v0records (Int.toNat (v11l1))).units))) 3)), .d (cI (nth (setN ([o1c1l1, o1c2l1, o1c3l1, o1c4l1, o1c5l1] : List Int) 5 (Int.toNat ((nth v0records (Int.toNat (v11l1))).kind)) ((nth ([o1c1l1, o1c2l1, o1c3l1, o1c4l1, o1c5l1] : List Int) (Int.toNat ((nth v0records (Int.toNat (v11l1))).kind))) + ((nth v0records (Int.toNat (v11l1))).units))) 4))], .row 39 [.d (cI ((nth v0records (Int.toNat (v11l1))).source)), .d (cI ((nth v0records (Int.toNat (v11l1))).serial)), .d (cI ((nth v0records (Int.toNat (v11l1))).kind)), .d (cS ((nth v0records (Int.toNat (v11l1))).a)), .d (cS ((nth v0records (Int.toNat (v11l1))).b)), .d (cI ((nth v0records (Int.toNat (v11l1))).start)), .d (cI ((nth v0records (Int.toNat (v11l1))).units)), .d (cI ((nth v0records (Int.toNat (v11l1))).call)), .d (cI ((nth v0records (Int.toNat (v11l1))).part)), .d (cB ((nth v0records (Int.toNat (v11l1))).last)), .d (cI ((nth v0records (Int.toNat (v11l1))).trunk)), .d (cB ((nth v0records (Int.toNat (v11l1))).inbound))]], []⟩) rfl ?_
      refine .nil ?_
      refine .inBlock ?_
      refine .region ?_
      obtain ⟨hk7, H⟩ := ck_some H
      refine .q (q_addI rfl rfl hk7.1 hk7.2) rfl ?_
      refine .q (q_move rfl) rfl ?_
      refine .nil ?_
      cases H
      exact .to 2 0 (env' := [(2, .ref 0 0), (3, .ref 1 0), (9, .d (slOf 12 Record.row v0records)), (10, .d (cI (v0records.length : Int))), (11, .d (cI (v11l1 + 1)))]) (st' := ⟨[.row 27 [.d (cI 0), .d (cI 0), .d (cI 0), .d (cI 0), .d (cI 0), .d (cI 0)], .row 27 [.d (cI (v0records.length : Int)), .d (cI (nth (setN ([o1c1l1, o1c2l1, o1c3l1, o1c4l1, o1c5l1] : List Int) 5 (Int.toNat ((nth v0records (Int.toNat (v11l1))).kind)) ((nth ([o1c1l1, o1c2l1, o1c3l1, o1c4l1, o1c5l1] : List Int) (Int.toNat ((nth v0records (Int.toNat (v11l1))).kind))) + ((nth v0records (Int.toNat (v11l1))).units))) 0)), .d (cI (nth (setN ([o1c1l1, o1c2l1, o1c3l1, o1c4l1, o1c5l1] : List Int) 5 (Int.toNat ((nth v0records (Int.toNat (v11l1))).kind)) ((nth ([o1c1l1, o1c2l1, o1c3l1, o1c4l1, o1c5l1] : List Int) (Int.toNat ((nth v0records (Int.toNat (v11l1))).kind))) + ((nth v0records (Int.toNat (v11l1))).units))) 1)), .d (cI (nth (setN ([o1c1l1, o1c2l1, o1c3l1, o1c4l1, o1c5l1] : List Int) 5 (Int.toNat ((nth v0records (Int.toNat (v11l1))).kind)) ((nth ([o1c1l1, o1c2l1, o1c3l1, o1c4l1, o1c5l1] : List Int) (Int.toNat ((nth v0records (Int.toNat (v11l1))).kind))) + ((nth v0records (Int.toNat (v11l1))).units))) 2)), .d (cI (nth (setN ([o1c1l1, o1c2l1, o1c3l1, o1c4l1, o1c5l1] : List Int) 5 (Int.toNat ((nth v0records (Int.toNat (v11l1))).kind)) ((nth ([o1c1l1, o1c2l1, o1c3l1, o1c4l1, o1c5l1] : List Int) (Int.toNat ((nth v0records (Int.toNat (v11l1))).kind))) + ((nth v0records (Int.toNat (v11l1))).units))) 3)), .d (cI (nth (setN ([o1c1l1, o1c2l1, o1c3l1, o1c4l1, o1c5l1] : List Int) 5 (Int.toNat ((nth v0records (Int.toNat (v11l1))).kind)) ((nth ([o1c1l1, o1c2l1, o1c3l1, o1c4l1, o1c5l1] : List Int) (Int.toNat ((nth v0records (Int.toNat (v11l1))).kind))) + ((nth v0records (Int.toNat (v11l1))).units))) 4))]], []⟩) (.cons rfl (.rfl' _) (.cons rfl (.rfl' _) (.cons rfl (.rfl' _) (.cons rfl (.rfl' _) (.cons rfl (.rfl' _) (.nil)))))) rfl rfl rfl rfl rfl (by rw [hS]; exact Nat.le_of_ble_eq_true rfl) (by rw [hS]; exact Nat.le_of_ble_eq_true rfl) <| .sub (.cons rfl (.rfl' _) (.cons rfl (.rfl' _) (.cons rfl (.rfl' _) (.cons rfl (.rfl' _) (.cons rfl (.rfl' _) (.nil)))))) (ih1 (n1, (v11l1 + 1, nth (setN ([o1c1l1, o1c2l1, o1c3l1, o1c4l1, o1c5l1] : List Int) 5 (Int.toNat ((nth v0records (Int.toNat (v11l1))).kind)) ((nth ([o1c1l1, o1c2l1, o1c3l1, o1c4l1, o1c5l1] : List Int) (Int.toNat ((nth v0records (Int.toNat (v11l1))).kind))) + ((nth v0records (Int.toNat (v11l1))).units))) 0, nth (setN ([o1c1l1, o1c2l1, o1c3l1, o1c4l1, o1c5l1] : List Int) 5 (Int.toNat ((nth v0records (Int.toNat (v11l1))).kind)) ((nth ([o1c1l1, o1c2l1, o1c3l1, o1c4l1, o1c5l1] : List Int) (Int.toNat ((nth v0records (Int.toNat (v11l1))).kind))) + ((nth v0records (Int.toNat (v11l1))).units))) 1, nth (setN ([o1c1l1, o1c2l1, o1c3l1, o1c4l1, o1c5l1] : List Int) 5 (Int.toNat ((nth v0records (Int.toNat (v11l1))).kind)) ((nth ([o1c1l1, o1c2l1, o1c3l1, o1c4l1, o1c5l1] : List Int) (Int.toNat ((nth v0records (Int.toNat (v11l1))).kind))) + ((nth v0records (Int.toNat (v11l1))).units))) 2, nth (setN ([o1c1l1, o1c2l1, o1c3l1, o1c4l1, o1c5l1] : List Int) 5 (Int.toNat ((nth v0records (Int.toNat (v11l1))).kind)) ((nth ([o1c1l1, o1c2l1, o1c3l1, o1c4l1, o1c5l1] : List Int) (Int.toNat ((nth v0records (Int.toNat (v11l1))).kind))) + ((nth v0records (Int.toNat (v11l1))).units))) 3, nth (setN ([o1c1l1, o1c2l1, o1c3l1, o1c4l1, o1c5l1] : List Int) 5 (Int.toNat ((nth v0records (Int.toNat (v11l1))).kind)) ((nth ([o1c1l1, o1c2l1, o1c3l1, o1c4l1, o1c5l1] : List Int) (Int.toNat ((nth v0records (Int.toNat (v11l1))).kind))) + ((nth v0records (Int.toNat (v11l1))).units))) 4)) HK1 hm1)
    · replace H := ifF hc H; clear hc
      refine .skip ?_
      refine .inBlock ?_
      refine .region ?_
      obtain ⟨hk8, H⟩ := ck_some H
      refine .q (q_addI rfl rfl hk8.1 hk8.2) rfl ?_
      refine .q (q_move rfl) rfl ?_
      refine .nil ?_
      cases H
      exact .to 2 0 (env' := [(2, .ref 0 0), (3, .ref 1 0), (9, .d (slOf 12 Record.row v0records)), (10, .d (cI (v0records.length : Int))), (11, .d (cI (v11l1 + 1)))]) (st' := ⟨[.row 27 [.d (cI 0), .d (cI 0), .d (cI 0), .d (cI 0), .d (cI 0), .d (cI 0)], .row 27 [.d (cI (v0records.length : Int)), .d (cI o1c1l1), .d (cI o1c2l1), .d (cI o1c3l1), .d (cI o1c4l1), .d (cI o1c5l1)]], []⟩) (.cons rfl (.rfl' _) (.cons rfl (.rfl' _) (.cons rfl (.rfl' _) (.cons rfl (.rfl' _) (.cons rfl (.rfl' _) (.nil)))))) rfl rfl rfl rfl rfl (by rw [hS]; exact Nat.le_of_ble_eq_true rfl) (by rw [hS]; exact Nat.le_of_ble_eq_true rfl) <| .sub (.cons rfl (.rfl' _) (.cons rfl (.rfl' _) (.cons rfl (.rfl' _) (.cons rfl (.rfl' _) (.cons rfl (.rfl' _) (.nil)))))) (ih1 (n1, (v11l1 + 1, o1c1l1, o1c2l1, o1c3l1, o1c4l1, o1c5l1)) HK1 hm1)
  · replace H := ifF hc H; clear hc
    refine .exit rfl ?_
    refine .seq ?_
    refine .region ?_
    refine .q (x := .d (.agg (Totals.row (⟨(v0records.length : Int), ([o1c1l1, o1c2l1, o1c3l1, o1c4l1, o1c5l1] : List Int)⟩ : Totals)))) (q_loadOA one_27 sz_27 rfl rfl (Nat.le_of_ble_eq_true rfl) rfl) rfl ?_
    refine .u (u_store rfl rfl rfl rfl (Nat.le_of_ble_eq_true rfl) sz_27) rfl ?_
    refine .withSt (st' := ⟨[.row 27 [.d (cI (v0records.length : Int)), .d (cI o1c1l1), .d (cI o1c2l1), .d (cI o1c3l1), .d (cI o1c4l1), .d (cI o1c5l1)], .row 27 [.d (cI (v0records.length : Int)), .d (cI o1c1l1), .d (cI o1c2l1), .d (cI o1c3l1), .d (cI o1c4l1), .d (cI o1c5l1)]], []⟩) rfl ?_
    refine .nil ?_
    refine .retN [.cell 2 27] [.d (.agg (Totals.row (⟨(v0records.length : Int), ([o1c1l1, o1c2l1, o1c3l1, o1c4l1, o1c5l1] : List Int)⟩ : Totals)))] Tryd.func8 Tryd.results8 ⟨⟨⟨_, _, rfl⟩, q_loadOA one_27 sz_27 rfl rfl (Nat.le_of_ble_eq_true rfl) rfl⟩, trivial⟩ ?_
    cases H
    cases HK1
    exact ⟨_, .rfl' _, rfl⟩

set_option maxRecDepth 100000 in
set_option maxHeartbeats 1000000 in
theorem c_f_batch_headOf {v0b : Batch} {r : Head} (H : f_batch_headOf v0b = some r) : ACall Tryd.prog 16 [.agg (Batch.row v0b)] (· = .agg (Head.row r)) := by
  obtain ⟨i42, hi42, hz42, hs42, hb42⟩ := in_42
  refine ACall.enter' Tryd.func16 rfl Tryd.ntmps16 rfl fun S hS => ?_
  unfold f_batch_headOf at H
  change ARun _ _ _ _ _ _ [(0, .d (.agg (Batch.row v0b)))] _
  refine .seq ?_
  refine .region ?_
  refine .v (x := .ref 0 0) (v_box rfl rfl) rfl ?_
  refine .withSt (st' := ⟨[.row 31 [.d (cI v0b.source), .d (cI v0b.number), .d (cI v0b.format), .d (slOf 12 Record.row v0b.records)]], []⟩) rfl ?_
  refine .v (x := .ref 1 0) (v_alloc zr_42 rfl) rfl ?_
  refine .withSt (st' := ⟨[.row 31 [.d (cI v0b.source), .d (cI v0b.number), .d (cI v0b.format), .d (slOf 12 Record.row v0b.records)], .row 42 [.d (cI 0), .d (cI 0), .d (cI 0), .d (cI 0)]], []⟩) rfl ?_
  refine .nil ?_
  refine .seq ?_
  refine .region ?_
  refine .q (q_fieldRef fo_31_0 rfl) rfl ?_
  refine .q (x := .d (cI v0b.source)) (q_loadO one_3 rfl rfl rfl) rfl ?_
  refine .q (q_fieldRef fo_31_1 rfl) rfl ?_
  refine .q (x := .d (cI v0b.number)) (q_loadO one_3 rfl rfl rfl) rfl ?_
  refine .q (q_fieldRef fo_31_2 rfl) rfl ?_
  refine .q (x := .d (cI v0b.format)) (q_loadO one_3 rfl rfl rfl) rfl ?_
  refine .q (q_fieldRef fo_31_3 rfl) rfl ?_
  refine .q (x := .d (slOf 12 Record.row v0b.records)) (q_loadO one_22 rfl rfl rfl) rfl ?_
  refine .q (q_lenL (l := v0b.records) (row := Record.row) Tryd.underlying22 rfl rfl) rfl ?_
  refine .q (x := .d (.agg (Head.row (⟨v0b.source, v0b.number, v0b.format, (v0b.records.length : Int)⟩ : Head)))) (q_buildP pl_42 hi42 hz42 rfl rfl) rfl ?_
  refine .u (u_store rfl rfl rfl rfl (Nat.le_of_ble_eq_true rfl) sz_42) rfl ?_
  refine .withSt (st' := ⟨[.row 31 [.d (cI v0b.source), .d (cI v0b.number), .d (cI v0b.format), .d (slOf 12 Record.row v0b.records)], .row 42 [.d (cI v0b.source), .d (cI v0b.number), .d (cI v0b.format), .d (cI (v0b.records.length : Int))]], []⟩) rfl ?_
  refine .nil ?_
  refine .retN [.cell 2 42] [.d (.agg (Head.row (⟨v0b.source, v0b.number, v0b.format, (v0b.records.length : Int)⟩ : Head)))] Tryd.func16 Tryd.results16 ⟨⟨⟨_, _, rfl⟩, q_loadOA one_42 sz_42 rfl rfl (Nat.le_of_ble_eq_true rfl) rfl⟩, trivial⟩ ?_
  cases H
  exact ⟨_, .rfl' _, rfl⟩

set_option maxRecDepth 100000 in
set_option maxHeartbeats 1000000 in
theorem c_f_batch_checkHead {v0h : Head} {r : Int} (H : f_batch_checkHead v0h = some r) : ACall Tryd.prog 23 [.agg (Head.row v0h)] (· = cI r) := by
  refine ACall.enter' Tryd.func23 rfl Tryd.ntmps23 rfl fun S hS => ?_
  unfold f_batch_checkHead at H
  change ARun _ _ _ _ _ _ [(0, .d (.agg (Head.row v0h)))] _
  refine .seq ?_
  refine .region ?_
  refine .v (x := .ref 0 0) (v_box rfl rfl) rfl ?_
  refine .withSt (st' := ⟨[.row 42 [.d (cI v0h.source), .d (cI v0h.number), .d (cI v0h.format), .d (cI v0h.count)]], []⟩) rfl ?_
  refine .q (q_assign rfl) rfl ?_
  refine .nil ?_
  refine .seq ?_
  refine .block ?_
  refine .seq ?_
  refine .region ?_
  refine .q (q_fieldRef fo_42_0 rfl) rfl ?_
  refine .q (x := .d (cI v0h.source)) (q_loadO one_3 rfl rfl rfl) rfl ?_
  obtain ⟨y1, hy1, H⟩ := bind_some' H
  refine .g (x := .d (cB y1)) (g_call en_15 rfl rfl (c_f_batch_within (hy1))) rfl ?_
  refine .q (q_not rfl) rfl ?_
  refine .q (q_move rfl) rfl ?_
  refine .guardG (env' := [(1, _)]) rfl rfl rfl ⟨.inl rfl, trivial⟩ rfl (fun hg => OpQ.g (q_fieldRef fo_42_1 rfl)) ?_
  refine .guardG (b := (!(!y1))) (x := .d (cI v0h.number)) (env' := [(9, _)]) rfl rfl rfl ⟨.inr (.inl rfl), trivial⟩ rfl (fun hg => OpQ.g (q_loadO one_3 rfl rfl rfl)) ?_
  obtain ⟨y2, hy2, H⟩ := bind_some' H
  refine .guardG (b := (!(!y1))) (x := .d (cB y2)) (env' := [(10, _)]) rfl rfl rfl ⟨.inr (.inl rfl), trivial⟩ rfl (fun hg => (g_call en_15 rfl rfl (c_f_batch_within (gcall_some hy2 hg)))) ?_
  refine .guardG (env' := [(11, _)]) rfl rfl rfl ⟨.inr (.inl rfl), trivial⟩ rfl (fun hg => OpQ.g (q_not rfl)) ?_
  refine .q (q_pickOrB rfl rfl rfl) rfl ?_
  refine .q (q_assign rfl) rfl ?_
  refine .nil ?_
  refine .cond rfl (fun hc => ?_) (fun hc => ?_)
  · replace H := ifT hc H; clear hc
    refine .seq ?_
    refine .region ?_
    refine .q (q_assign rfl) rfl ?_
    refine .nil ?_
    refine .retN [.tmp 2] [.d (cI 6)] Tryd.func23 Tryd.results23 ⟨rfl, trivial⟩ ?_
    cases H
    exact ⟨_, .rfl' _, rfl⟩
  · replace H := ifF hc H; clear hc
    refine .seq ?_
    refine .region ?_
    refine .q (q_fieldRef fo_42_2 rfl) rfl ?_
    refine .q (x := .d (cI v0h.format)) (q_loadO one_3 rfl rfl rfl) rfl ?_
    obtain ⟨y3, hy3, H⟩ := bind_some' H
    refine .g (x := .d (cB y3)) (g_call en_15 rfl rfl (c_f_batch_within (hy3))) rfl ?_
    refine .q (q_not rfl) rfl ?_
    refine .q (q_assign rfl) rfl ?_
    refine .nil ?_
    refine .cond rfl (fun hc => ?_) (fun hc => ?_)
    · replace H := ifT hc H; clear hc
      refine .seq ?_
      refine .region ?_
      refine .q (q_assign rfl) rfl ?_
      refine .nil ?_
      refine .retN [.tmp 2] [.d (cI 7)] Tryd.func23 Tryd.results23 ⟨rfl, trivial⟩ ?_
      cases H
      exact ⟨_, .rfl' _, rfl⟩
    · replace H := ifF hc H; clear hc
      refine .seq ?_
      refine .region ?_
      refine .q (q_fieldRef fo_42_3 rfl) rfl ?_
      refine .q (x := .d (cI v0h.count)) (q_loadO one_3 rfl rfl rfl) rfl ?_
      obtain ⟨y4, hy4, H⟩ := bind_some' H
      refine .g (x := .d (cB y4)) (g_call en_15 rfl rfl (c_f_batch_within (hy4))) rfl ?_
      refine .q (q_not rfl) rfl ?_
      refine .q (q_assign rfl) rfl ?_
      refine .nil ?_
      refine .cond rfl (fun hc => ?_) (fun hc => ?_)
      · replace H := ifT hc H; clear hc
        refine .seq ?_
        refine .region ?_
        refine .q (q_assign rfl) rfl ?_
        refine .nil ?_
        refine .retN [.tmp 2] [.d (cI 5)] Tryd.func23 Tryd.results23 ⟨rfl, trivial⟩ ?_
        cases H
        exact ⟨_, .rfl' _, rfl⟩
      · replace H := ifF hc H; clear hc
        refine .skip ?_
        refine .inBlock ?_
        refine .seq ?_
        refine .region ?_
        refine .q (q_assign rfl) rfl ?_
        refine .nil ?_
        refine .retN [.tmp 2] [.d (cI 0)] Tryd.func23 Tryd.results23 ⟨rfl, trivial⟩ ?_
        cases H
        exact ⟨_, .rfl' _, rfl⟩

set_option maxRecDepth 100000 in
set_option maxHeartbeats 1000000 in
theorem c_f_textual_within {v0n : Int} {v1lo : Int} {v2hi : Int} {r : Bool} (H : f_textual_within v0n v1lo v2hi = some r) : ACall Tryd.prog 70 [cI v0n, cI v1lo, cI v2hi] (· = cB r) := by
  refine ACall.enter' Tryd.func70 rfl Tryd.ntmps70 rfl fun S hS => ?_
  unfold f_textual_within at H
  change ARun _ _ _ _ _ _ [(0, .d (cI v0n)), (1, .d (cI v1lo)), (2, .d (cI v2hi))] _
  refine .seq ?_
  refine .region ?_
  refine .q (q_assign rfl) rfl ?_
  refine .nil ?_
  refine .seq ?_
  refine .region ?_
  refine .q (q_move rfl) rfl ?_
  refine .q (q_move rfl) rfl ?_
  refine .q (q_geq rfl rfl) rfl ?_
  refine .q (q_move rfl) rfl ?_
  refine .guardG (env' := [(0, _)]) rfl rfl rfl ⟨.inl rfl, trivial⟩ rfl (fun hg => OpQ.g (q_move rfl)) ?_
  refine .guardG (env' := [(2, _)]) rfl rfl rfl ⟨.inl rfl, trivial⟩ rfl (fun hg => OpQ.g (q_move rfl)) ?_
  refine .guardG (env' := [(11, _), (12, _)]) rfl rfl rfl ⟨.inr (.inl rfl), ⟨.inr (.inl rfl), trivial⟩⟩ rfl (fun hg => OpQ.g (q_leq rfl rfl)) ?_
  refine .q (q_pickAndB rfl rfl rfl) rfl ?_
  refine .q (q_assign rfl) rfl ?_
  refine .nil ?_
  refine .retN [.tmp 6] [.d (cB ((decide (v0n ≥ v1lo)) && (decide (v0n ≤ v2hi))))] Tryd.func70 Tryd.results70 ⟨rfl, trivial⟩ ?_
  cases H
  exact ⟨_, .rfl' _, rfl⟩

set_option maxRecDepth 100000 in
set_option maxHeartbeats 1000000 in
theorem c_f_digits_digit {v0c : UInt8} {r : Bool} (H : f_digits_digit v0c = some r) : ACall Tryd.prog 82 [cU8 v0c] (· = cB r) := by
  refine ACall.enter' Tryd.func82 rfl Tryd.ntmps82 rfl fun S hS => ?_
  unfold f_digits_digit at H
  change ARun _ _ _ _ _ _ [(0, .d (cU8 v0c))] _
  refine .seq ?_
  refine .region ?_
  refine .q (q_assign rfl) rfl ?_
  refine .nil ?_
  refine .seq ?_
  refine .region ?_
  refine .q (q_move rfl) rfl ?_
  refine .q (x := .d (cB (decide (v0c ≥ 48)))) (q8_geq (a := v0c) (b := 48) rfl rfl) rfl ?_
  refine .q (q_move rfl) rfl ?_
  refine .guardG (env' := [(0, _)]) rfl rfl rfl ⟨.inl rfl, trivial⟩ rfl (fun hg => OpQ.g (q_move rfl)) ?_
  refine .guardG (b := decide (v0c ≥ 48)) (x := .d (cB (decide (v0c ≤ 57)))) (env' := [(6, _)]) rfl rfl rfl ⟨.inr (.inl rfl), trivial⟩ rfl (fun hg => OpQ.g (q8_leq (a := v0c) (b := 57) rfl rfl)) ?_
  refine .q (q_pickAndB rfl rfl rfl) rfl ?_
  refine .q (q_assign rfl) rfl ?_
  refine .nil ?_
  refine .retN [.tmp 2] [.d (cB ((decide (v0c ≥ 48)) && (decide (v0c ≤ 57))))] Tryd.func82 Tryd.results82 ⟨rfl, trivial⟩ ?_
  cases H
  exact ⟨_, .rfl' _, rfl⟩

set_option maxRecDepth 100000 in
set_option maxHeartbeats 1000000 in
theorem c_f_digits_Valid {v0s : List UInt8} {r : Bool} (H : f_digits_Valid v0s = some r) : ACall Tryd.prog 71 [cS v0s] (· = cB r) := by
  refine ACall.enter' Tryd.func71 rfl Tryd.ntmps71 rfl fun S hS => ?_
  unfold f_digits_Valid at H
  change ARun _ _ _ _ _ _ [(0, .d (cS v0s))] _
  refine .seq ?_
  refine .region ?_
  refine .q (q_assign rfl) rfl ?_
  refine .nil ?_
  refine .seq ?_
  refine .seq ?_
  refine .region ?_
  refine .q (q_move rfl) rfl ?_
  refine .q (q_lenS Tryd.underlying9 rfl) rfl ?_
  refine .q (q_move rfl) rfl ?_
  refine .nil ?_
  refine .blockJoin2 (ι := Unit) (fun s => [(0, .d (cS v0s))]) (fun s => ⟨[], []⟩) (fun s => f_digits_Valid_j1 v0s = some r) ?_ ?_
  · rintro _ H
    replace H : f_digits_Valid_j1 v0s = some r := H
    unfold f_digits_Valid_j1 at H
    change ARun _ _ _ _ _ _ [(0, .d (cS v0s))] ⟨[], []⟩
    refine .seq ?_
    refine .region ?_
    refine .q (q_move rfl) rfl ?_
    refine .q (q_lenS Tryd.underlying9 rfl) rfl ?_
    refine .q (q_geq rfl rfl) rfl ?_
    refine .q (q_move rfl) rfl ?_
    refine .guardG (env' := [(0, _)]) rfl rfl rfl ⟨.inl rfl, trivial⟩ rfl (fun hg => OpQ.g (q_move rfl)) ?_
    refine .guardG (env' := [(19, _)]) rfl rfl rfl ⟨.inr (.inl rfl), trivial⟩ rfl (fun hg => OpQ.g (q_lenS Tryd.underlying9 rfl)) ?_
    refine .guardG (env' := [(20, _)]) rfl rfl rfl ⟨.inr (.inl rfl), trivial⟩ rfl (fun hg => OpQ.g (q_leq rfl rfl)) ?_
    refine .q (q_pickAndB rfl rfl rfl) rfl ?_
    refine .q (q_assign rfl) rfl ?_
    refine .nil ?_
    refine .retN [.tmp 2] [.d (cB ((decide ((v0s.length : Int) ≥ 1)) && (decide ((v0s.length : Int) ≤ 15))))] Tryd.func71 Tryd.results71 ⟨rfl, trivial⟩ ?_
    cases H
    exact ⟨_, .rfl' _, rfl⟩
  · intro hj1 hj1x
    obtain ⟨n1, H⟩ := loop_some H
    refine .loop (ι := Nat × (Int)) (fun p => [(0, .d (cS v0s)), (5, .d (cI (v0s.length : Int))), (6, .d (cI p.2))]) (fun p => ⟨[], []⟩) (fun p => iter (fun s => f_digits_Valid_l1 v0s s) p.1 p.2 = some r) (·.1) (n1, 0) H (.cons rfl (.rfl' _) (.cons rfl (.rfl' _) (.cons rfl (.rfl' _) (.nil)))) rfl ?_
    rintro ⟨m1, v6l1⟩ HI ih1
    obtain ⟨n1, q1, hm1, H, HK1⟩ := iter_succ HI
    clear HI
    replace H : f_digits_Valid_l1 v0s v6l1 = some q1 := H
    unfold f_digits_Valid_l1 at H
    change ARun _ _ _ _ _ _ [(0, .d (cS v0s)), (5, .d (cI (v0s.length : Int))), (6, .d (cI v6l1))] ⟨[], []⟩
    refine .seq ?_
    refine .region ?_
    refine .q (q_lss rfl rfl) rfl ?_
    refine .nil ?_
    refine .seq ?_
    refine .cond rfl (fun hc => ?_) (fun hc => ?_)
    · replace H := ifT hc H; clear hc
      refine .skip ?_
      refine .seq ?_
      refine .block ?_
      refine .seq ?_
      refine .region ?_
      refine .q (q_move rfl) rfl ?_
      refine .q (q_assign rfl) rfl ?_
      refine .nil ?_
      refine .seq ?_
      refine .region ?_
      refine .q (q_move rfl) rfl ?_
      refine .q (q_move rfl) rfl ?_
      obtain ⟨hk1, H⟩ := ck_some H
      refine .q (x := .d (cU8 (nth v0s (Int.toNat (v6l1))))) (q_indexL (i := v6l1) Tryd.underlying9 rfl rfl hk1) rfl ?_
      obtain ⟨y1, hy1, H⟩ := bind_some' H
      refine .g (x := .d (cB y1)) (g_call en_82 rfl rfl (c_f_digits_digit (hy1))) rfl ?_
      refine .q (q_not rfl) rfl ?_
      refine .nil ?_
      refine .cond rfl (fun hc => ?_) (fun hc => ?_)
      · replace H := ifT hc H; clear hc
        refine .seq ?_
        refine .region ?_
        refine .q (q_assign rfl) rfl ?_
        refine .nil ?_
        refine .retN [.tmp 2] [.d (cB false)] Tryd.func71 Tryd.results71 ⟨rfl, trivial⟩ ?_
        cases H
        cases HK1
        exact ⟨_, .rfl' _, rfl⟩
      · replace H := ifF hc H; clear hc
        refine .skip ?_
        refine .inBlock ?_
        refine .region ?_
        obtain ⟨hk2, H⟩ := ck_some H
        refine .q (q_addI rfl rfl hk2.1 hk2.2) rfl ?_
        refine .q (q_move rfl) rfl ?_
        refine .nil ?_
        cases H
        exact .sub (.cons rfl (.rfl' _) (.cons rfl (.rfl' _) (.cons rfl (.rfl' _) (.nil)))) (ih1 (n1, (v6l1 + 1)) HK1 hm1)
    · replace H := ifF hc H; clear hc
      refine .exit rfl ?_
      obtain ⟨q0, H9, hq0⟩ := map_some' H; clear H; cases hq0
      cases HK1
      have H := H9
      exact .sub (.cons rfl (.rfl' _) (.nil)) (hj1x () H)

set_option maxRecDepth 100000 in
set_option maxHeartbeats 1000000 in
theorem c_f_textual_check {v0 : Record} {r : Int} (H : f_textual_check v0 = some r) : ACall Tryd.prog 40 [.agg (Record.row v0)] (· = cI r) := by
  refine ACall.enter' Tryd.func40 rfl Tryd.ntmps40 rfl fun S hS => ?_
  unfold f_textual_check at H
  change ARun _ _ _ _ _ _ [(0, .d (.agg (Record.row v0)))] _
  refine .seq ?_
  refine .region ?_
  refine .v (x := .ref 0 0) (v_box rfl rfl) rfl ?_
  refine .withSt (st' := ⟨[.row 39 [.d (cI v0.source), .d (cI v0.serial), .d (cI v0.kind), .d (cS v0.a), .d (cS v0.b), .d (cI v0.start), .d (cI v0.units), .d (cI v0.call), .d (cI v0.part), .d (cB v0.last), .d (cI v0.trunk), .d (cB v0.inbound)]], []⟩) rfl ?_
  refine .q (q_assign rfl) rfl ?_
  refine .nil ?_
  refine .seq ?_
  refine .region ?_
  refine .q (q_fieldRef fo_39_2 rfl) rfl ?_
  refine .q (x := .d (cI v0.kind)) (q_loadO one_3 rfl rfl rfl) rfl ?_
  refine .q (q_eql rfl rfl) rfl ?_
  refine .q (q_move rfl) rfl ?_
  refine .guardG (env' := [(1, _)]) rfl rfl rfl ⟨.inl rfl, trivial⟩ rfl (fun hg => OpQ.g (q_fieldRef fo_39_2 rfl)) ?_
  refine .guardG (b := (!(v0.kind == 3))) (x := .d (cI v0.kind)) (env' := [(9, _)]) rfl rfl rfl ⟨.inr (.inl rfl), trivial⟩ rfl (fun hg => OpQ.g (q_loadO one_3 rfl rfl rfl)) ?_
  refine .guardG (env' := [(10, _)]) rfl rfl rfl ⟨.inr (.inl rfl), trivial⟩ rfl (fun hg => OpQ.g (q_eql rfl rfl)) ?_
  refine .q (q_pickOrB rfl rfl rfl) rfl ?_
  refine .q (q_assign rfl) rfl ?_
  refine .nil ?_
  refine .seq ?_
  refine .region ?_
  refine .q (q_assign rfl) rfl ?_
  refine .nil ?_
  refine .seqJoin (ι := Int) (fun s => [(1, .ref 0 0), (3, .d (cB ((v0.kind == 3) || (v0.kind == 4)))), (4, .d (cI s))]) (fun s => ⟨[.row 39 [.d (cI v0.source), .d (cI v0.serial), .d (cI v0.kind), .d (cS v0.a), .d (cS v0.b), .d (cI v0.start), .d (cI v0.units), .d (cI v0.call), .d (cI v0.part), .d (cB v0.last), .d (cI v0.trunk), .d (cB v0.inbound)]], []⟩) (fun s => f_textual_check_j1 v0 s = some r) ?_ ?_
  · rintro v4j1 H
    replace H : f_textual_check_j1 v0 v4j1 = some r := H
    unfold f_textual_check_j1 at H
    change ARun _ _ _ _ _ _ [(1, .ref 0 0), (3, .d (cB ((v0.kind == 3) || (v0.kind == 4)))), (4, .d (cI v4j1))] ⟨[.row 39 [.d (cI v0.source), .d (cI v0.serial), .d (cI v0.kind), .d (cS v0.a), .d (cS v0.b), .d (cI v0.start), .d (cI v0.units), .d (cI v0.call), .d (cI v0.part), .d (cB v0.last), .d (cI v0.trunk), .d (cB v0.inbound)]], []⟩
    refine .seq ?_
    refine .block ?_
    refine .seq ?_
    refine .region ?_
    refine .q (q_fieldRef fo_39_0 rfl) rfl ?_
    refine .q (x := .d (cI v0.source)) (q_loadO one_3 rfl rfl rfl) rfl ?_
    obtain ⟨y1, hy1, H⟩ := bind_some' H
    refine .g (x := .d (cB y1)) (g_call en_70 rfl rfl (c_f_textual_within (hy1))) rfl ?_
    refine .q (q_not rfl) rfl ?_
    refine .q (q_move rfl) rfl ?_
    refine .guardG (env' := [(1, _)]) rfl rfl rfl ⟨.inl rfl, trivial⟩ rfl (fun hg => OpQ.g (q_fieldRef fo_39_1 rfl)) ?_
    refine .guardG (b := (!(!y1))) (x := .d (cI v0.serial)) (env' := [(22, _)]) rfl rfl rfl ⟨.inr (.inl rfl), trivial⟩ rfl (fun hg => OpQ.g (q_loadO one_3 rfl rfl rfl)) ?_
    obtain ⟨y2, hy2, H⟩ := bind_some' H
    refine .guardG (b := (!(!y1))) (x := .d (cB y2)) (env' := [(23, _)]) rfl rfl rfl ⟨.inr (.inl rfl), trivial⟩ rfl (fun hg => (g_call en_70 rfl rfl (c_f_textual_within (gcall_some hy2 hg)))) ?_
    refine .guardG (env' := [(24, _)]) rfl rfl rfl ⟨.inr (.inl rfl), trivial⟩ rfl (fun hg => OpQ.g (q_not rfl)) ?_
    refine .q (q_pickOrB rfl rfl rfl) rfl ?_
    refine .q (q_assign rfl) rfl ?_
    refine .nil ?_
    refine .cond rfl (fun hc => ?_) (fun hc => ?_)
    · replace H := ifT hc H; clear hc
      refine .seq ?_
      refine .region ?_
      refine .q (q_assign rfl) rfl ?_
      refine .nil ?_
      refine .retN [.tmp 2] [.d (cI 6)] Tryd.func40 Tryd.results40 ⟨rfl, trivial⟩ ?_
      cases H
      exact ⟨_, .rfl' _, rfl⟩
    · replace H := ifF hc H; clear hc
      refine .seq ?_
      refine .region ?_
      refine .q (q_fieldRef fo_39_2 rfl) rfl ?_
      refine .q (x := .d (cI v0.kind)) (q_loadO one_3 rfl rfl rfl) rfl ?_
      obtain ⟨y3, hy3, H⟩ := bind_some' H
      refine .g (x := .d (cB y3)) (g_call en_70 rfl rfl (c_f_textual_within (hy3))) rfl ?_
      refine .q (q_not rfl) rfl ?_
      refine .q (q_assign rfl) rfl ?_
      refine .nil ?_
      refine .cond rfl (fun hc => ?_) (fun hc => ?_)
      · replace H := ifT hc H; clear hc
        refine .seq ?_
        refine .region ?_
        refine .q (q_assign rfl) rfl ?_
        refine .nil ?_
        refine .retN [.tmp 2] [.d (cI 7)] Tryd.func40 Tryd.results40 ⟨rfl, trivial⟩ ?_
        cases H
        exact ⟨_, .rfl' _, rfl⟩
      · replace H := ifF hc H; clear hc
        refine .seq ?_
        refine .region ?_
        refine .q (q_fieldRef fo_39_3 rfl) rfl ?_
        refine .q (x := .d (cS v0.a)) (q_loadO one_9 rfl rfl rfl) rfl ?_
        obtain ⟨y4, hy4, H⟩ := bind_some' H
        refine .g (x := .d (cB y4)) (g_call en_71 rfl rfl (c_f_digits_Valid (hy4))) rfl ?_
        refine .q (q_not rfl) rfl ?_
        refine .q (q_move rfl) rfl ?_
        refine .guardG (env' := [(1, _)]) rfl rfl rfl ⟨.inl rfl, trivial⟩ rfl (fun hg => OpQ.g (q_fieldRef fo_39_4 rfl)) ?_
        refine .guardG (b := (!(!y4))) (x := .d (cS v0.b)) (env' := [(38, _)]) rfl rfl rfl ⟨.inr (.inl rfl), trivial⟩ rfl (fun hg => OpQ.g (q_loadO one_9 rfl rfl rfl)) ?_
        obtain ⟨y5, hy5, H⟩ := bind_some' H
        refine .guardG (b := (!(!y4))) (x := .d (cB y5)) (env' := [(39, _)]) rfl rfl rfl ⟨.inr (.inl rfl), trivial⟩ rfl (fun hg => (g_call en_71 rfl rfl (c_f_digits_Valid (gcall_some hy5 hg)))) ?_
        refine .guardG (env' := [(40, _)]) rfl rfl rfl ⟨.inr (.inl rfl), trivial⟩ rfl (fun hg => OpQ.g (q_not rfl)) ?_
        refine .guardG (env' := [(41, _)]) rfl rfl rfl ⟨.inr (.inl rfl), trivial⟩ rfl (fun hg => OpQ.g (q_move rfl)) ?_
        refine .guardG (env' := [(3, _)]) rfl rfl rfl ⟨.inl rfl, trivial⟩ rfl (fun hg => OpQ.g (q_move rfl)) ?_
        refine .guardG (env' := [(43, _)]) rfl rfl rfl ⟨.inr (.inl rfl), trivial⟩ rfl (fun hg => OpQ.g (q_move rfl)) ?_
        refine .guardG (env' := [(1, _)]) rfl rfl rfl ⟨.inl rfl, trivial⟩ rfl (fun hg => OpQ.g (q_fieldRef fo_39_4 rfl)) ?_
        refine .guardG (b := (((!(!y4)) && (!y5)) && ((v0.kind == 3) || (v0.kind == 4)))) (x := .d (cS v0.b)) (env' := [(45, _)]) rfl rfl rfl ⟨.inr (.inl rfl), trivial⟩ rfl (fun hg => OpQ.g (q_loadO one_9 rfl rfl rfl)) ?_
        refine .guardG (env' := [(46, _)]) rfl rfl rfl ⟨.inr (.inl rfl), trivial⟩ rfl (fun hg => OpQ.g (q_seql rfl rfl)) ?_
        refine .guardG (env' := [(44, _), (47, _)]) rfl rfl rfl ⟨.inr (.inl rfl), ⟨.inr (.inr ⟨_, _, rfl, rfl⟩), trivial⟩⟩ rfl (fun hg => OpQ.g (q_pickAndB rfl rfl rfl)) ?_
        refine .guardG (env' := [(48, _)]) rfl rfl rfl ⟨.inr (.inl rfl), trivial⟩ rfl (fun hg => OpQ.g (q_not rfl)) ?_
        refine .guardG (env' := [(42, _), (49, _)]) rfl rfl rfl ⟨.inr (.inl rfl), ⟨.inr (.inr ⟨_, _, rfl, rfl⟩), trivial⟩⟩ rfl (fun hg => OpQ.g (q_pickAndB rfl rfl rfl)) ?_
        refine .q (q_pickOrB rfl rfl rfl) rfl ?_
        refine .q (q_assign rfl) rfl ?_
        refine .nil ?_
        refine .cond rfl (fun hc => ?_) (fun hc => ?_)
        · replace H := ifT hc H; clear hc
          refine .seq ?_
          refine .region ?_
          refine .q (q_assign rfl) rfl ?_
          refine .nil ?_
          refine .retN [.tmp 2] [.d (cI 12)] Tryd.func40 Tryd.results40 ⟨rfl, trivial⟩ ?_
          cases H
          exact ⟨_, .rfl' _, rfl⟩
        · replace H := ifF hc H; clear hc
          refine .seq ?_
          refine .region ?_
          refine .q (q_fieldRef fo_39_5 rfl) rfl ?_
          refine .q (x := .d (cI v0.start)) (q_loadO one_3 rfl rfl rfl) rfl ?_
          obtain ⟨y6, hy6, H⟩ := bind_some' H
          refine .g (x := .d (cB y6)) (g_call en_70 rfl rfl (c_f_textual_within (hy6))) rfl ?_
          refine .q (q_not rfl) rfl ?_
          refine .q (q_assign rfl) rfl ?_
          refine .nil ?_
          refine .cond rfl (fun hc => ?_) (fun hc => ?_)
          · replace H := ifT hc H; clear hc
            refine .seq ?_
            refine .region ?_
            refine .q (q_assign rfl) rfl ?_
            refine .nil ?_
            refine .retN [.tmp 2] [.d (cI 15)] Tryd.func40 Tryd.results40 ⟨rfl, trivial⟩ ?_
            cases H
            exact ⟨_, .rfl' _, rfl⟩
          · replace H := ifF hc H; clear hc
            refine .seq ?_
            refine .region ?_
            refine .q (q_fieldRef fo_39_6 rfl) rfl ?_
            refine .q (x := .d (cI v0.units)) (q_loadO one_3 rfl rfl rfl) rfl ?_
            refine .q (q_move rfl) rfl ?_
            obtain ⟨y7, hy7, H⟩ := bind_some' H
            refine .g (x := .d (cB y7)) (g_call en_70 rfl rfl (c_f_textual_within (hy7))) rfl ?_
            refine .q (q_not rfl) rfl ?_
            refine .q (q_assign rfl) rfl ?_
            refine .nil ?_
            refine .cond rfl (fun hc => ?_) (fun hc => ?_)
            · replace H := ifT hc H; clear hc
              refine .seq ?_
              refine .region ?_
              refine .q (q_assign rfl) rfl ?_
              refine .nil ?_
              refine .retN [.tmp 2] [.d (cI 6)] Tryd.func40 Tryd.results40 ⟨rfl, trivial⟩ ?_
              cases H
              exact ⟨_, .rfl' _, rfl⟩
            · replace H := ifF hc H; clear hc
              refine .seq ?_
              refine .region ?_
              refine .q (q_fieldRef fo_39_2 rfl) rfl ?_
              refine .q (x := .d (cI v0.kind)) (q_loadO one_3 rfl rfl rfl) rfl ?_
              refine .q (q_eql rfl rfl) rfl ?_
              refine .q (q_move rfl) rfl ?_
              refine .guardG (env' := [(1, _)]) rfl rfl rfl ⟨.inl rfl, trivial⟩ rfl (fun hg => OpQ.g (q_fieldRef fo_39_5 rfl)) ?_
              refine .guardG (b := (v0.kind == 1)) (x := .d (cI v0.start)) (env' := [(68, _)]) rfl rfl rfl ⟨.inr (.inl rfl), trivial⟩ rfl (fun hg => OpQ.g (q_loadO one_3 rfl rfl rfl)) ?_
              refine .guardG (env' := [(1, _)]) rfl rfl rfl ⟨.inl rfl, trivial⟩ rfl (fun hg => OpQ.g (q_fieldRef fo_39_6 rfl)) ?_
              refine .guardG (b := (v0.kind == 1)) (x := .d (cI v0.units)) (env' := [(70, _)]) rfl rfl rfl ⟨.inr (.inl rfl), trivial⟩ rfl (fun hg => OpQ.g (q_loadO one_3 rfl rfl rfl)) ?_
              obtain ⟨hk1, H⟩ := ck_some H
              refine .guardG (env' := [(69, _), (71, _)]) rfl rfl rfl ⟨.inr (.inl rfl), ⟨.inr (.inl rfl), trivial⟩⟩ rfl (fun hg => OpQ.g (q_addI rfl rfl (hk1 hg).1 (hk1 hg).2)) ?_
              refine .guardG (env' := [(72, _)]) rfl rfl rfl ⟨.inr (.inl rfl), trivial⟩ rfl (fun hg => OpQ.g (q_gtr rfl rfl)) ?_
              refine .q (q_pickAndB rfl rfl rfl) rfl ?_
              refine .q (q_assign rfl) rfl ?_
              refine .nil ?_
              refine .cond rfl (fun hc => ?_) (fun hc => ?_)
              · replace H := ifT hc H; clear hc
                refine .seq ?_
                refine .region ?_
                refine .q (q_assign rfl) rfl ?_
                refine .nil ?_
                refine .retN [.tmp 2] [.d (cI 15)] Tryd.func40 Tryd.results40 ⟨rfl, trivial⟩ ?_
                cases H
                exact ⟨_, .rfl' _, rfl⟩
              · replace H := ifF hc H; clear hc
                refine .seq ?_
                refine .region ?_
                refine .q (q_fieldRef fo_39_7 rfl) rfl ?_
                refine .q (x := .d (cI v0.call)) (q_loadO one_3 rfl rfl rfl) rfl ?_
                obtain ⟨y8, hy8, H⟩ := bind_some' H
                refine .g (x := .d (cB y8)) (g_call en_70 rfl rfl (c_f_textual_within (hy8))) rfl ?_
                refine .q (q_not rfl) rfl ?_
                refine .q (q_move rfl) rfl ?_
                refine .guardG (env' := [(1, _)]) rfl rfl rfl ⟨.inl rfl, trivial⟩ rfl (fun hg => OpQ.g (q_fieldRef fo_39_8 rfl)) ?_
                refine .guardG (b := (!(!y8))) (x := .d (cI v0.part)) (env' := [(81, _)]) rfl rfl rfl ⟨.inr (.inl rfl), trivial⟩ rfl (fun hg => OpQ.g (q_loadO one_3 rfl rfl rfl)) ?_
                obtain ⟨y9, hy9, H⟩ := bind_some' H
                refine .guardG (b := (!(!y8))) (x := .d (cB y9)) (env' := [(82, _)]) rfl rfl rfl ⟨.inr (.inl rfl), trivial⟩ rfl (fun hg => (g_call en_70 rfl rfl (c_f_textual_within (gcall_some hy9 hg)))) ?_
                refine .guardG (env' := [(83, _)]) rfl rfl rfl ⟨.inr (.inl rfl), trivial⟩ rfl (fun hg => OpQ.g (q_not rfl)) ?_
                refine .q (q_pickOrB rfl rfl rfl) rfl ?_
                refine .q (q_assign rfl) rfl ?_
                refine .nil ?_
                refine .cond rfl (fun hc => ?_) (fun hc => ?_)
                · replace H := ifT hc H; clear hc
                  refine .seq ?_
                  refine .region ?_
                  refine .q (q_assign rfl) rfl ?_
                  refine .nil ?_
                  refine .retN [.tmp 2] [.d (cI 6)] Tryd.func40 Tryd.results40 ⟨rfl, trivial⟩ ?_
                  cases H
                  exact ⟨_, .rfl' _, rfl⟩
                · replace H := ifF hc H; clear hc
                  refine .seq ?_
                  refine .region ?_
                  refine .q (q_fieldRef fo_39_8 rfl) rfl ?_
                  refine .q (x := .d (cI v0.part)) (q_loadO one_3 rfl rfl rfl) rfl ?_
                  refine .q (q_eql rfl rfl) rfl ?_
                  refine .q (q_fieldRef fo_39_7 rfl) rfl ?_
                  refine .q (x := .d (cI v0.call)) (q_loadO one_3 rfl rfl rfl) rfl ?_
                  refine .q (q_eql rfl rfl) rfl ?_
                  refine .q (x := .d (cB ((v0.part == 0) != (v0.call == 0)))) (q_bneq rfl Tryd.underlying4 rfl) rfl ?_
                  refine .q (q_move rfl) rfl ?_
                  refine .guardG (env' := [(1, _)]) rfl rfl rfl ⟨.inl rfl, trivial⟩ rfl (fun hg => OpQ.g (q_fieldRef fo_39_9 rfl)) ?_
                  refine .guardG (b := (!((v0.part == 0) != (v0.call == 0)))) (x := .d (cB v0.last)) (env' := [(95, _)]) rfl rfl rfl ⟨.inr (.inl rfl), trivial⟩ rfl (fun hg => OpQ.g (q_loadO one_4 rfl rfl rfl)) ?_
                  refine .guardG (env' := [(96, _)]) rfl rfl rfl ⟨.inr (.inl rfl), trivial⟩ rfl (fun hg => OpQ.g (q_move rfl)) ?_
                  refine .guardG (env' := [(1, _)]) rfl rfl rfl ⟨.inl rfl, trivial⟩ rfl (fun hg => OpQ.g (q_fieldRef fo_39_8 rfl)) ?_
                  refine .guardG (b := ((!((v0.part == 0) != (v0.call == 0))) && v0.last)) (x := .d (cI v0.part)) (env' := [(98, _)]) rfl rfl rfl ⟨.inr (.inl rfl), trivial⟩ rfl (fun hg => OpQ.g (q_loadO one_3 rfl rfl rfl)) ?_
                  refine .guardG (env' := [(99, _)]) rfl rfl rfl ⟨.inr (.inl rfl), trivial⟩ rfl (fun hg => OpQ.g (q_eql rfl rfl)) ?_
                  refine .guardG (env' := [(97, _), (100, _)]) rfl rfl rfl ⟨.inr (.inl rfl), ⟨.inr (.inr ⟨_, _, rfl, rfl⟩), trivial⟩⟩ rfl (fun hg => OpQ.g (q_pickAndB rfl rfl rfl)) ?_
                  refine .q (q_pickOrB rfl rfl rfl) rfl ?_
                  refine .q (q_assign rfl) rfl ?_
                  refine .nil ?_
                  refine .cond rfl (fun hc => ?_) (fun hc => ?_)
                  · replace H := ifT hc H; clear hc
                    refine .seq ?_
                    refine .region ?_
                    refine .q (q_assign rfl) rfl ?_
                    refine .nil ?_
                    refine .retN [.tmp 2] [.d (cI 8)] Tryd.func40 Tryd.results40 ⟨rfl, trivial⟩ ?_
                    cases H
                    exact ⟨_, .rfl' _, rfl⟩
                  · replace H := ifF hc H; clear hc
                    refine .seq ?_
                    refine .region ?_
                    refine .q (q_fieldRef fo_39_10 rfl) rfl ?_
                    refine .q (x := .d (cI v0.trunk)) (q_loadO one_3 rfl rfl rfl) rfl ?_
                    obtain ⟨y10, hy10, H⟩ := bind_some' H
                    refine .g (x := .d (cB y10)) (g_call en_70 rfl rfl (c_f_textual_within (hy10))) rfl ?_
                    refine .q (q_not rfl) rfl ?_
                    refine .q (q_assign rfl) rfl ?_
                    refine .nil ?_
                    refine .cond rfl (fun hc => ?_) (fun hc => ?_)
                    · replace H := ifT hc H; clear hc
                      refine .seq ?_
                      refine .region ?_
                      refine .q (q_assign rfl) rfl ?_
                      refine .nil ?_
                      refine .retN [.tmp 2] [.d (cI 6)] Tryd.func40 Tryd.results40 ⟨rfl, trivial⟩ ?_
                      cases H
                      exact ⟨_, .rfl' _, rfl⟩
                    · replace H := ifF hc H; clear hc
                      refine .seq ?_
                      refine .region ?_
                      refine .q (q_fieldRef fo_39_11 rfl) rfl ?_
                      refine .q (x := .d (cB v0.inbound)) (q_loadO one_4 rfl rfl rfl) rfl ?_
                      refine .q (q_move rfl) rfl ?_
                      refine .guardG (env' := [(1, _)]) rfl rfl rfl ⟨.inl rfl, trivial⟩ rfl (fun hg => OpQ.g (q_fieldRef fo_39_10 rfl)) ?_
                      refine .guardG (b := v0.inbound) (x := .d (cI v0.trunk)) (env' := [(112, _)]) rfl rfl rfl ⟨.inr (.inl rfl), trivial⟩ rfl (fun hg => OpQ.g (q_loadO one_3 rfl rfl rfl)) ?_
                      refine .guardG (env' := [(113, _)]) rfl rfl rfl ⟨.inr (.inl rfl), trivial⟩ rfl (fun hg => OpQ.g (q_eql rfl rfl)) ?_
                      refine .q (q_pickAndB rfl rfl rfl) rfl ?_
                      refine .q (q_assign rfl) rfl ?_
                      refine .nil ?_
                      refine .cond rfl (fun hc => ?_) (fun hc => ?_)
                      · replace H := ifT hc H; clear hc
                        refine .seq ?_
                        refine .region ?_
                        refine .q (q_assign rfl) rfl ?_
                        refine .nil ?_
                        refine .retN [.tmp 2] [.d (cI 8)] Tryd.func40 Tryd.results40 ⟨rfl, trivial⟩ ?_
                        cases H
                        exact ⟨_, .rfl' _, rfl⟩
                      · replace H := ifF hc H; clear hc
                        refine .skip ?_
                        refine .inBlock ?_
                        refine .seq ?_
                        refine .region ?_
                        refine .q (q_assign rfl) rfl ?_
                        refine .nil ?_
                        refine .retN [.tmp 2] [.d (cI 0)] Tryd.func40 Tryd.results40 ⟨rfl, trivial⟩ ?_
                        cases H
                        exact ⟨_, .rfl' _, rfl⟩
  · intro hj1
    refine .seq ?_
    refine .region ?_
    refine .q (q_fieldRef fo_39_2 rfl) rfl ?_
    refine .q (x := .d (cI v0.kind)) (q_loadO one_3 rfl rfl rfl) rfl ?_
    refine .q (q_eql rfl rfl) rfl ?_
    refine .nil ?_
    refine .cond rfl (fun hc => ?_) (fun hc => ?_)
    · replace H := ifT hc H; clear hc
      refine .region ?_
      refine .q (q_assign rfl) rfl ?_
      refine .nil ?_
      exact .sub (.cons rfl (.rfl' _) (.cons rfl (.rfl' _) (.cons rfl (.rfl' _) (.nil)))) (hj1 604800 H)
    · replace H := ifF hc H; clear hc
      refine .skip ?_
      exact .sub (.cons rfl (.rfl' _) (.cons rfl (.rfl' _) (.cons rfl (.rfl' _) (.nil)))) (hj1 1099511627776 H)

set_option maxRecDepth 100000 in
set_option maxHeartbeats 1000000 in
theorem c_f_textual_Encode {v0 : Record} {r : (List UInt8) × Int} (H : f_textual_Encode v0 = some r) : ACall Tryd.prog 24 [.agg (Record.row v0)] (· = .tup [cS r.1, cI r.2]) := by
  obtain ⟨i9, hi9, hz9, hs9, hb9⟩ := in_9
  refine ACall.enter' Tryd.func24 rfl Tryd.ntmps24 rfl fun S hS => ?_
  unfold f_textual_Encode at H
  change ARun _ _ _ _ _ _ [(0, .d (.agg (Record.row v0)))] _
  refine .seq ?_
  refine .region ?_
  refine .v (x := .ref 0 0) (v_box rfl rfl) rfl ?_
  refine .withSt (st' := ⟨[.row 39 [.d (cI v0.source), .d (cI v0.serial), .d (cI v0.kind), .d (cS v0.a), .d (cS v0.b), .d (cI v0.start), .d (cI v0.units), .d (cI v0.call), .d (cI v0.part), .d (cB v0.last), .d (cI v0.trunk), .d (cB v0.inbound)]], []⟩) rfl ?_
  refine .q (q_assign rfl) rfl ?_
  refine .q (q_assign rfl) rfl ?_
  refine .nil ?_
  refine .seq ?_
  refine .seq ?_
  refine .region ?_
  refine .q (x := .d (.agg (Record.row v0))) (q_loadOA one_39 sz_39 rfl rfl (Nat.le_of_ble_eq_true rfl) rfl) rfl ?_
  obtain ⟨y1, hy1, H⟩ := bind_some' H
  refine .g (x := .d (cI y1)) (g_call en_40 rfl rfl (c_f_textual_check (hy1))) rfl ?_
  refine .q (q_assign rfl) rfl ?_
  refine .nil ?_
  refine .seq ?_
  refine .region ?_
  refine .q (q_move rfl) rfl ?_
  refine .q (q_neq rfl rfl) rfl ?_
  refine .nil ?_
  refine .cond rfl (fun hc => ?_) (fun hc => ?_)
  · replace H := ifT hc H; clear hc
    refine .seq ?_
    refine .region ?_
    refine .q (q_move rfl) rfl ?_
    refine .q (q_assign rfl) rfl ?_
    refine .q (q_assign rfl) rfl ?_
    refine .nil ?_
    refine .retN [.tmp 2, .tmp 3] [.d (cS ([] : List UInt8)), .d (cI y1)] Tryd.func24 Tryd.results24 ⟨rfl, rfl, trivial⟩ ?_
    cases H
    exact ⟨_, EVle.tupL (ds := [cS ([] : List UInt8), cI y1]) ⟨.rfl' _, .rfl' _, trivial⟩, rfl⟩
  · replace H := ifF hc H; clear hc
    refine .skip ?_
    refine .seq ?_
    refine .region ?_
    refine .q (q_assign rfl) rfl ?_
    refine .nil ?_
    refine .seq ?_
    refine .region ?_
    refine .q (q_fieldRef fo_39_4 rfl) rfl ?_
    refine .q (x := .d (cS v0.b)) (q_loadO one_9 rfl rfl rfl) rfl ?_
    refine .q (q_assign rfl) rfl ?_
    refine .nil ?_
    refine .seqJoin (ι := List UInt8) (fun s => [(1, .ref 0 0), (5, .d (.ex (.func (.func 41) #[] #[]))), (6, .d (cS s))]) (fun s => ⟨[.row 39 [.d (cI v0.source), .d (cI v0.serial), .d (cI v0.kind), .d (cS v0.a), .d (cS v0.b), .d (cI v0.start), .d (cI v0.units), .d (cI v0.call), .d (cI v0.part), .d (cB v0.last), .d (cI v0.trunk), .d (cB v0.inbound)]], []⟩) (fun s => f_textual_Encode_j1 v0 s = some r) ?_ ?_
    · rintro v6j1 H
      replace H : f_textual_Encode_j1 v0 v6j1 = some r := H
      unfold f_textual_Encode_j1 at H
      change ARun _ _ _ _ _ _ [(1, .ref 0 0), (5, .d (.ex (.func (.func 41) #[] #[]))), (6, .d (cS v6j1))] ⟨[.row 39 [.d (cI v0.source), .d (cI v0.serial), .d (cI v0.kind), .d (cS v0.a), .d (cS v0.b), .d (cI v0.start), .d (cI v0.units), .d (cI v0.call), .d (cI v0.part), .d (cB v0.last), .d (cI v0.trunk), .d (cB v0.inbound)]], []⟩
      refine .seq ?_
      refine .drawn 25 hMix (by kernel_rfl) ?_
      show DOps _ _ _ _ _ _ _ (_ :: _) _ _ _
      refine .q (q_fieldRef fo_39_2 rfl) rfl ?_
      refine .q (x := .d (cI v0.kind)) (q_loadO one_3 rfl rfl rfl) rfl ?_
      obtain ⟨hk1, H⟩ := ck_some H
      refine .q (q_subI rfl rfl hk1.1 hk1.2) rfl ?_
      refine .q (q_fieldRef fo_39_2 rfl) rfl ?_
      refine .q (x := .d (cI v0.kind)) (q_loadO one_3 rfl rfl rfl) rfl ?_
      obtain ⟨hk2, H⟩ := ck_some H
      refine .q (x := .d (cS ((([118, 116, 100, 99] : List UInt8).take (Int.toNat (v0.kind))).drop (Int.toNat (v0.kind - 1))))) (q_strLHL Tryd.underlying9 rfl rfl rfl hk2) rfl ?_
      refine .q (q_move rfl) rfl ?_
      refine .q (q_fieldRef fo_39_0 rfl) rfl ?_
      refine .q (x := .d (cI v0.source)) (q_loadO one_3 rfl rfl rfl) rfl ?_
      obtain ⟨y2, hy2, H⟩ := bind_some' H
      refine .g (x := .d (cS y2)) (g_callF en_41 rfl rfl rfl (c_x_Itoa (hy2))) rfl ?_
      refine .q (q_move rfl) rfl ?_
      refine .q (q_fieldRef fo_39_1 rfl) rfl ?_
      refine .q (x := .d (cI v0.serial)) (q_loadO one_3 rfl rfl rfl) rfl ?_
      obtain ⟨y3, hy3, H⟩ := bind_some' H
      refine .g (x := .d (cS y3)) (g_callF en_41 rfl rfl rfl (c_x_Itoa (hy3))) rfl ?_
      refine .q (q_fieldRef fo_39_3 rfl) rfl ?_
      refine .q (x := .d (cS v0.a)) (q_loadO one_9 rfl rfl rfl) rfl ?_
      refine .q (q_move rfl) rfl ?_
      refine .q (q_move rfl) rfl ?_
      refine .q (q_fieldRef fo_39_5 rfl) rfl ?_
      refine .q (x := .d (cI v0.start)) (q_loadO one_3 rfl rfl rfl) rfl ?_
      obtain ⟨y4, hy4, H⟩ := bind_some' H
      refine .g (x := .d (cS y4)) (g_callF en_41 rfl rfl rfl (c_x_Itoa (hy4))) rfl ?_
      refine .q (q_move rfl) rfl ?_
      refine .q (q_fieldRef fo_39_6 rfl) rfl ?_
      refine .q (x := .d (cI v0.units)) (q_loadO one_3 rfl rfl rfl) rfl ?_
      obtain ⟨y5, hy5, H⟩ := bind_some' H
      refine .g (x := .d (cS y5)) (g_callF en_41 rfl rfl rfl (c_x_Itoa (hy5))) rfl ?_
      refine .nil ?_
      show AOps _ _ _ _ _ _ (_ :: _) _ _ _
      refine .v (x := .tsl 1 (([(([118, 116, 100, 99] : List UInt8).take (Int.toNat (v0.kind))).drop (Int.toNat (v0.kind - 1)), y2, y3, v0.a, v6j1, y4, y5] : List (List UInt8)).map rS) 0) (v_buildSliceT (n := 7) Tryd.underlying69 hi9 hs9 hz9 rfl rfl rfl rfl rfl) rfl ?_
      refine .withSt (st' := ⟨[.row 39 [.d (cI v0.source), .d (cI v0.serial), .d (cI v0.kind), .d (cS v0.a), .d (cS v0.b), .d (cI v0.start), .d (cI v0.units), .d (cI v0.call), .d (cI v0.part), .d (cB v0.last), .d (cI v0.trunk), .d (cB v0.inbound)]], [⟨9, 1, ([(([118, 116, 100, 99] : List UInt8).take (Int.toNat (v0.kind))).drop (Int.toNat (v0.kind - 1)), y2, y3, v0.a, v6j1, y4, y5] : List (List UInt8)).length, none⟩]⟩) rfl ?_
      refine .q (q_assign rfl) rfl ?_
      refine .nil ?_
      refine .seqJoin (ι := List (List UInt8)) (fun s => [(1, .ref 0 0), (5, .d (.ex (.func (.func 41) #[] #[]))), (7, .tsl 1 (s.map rS) 0)]) (fun s => ⟨[.row 39 [.d (cI v0.source), .d (cI v0.serial), .d (cI v0.kind), .d (cS v0.a), .d (cS v0.b), .d (cI v0.start), .d (cI v0.units), .d (cI v0.call), .d (cI v0.part), .d (cB v0.last), .d (cI v0.trunk), .d (cB v0.inbound)]], [⟨9, 1, s.length, none⟩]⟩) (fun s => f_textual_Encode_j2 v0 s = some r) ?_ ?_
      · rintro v7j2 H
        replace H : f_textual_Encode_j2 v0 v7j2 = some r := H
        unfold f_textual_Encode_j2 at H
        change ARun _ _ _ _ _ _ [(1, .ref 0 0), (5, .d (.ex (.func (.func 41) #[] #[]))), (7, .tsl 1 (v7j2.map rS) 0)] ⟨[.row 39 [.d (cI v0.source), .d (cI v0.serial), .d (cI v0.kind), .d (cS v0.a), .d (cS v0.b), .d (cI v0.start), .d (cI v0.units), .d (cI v0.call), .d (cI v0.part), .d (cB v0.last), .d (cI v0.trunk), .d (cB v0.inbound)]], [⟨9, 1, v7j2.length, none⟩]⟩
        refine .seqJoin (ι := List (List UInt8)) (fun s => [(7, .tsl 1 (s.map rS) 0)]) (fun s => ⟨[.row 39 [.d (cI v0.source), .d (cI v0.serial), .d (cI v0.kind), .d (cS v0.a), .d (cS v0.b), .d (cI v0.start), .d (cI v0.units), .d (cI v0.call), .d (cI v0.part), .d (cB v0.last), .d (cI v0.trunk), .d (cB v0.inbound)]], [⟨9, 1, s.length, none⟩]⟩) (fun s => f_textual_Encode_j3 s = some r) ?_ ?_
        · rintro v7j3 H
          replace H : f_textual_Encode_j3 v7j3 = some r := H
          unfold f_textual_Encode_j3 at H
          change ARun _ _ _ _ _ _ [(7, .tsl 1 (v7j3.map rS) 0)] ⟨[.row 39 [.d (cI v0.source), .d (cI v0.serial), .d (cI v0.kind), .d (cS v0.a), .d (cS v0.b), .d (cI v0.start), .d (cI v0.units), .d (cI v0.call), .d (cI v0.part), .d (cB v0.last), .d (cI v0.trunk), .d (cB v0.inbound)]], [⟨9, 1, v7j3.length, none⟩]⟩
          refine .seq ?_
          refine .region ?_
          refine .q (q_move rfl) rfl ?_
          obtain ⟨y6, hy6, H⟩ := bind_some' H
          refine .g (x := .d (cS y6)) (g_call en_42 rfl rfl (c_x_Join (hy6))) rfl ?_
          refine .q (q_assign rfl) rfl ?_
          refine .q (q_assign rfl) rfl ?_
          refine .nil ?_
          refine .retN [.tmp 2, .tmp 3] [.d (cS y6), .d (cI 0)] Tryd.func24 Tryd.results24 ⟨rfl, rfl, trivial⟩ ?_
          cases H
          exact ⟨_, EVle.tupL (ds := [cS y6, cI 0]) ⟨.rfl' _, .rfl' _, trivial⟩, rfl⟩
        · intro hj3
          refine .seq ?_
          refine .region ?_
          refine .q (q_fieldRef fo_39_10 rfl) rfl ?_
          refine .q (x := .d (cI v0.trunk)) (q_loadO one_3 rfl rfl rfl) rfl ?_
          refine .q (q_neq rfl rfl) rfl ?_
          refine .nil ?_
          refine .cond rfl (fun hc => ?_) (fun hc => ?_)
          · replace H := ifT hc H; clear hc
            refine .seq ?_
            refine .region ?_
            refine .q (q_assign rfl) rfl ?_
            refine .nil ?_
            refine .seqJoin (ι := List UInt8) (fun s => [(1, .ref 0 0), (5, .d (.ex (.func (.func 41) #[] #[]))), (7, .tsl 1 (v7j2.map rS) 0), (8, .d (cS s))]) (fun s => ⟨[.row 39 [.d (cI v0.source), .d (cI v0.serial), .d (cI v0.kind), .d (cS v0.a), .d (cS v0.b), .d (cI v0.start), .d (cI v0.units), .d (cI v0.call), .d (cI v0.part), .d (cB v0.last), .d (cI v0.trunk), .d (cB v0.inbound)]], [⟨9, 1, v7j2.length, none⟩]⟩) (fun s => f_textual_Encode_j4 v0 v7j2 s = some r) ?_ ?_
            · rintro v8j4 H
              replace H : f_textual_Encode_j4 v0 v7j2 v8j4 = some r := H
              unfold f_textual_Encode_j4 at H
              change ARun _ _ _ _ _ _ [(1, .ref 0 0), (5, .d (.ex (.func (.func 41) #[] #[]))), (7, .tsl 1 (v7j2.map rS) 0), (8, .d (cS v8j4))] ⟨[.row 39 [.d (cI v0.source), .d (cI v0.serial), .d (cI v0.kind), .d (cS v0.a), .d (cS v0.b), .d (cI v0.start), .d (cI v0.units), .d (cI v0.call), .d (cI v0.part), .d (cB v0.last), .d (cI v0.trunk), .d (cB v0.inbound)]], [⟨9, 1, v7j2.length, none⟩]⟩
              refine .region ?_
              refine .q (q_move rfl) rfl ?_
              refine .q (q_move rfl) rfl ?_
              refine .q (q_move rfl) rfl ?_
              refine .q (q_fieldRef fo_39_10 rfl) rfl ?_
              refine .q (x := .d (cI v0.trunk)) (q_loadO one_3 rfl rfl rfl) rfl ?_
              obtain ⟨y7, hy7, H⟩ := bind_some' H
              refine .g (x := .d (cS y7)) (g_callF en_41 rfl rfl rfl (c_x_Itoa (hy7))) rfl ?_
              refine .g (x := .d (slOf 1 rS ([v8j4, y7] : List (List UInt8)))) (g_buildSliceN (n := 2) (rows := ([v8j4, y7] : List (List UInt8)).map rS) Tryd.underlying69 hi9 hs9 hz9 rfl rfl rfl rfl rfl) rfl ?_
              obtain ⟨hk3, H⟩ := ck_some H
              refine .v (x := .tsl 1 ((v7j2 ++ ([v8j4, y7] : List (List UInt8))).map rS) 0) (v_appendL (l := v7j2) (l' := ([v8j4, y7] : List (List UInt8))) (row := rS) Tryd.underlying69 hi9 hz9 hs9 rfl (by rw [hb9]; decide) rfl rfl rfl rfl hk3) rfl ?_
              refine .withSt (st' := ⟨[.row 39 [.d (cI v0.source), .d (cI v0.serial), .d (cI v0.kind), .d (cS v0.a), .d (cS v0.b), .d (cI v0.start), .d (cI v0.units), .d (cI v0.call), .d (cI v0.part), .d (cB v0.last), .d (cI v0.trunk), .d (cB v0.inbound)]], [⟨9, 1, (v7j2 ++ ([v8j4, y7] : List (List UInt8))).length, none⟩]⟩) rfl ?_
              refine .q (q_assign rfl) rfl ?_
              refine .nil ?_
              exact .withSt (st' := ⟨[.row 39 [.d (cI v0.source), .d (cI v0.serial), .d (cI v0.kind), .d (cS v0.a), .d (cS v0.b), .d (cI v0.start), .d (cI v0.units), .d (cI v0.call), .d (cI v0.part), .d (cB v0.last), .d (cI v0.trunk), .d (cB v0.inbound)]], [⟨9, 1, (v7j2 ++ ([v8j4, y7] : List (List UInt8))).length, none⟩]⟩) rfl <| .sub (.cons rfl (.rfl' _) (.nil)) (hj3 (v7j2 ++ ([v8j4, y7] : List (List UInt8))) H)
            · intro hj4
              refine .seq ?_
              refine .region ?_
              refine .q (q_fieldRef fo_39_11 rfl) rfl ?_
              refine .q (x := .d (cB v0.inbound)) (q_loadO one_4 rfl rfl rfl) rfl ?_
              refine .nil ?_
              refine .cond rfl (fun hc => ?_) (fun hc => ?_)
              · replace H := ifT hc H; clear hc
                refine .region ?_
                refine .q (q_assign rfl) rfl ?_
                refine .nil ?_
                exact .sub (.cons rfl (.rfl' _) (.cons rfl (.rfl' _) (.cons rfl (.rfl' _) (.cons rfl (.rfl' _) (.nil))))) (hj4 ([105, 110] : List UInt8) H)
              · replace H := ifF hc H; clear hc
                refine .skip ?_
                exact .sub (.cons rfl (.rfl' _) (.cons rfl (.rfl' _) (.cons rfl (.rfl' _) (.cons rfl (.rfl' _) (.nil))))) (hj4 ([111, 117, 116] : List UInt8) H)
          · replace H := ifF hc H; clear hc
            refine .skip ?_
            exact .withSt (st' := ⟨[.row 39 [.d (cI v0.source), .d (cI v0.serial), .d (cI v0.kind), .d (cS v0.a), .d (cS v0.b), .d (cI v0.start), .d (cI v0.units), .d (cI v0.call), .d (cI v0.part), .d (cB v0.last), .d (cI v0.trunk), .d (cB v0.inbound)]], [⟨9, 1, v7j2.length, none⟩]⟩) rfl <| .sub (.cons rfl (.rfl' _) (.nil)) (hj3 v7j2 H)
      · intro hj2
        refine .seq ?_
        refine .region ?_
        refine .q (q_fieldRef fo_39_8 rfl) rfl ?_
        refine .q (x := .d (cI v0.part)) (q_loadO one_3 rfl rfl rfl) rfl ?_
        refine .q (q_neq rfl rfl) rfl ?_
        refine .nil ?_
        refine .cond rfl (fun hc => ?_) (fun hc => ?_)
        · replace H := ifT hc H; clear hc
          refine .seq ?_
          refine .drawn 10 hMix (by kernel_rfl) ?_
          show DOps _ _ _ _ _ _ _ (_ :: _) _ _ _
          refine .q (q_move rfl) rfl ?_
          refine .q (q_move rfl) rfl ?_
          refine .q (q_fieldRef fo_39_7 rfl) rfl ?_
          refine .q (x := .d (cI v0.call)) (q_loadO one_3 rfl rfl rfl) rfl ?_
          obtain ⟨y8, hy8, H⟩ := bind_some' H
          refine .g (x := .d (cS y8)) (g_callF en_41 rfl rfl rfl (c_x_Itoa (hy8))) rfl ?_
          refine .q (q_move rfl) rfl ?_
          refine .q (q_fieldRef fo_39_8 rfl) rfl ?_
          refine .q (x := .d (cI v0.part)) (q_loadO one_3 rfl rfl rfl) rfl ?_
          obtain ⟨y9, hy9, H⟩ := bind_some' H
          refine .g (x := .d (cS y9)) (g_callF en_41 rfl rfl rfl (c_x_Itoa (hy9))) rfl ?_
          refine .g (x := .d (slOf 1 rS ([([112, 97, 114, 116] : List UInt8), y8, y9] : List (List UInt8)))) (g_buildSliceN (n := 3) (rows := ([([112, 97, 114, 116] : List UInt8), y8, y9] : List (List UInt8)).map rS) Tryd.underlying69 hi9 hs9 hz9 rfl rfl rfl rfl rfl) rfl ?_
          refine .nil ?_
          show AOps _ _ _ _ _ _ (_ :: _) _ _ _
          obtain ⟨hk4, H⟩ := ck_some H
          refine .v (x := .tsl 1 ((([(([118, 116, 100, 99] : List UInt8).take (Int.toNat (v0.kind))).drop (Int.toNat (v0.kind - 1)), y2, y3, v0.a, v6j1, y4, y5] : List (List UInt8)) ++ ([([112, 97, 114, 116] : List UInt8), y8, y9] : List (List UInt8))).map rS) 0) (v_appendL (l := ([(([118, 116, 100, 99] : List UInt8).take (Int.toNat (v0.kind))).drop (Int.toNat (v0.kind - 1)), y2, y3, v0.a, v6j1, y4, y5] : List (List UInt8))) (l' := ([([112, 97, 114, 116] : List UInt8), y8, y9] : List (List UInt8))) (row := rS) Tryd.underlying69 hi9 hz9 hs9 rfl (by rw [hb9]; decide) rfl rfl rfl rfl hk4) rfl ?_
          refine .withSt (st' := ⟨[.row 39 [.d (cI v0.source), .d (cI v0.serial), .d (cI v0.kind), .d (cS v0.a), .d (cS v0.b), .d (cI v0.start), .d (cI v0.units), .d (cI v0.call), .d (cI v0.part), .d (cB v0.last), .d (cI v0.trunk), .d (cB v0.inbound)]], [⟨9, 1, (([(([118, 116, 100, 99] : List UInt8).take (Int.toNat (v0.kind))).drop (Int.toNat (v0.kind - 1)), y2, y3, v0.a, v6j1, y4, y5] : List (List UInt8)) ++ ([([112, 97, 114, 116] : List UInt8), y8, y9] : List (List UInt8))).length, none⟩]⟩) rfl ?_
          refine .q (q_assign rfl) rfl ?_
          refine .nil ?_
          refine .seq ?_
          refine .region ?_
          refine .q (q_fieldRef fo_39_9 rfl) rfl ?_
          refine .q (x := .d (cB v0.last)) (q_loadO one_4 rfl rfl rfl) rfl ?_
          refine .nil ?_
          refine .cond rfl (fun hc => ?_) (fun hc => ?_)
          · replace H := ifT hc H; clear hc
            refine .region ?_
            refine .q (q_move rfl) rfl ?_
            refine .g (x := .d (slOf 1 rS ([([108, 97, 115, 116] : List UInt8)] : List (List UInt8)))) (g_buildSlice1 Tryd.underlying69 hi9 hs9 hz9 rfl rfl rfl rfl rfl) rfl ?_
            obtain ⟨hk5, H⟩ := ck_some H
            refine .v (x := .tsl 1 (((([(([118, 116, 100, 99] : List UInt8).take (Int.toNat (v0.kind))).drop (Int.toNat (v0.kind - 1)), y2, y3, v0.a, v6j1, y4, y5] : List (List UInt8)) ++ ([([112, 97, 114, 116] : List UInt8), y8, y9] : List (List UInt8))) ++ ([([108, 97, 115, 116] : List UInt8)] : List (List UInt8))).map rS) 0) (v_appendL (l := ([(([118, 116, 100, 99] : List UInt8).take (Int.toNat (v0.kind))).drop (Int.toNat (v0.kind - 1)), y2, y3, v0.a, v6j1, y4, y5] : List (List UInt8)) ++ ([([112, 97, 114, 116] : List UInt8), y8, y9] : List (List UInt8))) (l' := ([([108, 97, 115, 116] : List UInt8)] : List (List UInt8))) (row := rS) Tryd.underlying69 hi9 hz9 hs9 rfl (by rw [hb9]; decide) rfl rfl rfl rfl hk5) rfl ?_
            refine .withSt (st' := ⟨[.row 39 [.d (cI v0.source), .d (cI v0.serial), .d (cI v0.kind), .d (cS v0.a), .d (cS v0.b), .d (cI v0.start), .d (cI v0.units), .d (cI v0.call), .d (cI v0.part), .d (cB v0.last), .d (cI v0.trunk), .d (cB v0.inbound)]], [⟨9, 1, ((([(([118, 116, 100, 99] : List UInt8).take (Int.toNat (v0.kind))).drop (Int.toNat (v0.kind - 1)), y2, y3, v0.a, v6j1, y4, y5] : List (List UInt8)) ++ ([([112, 97, 114, 116] : List UInt8), y8, y9] : List (List UInt8))) ++ ([([108, 97, 115, 116] : List UInt8)] : List (List UInt8))).length, none⟩]⟩) rfl ?_
            refine .q (q_assign rfl) rfl ?_
            refine .nil ?_
            exact .withSt (st' := ⟨[.row 39 [.d (cI v0.source), .d (cI v0.serial), .d (cI v0.kind), .d (cS v0.a), .d (cS v0.b), .d (cI v0.start), .d (cI v0.units), .d (cI v0.call), .d (cI v0.part), .d (cB v0.last), .d (cI v0.trunk), .d (cB v0.inbound)]], [⟨9, 1, ((([(([118, 116, 100, 99] : List UInt8).take (Int.toNat (v0.kind))).drop (Int.toNat (v0.kind - 1)), y2, y3, v0.a, v6j1, y4, y5] : List (List UInt8)) ++ ([([112, 97, 114, 116] : List UInt8), y8, y9] : List (List UInt8))) ++ ([([108, 97, 115, 116] : List UInt8)] : List (List UInt8))).length, none⟩]⟩) rfl <| .sub (.cons rfl (.rfl' _) (.cons rfl (.rfl' _) (.cons rfl (.rfl' _) (.nil)))) (hj2 ((([(([118, 116, 100, 99] : List UInt8).take (Int.toNat (v0.kind))).drop (Int.toNat (v0.kind - 1)), y2, y3, v0.a, v6j1, y4, y5] : List (List UInt8)) ++ ([([112, 97, 114, 116] : List UInt8), y8, y9] : List (List UInt8))) ++ ([([108, 97, 115, 116] : List UInt8)] : List (List UInt8))) H)
          · replace H := ifF hc H; clear hc
            refine .skip ?_
            exact .withSt (st' := ⟨[.row 39 [.d (cI v0.source), .d (cI v0.serial), .d (cI v0.kind), .d (cS v0.a), .d (cS v0.b), .d (cI v0.start), .d (cI v0.units), .d (cI v0.call), .d (cI v0.part), .d (cB v0.last), .d (cI v0.trunk), .d (cB v0.inbound)]], [⟨9, 1, (([(([118, 116, 100, 99] : List UInt8).take (Int.toNat (v0.kind))).drop (Int.toNat (v0.kind - 1)), y2, y3, v0.a, v6j1, y4, y5] : List (List UInt8)) ++ ([([112, 97, 114, 116] : List UInt8), y8, y9] : List (List UInt8))).length, none⟩]⟩) rfl <| .sub (.cons rfl (.rfl' _) (.cons rfl (.rfl' _) (.cons rfl (.rfl' _) (.nil)))) (hj2 (([(([118, 116, 100, 99] : List UInt8).take (Int.toNat (v0.kind))).drop (Int.toNat (v0.kind - 1)), y2, y3, v0.a, v6j1, y4, y5] : List (List UInt8)) ++ ([([112, 97, 114, 116] : List UInt8), y8, y9] : List (List UInt8))) H)
        · replace H := ifF hc H; clear hc
          refine .skip ?_
          exact .withSt (st' := ⟨[.row 39 [.d (cI v0.source), .d (cI v0.serial), .d (cI v0.kind), .d (cS v0.a), .d (cS v0.b), .d (cI v0.start), .d (cI v0.units), .d (cI v0.call), .d (cI v0.part), .d (cB v0.last), .d (cI v0.trunk), .d (cB v0.inbound)]], [⟨9, 1, ([(([118, 116, 100, 99] : List UInt8).take (Int.toNat (v0.kind))).drop (Int.toNat (v0.kind - 1)), y2, y3, v0.a, v6j1, y4, y5] : List (List UInt8)).length, none⟩]⟩) rfl <| .sub (.cons rfl (.rfl' _) (.cons rfl (.rfl' _) (.cons rfl (.rfl' _) (.nil)))) (hj2 ([(([118, 116, 100, 99] : List UInt8).take (Int.toNat (v0.kind))).drop (Int.toNat (v0.kind - 1)), y2, y3, v0.a, v6j1, y4, y5] : List (List UInt8)) H)
    · intro hj1
      refine .seq ?_
      refine .region ?_
      refine .q (q_move rfl) rfl ?_
      refine .q (q_seql rfl rfl) rfl ?_
      refine .nil ?_
      refine .cond rfl (fun hc => ?_) (fun hc => ?_)
      · replace H := ifT hc H; clear hc
        refine .region ?_
        refine .q (q_assign rfl) rfl ?_
        refine .nil ?_
        exact .sub (.cons rfl (.rfl' _) (.cons rfl (.rfl' _) (.cons rfl (.rfl' _) (.nil)))) (hj1 ([45] : List UInt8) H)
      · replace H := ifF hc H; clear hc
        refine .skip ?_
        exact .sub (.cons rfl (.rfl' _) (.cons rfl (.rfl' _) (.cons rfl (.rfl' _) (.nil)))) (hj1 v0.b H)

end Go.Proofs.YtccmaffefdcikaaDoor

set_option linter.unusedSimpArgs false
set_option linter.unusedVariables false
namespace Go.Proofs.YtccmaffefdcikaaDoor
open Go.RowKit Go.Abs
set_option maxRecDepth 100000 in
set_option maxHeartbeats 1000000 in
theorem c_f_batch_Check {v0b : Batch} {r : Int} (H : f_batch_Check v0b = some r) : ACall Tryd.prog 12 [.agg (Batch.row v0b)] (· = cI r) := by
  obtain ⟨i39, hi39, hz39, hs39, hb39⟩ := in_39
  refine ACall.enter' Tryd.func12 rfl Tryd.ntmps12 rfl fun S hS => ?_
  unfold f_batch_Check at H
  change ARun _ _ _ _ _ _ [(0, .d (.agg (Batch.row v0b)))] _
  refine .seq ?_
  refine .region ?_
  refine .v (x := .ref 0 0) (v_box rfl rfl) rfl ?_
  refine .withSt (st' := ⟨[.row 31 [.d (cI v0b.source), .d (cI v0b.number), .d (cI v0b.format), .d (slOf 12 Record.row v0b.records)]], []⟩) rfl ?_
  refine .q (q_assign rfl) rfl ?_
  refine .nil ?_
  refine .seq ?_
  refine .seq ?_
  refine .region ?_
  refine .q (x := .d (.agg (Batch.row v0b))) (q_loadOA one_31 sz_31 rfl rfl (Nat.le_of_ble_eq_true rfl) rfl) rfl ?_
  obtain ⟨y1, hy1, H⟩ := bind_some' H
  refine .g (x := .d (.agg (Head.row y1))) (g_call en_16 rfl rfl (c_f_batch_headOf (hy1))) rfl ?_
  obtain ⟨y2, hy2, H⟩ := bind_some' H
  refine .g (x := .d (cI y2)) (g_call en_23 rfl rfl (c_f_batch_checkHead (hy2))) rfl ?_
  refine .q (q_assign rfl) rfl ?_
  refine .nil ?_
  refine .seq ?_
  refine .region ?_
  refine .q (q_move rfl) rfl ?_
  refine .q (q_neq rfl rfl) rfl ?_
  refine .nil ?_
  refine .cond rfl (fun hc => ?_) (fun hc => ?_)
  · replace H := ifT hc H; clear hc
    refine .seq ?_
    refine .region ?_
    refine .q (q_move rfl) rfl ?_
    refine .q (q_assign rfl) rfl ?_
    refine .nil ?_
    refine .retN [.tmp 2] [.d (cI y2)] Tryd.func12 Tryd.results12 ⟨rfl, trivial⟩ ?_
    cases H
    exact ⟨_, .rfl' _, rfl⟩
  · replace H := ifF hc H; clear hc
    refine .skip ?_
    refine .seq ?_
    refine .seq ?_
    refine .region ?_
    refine .q (q_fieldRef fo_31_3 rfl) rfl ?_
    refine .q (x := .d (slOf 12 Record.row v0b.records)) (q_loadO one_22 rfl rfl rfl) rfl ?_
    refine .q (q_lenL (l := v0b.records) (row := Record.row) Tryd.underlying22 rfl rfl) rfl ?_
    refine .q (q_move rfl) rfl ?_
    refine .nil ?_
    refine .block ?_
    obtain ⟨n1, H⟩ := loop_some H
    refine .loop (ι := Nat × (Int)) (fun p => [(1, .ref 0 0), (15, .d (slOf 12 Record.row v0b.records)), (16, .d (cI (v0b.records.length : Int))), (17, .d (cI p.2))]) (fun p => ⟨[.row 31 [.d (cI v0b.source), .d (cI v0b.number), .d (cI v0b.format), .d (slOf 12 Record.row v0b.records)]], []⟩) (fun p => iter (fun s => f_batch_Check_l1 v0b s) p.1 p.2 = some r) (·.1) (n1, 0) H (.cons rfl (.rfl' _) (.cons rfl (.rfl' _) (.cons rfl (.rfl' _) (.cons rfl (.rfl' _) (.nil))))) rfl ?_
    rintro ⟨m1, v17l1⟩ HI ih1
    obtain ⟨n1, q1, hm1, H, HK1⟩ := iter_succ HI
    clear HI
    replace H : f_batch_Check_l1 v0b v17l1 = some q1 := H
    unfold f_batch_Check_l1 at H
    change ARun _ _ _ _ _ _ [(1, .ref 0 0), (15, .d (slOf 12 Record.row v0b.records)), (16, .d (cI (v0b.records.length : Int))), (17, .d (cI v17l1))] ⟨[.row 31 [.d (cI v0b.source), .d (cI v0b.number), .d (cI v0b.format), .d (slOf 12 Record.row v0b.records)]], []⟩
    refine .seq ?_
    refine .region ?_
    refine .q (q_lss rfl rfl) rfl ?_
    refine .nil ?_
    refine .seq ?_
    refine .cond rfl (fun hc => ?_) (fun hc => ?_)
    · replace H := ifT hc H; clear hc
      refine .skip ?_
      refine .seq ?_
      refine .block ?_
      refine .seq ?_
      refine .region ?_
      obtain ⟨hk1, H⟩ := ck_some H
      refine .q (x := .d (.ro (Record.row (nth v0b.records (Int.toNat (v17l1)))))) (q_idxL (row := Record.row) (l := v0b.records) (i := v17l1) Tryd.underlying22 hi39 hs39 rfl rfl rfl hk1) rfl ?_
      refine .q (x := .d (.agg (Record.row (nth v0b.records (Int.toNat (v17l1)))))) (q_loadAll one_39 sz_39 rfl rfl) rfl ?_
      refine .v (x := .ref 1 0) (v_alloc zr_39 rfl) rfl ?_
      refine .withSt (st' := ⟨[.row 31 [.d (cI v0b.source), .d (cI v0b.number), .d (cI v0b.format), .d (slOf 12 Record.row v0b.records)], .row 39 [.d (cI 0), .d (cI 0), .d (cI 0), .d (cS ([] : List UInt8)), .d (cS ([] : List UInt8)), .d (cI 0), .d (cI 0), .d (cI 0), .d (cI 0), .d (cB false), .d (cI 0), .d (cB false)]], []⟩) rfl ?_
      refine .u (u_store rfl rfl rfl rfl (Nat.le_of_ble_eq_true rfl) sz_39) rfl ?_
      refine .withSt (st' := ⟨[.row 31 [.d (cI v0b.source), .d (cI v0b.number), .d (cI v0b.format), .d (slOf 12 Record.row v0b.records)], .row 39 [.d (cI ((nth v0b.records (Int.toNat (v17l1))).source)), .d (cI ((nth v0b.records (Int.toNat (v17l1))).serial)), .d (cI ((nth v0b.records (Int.toNat (v17l1))).kind)), .d (cS ((nth v0b.records (Int.toNat (v17l1))).a)), .d (cS ((nth v0b.records (Int.toNat (v17l1))).b)), .d (cI ((nth v0b.records (Int.toNat (v17l1))).start)), .d (cI ((nth v0b.records (Int.toNat (v17l1))).units)), .d (cI ((nth v0b.records (Int.toNat (v17l1))).call)), .d (cI ((nth v0b.records (Int.toNat (v17l1))).part)), .d (cB ((nth v0b.records (Int.toNat (v17l1))).last)), .d (cI ((nth v0b.records (Int.toNat (v17l1))).trunk)), .d (cB ((nth v0b.records (Int.toNat (v17l1))).inbound))]], []⟩) rfl ?_
      refine .nil ?_
      refine .seq ?_
      refine .seq ?_
      refine .region ?_
      refine .q (x := .d (.agg (Record.row (nth v0b.records (Int.toNat (v17l1)))))) (q_loadOA one_39 sz_39 rfl rfl (Nat.le_of_ble_eq_true rfl) rfl) rfl ?_
      obtain ⟨y3, hy3, H⟩ := bind_some' H
      refine .g (x := .d (.tup [cS y3.1, cI y3.2])) (g_call en_24 rfl rfl (c_f_textual_Encode (hy3))) rfl ?_
      refine .q (q_move rfl) rfl ?_
      refine .q (q_extract rfl rfl) rfl ?_
      refine .q (q_extract rfl rfl) rfl ?_
      refine .q (q_assign rfl) rfl ?_
      refine .q (q_assign rfl) rfl ?_
      refine .nil ?_
      refine .seq ?_
      refine .region ?_
      refine .q (q_move rfl) rfl ?_
      refine .q (q_neq rfl rfl) rfl ?_
      refine .nil ?_
      refine .cond rfl (fun hc => ?_) (fun hc => ?_)
      · replace H := ifT hc H; clear hc
        refine .seq ?_
        refine .region ?_
        refine .q (q_move rfl) rfl ?_
        refine .q (q_assign rfl) rfl ?_
        refine .nil ?_
        refine .retN [.tmp 2] [.d (cI y3.2)] Tryd.func12 Tryd.results12 ⟨rfl, trivial⟩ ?_
        cases H
        cases HK1
        exact ⟨_, .rfl' _, rfl⟩
      · replace H := ifF hc H; clear hc
        refine .skip ?_
        refine .seq ?_
        refine .region ?_
        refine .q (q_fieldRef fo_39_0 rfl) rfl ?_
        refine .q (x := .d (cI ((nth v0b.records (Int.toNat (v17l1))).source))) (q_loadO one_3 rfl rfl rfl) rfl ?_
        refine .q (q_fieldRef fo_31_0 rfl) rfl ?_
        refine .q (x := .d (cI v0b.source)) (q_loadO one_3 rfl rfl rfl) rfl ?_
        refine .q (q_neq rfl rfl) rfl ?_
        refine .nil ?_
        refine .cond rfl (fun hc => ?_) (fun hc => ?_)
        · replace H := ifT hc H; clear hc
          refine .seq ?_
          refine .region ?_
          refine .q (q_assign rfl) rfl ?_
          refine .nil ?_
          refine .retN [.tmp 2] [.d (cI 8)] Tryd.func12 Tryd.results12 ⟨rfl, trivial⟩ ?_
          cases H
          cases HK1
          exact ⟨_, .rfl' _, rfl⟩
        · replace H := ifF hc H; clear hc
          refine .skip ?_
          refine .inBlock ?_
          refine .region ?_
          obtain ⟨hk2, H⟩ := ck_some H
          refine .q (q_addI rfl rfl hk2.1 hk2.2) rfl ?_
          refine .q (q_move rfl) rfl ?_
          refine .nil ?_
          cases H
          exact .to 1 0 (env' := [(1, .ref 0 0), (15, .d (slOf 12 Record.row v0b.records)), (16, .d (cI (v0b.records.length : Int))), (17, .d (cI (v17l1 + 1)))]) (st' := ⟨[.row 31 [.d (cI v0b.source), .d (cI v0b.number), .d (cI v0b.format), .d (slOf 12 Record.row v0b.records)]], []⟩) (.cons rfl (.rfl' _) (.cons rfl (.rfl' _) (.cons rfl (.rfl' _) (.cons rfl (.rfl' _) (.nil))))) rfl rfl rfl rfl rfl (by rw [hS]; exact Nat.le_of_ble_eq_true rfl) (by rw [hS]; exact Nat.le_of_ble_eq_true rfl) <| .sub (.cons rfl (.rfl' _) (.cons rfl (.rfl' _) (.cons rfl (.rfl' _) (.cons rfl (.rfl' _) (.nil))))) (ih1 (n1, (v17l1 + 1)) HK1 hm1)
    · replace H := ifF hc H; clear hc
      refine .exit rfl ?_
      refine .seq ?_
      refine .region ?_
      refine .q (q_assign rfl) rfl ?_
      refine .nil ?_
      refine .retN [.tmp 2] [.d (cI 0)] Tryd.func12 Tryd.results12 ⟨rfl, trivial⟩ ?_
      cases H
      cases HK1
      exact ⟨_, .rfl' _, rfl⟩

set_option maxRecDepth 100000 in
set_option maxHeartbeats 1000000 in
theorem c_f_codec_grown {v0b : List UInt8} {v1n : Int} {r : (List UInt8)} (H : f_codec_grown v0b v1n = some r) : ACall Tryd.prog 49 [slOf 1 rB8 v0b, cI v1n] (· = slOf 1 rB8 r) := by
  obtain ⟨i5, hi5, hz5, hs5, hb5⟩ := in_5
  refine ACall.enter' Tryd.func49 rfl Tryd.ntmps49 rfl fun S hS => ?_
  unfold f_codec_grown at H
  change ARun _ _ _ _ _ _ [(0, .d (slOf 1 rB8 v0b)), (1, .d (cI v1n))] _
  refine .seq ?_
  refine .region ?_
  refine .q (q_assign rfl) rfl ?_
  refine .nil ?_
  refine .seq ?_
  refine .region ?_
  refine .q (q_move rfl) rfl ?_
  refine .q (q_lenL (l := v0b) (row := rB8) Tryd.underlying32 rfl rfl) rfl ?_
  refine .q (q_move rfl) rfl ?_
  refine .q (q_lenL (l := v0b) (row := rB8) Tryd.underlying32 rfl rfl) rfl ?_
  refine .q (q_move rfl) rfl ?_
  obtain ⟨hk1, H⟩ := ck_some H
  refine .q (q_addI rfl rfl hk1.1 hk1.2) rfl ?_
  obtain ⟨hk2, H⟩ := ck_some H
  refine .v (x := .vc 0 ((List.replicate (Int.toNat ((v0b.length : Int))) 0 : List UInt8).length)) (v_makeV (row := rB8) (a := (v0b.length : Int)) (b := (v0b.length : Int) + v1n) (a0 := 0) Tryd.underlying32 hi5 hz5 hs5 rfl (by rw [hb5]; decide) rfl rfl rfl hk2) rfl ?_
  refine .withSt (st' := ⟨[], [⟨5, 1, ((List.replicate (Int.toNat ((v0b.length : Int))) 0 : List UInt8).length), some ((List.replicate (Int.toNat ((v0b.length : Int))) 0 : List UInt8).map rB8)⟩]⟩) rfl ?_
  refine .q (q_assign rfl) rfl ?_
  refine .nil ?_
  refine .seq ?_
  refine .region ?_
  refine .q (q_move rfl) rfl ?_
  refine .q (q_move rfl) rfl ?_
  refine .v (x := .d (cI ((min v0b.length (List.replicate (Int.toNat ((v0b.length : Int))) 0 : List UInt8).length : Nat) : Int))) (v_copyV (l := (List.replicate (Int.toNat ((v0b.length : Int))) 0 : List UInt8)) (l' := v0b) (row := rB8) Tryd.underlying32 hi5 hs5 rfl rfl rfl rfl) rfl ?_
  refine .withSt (st' := ⟨[], [⟨5, 1, ((List.replicate (Int.toNat ((v0b.length : Int))) 0 : List UInt8).length), some ((v0b.take (min v0b.length (List.replicate (Int.toNat ((v0b.length : Int))) 0 : List UInt8).length) ++ (List.replicate (Int.toNat ((v0b.length : Int))) 0 : List UInt8).drop (min v0b.length (List.replicate (Int.toNat ((v0b.length : Int))) 0 : List UInt8).length)).map rB8)⟩]⟩) rfl ?_
  refine .nil ?_
  refine .seq ?_
  refine .region ?_
  refine .q (q_move rfl) rfl ?_
  refine .q (q_assign rfl) rfl ?_
  refine .nil ?_
  refine .freezeL (l := v0b.take (min v0b.length (List.replicate (Int.toNat ((v0b.length : Int))) 0 : List UInt8).length) ++ (List.replicate (Int.toNat ((v0b.length : Int))) 0 : List UInt8).drop (min v0b.length (List.replicate (Int.toNat ((v0b.length : Int))) 0 : List UInt8).length)) (row := rB8) (i := 4) rfl rfl ?_
  refine .withSt (st' := ⟨[], [⟨5, 1, (v0b.take (min v0b.length (List.replicate (Int.toNat ((v0b.length : Int))) 0 : List UInt8).length) ++ (List.replicate (Int.toNat ((v0b.length : Int))) 0 : List UInt8).drop (min v0b.length (List.replicate (Int.toNat ((v0b.length : Int))) 0 : List UInt8).length)).length, none⟩]⟩) rfl ?_
  refine .retN [.tmp 4] [.tsl 1 ((v0b.take (min v0b.length (List.replicate (Int.toNat ((v0b.length : Int))) 0 : List UInt8).length) ++ (List.replicate (Int.toNat ((v0b.length : Int))) 0 : List UInt8).drop (min v0b.length (List.replicate (Int.toNat ((v0b.length : Int))) 0 : List UInt8).length)).map rB8) 0] Tryd.func49 Tryd.results49 ⟨rfl, trivial⟩ ?_
  cases H
  exact ⟨_, .tsl _ _ _, rfl⟩

set_option maxRecDepth 100000 in
set_option maxHeartbeats 1000000 in
theorem c_f_codec_zigzag {v0n : Int} {r : Int} (H : f_codec_zigzag v0n = some r) : ACall Tryd.prog 79 [cI v0n] (· = cK .u64 r) := by
  refine ACall.enter' Tryd.func79 rfl Tryd.ntmps79 rfl fun S hS => ?_
  unfold f_codec_zigzag at H
  change ARun _ _ _ _ _ _ [(0, .d (cI v0n))] _
  refine .seq ?_
  refine .region ?_
  refine .q (q_assign rfl) rfl ?_
  refine .nil ?_
  refine .seq ?_
  refine .region ?_
  refine .q (q_move rfl) rfl ?_
  refine .q (x := .d (cK .u64 (IntKind.wrap .u64 v0n))) (q_conv Tryd.underlying3 Tryd.underlying110 rfl rfl) rfl ?_
  obtain ⟨hk1, H⟩ := ck_some H
  refine .q (x := .d (cK .u64 (IntKind.wrap .u64 ((IntKind.wrap .u64 v0n) * 2 ^ (min (Int.toNat (1)) 64))))) (q_shl (a := IntKind.wrap .u64 v0n) (b := 1) rfl rfl hk1 rfl) rfl ?_
  refine .q (q_move rfl) rfl ?_
  refine .q (x := .d (cI (v0n / 2 ^ (Int.toNat (63))))) (q_shrI63 rfl rfl (by decide)) rfl ?_
  refine .q (x := .d (cK .u64 (IntKind.wrap .u64 (v0n / 2 ^ (Int.toNat (63)))))) (q_conv Tryd.underlying3 Tryd.underlying110 rfl rfl) rfl ?_
  refine .q (x := .d (cK .u64 (bXor .u64 (IntKind.wrap .u64 ((IntKind.wrap .u64 v0n) * 2 ^ (min (Int.toNat (1)) 64))) (IntKind.wrap .u64 (v0n / 2 ^ (Int.toNat (63))))))) (q_xor rfl rfl) rfl ?_
  refine .q (q_assign rfl) rfl ?_
  refine .nil ?_
  refine .retN [.tmp 2] [.d (cK .u64 (bXor .u64 (IntKind.wrap .u64 ((IntKind.wrap .u64 v0n) * 2 ^ (min (Int.toNat (1)) 64))) (IntKind.wrap .u64 (v0n / 2 ^ (Int.toNat (63))))))] Tryd.func79 Tryd.results79 ⟨rfl, trivial⟩ ?_
  cases H
  exact ⟨_, .rfl' _, rfl⟩

set_option maxRecDepth 100000 in
set_option maxHeartbeats 1000000 in
theorem c_g_codec_grown {v0b : List UInt8} {v1n : Int} {r : (List UInt8)} (H : f_codec_grown v0b v1n = some r) : ACallS Tryd.prog 49 [.d (slOf 1 rB8 v0b), .d (cI v1n)] ⟨[], []⟩ (QE (.tsl 1 (r.map rB8) 0) ⟨[], [⟨5, 1, r.length, none⟩]⟩) := by
  obtain ⟨i5, hi5, hz5, hs5, hb5⟩ := in_5
  refine ACallS.keep ?_
  refine ACallS.enter Tryd.func49 rfl Tryd.ntmps49 rfl fun S hS => ?_
  unfold f_codec_grown at H
  change ARun _ _ _ _ _ _ [(0, .d (slOf 1 rB8 v0b)), (1, .d (cI v1n))] _
  refine .seq ?_
  refine .region ?_
  refine .q (q_assign rfl) rfl ?_
  refine .nil ?_
  refine .seq ?_
  refine .region ?_
  refine .q (q_move rfl) rfl ?_
  refine .q (q_lenL (l := v0b) (row := rB8) Tryd.underlying32 rfl rfl) rfl ?_
  refine .q (q_move rfl) rfl ?_
  refine .q (q_lenL (l := v0b) (row := rB8) Tryd.underlying32 rfl rfl) rfl ?_
  refine .q (q_move rfl) rfl ?_
  obtain ⟨hk1, H⟩ := ck_some H
  refine .q (q_addI rfl rfl hk1.1 hk1.2) rfl ?_
  obtain ⟨hk2, H⟩ := ck_some H
  refine .v (x := .vc 0 ((List.replicate (Int.toNat ((v0b.length : Int))) 0 : List UInt8).length)) (v_makeV (row := rB8) (a := (v0b.length : Int)) (b := (v0b.length : Int) + v1n) (a0 := 0) Tryd.underlying32 hi5 hz5 hs5 rfl (by rw [hb5]; decide) rfl rfl rfl hk2) rfl ?_
  refine .withSt (st' := ⟨[], [⟨5, 1, ((List.replicate (Int.toNat ((v0b.length : Int))) 0 : List UInt8).length), some ((List.replicate (Int.toNat ((v0b.length : Int))) 0 : List UInt8).map rB8)⟩]⟩) rfl ?_
  refine .q (q_assign rfl) rfl ?_
  refine .nil ?_
  refine .seq ?_
  refine .region ?_
  refine .q (q_move rfl) rfl ?_
  refine .q (q_move rfl) rfl ?_
  refine .v (x := .d (cI ((min v0b.length (List.replicate (Int.toNat ((v0b.length : Int))) 0 : List UInt8).length : Nat) : Int))) (v_copyV (l := (List.replicate (Int.toNat ((v0b.length : Int))) 0 : List UInt8)) (l' := v0b) (row := rB8) Tryd.underlying32 hi5 hs5 rfl rfl rfl rfl) rfl ?_
  refine .withSt (st' := ⟨[], [⟨5, 1, ((List.replicate (Int.toNat ((v0b.length : Int))) 0 : List UInt8).length), some ((v0b.take (min v0b.length (List.replicate (Int.toNat ((v0b.length : Int))) 0 : List UInt8).length) ++ (List.replicate (Int.toNat ((v0b.length : Int))) 0 : List UInt8).drop (min v0b.length (List.replicate (Int.toNat ((v0b.length : Int))) 0 : List UInt8).length)).map rB8)⟩]⟩) rfl ?_
  refine .nil ?_
  refine .seq ?_
  refine .region ?_
  refine .q (q_move rfl) rfl ?_
  refine .q (q_assign rfl) rfl ?_
  refine .nil ?_
  refine .freezeL (l := v0b.take (min v0b.length (List.replicate (Int.toNat ((v0b.length : Int))) 0 : List UInt8).length) ++ (List.replicate (Int.toNat ((v0b.length : Int))) 0 : List UInt8).drop (min v0b.length (List.replicate (Int.toNat ((v0b.length : Int))) 0 : List UInt8).length)) (row := rB8) (i := 4) rfl rfl ?_
  refine .withSt (st' := ⟨[], [⟨5, 1, (v0b.take (min v0b.length (List.replicate (Int.toNat ((v0b.length : Int))) 0 : List UInt8).length) ++ (List.replicate (Int.toNat ((v0b.length : Int))) 0 : List UInt8).drop (min v0b.length (List.replicate (Int.toNat ((v0b.length : Int))) 0 : List UInt8).length)).length, none⟩]⟩) rfl ?_
  refine .retN [.tmp 4] [.tsl 1 ((v0b.take (min v0b.length (List.replicate (Int.toNat ((v0b.length : Int))) 0 : List UInt8).length) ++ (List.replicate (Int.toNat ((v0b.length : Int))) 0 : List UInt8).drop (min v0b.length (List.replicate (Int.toNat ((v0b.length : Int))) 0 : List UInt8).length)).map rB8) 0] Tryd.func49 Tryd.results49 ⟨rfl, trivial⟩ ?_
  cases H
  exact ⟨[], [0], rfl, rfl, rfl, rfl, rfl, rfl, rfl, rfl, .rfl' _⟩

set_option maxRecDepth 100000 in
set_option maxHeartbeats 1000000 in
theorem c_g_codec_add {v1n : Int} {y0t0p : List UInt8} {r : (List UInt8)} (H : g_codec_add v1n y0t0p = some r) : ACallS Tryd.prog 48 [.tsl 1 (y0t0p.map rB8) 0, .d (cI v1n)] ⟨[], [⟨5, 1, y0t0p.length, none⟩]⟩ (QE (.tsl 1 (r.map rB8) 0) ⟨[], [⟨5, 1, r.length, none⟩]⟩) := by
  obtain ⟨i5, hi5, hz5, hs5, hb5⟩ := in_5
  refine ACallS.keep ?_
  refine ACallS.enter Tryd.func48 rfl Tryd.ntmps48 rfl fun S hS => ?_
  unfold g_codec_add at H
  change ARun _ _ _ _ _ _ [(0, .tsl 1 (y0t0p.map rB8) 0), (1, .d (cI v1n))] _
  refine .seq ?_
  refine .region ?_
  refine .q (q_assign rfl) rfl ?_
  refine .nil ?_
  refine .seq ?_
  refine .region ?_
  refine .q (q_move rfl) rfl ?_
  obtain ⟨y1, hy1, H⟩ := bind_some' H
  refine .g (x := .d (cK .u64 y1)) (g_call en_79 rfl rfl (c_f_codec_zigzag (hy1))) rfl ?_
  refine .q (q_assign rfl) rfl ?_
  refine .nil ?_
  refine .seq ?_
  refine .blockJoin2 (ι := List UInt8 × Int) (fun s => [(0, .tsl 1 (s.1.map rB8) 0), (5, .d (cK .u64 s.2))]) (fun s => ⟨[], [⟨5, 1, s.1.length, none⟩]⟩) (fun s => g_codec_add_j1 s.1 s.2 = some r) ?_ ?_
  · rintro ⟨v0bj1, v5uj1⟩ H
    replace H : g_codec_add_j1 v0bj1 v5uj1 = some r := H
    unfold g_codec_add_j1 at H
    change ARun _ _ _ _ _ _ [(0, .tsl 1 (v0bj1.map rB8) 0), (5, .d (cK .u64 v5uj1))] ⟨[], [⟨5, 1, v0bj1.length, none⟩]⟩
    refine .seq ?_
    refine .region ?_
    refine .q (q_move rfl) rfl ?_
    refine .q (q_move rfl) rfl ?_
    refine .q (x := .d (cU8 (UInt8.ofInt v5uj1))) (q_conv8 Tryd.underlying110 Tryd.underlying5 rfl) rfl ?_
    refine .g (x := .d (slOf 1 rB8 ([UInt8.ofInt v5uj1] : List UInt8))) (g_buildSlice1 Tryd.underlying32 hi5 hs5 hz5 rfl rfl rfl rfl rfl) rfl ?_
    obtain ⟨hk1, H⟩ := ck_some H
    refine .v (x := .tsl 1 ((v0bj1 ++ ([UInt8.ofInt v5uj1] : List UInt8)).map rB8) 0) (v_appendL (l := v0bj1) (l' := ([UInt8.ofInt v5uj1] : List UInt8)) (row := rB8) Tryd.underlying32 hi5 hz5 hs5 rfl (by rw [hb5]; decide) rfl rfl rfl rfl hk1) rfl ?_
    refine .withSt (st' := ⟨[], [⟨5, 1, (v0bj1 ++ ([UInt8.ofInt v5uj1] : List UInt8)).length, none⟩]⟩) rfl ?_
    refine .q (q_assign rfl) rfl ?_
    refine .nil ?_
    refine .retN [.tmp 4] [.tsl 1 ((v0bj1 ++ ([UInt8.ofInt v5uj1] : List UInt8)).map rB8) 0] Tryd.func48 Tryd.results48 ⟨rfl, trivial⟩ ?_
    cases H
    exact ⟨[], [0], rfl, rfl, rfl, rfl, rfl, rfl, rfl, rfl, .rfl' _⟩
  · intro hj1 hj1x
    obtain ⟨n1, H⟩ := loop_some H
    refine .withSt (st' := ⟨[], [⟨5, 1, y0t0p.length, none⟩]⟩) rfl <| .loop (ι := Nat × (List UInt8 × Int)) (fun p => [(0, .tsl 1 (p.2.1.map rB8) 0), (5, .d (cK .u64 p.2.2))]) (fun p => ⟨[], [⟨5, 1, p.2.1.length, none⟩]⟩) (fun p => iter (fun s => g_codec_add_l1 s.1 s.2) p.1 p.2 = some r) (·.1) (n1, (y0t0p, y1)) H (.cons rfl (.rfl' _) (.cons rfl (.rfl' _) (.nil))) rfl ?_
    rintro ⟨m1, v0bl1, v5ul1⟩ HI ih1
    obtain ⟨n1, q1, hm1, H, HK1⟩ := iter_succ HI
    clear HI
    replace H : g_codec_add_l1 v0bl1 v5ul1 = some q1 := H
    unfold g_codec_add_l1 at H
    change ARun _ _ _ _ _ _ [(0, .tsl 1 (v0bl1.map rB8) 0), (5, .d (cK .u64 v5ul1))] ⟨[], [⟨5, 1, v0bl1.length, none⟩]⟩
    refine .seq ?_
    refine .seq ?_
    refine .region ?_
    refine .q (q_move rfl) rfl ?_
    refine .q (q_geq rfl rfl) rfl ?_
    refine .nil ?_
    refine .cond rfl (fun hc => ?_) (fun hc => ?_)
    · replace H := ifT hc H; clear hc
      refine .skip ?_
      refine .block ?_
      refine .seq ?_
      refine .region ?_
      refine .q (q_move rfl) rfl ?_
      refine .q (q_move rfl) rfl ?_
      refine .q (x := .d (cU8 (UInt8.ofInt v5ul1))) (q_conv8 Tryd.underlying110 Tryd.underlying5 rfl) rfl ?_
      refine .q (x := .d (cU8 ((UInt8.ofInt v5ul1) ||| 128))) (q8_or (a := UInt8.ofInt v5ul1) (b := 128) rfl rfl) rfl ?_
      refine .g (x := .d (slOf 1 rB8 ([(UInt8.ofInt v5ul1) ||| 128] : List UInt8))) (g_buildSlice1 Tryd.underlying32 hi5 hs5 hz5 rfl rfl rfl rfl rfl) rfl ?_
      obtain ⟨hk2, H⟩ := ck_some H
      refine .v (x := .tsl 1 ((v0bl1 ++ ([(UInt8.ofInt v5ul1) ||| 128] : List UInt8)).map rB8) 0) (v_appendL (l := v0bl1) (l' := ([(UInt8.ofInt v5ul1) ||| 128] : List UInt8)) (row := rB8) Tryd.underlying32 hi5 hz5 hs5 rfl (by rw [hb5]; decide) rfl rfl rfl rfl hk2) rfl ?_
      refine .withSt (st' := ⟨[], [⟨5, 1, (v0bl1 ++ ([(UInt8.ofInt v5ul1) ||| 128] : List UInt8)).length, none⟩]⟩) rfl ?_
      refine .q (q_assign rfl) rfl ?_
      refine .nil ?_
      refine .region ?_
      refine .q (q_move rfl) rfl ?_
      obtain ⟨hk3, H⟩ := ck_some H
      refine .q (x := .d (cK .u64 (Int.fdiv v5ul1 (2 ^ (min (Int.toNat (7)) 64))))) (q_shr (a := v5ul1) (b := 7) rfl rfl hk3 rfl) rfl ?_
      refine .q (q_assign rfl) rfl ?_
      refine .nil ?_
      refine .inBlock ?_
      cases H
      exact .withSt (st' := ⟨[], [⟨5, 1, (v0bl1 ++ ([(UInt8.ofInt v5ul1) ||| 128] : List UInt8)).length, none⟩]⟩) rfl <| .sub (.cons rfl (.rfl' _) (.cons rfl (.rfl' _) (.nil))) (ih1 (n1, (v0bl1 ++ ([(UInt8.ofInt v5ul1) ||| 128] : List UInt8), Int.fdiv v5ul1 (2 ^ (min (Int.toNat (7)) 64)))) HK1 hm1)
    · replace H := ifF hc H; clear hc
      refine .exit rfl ?_
      obtain ⟨q0, H9, hq0⟩ := map_some' H; clear H; cases hq0
      cases HK1
      have H := H9
      exact .withSt (st' := ⟨[], [⟨5, 1, v0bl1.length, none⟩]⟩) rfl <| .sub (.cons rfl (.rfl' _) (.cons rfl (.rfl' _) (.nil))) (hj1x (v0bl1, v5ul1) H)

set_option maxRecDepth 100000 in
set_option maxHeartbeats 1000000 in
theorem c_f_codec_PutNumber {v0b : List UInt8} {v1n : Int} {r : (List UInt8)} (H : f_codec_PutNumber v0b v1n = some r) : ACall Tryd.prog 29 [slOf 1 rB8 v0b, cI v1n] (· = slOf 1 rB8 r) := by
  refine ACall.enter' Tryd.func29 rfl Tryd.ntmps29 rfl fun S hS => ?_
  unfold f_codec_PutNumber at H
  change ARun _ _ _ _ _ _ [(0, .d (slOf 1 rB8 v0b)), (1, .d (cI v1n))] _
  refine .seq ?_
  refine .region ?_
  refine .q (q_assign rfl) rfl ?_
  refine .nil ?_
  refine .seq ?_
  refine .region ?_
  refine .q (q_move rfl) rfl ?_
  obtain ⟨y1, hy1, H⟩ := bind_some' H
  refine .callF en_49 rfl [] [] (x := .tsl 1 (y1.map rB8) 0) (st' := ⟨[], [⟨5, 1, y1.length, none⟩]⟩) rfl (c_g_codec_grown (hy1)) ⟨.rfl' _, .rfl' _, trivial⟩ rfl rfl rfl rfl rfl rfl ?_
  refine .withSt (st' := ⟨[], [⟨5, 1, y1.length, none⟩]⟩) rfl ?_
  refine .q (q_move rfl) rfl ?_
  obtain ⟨y2, hy2, H⟩ := bind_some' H
  refine .callF en_48 rfl [] [0] (x := .tsl 1 (y2.map rB8) 0) (st' := ⟨[], [⟨5, 1, y2.length, none⟩]⟩) rfl (c_g_codec_add (hy2)) ⟨.rfl' _, .rfl' _, trivial⟩ rfl rfl rfl rfl rfl rfl ?_
  refine .withSt (st' := ⟨[], [⟨5, 1, y2.length, none⟩]⟩) rfl ?_
  refine .q (q_assign rfl) rfl ?_
  refine .nil ?_
  refine .retN [.tmp 4] [.tsl 1 (y2.map rB8) 0] Tryd.func29 Tryd.results29 ⟨rfl, trivial⟩ ?_
  cases H
  exact ⟨_, .tsl _ _ _, rfl⟩

set_option maxRecDepth 100000 in
set_option maxHeartbeats 1000000 in
theorem c_f_batch_number {v0n : Int} {r : (List UInt8) × Int} (H : f_batch_number v0n = some r) : ACall Tryd.prog 19 [cI v0n] (· = .tup [slOf 1 rB8 r.1, cI r.2]) := by
  refine ACall.enter' Tryd.func19 rfl Tryd.ntmps19 rfl fun S hS => ?_
  unfold f_batch_number at H
  change ARun _ _ _ _ _ _ [(0, .d (cI v0n))] _
  refine .seq ?_
  refine .region ?_
  refine .q (q_assign rfl) rfl ?_
  refine .q (q_assign rfl) rfl ?_
  refine .nil ?_
  refine .seq ?_
  refine .region ?_
  refine .q (q_move rfl) rfl ?_
  obtain ⟨y1, hy1, H⟩ := bind_some' H
  refine .g (x := .d (slOf 1 rB8 y1)) (g_call en_29 rfl rfl ((c_f_codec_PutNumber (hy1)).le ⟨.nil 1, .rfl' _, trivial⟩)) rfl ?_
  refine .q (q_assign rfl) rfl ?_
  refine .q (q_assign rfl) rfl ?_
  refine .nil ?_
  refine .retN [.tmp 2, .tmp 3] [.d (slOf 1 rB8 y1), .d (cI 0)] Tryd.func19 Tryd.results19 ⟨rfl, rfl, trivial⟩ ?_
  cases H
  exact ⟨_, EVle.tupL (ds := [slOf 1 rB8 y1, cI 0]) ⟨.rfl' _, .rfl' _, trivial⟩, rfl⟩

set_option maxRecDepth 100000 in
set_option maxHeartbeats 1000000 in
theorem c_f_digits_Pack {v0s : List UInt8} {r : (List UInt8) × Int} (H : f_digits_Pack v0s = some r) : ACall Tryd.prog 50 [cS v0s] (· = .tup [slOf 1 rB8 r.1, cI r.2]) := by
  obtain ⟨i5, hi5, hz5, hs5, hb5⟩ := in_5
  refine ACall.enter' Tryd.func50 rfl Tryd.ntmps50 rfl fun S hS => ?_
  unfold f_digits_Pack at H
  change ARun _ _ _ _ _ _ [(0, .d (cS v0s))] _
  refine .seq ?_
  refine .region ?_
  refine .q (q_assign rfl) rfl ?_
  refine .q (q_assign rfl) rfl ?_
  refine .nil ?_
  refine .seq ?_
  refine .seq ?_
  refine .region ?_
  refine .q (q_move rfl) rfl ?_
  obtain ⟨y1, hy1, H⟩ := bind_some' H
  refine .g (x := .d (cB y1)) (g_call en_71 rfl rfl (c_f_digits_Valid (hy1))) rfl ?_
  refine .q (q_not rfl) rfl ?_
  refine .nil ?_
  refine .cond rfl (fun hc => ?_) (fun hc => ?_)
  · replace H := ifT hc H; clear hc
    refine .seq ?_
    refine .region ?_
    refine .q (q_assign rfl) rfl ?_
    refine .q (q_assign rfl) rfl ?_
    refine .nil ?_
    refine .retN [.tmp 2, .tmp 3] [.d (nilD), .d (cI 12)] Tryd.func50 Tryd.results50 ⟨rfl, rfl, trivial⟩ ?_
    cases H
    exact ⟨_, EVle.tupL (ds := [slOf 1 rB8 ([] : List UInt8), cI 12]) ⟨.nil 1, .rfl' _, trivial⟩, rfl⟩
  · replace H := ifF hc H; clear hc
    refine .skip ?_
    refine .seq ?_
    refine .region ?_
    refine .q (q_assign rfl) rfl ?_
    refine .nil ?_
    refine .seq ?_
    refine .seq ?_
    refine .region ?_
    refine .q (q_assign rfl) rfl ?_
    refine .nil ?_
    refine .block ?_
    refine .tok (i := 4) (e := 5) (sz := 1) rfl ?_
    refine .withSt (st' := ⟨[], [⟨5, 1, ([] : List UInt8).length, none⟩]⟩) rfl ?_
    obtain ⟨n1, H⟩ := loop_some H
    refine .withSt (st' := ⟨[], [⟨5, 1, ([] : List UInt8).length, none⟩]⟩) rfl <| .loop (ι := Nat × (List UInt8 × Int)) (fun p => [(0, .d (cS v0s)), (4, .tsl 1 (p.2.1.map rB8) 0), (5, .d (cI p.2.2))]) (fun p => ⟨[], [⟨5, 1, p.2.1.length, none⟩]⟩) (fun p => iter (fun s => f_digits_Pack_l1 v0s s.1 s.2) p.1 p.2 = some r) (·.1) (n1, (([] : List UInt8), 0)) H (.cons rfl (.rfl' _) (.cons rfl (.rfl' _) (.cons rfl (.rfl' _) (.nil)))) rfl ?_
    rintro ⟨m1, v4bl1, v5il1⟩ HI ih1
    obtain ⟨n1, q1, hm1, H, HK1⟩ := iter_succ HI
    clear HI
    replace H : f_digits_Pack_l1 v0s v4bl1 v5il1 = some q1 := H
    unfold f_digits_Pack_l1 at H
    change ARun _ _ _ _ _ _ [(0, .d (cS v0s)), (4, .tsl 1 (v4bl1.map rB8) 0), (5, .d (cI v5il1))] ⟨[], [⟨5, 1, v4bl1.length, none⟩]⟩
    refine .seq ?_
    refine .seq ?_
    refine .region ?_
    refine .q (q_move rfl) rfl ?_
    refine .q (q_move rfl) rfl ?_
    refine .q (q_lenS Tryd.underlying9 rfl) rfl ?_
    refine .q (q_lss rfl rfl) rfl ?_
    refine .nil ?_
    refine .cond rfl (fun hc => ?_) (fun hc => ?_)
    · replace H := ifT hc H; clear hc
      refine .skip ?_
      refine .seq ?_
      refine .block ?_
      refine .seq ?_
      refine .region ?_
      refine .q (q_assign rfl) rfl ?_
      refine .nil ?_
      refine .seqJoin (ι := UInt8) (fun s => [(0, .d (cS v0s)), (4, .tsl 1 (v4bl1.map rB8) 0), (5, .d (cI v5il1)), (6, .d (cU8 s))]) (fun s => ⟨[], [⟨5, 1, v4bl1.length, none⟩]⟩) (fun s => f_digits_Pack_j1 v0s v4bl1 v5il1 s = some q1) ?_ ?_
      · rintro v6lowj1 H
        replace H : f_digits_Pack_j1 v0s v4bl1 v5il1 v6lowj1 = some q1 := H
        unfold f_digits_Pack_j1 at H
        change ARun _ _ _ _ _ _ [(0, .d (cS v0s)), (4, .tsl 1 (v4bl1.map rB8) 0), (5, .d (cI v5il1)), (6, .d (cU8 v6lowj1))] ⟨[], [⟨5, 1, v4bl1.length, none⟩]⟩
        refine .region ?_
        refine .q (q_move rfl) rfl ?_
        refine .q (q_move rfl) rfl ?_
        refine .q (q_move rfl) rfl ?_
        obtain ⟨hk1, H⟩ := ck_some H
        refine .q (x := .d (cU8 (nth v0s (Int.toNat (v5il1))))) (q_indexL (i := v5il1) Tryd.underlying9 rfl rfl hk1) rfl ?_
        refine .q (x := .d (cU8 ((nth v0s (Int.toNat (v5il1))) - 48))) (q8_sub (a := nth v0s (Int.toNat (v5il1))) (b := 48) rfl rfl) rfl ?_
        obtain ⟨hk2, H⟩ := ck_some H
        refine .q (x := .d (cU8 (u8shl ((nth v0s (Int.toNat (v5il1))) - 48) 4))) (q8_shl (a := (nth v0s (Int.toNat (v5il1))) - 48) (n := 4) rfl rfl hk2) rfl ?_
        refine .q (q_move rfl) rfl ?_
        refine .q (x := .d (cU8 ((u8shl ((nth v0s (Int.toNat (v5il1))) - 48) 4) ||| v6lowj1))) (q8_or (a := u8shl ((nth v0s (Int.toNat (v5il1))) - 48) 4) (b := v6lowj1) rfl rfl) rfl ?_
        refine .g (x := .d (slOf 1 rB8 ([(u8shl ((nth v0s (Int.toNat (v5il1))) - 48) 4) ||| v6lowj1] : List UInt8))) (g_buildSlice1 Tryd.underlying32 hi5 hs5 hz5 rfl rfl rfl rfl rfl) rfl ?_
        obtain ⟨hk3, H⟩ := ck_some H
        refine .v (x := .tsl 1 ((v4bl1 ++ ([(u8shl ((nth v0s (Int.toNat (v5il1))) - 48) 4) ||| v6lowj1] : List UInt8)).map rB8) 0) (v_appendL (l := v4bl1) (l' := ([(u8shl ((nth v0s (Int.toNat (v5il1))) - 48) 4) ||| v6lowj1] : List UInt8)) (row := rB8) Tryd.underlying32 hi5 hz5 hs5 rfl (by rw [hb5]; decide) rfl rfl rfl rfl hk3) rfl ?_
        refine .withSt (st' := ⟨[], [⟨5, 1, (v4bl1 ++ ([(u8shl ((nth v0s (Int.toNat (v5il1))) - 48) 4) ||| v6lowj1] : List UInt8)).length, none⟩]⟩) rfl ?_
        refine .q (q_assign rfl) rfl ?_
        refine .nil ?_
        refine .inBlock ?_
        refine .region ?_
        refine .q (q_move rfl) rfl ?_
        obtain ⟨hk4, H⟩ := ck_some H
        refine .q (q_addI rfl rfl hk4.1 hk4.2) rfl ?_
        refine .q (q_assign rfl) rfl ?_
        refine .nil ?_
        cases H
        exact .withSt (st' := ⟨[], [⟨5, 1, (v4bl1 ++ ([(u8shl ((nth v0s (Int.toNat (v5il1))) - 48) 4) ||| v6lowj1] : List UInt8)).length, none⟩]⟩) rfl <| .sub (.cons rfl (.rfl' _) (.cons rfl (.rfl' _) (.cons rfl (.rfl' _) (.nil)))) (ih1 (n1, (v4bl1 ++ ([(u8shl ((nth v0s (Int.toNat (v5il1))) - 48) 4) ||| v6lowj1] : List UInt8), v5il1 + 2)) HK1 hm1)
      · intro hj1
        refine .seq ?_
        refine .region ?_
        refine .q (q_move rfl) rfl ?_
        obtain ⟨hk5, H⟩ := ck_some H
        refine .q (q_addI rfl rfl hk5.1 hk5.2) rfl ?_
        refine .q (q_move rfl) rfl ?_
        refine .q (q_lenS Tryd.underlying9 rfl) rfl ?_
        refine .q (q_lss rfl rfl) rfl ?_
        refine .nil ?_
        refine .cond rfl (fun hc => ?_) (fun hc => ?_)
        · replace H := ifT hc H; clear hc
          refine .region ?_
          refine .q (q_move rfl) rfl ?_
          refine .q (q_move rfl) rfl ?_
          obtain ⟨hk6, H⟩ := ck_some H
          refine .q (q_addI rfl rfl hk6.1 hk6.2) rfl ?_
          obtain ⟨hk7, H⟩ := ck_some H
          refine .q (x := .d (cU8 (nth v0s (Int.toNat (v5il1 + 1))))) (q_indexL (i := v5il1 + 1) Tryd.underlying9 rfl rfl hk7) rfl ?_
          refine .q (x := .d (cU8 ((nth v0s (Int.toNat (v5il1 + 1))) - 48))) (q8_sub (a := nth v0s (Int.toNat (v5il1 + 1))) (b := 48) rfl rfl) rfl ?_
          refine .q (q_assign rfl) rfl ?_
          refine .nil ?_
          exact .sub (.cons rfl (.rfl' _) (.cons rfl (.rfl' _) (.cons rfl (.rfl' _) (.cons rfl (.rfl' _) (.nil))))) (hj1 ((nth v0s (Int.toNat (v5il1 + 1))) - 48) H)
        · replace H := ifF hc H; clear hc
          refine .skip ?_
          exact .sub (.cons rfl (.rfl' _) (.cons rfl (.rfl' _) (.cons rfl (.rfl' _) (.cons rfl (.rfl' _) (.nil))))) (hj1 15 H)
    · replace H := ifF hc H; clear hc
      refine .exit rfl ?_
      refine .seq ?_
      refine .region ?_
      refine .q (q_move rfl) rfl ?_
      refine .q (q_assign rfl) rfl ?_
      refine .q (q_assign rfl) rfl ?_
      refine .nil ?_
      refine .retN [.tmp 2, .tmp 3] [.tsl 1 (v4bl1.map rB8) 0, .d (cI 0)] Tryd.func50 Tryd.results50 ⟨rfl, rfl, trivial⟩ ?_
      cases H
      cases HK1
      exact ⟨_, EVle.tupL (ds := [slOf 1 rB8 v4bl1, cI 0]) ⟨.tsl _ _ _, .rfl' _, trivial⟩, rfl⟩

set_option maxRecDepth 100000 in
set_option maxHeartbeats 1000000 in
theorem c_f_tagged_bytes {v0n : Int} {r : (List UInt8)} (H : f_tagged_bytes v0n = some r) : ACall Tryd.prog 53 [cI v0n] (· = slOf 1 rB8 r) := by
  obtain ⟨i5, hi5, hz5, hs5, hb5⟩ := in_5
  refine ACall.enter' Tryd.func53 rfl Tryd.ntmps53 rfl fun S hS => ?_
  unfold f_tagged_bytes at H
  change ARun _ _ _ _ _ _ [(0, .d (cI v0n))] _
  refine .seq ?_
  refine .region ?_
  refine .q (q_assign rfl) rfl ?_
  refine .nil ?_
  refine .seq ?_
  refine .region ?_
  refine .q (q_assign rfl) rfl ?_
  refine .nil ?_
  refine .seq ?_
  refine .block ?_
  obtain ⟨n1, H⟩ := loop_some H
  refine .loop (ι := Nat × (Int × List UInt8)) (fun p => [(0, .d (cI p.2.1)), (3, .d (slOf 1 rB8 p.2.2))]) (fun p => ⟨[], []⟩) (fun p => iter (fun s => f_tagged_bytes_l1 s.1 s.2) p.1 p.2 = some r) (·.1) (n1, (v0n, [])) H (.cons rfl (.rfl' _) (.cons rfl (.nil 1) (.nil))) rfl ?_
  rintro ⟨m1, v0nl1, v3outl1⟩ HI ih1
  obtain ⟨n1, q1, hm1, H, HK1⟩ := iter_succ HI
  clear HI
  replace H : f_tagged_bytes_l1 v0nl1 v3outl1 = some q1 := H
  unfold f_tagged_bytes_l1 at H
  change ARun _ _ _ _ _ _ [(0, .d (cI v0nl1)), (3, .d (slOf 1 rB8 v3outl1))] ⟨[], []⟩
  refine .seq ?_
  refine .seq ?_
  refine .region ?_
  refine .q (q_move rfl) rfl ?_
  refine .q (q_gtr rfl rfl) rfl ?_
  refine .nil ?_
  refine .cond rfl (fun hc => ?_) (fun hc => ?_)
  · replace H := ifT hc H; clear hc
    refine .skip ?_
    refine .seq ?_
    refine .block ?_
    refine .region ?_
    refine .q (q_move rfl) rfl ?_
    refine .q (x := .d (cU8 (UInt8.ofInt v0nl1))) (q_conv8 Tryd.underlying3 Tryd.underlying5 rfl) rfl ?_
    refine .v (x := .tsl 1 (([UInt8.ofInt v0nl1] : List UInt8).map rB8) 0) (v_buildSliceT (n := 1) Tryd.underlying32 hi5 hs5 hz5 rfl rfl rfl rfl rfl) rfl ?_
    refine .withSt (st' := ⟨[], [⟨5, 1, ([UInt8.ofInt v0nl1] : List UInt8).length, none⟩]⟩) rfl ?_
    refine .q (q_move rfl) rfl ?_
    obtain ⟨hk1, H⟩ := ck_some H
    refine .v (x := .tsl 1 ((([UInt8.ofInt v0nl1] : List UInt8) ++ v3outl1).map rB8) 0) (v_appendL (l := ([UInt8.ofInt v0nl1] : List UInt8)) (l' := v3outl1) (row := rB8) Tryd.underlying32 hi5 hz5 hs5 rfl (by rw [hb5]; decide) rfl rfl rfl rfl hk1) rfl ?_
    refine .withSt (st' := ⟨[], [⟨5, 1, (([UInt8.ofInt v0nl1] : List UInt8) ++ v3outl1).length, none⟩]⟩) rfl ?_
    refine .q (q_assign rfl) rfl ?_
    refine .nil ?_
    refine .inBlock ?_
    refine .region ?_
    refine .q (q_move rfl) rfl ?_
    obtain ⟨hk2, H⟩ := ck_some H
    refine .q (x := .d (cI (v0nl1 / 2 ^ (Int.toNat (8))))) (q_shrI rfl rfl hk2) rfl ?_
    refine .q (q_assign rfl) rfl ?_
    refine .nil ?_
    cases H
    exact .to 0 0 (env' := [(0, .d (cI (v0nl1 / 2 ^ (Int.toNat (8))))), (3, .d (slOf 1 rB8 (([UInt8.ofInt v0nl1] : List UInt8) ++ v3outl1)))]) (st' := ⟨[], []⟩) (.cons rfl (.rfl' _) (.cons rfl (.tsl _ _ _) .nil)) rfl rfl rfl rfl rfl (by rw [hS]; exact Nat.le_of_ble_eq_true rfl) (by rw [hS]; exact Nat.le_of_ble_eq_true rfl) <| .sub (.cons rfl (.rfl' _) (.cons rfl (.rfl' _) (.nil))) (ih1 (n1, (v0nl1 / 2 ^ (Int.toNat (8)), ([UInt8.ofInt v0nl1] : List UInt8) ++ v3outl1)) HK1 hm1)
  · replace H := ifF hc H; clear hc
    refine .exit rfl ?_
    refine .seq ?_
    refine .region ?_
    refine .q (q_move rfl) rfl ?_
    refine .q (q_assign rfl) rfl ?_
    refine .nil ?_
    refine .retN [.tmp 2] [.d (slOf 1 rB8 v3outl1)] Tryd.func53 Tryd.results53 ⟨rfl, trivial⟩ ?_
    cases H
    cases HK1
    exact ⟨_, .rfl' _, rfl⟩

set_option maxRecDepth 100000 in
set_option maxHeartbeats 1000000 in
theorem c_f_tagged_flag {v0holds : Bool} {v1n : Int} {r : Int} (H : f_tagged_flag v0holds v1n = some r) : ACall Tryd.prog 54 [cB v0holds, cI v1n] (· = cI r) := by
  refine ACall.enter' Tryd.func54 rfl Tryd.ntmps54 rfl fun S hS => ?_
  unfold f_tagged_flag at H
  change ARun _ _ _ _ _ _ [(0, .d (cB v0holds)), (1, .d (cI v1n))] _
  refine .seq ?_
  refine .region ?_
  refine .q (q_assign rfl) rfl ?_
  refine .nil ?_
  refine .seq ?_
  refine .seq ?_
  refine .region ?_
  refine .q (q_move rfl) rfl ?_
  refine .nil ?_
  refine .cond rfl (fun hc => ?_) (fun hc => ?_)
  · replace H := ifT hc H; clear hc
    refine .seq ?_
    refine .region ?_
    refine .q (q_move rfl) rfl ?_
    refine .q (q_assign rfl) rfl ?_
    refine .nil ?_
    refine .retN [.tmp 4] [.d (cI v1n)] Tryd.func54 Tryd.results54 ⟨rfl, trivial⟩ ?_
    cases H
    exact ⟨_, .rfl' _, rfl⟩
  · replace H := ifF hc H; clear hc
    refine .skip ?_
    refine .seq ?_
    refine .region ?_
    refine .q (q_assign rfl) rfl ?_
    refine .nil ?_
    refine .retN [.tmp 4] [.d (cI 0)] Tryd.func54 Tryd.results54 ⟨rfl, trivial⟩ ?_
    cases H
    exact ⟨_, .rfl' _, rfl⟩

end Go.Proofs.YtccmaffefdcikaaDoor

set_option linter.unusedSimpArgs false
set_option linter.unusedVariables false
namespace Go.Proofs.YtccmaffefdcikaaDoor
open Go.RowKit Go.Abs
set_option maxRecDepth 100000 in
set_option maxHeartbeats 1000000 in
theorem c_g_tagged_put {v1tag : Int} {v2value : List UInt8} {y0t0p : List UInt8} {n0p : Nat} {r : (List UInt8)} (H : g_tagged_put v1tag v2value y0t0p = some r) : ACallS Tryd.prog 52 [.vc 0 n0p, .d (cI v1tag), .d (slOf 1 rB8 v2value)] ⟨[], [⟨5, 1, n0p, some (y0t0p.map rB8)⟩]⟩ (QE (.vc 0 ((r).length)) ⟨[], [⟨5, 1, r.length, some (r.map rB8)⟩]⟩) := by
  obtain ⟨i5, hi5, hz5, hs5, hb5⟩ := in_5
  refine ACallS.keep ?_
  refine ACallS.enter Tryd.func52 rfl Tryd.ntmps52 rfl fun S hS => ?_
  unfold g_tagged_put at H
  change ARun _ _ _ _ _ _ [(0, .vc 0 n0p), (1, .d (cI v1tag)), (2, .d (slOf 1 rB8 v2value))] _
  refine .seq ?_
  refine .region ?_
  refine .q (q_assign rfl) rfl ?_
  refine .nil ?_
  refine .seq ?_
  refine .region ?_
  refine .q (q_move rfl) rfl ?_
  refine .q (q_move rfl) rfl ?_
  refine .q (x := .d (cU8 (UInt8.ofInt v1tag))) (q_conv8 Tryd.underlying3 Tryd.underlying5 rfl) rfl ?_
  refine .q (q_move rfl) rfl ?_
  refine .q (q_lenL (l := v2value) (row := rB8) Tryd.underlying32 rfl rfl) rfl ?_
  refine .q (x := .d (cU8 (UInt8.ofInt (v2value.length : Int)))) (q_conv8 Tryd.underlying3 Tryd.underlying5 rfl) rfl ?_
  refine .g (x := .d (slOf 1 rB8 ([UInt8.ofInt v1tag, UInt8.ofInt (v2value.length : Int)] : List UInt8))) (g_buildSliceN (n := 2) (rows := ([UInt8.ofInt v1tag, UInt8.ofInt (v2value.length : Int)] : List UInt8).map rB8) Tryd.underlying32 hi5 hs5 hz5 rfl rfl rfl rfl rfl) rfl ?_
  obtain ⟨hk1, H⟩ := ck_some H
  refine .v (x := .vc 0 ((y0t0p ++ ([UInt8.ofInt v1tag, UInt8.ofInt (v2value.length : Int)] : List UInt8)).length)) (v_appendV (l := y0t0p) (l' := ([UInt8.ofInt v1tag, UInt8.ofInt (v2value.length : Int)] : List UInt8)) (row := rB8) Tryd.underlying32 hi5 hz5 hs5 rfl (by rw [hb5]; decide) rfl rfl rfl rfl hk1) rfl ?_
  refine .withSt (st' := ⟨[], [⟨5, 1, ((y0t0p ++ ([UInt8.ofInt v1tag, UInt8.ofInt (v2value.length : Int)] : List UInt8)).length), some ((y0t0p ++ ([UInt8.ofInt v1tag, UInt8.ofInt (v2value.length : Int)] : List UInt8)).map rB8)⟩]⟩) rfl ?_
  refine .q (q_assign rfl) rfl ?_
  refine .nil ?_
  refine .seq ?_
  refine .region ?_
  refine .q (q_move rfl) rfl ?_
  refine .q (q_move rfl) rfl ?_
  obtain ⟨hk2, H⟩ := ck_some H
  refine .v (x := .vc 0 (((y0t0p ++ ([UInt8.ofInt v1tag, UInt8.ofInt (v2value.length : Int)] : List UInt8)) ++ v2value).length)) (v_appendV (l := y0t0p ++ ([UInt8.ofInt v1tag, UInt8.ofInt (v2value.length : Int)] : List UInt8)) (l' := v2value) (row := rB8) Tryd.underlying32 hi5 hz5 hs5 rfl (by rw [hb5]; decide) rfl rfl rfl rfl hk2) rfl ?_
  refine .withSt (st' := ⟨[], [⟨5, 1, (((y0t0p ++ ([UInt8.ofInt v1tag, UInt8.ofInt (v2value.length : Int)] : List UInt8)) ++ v2value).length), some (((y0t0p ++ ([UInt8.ofInt v1tag, UInt8.ofInt (v2value.length : Int)] : List UInt8)) ++ v2value).map rB8)⟩]⟩) rfl ?_
  refine .q (q_assign rfl) rfl ?_
  refine .nil ?_
  refine .retN [.tmp 6] [.vc 0 (((y0t0p ++ ([UInt8.ofInt v1tag, UInt8.ofInt (v2value.length : Int)] : List UInt8)) ++ v2value).length)] Tryd.func52 Tryd.results52 ⟨rfl, trivial⟩ ?_
  cases H
  exact ⟨[], [0], rfl, rfl, rfl, rfl, rfl, rfl, rfl, rfl, .rfl' _⟩

set_option maxRecDepth 100000 in
set_option maxHeartbeats 1000000 in
theorem c_g_tagged_Encode_1 {v0tag : Int} {v1value : List UInt8} {y0t0p : List UInt8} {n0p : Nat} {r : (List UInt8)} (H : g_tagged_Encode_1 v0tag v1value y0t0p = some r) : ACallS Tryd.prog 51 [.d (cI v0tag), .d (slOf 1 rB8 v1value), .ref 0 0] ⟨[.row 32 [.vc 0 n0p]], [⟨5, 1, n0p, some (y0t0p.map rB8)⟩]⟩ (QE (.d (.tup [])) ⟨[.row 32 [.vc 0 r.length]], [⟨5, 1, r.length, some (r.map rB8)⟩]⟩) := by
  refine ACallS.keep ?_
  refine ACallS.enter Tryd.func51 rfl Tryd.ntmps51 rfl fun S hS => ?_
  unfold g_tagged_Encode_1 at H
  change ARun _ _ _ _ _ _ [(0, .d (cI v0tag)), (1, .d (slOf 1 rB8 v1value)), (2, .ref 0 0)] _
  refine .seq ?_
  refine .region ?_
  refine .q (q_move rfl) rfl ?_
  refine .q (q_lenL (l := v1value) (row := rB8) Tryd.underlying32 rfl rfl) rfl ?_
  refine .q (q_gtr rfl rfl) rfl ?_
  refine .nil ?_
  refine .cond rfl (fun hc => ?_) (fun hc => ?_)
  · replace H := ifT hc H; clear hc
    refine .region ?_
    refine .q (x := .vc 0 n0p) (q_loadO one_32 rfl rfl rfl) rfl ?_
    refine .q (q_move rfl) rfl ?_
    refine .q (q_move rfl) rfl ?_
    obtain ⟨y1, hy1, H⟩ := bind_some' H
    refine .callF en_52 rfl [] [0] (x := .vc 0 ((y1).length)) (st' := ⟨[.row 32 [.vc 0 n0p]], [⟨5, 1, y1.length, some (y1.map rB8)⟩]⟩) rfl (c_g_tagged_put (hy1)) ⟨.rfl' _, .rfl' _, .rfl' _, trivial⟩ rfl rfl rfl rfl rfl rfl ?_
    refine .withSt (st' := ⟨[.row 32 [.vc 0 n0p]], [⟨5, 1, y1.length, some (y1.map rB8)⟩]⟩) rfl ?_
    refine .u (u_store rfl rfl rfl rfl (Nat.le_of_ble_eq_true rfl) sz_32) rfl ?_
    refine .withSt (st' := ⟨[.row 32 [.vc 0 ((y1).length)]], [⟨5, 1, y1.length, some (y1.map rB8)⟩]⟩) rfl ?_
    refine .nil ?_
    refine .fin0 Tryd.func51 Tryd.results51 ?_
    cases H
    exact ⟨[0], [0], rfl, rfl, rfl, rfl, rfl, rfl, rfl, rfl, EVle.tupL (ds := []) trivial⟩
  · replace H := ifF hc H; clear hc
    refine .skip ?_
    refine .normV (l := y0t0p) (row := rB8) (tk := 0) (fun z => []) (fun z => ⟨[.row 32 [.vc 0 z]], [⟨5, 1, z, some (y0t0p.map rB8)⟩]⟩) rfl (.nil) rfl ?_
    refine .fin0 Tryd.func51 Tryd.results51 ?_
    cases H
    exact ⟨[0], [0], rfl, rfl, rfl, rfl, rfl, rfl, rfl, rfl, EVle.tupL (ds := []) trivial⟩

set_option maxRecDepth 100000 in
set_option maxHeartbeats 1000000 in
theorem c_f_tagged_Encode {v0 : Record} {r : (List UInt8) × Int} (H : f_tagged_Encode v0 = some r) : ACall Tryd.prog 31 [.agg (Record.row v0)] (· = .tup [slOf 1 rB8 r.1, cI r.2]) := by
  obtain ⟨i5, hi5, hz5, hs5, hb5⟩ := in_5
  refine ACall.enter' Tryd.func31 rfl Tryd.ntmps31 rfl fun S hS => ?_
  unfold f_tagged_Encode at H
  change ARun _ _ _ _ _ _ [(0, .d (.agg (Record.row v0)))] _
  refine .seq ?_
  refine .region ?_
  refine .v (x := .ref 0 0) (v_box rfl rfl) rfl ?_
  refine .withSt (st' := ⟨[.row 39 [.d (cI v0.source), .d (cI v0.serial), .d (cI v0.kind), .d (cS v0.a), .d (cS v0.b), .d (cI v0.start), .d (cI v0.units), .d (cI v0.call), .d (cI v0.part), .d (cB v0.last), .d (cI v0.trunk), .d (cB v0.inbound)]], []⟩) rfl ?_
  refine .q (q_assign rfl) rfl ?_
  refine .q (q_assign rfl) rfl ?_
  refine .nil ?_
  refine .seq ?_
  refine .seq ?_
  refine .region ?_
  refine .q (x := .d (.agg (Record.row v0))) (q_loadOA one_39 sz_39 rfl rfl (Nat.le_of_ble_eq_true rfl) rfl) rfl ?_
  obtain ⟨y1, hy1, H⟩ := bind_some' H
  refine .g (x := .d (.tup [cS y1.1, cI y1.2])) (g_call en_24 rfl rfl (c_f_textual_Encode (hy1))) rfl ?_
  refine .q (q_move rfl) rfl ?_
  refine .q (q_extract rfl rfl) rfl ?_
  refine .q (q_extract rfl rfl) rfl ?_
  refine .q (q_assign rfl) rfl ?_
  refine .q (q_assign rfl) rfl ?_
  refine .nil ?_
  refine .seq ?_
  refine .region ?_
  refine .q (q_move rfl) rfl ?_
  refine .q (q_neq rfl rfl) rfl ?_
  refine .nil ?_
  refine .cond rfl (fun hc => ?_) (fun hc => ?_)
  · replace H := ifT hc H; clear hc
    refine .seq ?_
    refine .region ?_
    refine .q (q_move rfl) rfl ?_
    refine .q (q_assign rfl) rfl ?_
    refine .q (q_assign rfl) rfl ?_
    refine .nil ?_
    refine .retN [.tmp 2, .tmp 3] [.d (nilD), .d (cI y1.2)] Tryd.func31 Tryd.results31 ⟨rfl, rfl, trivial⟩ ?_
    cases H
    exact ⟨_, EVle.tupL (ds := [slOf 1 rB8 ([] : List UInt8), cI y1.2]) ⟨.nil 1, .rfl' _, trivial⟩, rfl⟩
  · replace H := ifF hc H; clear hc
    refine .skip ?_
    refine .seq ?_
    refine .region ?_
    refine .q (q_fieldRef fo_39_3 rfl) rfl ?_
    refine .q (x := .d (cS v0.a)) (q_loadO one_9 rfl rfl rfl) rfl ?_
    obtain ⟨y2, hy2, H⟩ := bind_some' H
    refine .g (x := .d (.tup [slOf 1 rB8 y2.1, cI y2.2])) (g_call en_50 rfl rfl (c_f_digits_Pack (hy2))) rfl ?_
    refine .q (q_move rfl) rfl ?_
    refine .q (q_extract rfl rfl) rfl ?_
    refine .q (q_extract rfl rfl) rfl ?_
    refine .q (q_assign rfl) rfl ?_
    refine .q (q_assign rfl) rfl ?_
    refine .nil ?_
    refine .seq ?_
    refine .region ?_
    refine .q (q_fieldRef fo_39_4 rfl) rfl ?_
    refine .q (x := .d (cS v0.b)) (q_loadO one_9 rfl rfl rfl) rfl ?_
    obtain ⟨y3, hy3, H⟩ := bind_some' H
    refine .g (x := .d (.tup [slOf 1 rB8 y3.1, cI y3.2])) (g_call en_50 rfl rfl (c_f_digits_Pack (hy3))) rfl ?_
    refine .q (q_move rfl) rfl ?_
    refine .q (q_extract rfl rfl) rfl ?_
    refine .q (q_extract rfl rfl) rfl ?_
    refine .q (q_assign rfl) rfl ?_
    refine .q (q_assign rfl) rfl ?_
    refine .nil ?_
    refine .seq ?_
    refine .region ?_
    obtain ⟨hk1, H⟩ := ck_some H
    refine .v (x := .vc 0 ((List.replicate (Int.toNat (2)) 0 : List UInt8).length)) (v_makeV (row := rB8) (a := 2) (b := 2) (a0 := 0) Tryd.underlying32 hi5 hz5 hs5 rfl (by rw [hb5]; decide) rfl rfl rfl hk1) rfl ?_
    refine .withSt (st' := ⟨[.row 39 [.d (cI v0.source), .d (cI v0.serial), .d (cI v0.kind), .d (cS v0.a), .d (cS v0.b), .d (cI v0.start), .d (cI v0.units), .d (cI v0.call), .d (cI v0.part), .d (cB v0.last), .d (cI v0.trunk), .d (cB v0.inbound)]], [⟨5, 1, ((List.replicate (Int.toNat (2)) 0 : List UInt8).length), some ((List.replicate (Int.toNat (2)) 0 : List UInt8).map rB8)⟩]⟩) rfl ?_
    refine .v (x := .ref 1 0) (v_alloc zr_32 rfl) rfl ?_
    refine .withSt (st' := ⟨[.row 39 [.d (cI v0.source), .d (cI v0.serial), .d (cI v0.kind), .d (cS v0.a), .d (cS v0.b), .d (cI v0.start), .d (cI v0.units), .d (cI v0.call), .d (cI v0.part), .d (cB v0.last), .d (cI v0.trunk), .d (cB v0.inbound)], .row 32 [.d (nilD)]], [⟨5, 1, ((List.replicate (Int.toNat (2)) 0 : List UInt8).length), some ((List.replicate (Int.toNat (2)) 0 : List UInt8).map rB8)⟩]⟩) rfl ?_
    refine .u (u_store rfl rfl rfl rfl (Nat.le_of_ble_eq_true rfl) sz_32) rfl ?_
    refine .withSt (st' := ⟨[.row 39 [.d (cI v0.source), .d (cI v0.serial), .d (cI v0.kind), .d (cS v0.a), .d (cS v0.b), .d (cI v0.start), .d (cI v0.units), .d (cI v0.call), .d (cI v0.part), .d (cB v0.last), .d (cI v0.trunk), .d (cB v0.inbound)], .row 32 [.vc 0 ((List.replicate (Int.toNat (2)) 0 : List UInt8).length)]], [⟨5, 1, ((List.replicate (Int.toNat (2)) 0 : List UInt8).length), some ((List.replicate (Int.toNat (2)) 0 : List UInt8).map rB8)⟩]⟩) rfl ?_
    refine .nil ?_
    refine .seq ?_
    refine .region ?_
    refine .q (x := .clo 51 [.ref 1 0]) (q_makeFunc rfl) rfl ?_
    refine .q (q_assign rfl) rfl ?_
    refine .nil ?_
    refine .seq ?_
    refine .region ?_
    refine .q (q_move rfl) rfl ?_
    refine .q (q_fieldRef fo_39_2 rfl) rfl ?_
    refine .q (x := .d (cI v0.kind)) (q_loadO one_3 rfl rfl rfl) rfl ?_
    obtain ⟨y4, hy4, H⟩ := bind_some' H
    refine .g (x := .d (slOf 1 rB8 y4)) (g_call en_53 rfl rfl (c_f_tagged_bytes (hy4))) rfl ?_
    obtain ⟨y5, hy5, H⟩ := bind_some' H
    refine .callFC en_51 rfl rfl [1] [0] (x := .d (.tup [])) (st' := ⟨[.row 39 [.d (cI v0.source), .d (cI v0.serial), .d (cI v0.kind), .d (cS v0.a), .d (cS v0.b), .d (cI v0.start), .d (cI v0.units), .d (cI v0.call), .d (cI v0.part), .d (cB v0.last), .d (cI v0.trunk), .d (cB v0.inbound)], .row 32 [.vc 0 y5.length]], [⟨5, 1, y5.length, some (y5.map rB8)⟩]⟩) rfl (c_g_tagged_Encode_1 (hy5)) ⟨.rfl' _, .rfl' _, .rfl' _, trivial⟩ rfl rfl rfl rfl rfl rfl ?_
    refine .withSt (st' := ⟨[.row 39 [.d (cI v0.source), .d (cI v0.serial), .d (cI v0.kind), .d (cS v0.a), .d (cS v0.b), .d (cI v0.start), .d (cI v0.units), .d (cI v0.call), .d (cI v0.part), .d (cB v0.last), .d (cI v0.trunk), .d (cB v0.inbound)], .row 32 [.vc 0 y5.length]], [⟨5, 1, y5.length, some (y5.map rB8)⟩]⟩) rfl ?_
    refine .nil ?_
    refine .seq ?_
    refine .region ?_
    refine .q (q_move rfl) rfl ?_
    refine .q (q_fieldRef fo_39_0 rfl) rfl ?_
    refine .q (x := .d (cI v0.source)) (q_loadO one_3 rfl rfl rfl) rfl ?_
    obtain ⟨y6, hy6, H⟩ := bind_some' H
    refine .g (x := .d (slOf 1 rB8 y6)) (g_call en_53 rfl rfl (c_f_tagged_bytes (hy6))) rfl ?_
    obtain ⟨y7, hy7, H⟩ := bind_some' H
    refine .callFC en_51 rfl rfl [1] [0] (x := .d (.tup [])) (st' := ⟨[.row 39 [.d (cI v0.source), .d (cI v0.serial), .d (cI v0.kind), .d (cS v0.a), .d (cS v0.b), .d (cI v0.start), .d (cI v0.units), .d (cI v0.call), .d (cI v0.part), .d (cB v0.last), .d (cI v0.trunk), .d (cB v0.inbound)], .row 32 [.vc 0 y7.length]], [⟨5, 1, y7.length, some (y7.map rB8)⟩]⟩) rfl (c_g_tagged_Encode_1 (hy7)) ⟨.rfl' _, .rfl' _, .rfl' _, trivial⟩ rfl rfl rfl rfl rfl rfl ?_
    refine .withSt (st' := ⟨[.row 39 [.d (cI v0.source), .d (cI v0.serial), .d (cI v0.kind), .d (cS v0.a), .d (cS v0.b), .d (cI v0.start), .d (cI v0.units), .d (cI v0.call), .d (cI v0.part), .d (cB v0.last), .d (cI v0.trunk), .d (cB v0.inbound)], .row 32 [.vc 0 y7.length]], [⟨5, 1, y7.length, some (y7.map rB8)⟩]⟩) rfl ?_
    refine .nil ?_
    refine .seq ?_
    refine .region ?_
    refine .q (q_move rfl) rfl ?_
    refine .q (q_fieldRef fo_39_1 rfl) rfl ?_
    refine .q (x := .d (cI v0.serial)) (q_loadO one_3 rfl rfl rfl) rfl ?_
    obtain ⟨y8, hy8, H⟩ := bind_some' H
    refine .g (x := .d (slOf 1 rB8 y8)) (g_call en_53 rfl rfl (c_f_tagged_bytes (hy8))) rfl ?_
    obtain ⟨y9, hy9, H⟩ := bind_some' H
    refine .callFC en_51 rfl rfl [1] [0] (x := .d (.tup [])) (st' := ⟨[.row 39 [.d (cI v0.source), .d (cI v0.serial), .d (cI v0.kind), .d (cS v0.a), .d (cS v0.b), .d (cI v0.start), .d (cI v0.units), .d (cI v0.call), .d (cI v0.part), .d (cB v0.last), .d (cI v0.trunk), .d (cB v0.inbound)], .row 32 [.vc 0 y9.length]], [⟨5, 1, y9.length, some (y9.map rB8)⟩]⟩) rfl (c_g_tagged_Encode_1 (hy9)) ⟨.rfl' _, .rfl' _, .rfl' _, trivial⟩ rfl rfl rfl rfl rfl rfl ?_
    refine .withSt (st' := ⟨[.row 39 [.d (cI v0.source), .d (cI v0.serial), .d (cI v0.kind), .d (cS v0.a), .d (cS v0.b), .d (cI v0.start), .d (cI v0.units), .d (cI v0.call), .d (cI v0.part), .d (cB v0.last), .d (cI v0.trunk), .d (cB v0.inbound)], .row 32 [.vc 0 y9.length]], [⟨5, 1, y9.length, some (y9.map rB8)⟩]⟩) rfl ?_
    refine .nil ?_
    refine .seq ?_
    refine .region ?_
    refine .q (q_move rfl) rfl ?_
    refine .q (q_move rfl) rfl ?_
    obtain ⟨y10, hy10, H⟩ := bind_some' H
    refine .callFC en_51 rfl rfl [1] [0] (x := .d (.tup [])) (st' := ⟨[.row 39 [.d (cI v0.source), .d (cI v0.serial), .d (cI v0.kind), .d (cS v0.a), .d (cS v0.b), .d (cI v0.start), .d (cI v0.units), .d (cI v0.call), .d (cI v0.part), .d (cB v0.last), .d (cI v0.trunk), .d (cB v0.inbound)], .row 32 [.vc 0 y10.length]], [⟨5, 1, y10.length, some (y10.map rB8)⟩]⟩) rfl (c_g_tagged_Encode_1 (hy10)) ⟨.rfl' _, .rfl' _, .rfl' _, trivial⟩ rfl rfl rfl rfl rfl rfl ?_
    refine .withSt (st' := ⟨[.row 39 [.d (cI v0.source), .d (cI v0.serial), .d (cI v0.kind), .d (cS v0.a), .d (cS v0.b), .d (cI v0.start), .d (cI v0.units), .d (cI v0.call), .d (cI v0.part), .d (cB v0.last), .d (cI v0.trunk), .d (cB v0.inbound)], .row 32 [.vc 0 y10.length]], [⟨5, 1, y10.length, some (y10.map rB8)⟩]⟩) rfl ?_
    refine .nil ?_
    refine .seq ?_
    refine .region ?_
    refine .q (q_move rfl) rfl ?_
    refine .q (q_move rfl) rfl ?_
    obtain ⟨y11, hy11, H⟩ := bind_some' H
    refine .callFC en_51 rfl rfl [1] [0] (x := .d (.tup [])) (st' := ⟨[.row 39 [.d (cI v0.source), .d (cI v0.serial), .d (cI v0.kind), .d (cS v0.a), .d (cS v0.b), .d (cI v0.start), .d (cI v0.units), .d (cI v0.call), .d (cI v0.part), .d (cB v0.last), .d (cI v0.trunk), .d (cB v0.inbound)], .row 32 [.vc 0 y11.length]], [⟨5, 1, y11.length, some (y11.map rB8)⟩]⟩) rfl (c_g_tagged_Encode_1 (hy11)) ⟨.rfl' _, .rfl' _, .rfl' _, trivial⟩ rfl rfl rfl rfl rfl rfl ?_
    refine .withSt (st' := ⟨[.row 39 [.d (cI v0.source), .d (cI v0.serial), .d (cI v0.kind), .d (cS v0.a), .d (cS v0.b), .d (cI v0.start), .d (cI v0.units), .d (cI v0.call), .d (cI v0.part), .d (cB v0.last), .d (cI v0.trunk), .d (cB v0.inbound)], .row 32 [.vc 0 y11.length]], [⟨5, 1, y11.length, some (y11.map rB8)⟩]⟩) rfl ?_
    refine .nil ?_
    refine .seq ?_
    refine .region ?_
    refine .q (q_move rfl) rfl ?_
    refine .q (q_fieldRef fo_39_5 rfl) rfl ?_
    refine .q (x := .d (cI v0.start)) (q_loadO one_3 rfl rfl rfl) rfl ?_
    obtain ⟨y12, hy12, H⟩ := bind_some' H
    refine .g (x := .d (slOf 1 rB8 y12)) (g_call en_53 rfl rfl (c_f_tagged_bytes (hy12))) rfl ?_
    obtain ⟨y13, hy13, H⟩ := bind_some' H
    refine .callFC en_51 rfl rfl [1] [0] (x := .d (.tup [])) (st' := ⟨[.row 39 [.d (cI v0.source), .d (cI v0.serial), .d (cI v0.kind), .d (cS v0.a), .d (cS v0.b), .d (cI v0.start), .d (cI v0.units), .d (cI v0.call), .d (cI v0.part), .d (cB v0.last), .d (cI v0.trunk), .d (cB v0.inbound)], .row 32 [.vc 0 y13.length]], [⟨5, 1, y13.length, some (y13.map rB8)⟩]⟩) rfl (c_g_tagged_Encode_1 (hy13)) ⟨.rfl' _, .rfl' _, .rfl' _, trivial⟩ rfl rfl rfl rfl rfl rfl ?_
    refine .withSt (st' := ⟨[.row 39 [.d (cI v0.source), .d (cI v0.serial), .d (cI v0.kind), .d (cS v0.a), .d (cS v0.b), .d (cI v0.start), .d (cI v0.units), .d (cI v0.call), .d (cI v0.part), .d (cB v0.last), .d (cI v0.trunk), .d (cB v0.inbound)], .row 32 [.vc 0 y13.length]], [⟨5, 1, y13.length, some (y13.map rB8)⟩]⟩) rfl ?_
    refine .nil ?_
    refine .seq ?_
    refine .region ?_
    refine .q (q_move rfl) rfl ?_
    refine .q (q_fieldRef fo_39_6 rfl) rfl ?_
    refine .q (x := .d (cI v0.units)) (q_loadO one_3 rfl rfl rfl) rfl ?_
    obtain ⟨y14, hy14, H⟩ := bind_some' H
    refine .g (x := .d (slOf 1 rB8 y14)) (g_call en_53 rfl rfl (c_f_tagged_bytes (hy14))) rfl ?_
    obtain ⟨y15, hy15, H⟩ := bind_some' H
    refine .callFC en_51 rfl rfl [1] [0] (x := .d (.tup [])) (st' := ⟨[.row 39 [.d (cI v0.source), .d (cI v0.serial), .d (cI v0.kind), .d (cS v0.a), .d (cS v0.b), .d (cI v0.start), .d (cI v0.units), .d (cI v0.call), .d (cI v0.part), .d (cB v0.last), .d (cI v0.trunk), .d (cB v0.inbound)], .row 32 [.vc 0 y15.length]], [⟨5, 1, y15.length, some (y15.map rB8)⟩]⟩) rfl (c_g_tagged_Encode_1 (hy15)) ⟨.rfl' _, .rfl' _, .rfl' _, trivial⟩ rfl rfl rfl rfl rfl rfl ?_
    refine .withSt (st' := ⟨[.row 39 [.d (cI v0.source), .d (cI v0.serial), .d (cI v0.kind), .d (cS v0.a), .d (cS v0.b), .d (cI v0.start), .d (cI v0.units), .d (cI v0.call), .d (cI v0.part), .d (cB v0.last), .d (cI v0.trunk), .d (cB v0.inbound)], .row 32 [.vc 0 y15.length]], [⟨5, 1, y15.length, some (y15.map rB8)⟩]⟩) rfl ?_
    refine .nil ?_
    refine .seq ?_
    refine .region ?_
    refine .q (q_move rfl) rfl ?_
    refine .q (q_fieldRef fo_39_7 rfl) rfl ?_
    refine .q (x := .d (cI v0.call)) (q_loadO one_3 rfl rfl rfl) rfl ?_
    obtain ⟨y16, hy16, H⟩ := bind_some' H
    refine .g (x := .d (slOf 1 rB8 y16)) (g_call en_53 rfl rfl (c_f_tagged_bytes (hy16))) rfl ?_
    obtain ⟨y17, hy17, H⟩ := bind_some' H
    refine .callFC en_51 rfl rfl [1] [0] (x := .d (.tup [])) (st' := ⟨[.row 39 [.d (cI v0.source), .d (cI v0.serial), .d (cI v0.kind), .d (cS v0.a), .d (cS v0.b), .d (cI v0.start), .d (cI v0.units), .d (cI v0.call), .d (cI v0.part), .d (cB v0.last), .d (cI v0.trunk), .d (cB v0.inbound)], .row 32 [.vc 0 y17.length]], [⟨5, 1, y17.length, some (y17.map rB8)⟩]⟩) rfl (c_g_tagged_Encode_1 (hy17)) ⟨.rfl' _, .rfl' _, .rfl' _, trivial⟩ rfl rfl rfl rfl rfl rfl ?_
    refine .withSt (st' := ⟨[.row 39 [.d (cI v0.source), .d (cI v0.serial), .d (cI v0.kind), .d (cS v0.a), .d (cS v0.b), .d (cI v0.start), .d (cI v0.units), .d (cI v0.call), .d (cI v0.part), .d (cB v0.last), .d (cI v0.trunk), .d (cB v0.inbound)], .row 32 [.vc 0 y17.length]], [⟨5, 1, y17.length, some (y17.map rB8)⟩]⟩) rfl ?_
    refine .nil ?_
    refine .seq ?_
    refine .region ?_
    refine .q (q_move rfl) rfl ?_
    refine .q (q_fieldRef fo_39_8 rfl) rfl ?_
    refine .q (x := .d (cI v0.part)) (q_loadO one_3 rfl rfl rfl) rfl ?_
    obtain ⟨y18, hy18, H⟩ := bind_some' H
    refine .g (x := .d (slOf 1 rB8 y18)) (g_call en_53 rfl rfl (c_f_tagged_bytes (hy18))) rfl ?_
    obtain ⟨y19, hy19, H⟩ := bind_some' H
    refine .callFC en_51 rfl rfl [1] [0] (x := .d (.tup [])) (st' := ⟨[.row 39 [.d (cI v0.source), .d (cI v0.serial), .d (cI v0.kind), .d (cS v0.a), .d (cS v0.b), .d (cI v0.start), .d (cI v0.units), .d (cI v0.call), .d (cI v0.part), .d (cB v0.last), .d (cI v0.trunk), .d (cB v0.inbound)], .row 32 [.vc 0 y19.length]], [⟨5, 1, y19.length, some (y19.map rB8)⟩]⟩) rfl (c_g_tagged_Encode_1 (hy19)) ⟨.rfl' _, .rfl' _, .rfl' _, trivial⟩ rfl rfl rfl rfl rfl rfl ?_
    refine .withSt (st' := ⟨[.row 39 [.d (cI v0.source), .d (cI v0.serial), .d (cI v0.kind), .d (cS v0.a), .d (cS v0.b), .d (cI v0.start), .d (cI v0.units), .d (cI v0.call), .d (cI v0.part), .d (cB v0.last), .d (cI v0.trunk), .d (cB v0.inbound)], .row 32 [.vc 0 y19.length]], [⟨5, 1, y19.length, some (y19.map rB8)⟩]⟩) rfl ?_
    refine .nil ?_
    refine .seq ?_
    refine .region ?_
    refine .q (q_move rfl) rfl ?_
    refine .q (q_fieldRef fo_39_10 rfl) rfl ?_
    refine .q (x := .d (cI v0.trunk)) (q_loadO one_3 rfl rfl rfl) rfl ?_
    obtain ⟨y20, hy20, H⟩ := bind_some' H
    refine .g (x := .d (slOf 1 rB8 y20)) (g_call en_53 rfl rfl (c_f_tagged_bytes (hy20))) rfl ?_
    obtain ⟨y21, hy21, H⟩ := bind_some' H
    refine .callFC en_51 rfl rfl [1] [0] (x := .d (.tup [])) (st' := ⟨[.row 39 [.d (cI v0.source), .d (cI v0.serial), .d (cI v0.kind), .d (cS v0.a), .d (cS v0.b), .d (cI v0.start), .d (cI v0.units), .d (cI v0.call), .d (cI v0.part), .d (cB v0.last), .d (cI v0.trunk), .d (cB v0.inbound)], .row 32 [.vc 0 y21.length]], [⟨5, 1, y21.length, some (y21.map rB8)⟩]⟩) rfl (c_g_tagged_Encode_1 (hy21)) ⟨.rfl' _, .rfl' _, .rfl' _, trivial⟩ rfl rfl rfl rfl rfl rfl ?_
    refine .withSt (st' := ⟨[.row 39 [.d (cI v0.source), .d (cI v0.serial), .d (cI v0.kind), .d (cS v0.a), .d (cS v0.b), .d (cI v0.start), .d (cI v0.units), .d (cI v0.call), .d (cI v0.part), .d (cB v0.last), .d (cI v0.trunk), .d (cB v0.inbound)], .row 32 [.vc 0 y21.length]], [⟨5, 1, y21.length, some (y21.map rB8)⟩]⟩) rfl ?_
    refine .nil ?_
    refine .seq ?_
    refine .drawn 9 hMix (by kernel_rfl) ?_
    show DOps _ _ _ _ _ _ _ (_ :: _) _ _ _
    refine .q (q_move rfl) rfl ?_
    refine .q (q_fieldRef fo_39_9 rfl) rfl ?_
    refine .q (x := .d (cB v0.last)) (q_loadO one_4 rfl rfl rfl) rfl ?_
    obtain ⟨y22, hy22, H⟩ := bind_some' H
    refine .g (x := .d (cI y22)) (g_call en_54 rfl rfl (c_f_tagged_flag (hy22))) rfl ?_
    refine .q (q_fieldRef fo_39_11 rfl) rfl ?_
    refine .q (x := .d (cB v0.inbound)) (q_loadO one_4 rfl rfl rfl) rfl ?_
    obtain ⟨y23, hy23, H⟩ := bind_some' H
    refine .g (x := .d (cI y23)) (g_call en_54 rfl rfl (c_f_tagged_flag (hy23))) rfl ?_
    obtain ⟨hk2, H⟩ := ck_some H
    refine .q (q_addI rfl rfl hk2.1 hk2.2) rfl ?_
    obtain ⟨y24, hy24, H⟩ := bind_some' H
    refine .g (x := .d (slOf 1 rB8 y24)) (g_call en_53 rfl rfl (c_f_tagged_bytes (hy24))) rfl ?_
    refine .nil ?_
    show AOps _ _ _ _ _ _ (_ :: _) _ _ _
    obtain ⟨y25, hy25, H⟩ := bind_some' H
    refine .callFC en_51 rfl rfl [1] [0] (x := .d (.tup [])) (st' := ⟨[.row 39 [.d (cI v0.source), .d (cI v0.serial), .d (cI v0.kind), .d (cS v0.a), .d (cS v0.b), .d (cI v0.start), .d (cI v0.units), .d (cI v0.call), .d (cI v0.part), .d (cB v0.last), .d (cI v0.trunk), .d (cB v0.inbound)], .row 32 [.vc 0 y25.length]], [⟨5, 1, y25.length, some (y25.map rB8)⟩]⟩) rfl (c_g_tagged_Encode_1 (hy25)) ⟨.rfl' _, .rfl' _, .rfl' _, trivial⟩ rfl rfl rfl rfl rfl rfl ?_
    refine .withSt (st' := ⟨[.row 39 [.d (cI v0.source), .d (cI v0.serial), .d (cI v0.kind), .d (cS v0.a), .d (cS v0.b), .d (cI v0.start), .d (cI v0.units), .d (cI v0.call), .d (cI v0.part), .d (cB v0.last), .d (cI v0.trunk), .d (cB v0.inbound)], .row 32 [.vc 0 y25.length]], [⟨5, 1, y25.length, some (y25.map rB8)⟩]⟩) rfl ?_
    refine .nil ?_
    refine .seq ?_
    refine .region ?_
    refine .q (x := .vc 0 y25.length) (q_loadO one_32 rfl rfl rfl) rfl ?_
    refine .q (x := .d (cI (y25.length : Int))) (q_lenV (l := y25) (row := rB8) Tryd.underlying32 rfl rfl) rfl ?_
    obtain ⟨hk3, H⟩ := ck_some H
    refine .q (q_subI rfl rfl hk3.1 hk3.2) rfl ?_
    refine .q (q_assign rfl) rfl ?_
    refine .nil ?_
    refine .seq ?_
    obtain ⟨hk4, H⟩ := ck_some H
    obtain ⟨hk5, H⟩ := ck_some H
    obtain ⟨hk6, H⟩ := ck_some H
    refine .orders1 9 8 [⟨[.row 39 [.d (cI v0.source), .d (cI v0.serial), .d (cI v0.kind), .d (cS v0.a), .d (cS v0.b), .d (cI v0.start), .d (cI v0.units), .d (cI v0.call), .d (cI v0.part), .d (cB v0.last), .d (cI v0.trunk), .d (cB v0.inbound)], .row 32 [.vc 0 y25.length]], [⟨5, 1, y25.length, some (y25.map rB8)⟩]⟩, ⟨[.row 39 [.d (cI v0.source), .d (cI v0.serial), .d (cI v0.kind), .d (cS v0.a), .d (cS v0.b), .d (cI v0.start), .d (cI v0.units), .d (cI v0.call), .d (cI v0.part), .d (cB v0.last), .d (cI v0.trunk), .d (cB v0.inbound)], .row 32 [.vc 0 y25.length]], [⟨5, 1, y25.length, some ((y25.set (Int.toNat (0)) (UInt8.ofInt (((y25.length : Int) - 2) / 2 ^ (Int.toNat (8))))).map rB8)⟩]⟩] hMix (by kernel_rfl) (by decide) rfl ?_
    show XOps _ _ _ _ _ _ _ _ _ _ (_ :: _) _ _
    refine .g (x := .vc 0 y25.length) 0 0 ⟨OpQ.g (q_loadO one_32 rfl rfl rfl), trivial⟩ rfl (by kernel_rfl) rfl ?_
    refine .g (x := .vc 0 y25.length) 0 1 ⟨OpQ.g (q_loadO one_32 rfl rfl rfl), OpQ.g (q_loadO one_32 rfl rfl rfl), trivial⟩ rfl (by kernel_rfl) rfl ?_
    refine .g (x := .d (cI ((y25.length : Int) - 2))) 0 0 ⟨OpQ.g (q_move rfl), trivial⟩ rfl (by kernel_rfl) rfl ?_
    refine .g (x := .d (cI (((y25.length : Int) - 2) / 2 ^ (Int.toNat (8))))) 0 0 ⟨OpQ.g (q_shrI rfl rfl hk4), trivial⟩ rfl (by kernel_rfl) rfl ?_
    refine .g (x := .d (cU8 (UInt8.ofInt (((y25.length : Int) - 2) / 2 ^ (Int.toNat (8)))))) 0 0 ⟨OpQ.g (q_conv8 Tryd.underlying3 Tryd.underlying5 rfl), trivial⟩ rfl (by kernel_rfl) rfl ?_
    refine .g (x := .d (cI ((y25.length : Int) - 2))) 0 1 ⟨OpQ.g (q_move rfl), OpQ.g (q_move rfl), trivial⟩ rfl (by kernel_rfl) rfl ?_
    refine .g (x := .d (cU8 (UInt8.ofInt ((y25.length : Int) - 2)))) 0 1 ⟨OpQ.g (q_conv8 Tryd.underlying3 Tryd.underlying5 rfl), OpQ.g (q_conv8 Tryd.underlying3 Tryd.underlying5 rfl), trivial⟩ rfl (by kernel_rfl) rfl ?_
    refine .g (x := .vp 0 y25.length (Int.toNat (0)) 0) 0 0 ⟨OpQ.g (q_idxV (l := y25) (row := rB8) (i := 0) Tryd.underlying32 hi5 hs5 rfl rfl rfl hk5), trivial⟩ rfl (by kernel_rfl) rfl ?_
    refine .u 0 (u_storeV (l := y25) (row := rB8) (a := UInt8.ofInt (((y25.length : Int) - 2) / 2 ^ (Int.toNat (8)))) rfl rfl hk6 rfl rfl sz_5 rfl (Nat.le_of_ble_eq_true rfl) rfl) rfl rfl rfl rfl ?_
    refine .nil rfl ?_
    show AOps _ _ _ _ _ _ (_ :: _) _ _ _
    obtain ⟨hk7, H⟩ := ck_some H
    refine .q (x := .vp 0 y25.length (Int.toNat (1)) 0) (q_idxV (l := y25.set (Int.toNat (0)) (UInt8.ofInt (((y25.length : Int) - 2) / 2 ^ (Int.toNat (8))))) (row := rB8) (i := 1) Tryd.underlying32 hi5 hs5 rfl rfl rfl hk7) rfl ?_
    obtain ⟨hk8, H⟩ := ck_some H
    refine .u (u_storeV (l := y25.set (Int.toNat (0)) (UInt8.ofInt (((y25.length : Int) - 2) / 2 ^ (Int.toNat (8))))) (row := rB8) (a := UInt8.ofInt ((y25.length : Int) - 2)) rfl rfl hk8 rfl rfl sz_5 rfl (Nat.le_of_ble_eq_true rfl) rfl) rfl ?_
    refine .withSt (st' := ⟨[.row 39 [.d (cI v0.source), .d (cI v0.serial), .d (cI v0.kind), .d (cS v0.a), .d (cS v0.b), .d (cI v0.start), .d (cI v0.units), .d (cI v0.call), .d (cI v0.part), .d (cB v0.last), .d (cI v0.trunk), .d (cB v0.inbound)], .row 32 [.vc 0 y25.length]], [⟨5, 1, y25.length, some (((y25.set (Int.toNat (0)) (UInt8.ofInt (((y25.length : Int) - 2) / 2 ^ (Int.toNat (8))))).set (Int.toNat (1)) (UInt8.ofInt ((y25.length : Int) - 2))).map rB8)⟩]⟩) rfl ?_
    refine .nil ?_
    refine .seq ?_
    refine .region ?_
    refine .q (x := .vc 0 y25.length) (q_loadO one_32 rfl rfl rfl) rfl ?_
    refine .q (q_assign rfl) rfl ?_
    refine .q (q_assign rfl) rfl ?_
    refine .nil ?_
    refine .freezeL (l := (y25.set (Int.toNat (0)) (UInt8.ofInt (((y25.length : Int) - 2) / 2 ^ (Int.toNat (8))))).set (Int.toNat (1)) (UInt8.ofInt ((y25.length : Int) - 2))) (row := rB8) (i := 2) rfl rfl ?_
    refine .withSt (st' := ⟨[.row 39 [.d (cI v0.source), .d (cI v0.serial), .d (cI v0.kind), .d (cS v0.a), .d (cS v0.b), .d (cI v0.start), .d (cI v0.units), .d (cI v0.call), .d (cI v0.part), .d (cB v0.last), .d (cI v0.trunk), .d (cB v0.inbound)], .row 32 [.vc 0 y25.length]], [⟨5, 1, ((y25.set (Int.toNat (0)) (UInt8.ofInt (((y25.length : Int) - 2) / 2 ^ (Int.toNat (8))))).set (Int.toNat (1)) (UInt8.ofInt ((y25.length : Int) - 2))).length, none⟩]⟩) rfl ?_
    refine .retN [.tmp 2, .tmp 3] [.tsl 1 (((y25.set (Int.toNat (0)) (UInt8.ofInt (((y25.length : Int) - 2) / 2 ^ (Int.toNat (8))))).set (Int.toNat (1)) (UInt8.ofInt ((y25.length : Int) - 2))).map rB8) 0, .d (cI 0)] Tryd.func31 Tryd.results31 ⟨rfl, rfl, trivial⟩ ?_
    cases H
    exact ⟨_, EVle.tupL (ds := [slOf 1 rB8 ((y25.set (Int.toNat (0)) (UInt8.ofInt (((y25.length : Int) - 2) / 2 ^ (Int.toNat (8))))).set (Int.toNat (1)) (UInt8.ofInt ((y25.length : Int) - 2))), cI 0]) ⟨.tsl _ _ _, .rfl' _, trivial⟩, rfl⟩

set_option maxRecDepth 100000 in
set_option maxHeartbeats 1000000 in
theorem c_f_packed_PutDecimal {v0b : List UInt8} {v1n : Int} {v2size : Int} {r : (List UInt8) × Int} (H : f_packed_PutDecimal v0b v1n v2size = some r) : ACall Tryd.prog 56 [slOf 1 rB8 v0b, cI v1n, cI v2size] (· = .tup [slOf 1 rB8 r.1, cI r.2]) := by
  obtain ⟨i5, hi5, hz5, hs5, hb5⟩ := in_5
  refine ACall.enter' Tryd.func56 rfl Tryd.ntmps56 rfl fun S hS => ?_
  unfold f_packed_PutDecimal at H
  change ARun _ _ _ _ _ _ [(0, .d (slOf 1 rB8 v0b)), (1, .d (cI v1n)), (2, .d (cI v2size))] _
  refine .seq ?_
  refine .region ?_
  refine .q (q_assign rfl) rfl ?_
  refine .q (q_assign rfl) rfl ?_
  refine .nil ?_
  refine .seq ?_
  refine .seq ?_
  refine .region ?_
  refine .q (q_move rfl) rfl ?_
  refine .q (q_lss rfl rfl) rfl ?_
  refine .q (q_move rfl) rfl ?_
  refine .guardG (env' := [(2, _)]) rfl rfl rfl ⟨.inl rfl, trivial⟩ rfl (fun hg => OpQ.g (q_move rfl)) ?_
  refine .guardG (env' := [(13, _)]) rfl rfl rfl ⟨.inr (.inl rfl), trivial⟩ rfl (fun hg => OpQ.g (q_gtr rfl rfl)) ?_
  refine .q (q_pickOrB rfl rfl rfl) rfl ?_
  refine .q (q_move rfl) rfl ?_
  refine .guardG (env' := [(1, _)]) rfl rfl rfl ⟨.inl rfl, trivial⟩ rfl (fun hg => OpQ.g (q_move rfl)) ?_
  refine .guardG (env' := [(17, _)]) rfl rfl rfl ⟨.inr (.inl rfl), trivial⟩ rfl (fun hg => OpQ.g (q_lss rfl rfl)) ?_
  refine .q (q_pickOrB rfl rfl rfl) rfl ?_
  refine .nil ?_
  refine .cond rfl (fun hc => ?_) (fun hc => ?_)
  · replace H := ifT hc H; clear hc
    refine .seq ?_
    refine .region ?_
    refine .q (q_assign rfl) rfl ?_
    refine .q (q_assign rfl) rfl ?_
    refine .nil ?_
    refine .retN [.tmp 6, .tmp 7] [.d (nilD), .d (cI 6)] Tryd.func56 Tryd.results56 ⟨rfl, rfl, trivial⟩ ?_
    cases H
    exact ⟨_, EVle.tupL (ds := [slOf 1 rB8 ([] : List UInt8), cI 6]) ⟨.nil 1, .rfl' _, trivial⟩, rfl⟩
  · replace H := ifF hc H; clear hc
    refine .skip ?_
    refine .seq ?_
    refine .region ?_
    refine .q (q_move rfl) rfl ?_
    refine .q (q_lenL (l := v0b) (row := rB8) Tryd.underlying32 rfl rfl) rfl ?_
    refine .q (q_move rfl) rfl ?_
    obtain ⟨hk1, H⟩ := ck_some H
    refine .q (q_addI rfl rfl hk1.1 hk1.2) rfl ?_
    obtain ⟨hk2, H⟩ := ck_some H
    refine .v (x := .vc 0 ((List.replicate (Int.toNat ((v0b.length : Int) + v2size)) 0 : List UInt8).length)) (v_makeV (row := rB8) (a := (v0b.length : Int) + v2size) (b := (v0b.length : Int) + v2size) (a0 := 0) Tryd.underlying32 hi5 hz5 hs5 rfl (by rw [hb5]; decide) rfl rfl rfl hk2) rfl ?_
    refine .withSt (st' := ⟨[], [⟨5, 1, ((List.replicate (Int.toNat ((v0b.length : Int) + v2size)) 0 : List UInt8).length), some ((List.replicate (Int.toNat ((v0b.length : Int) + v2size)) 0 : List UInt8).map rB8)⟩]⟩) rfl ?_
    refine .q (q_assign rfl) rfl ?_
    refine .nil ?_
    refine .seq ?_
    refine .region ?_
    refine .q (q_move rfl) rfl ?_
    refine .q (q_move rfl) rfl ?_
    refine .v (x := .d (cI ((min v0b.length (List.replicate (Int.toNat ((v0b.length : Int) + v2size)) 0 : List UInt8).length : Nat) : Int))) (v_copyV (l := (List.replicate (Int.toNat ((v0b.length : Int) + v2size)) 0 : List UInt8)) (l' := v0b) (row := rB8) Tryd.underlying32 hi5 hs5 rfl rfl rfl rfl) rfl ?_
    refine .withSt (st' := ⟨[], [⟨5, 1, ((List.replicate (Int.toNat ((v0b.length : Int) + v2size)) 0 : List UInt8).length), some ((v0b.take (min v0b.length (List.replicate (Int.toNat ((v0b.length : Int) + v2size)) 0 : List UInt8).length) ++ (List.replicate (Int.toNat ((v0b.length : Int) + v2size)) 0 : List UInt8).drop (min v0b.length (List.replicate (Int.toNat ((v0b.length : Int) + v2size)) 0 : List UInt8).length)).map rB8)⟩]⟩) rfl ?_
    refine .nil ?_
    refine .seq ?_
    refine .seq ?_
    refine .region ?_
    refine .q (q_move rfl) rfl ?_
    refine .q (x := .d (cI ((v0b.take (min v0b.length (List.replicate (Int.toNat ((v0b.length : Int) + v2size)) 0 : List UInt8).length) ++ (List.replicate (Int.toNat ((v0b.length : Int) + v2size)) 0 : List UInt8).drop (min v0b.length (List.replicate (Int.toNat ((v0b.length : Int) + v2size)) 0 : List UInt8).length)).length : Int))) (q_lenV (l := v0b.take (min v0b.length (List.replicate (Int.toNat ((v0b.length : Int) + v2size)) 0 : List UInt8).length) ++ (List.replicate (Int.toNat ((v0b.length : Int) + v2size)) 0 : List UInt8).drop (min v0b.length (List.replicate (Int.toNat ((v0b.length : Int) + v2size)) 0 : List UInt8).length)) (row := rB8) Tryd.underlying32 rfl rfl) rfl ?_
    obtain ⟨hk3, H⟩ := ck_some H
    refine .q (q_subI rfl rfl hk3.1 hk3.2) rfl ?_
    refine .q (q_assign rfl) rfl ?_
    refine .nil ?_
    refine .blockJoin2 (ι := List UInt8 × Int) (fun s => [(1, .d (cI s.2)), (8, .vc 0 s.1.length)]) (fun s => ⟨[], [⟨5, 1, s.1.length, some (s.1.map rB8)⟩]⟩) (fun s => f_packed_PutDecimal_j1 s.1 s.2 = some r) ?_ ?_
    · rintro ⟨y0tj1, v1nj1⟩ H
      replace H : f_packed_PutDecimal_j1 y0tj1 v1nj1 = some r := H
      unfold f_packed_PutDecimal_j1 at H
      change ARun _ _ _ _ _ _ [(1, .d (cI v1nj1)), (8, .vc 0 y0tj1.length)] ⟨[], [⟨5, 1, y0tj1.length, some (y0tj1.map rB8)⟩]⟩
      refine .seq ?_
      refine .seq ?_
      refine .region ?_
      refine .q (q_move rfl) rfl ?_
      refine .q (q_gtr rfl rfl) rfl ?_
      refine .nil ?_
      refine .cond rfl (fun hc => ?_) (fun hc => ?_)
      · replace H := ifT hc H; clear hc
        refine .seq ?_
        refine .region ?_
        refine .q (q_assign rfl) rfl ?_
        refine .q (q_assign rfl) rfl ?_
        refine .nil ?_
        refine .retN [.tmp 6, .tmp 7] [.d (nilD), .d (cI 6)] Tryd.func56 Tryd.results56 ⟨rfl, rfl, trivial⟩ ?_
        cases H
        exact ⟨_, EVle.tupL (ds := [slOf 1 rB8 ([] : List UInt8), cI 6]) ⟨.nil 1, .rfl' _, trivial⟩, rfl⟩
      · replace H := ifF hc H; clear hc
        refine .skip ?_
        refine .seq ?_
        refine .region ?_
        refine .q (q_move rfl) rfl ?_
        refine .q (q_assign rfl) rfl ?_
        refine .q (q_assign rfl) rfl ?_
        refine .nil ?_
        refine .freezeL (l := y0tj1) (row := rB8) (i := 6) rfl rfl ?_
        refine .withSt (st' := ⟨[], [⟨5, 1, y0tj1.length, none⟩]⟩) rfl ?_
        refine .retN [.tmp 6, .tmp 7] [.tsl 1 (y0tj1.map rB8) 0, .d (cI 0)] Tryd.func56 Tryd.results56 ⟨rfl, rfl, trivial⟩ ?_
        cases H
        exact ⟨_, EVle.tupL (ds := [slOf 1 rB8 y0tj1, cI 0]) ⟨.tsl _ _ _, .rfl' _, trivial⟩, rfl⟩
    · intro hj1 hj1x
      obtain ⟨n1, H⟩ := loop_some H
      refine .normV (l := v0b.take (min v0b.length (List.replicate (Int.toNat ((v0b.length : Int) + v2size)) 0 : List UInt8).length) ++ (List.replicate (Int.toNat ((v0b.length : Int) + v2size)) 0 : List UInt8).drop (min v0b.length (List.replicate (Int.toNat ((v0b.length : Int) + v2size)) 0 : List UInt8).length)) (row := rB8) (tk := 0) (fun z => [(0, .d (slOf 1 rB8 v0b)), (1, .d (cI v1n)), (8, .vc 0 z), (9, .d (cI (((v0b.take (min v0b.length (List.replicate (Int.toNat ((v0b.length : Int) + v2size)) 0 : List UInt8).length) ++ (List.replicate (Int.toNat ((v0b.length : Int) + v2size)) 0 : List UInt8).drop (min v0b.length (List.replicate (Int.toNat ((v0b.length : Int) + v2size)) 0 : List UInt8).length)).length : Int) - 1)))]) (fun z => ⟨[], [⟨5, 1, z, some ((v0b.take (min v0b.length (List.replicate (Int.toNat ((v0b.length : Int) + v2size)) 0 : List UInt8).length) ++ (List.replicate (Int.toNat ((v0b.length : Int) + v2size)) 0 : List UInt8).drop (min v0b.length (List.replicate (Int.toNat ((v0b.length : Int) + v2size)) 0 : List UInt8).length)).map rB8)⟩]⟩) rfl (.cons rfl (.rfl' _) (.cons rfl (.rfl' _) (.cons rfl (.rfl' _) (.cons rfl (.rfl' _) (.nil))))) rfl ?_
      refine .withSt (st' := ⟨[], [⟨5, 1, (v0b.take (min v0b.length (List.replicate (Int.toNat ((v0b.length : Int) + v2size)) 0 : List UInt8).length) ++ (List.replicate (Int.toNat ((v0b.length : Int) + v2size)) 0 : List UInt8).drop (min v0b.length (List.replicate (Int.toNat ((v0b.length : Int) + v2size)) 0 : List UInt8).length)).length, some ((v0b.take (min v0b.length (List.replicate (Int.toNat ((v0b.length : Int) + v2size)) 0 : List UInt8).length) ++ (List.replicate (Int.toNat ((v0b.length : Int) + v2size)) 0 : List UInt8).drop (min v0b.length (List.replicate (Int.toNat ((v0b.length : Int) + v2size)) 0 : List UInt8).length)).map rB8)⟩]⟩) rfl <| .loop (ι := Nat × (List UInt8 × Int × Int)) (fun p => [(0, .d (slOf 1 rB8 v0b)), (1, .d (cI p.2.2.1)), (8, .vc 0 p.2.1.length), (9, .d (cI p.2.2.2))]) (fun p => ⟨[], [⟨5, 1, p.2.1.length, some (p.2.1.map rB8)⟩]⟩) (fun p => iter (fun s => f_packed_PutDecimal_l1 v0b s.1 s.2.1 s.2.2) p.1 p.2 = some r) (·.1) (n1, (v0b.take (min v0b.length (List.replicate (Int.toNat ((v0b.length : Int) + v2size)) 0 : List UInt8).length) ++ (List.replicate (Int.toNat ((v0b.length : Int) + v2size)) 0 : List UInt8).drop (min v0b.length (List.replicate (Int.toNat ((v0b.length : Int) + v2size)) 0 : List UInt8).length), v1n, ((v0b.take (min v0b.length (List.replicate (Int.toNat ((v0b.length : Int) + v2size)) 0 : List UInt8).length) ++ (List.replicate (Int.toNat ((v0b.length : Int) + v2size)) 0 : List UInt8).drop (min v0b.length (List.replicate (Int.toNat ((v0b.length : Int) + v2size)) 0 : List UInt8).length)).length : Int) - 1)) H (.cons rfl (.rfl' _) (.cons rfl (.rfl' _) (.cons rfl (.rfl' _) (.cons rfl (.rfl' _) (.nil))))) rfl ?_
      rintro ⟨m1, y0tl1, v1nl1, v9il1⟩ HI ih1
      obtain ⟨n1, q1, hm1, H, HK1⟩ := iter_succ HI
      clear HI
      replace H : f_packed_PutDecimal_l1 v0b y0tl1 v1nl1 v9il1 = some q1 := H
      unfold f_packed_PutDecimal_l1 at H
      change ARun _ _ _ _ _ _ [(0, .d (slOf 1 rB8 v0b)), (1, .d (cI v1nl1)), (8, .vc 0 y0tl1.length), (9, .d (cI v9il1))] ⟨[], [⟨5, 1, y0tl1.length, some (y0tl1.map rB8)⟩]⟩
      refine .seq ?_
      refine .seq ?_
      refine .region ?_
      refine .q (q_move rfl) rfl ?_
      refine .q (q_move rfl) rfl ?_
      refine .q (q_lenL (l := v0b) (row := rB8) Tryd.underlying32 rfl rfl) rfl ?_
      refine .q (q_geq rfl rfl) rfl ?_
      refine .nil ?_
      refine .cond rfl (fun hc => ?_) (fun hc => ?_)
      · replace H := ifT hc H; clear hc
        refine .skip ?_
        refine .seq ?_
        refine .block ?_
        refine .seq ?_
        refine .region ?_
        refine .q (q_move rfl) rfl ?_
        refine .q (q_move rfl) rfl ?_
        refine .q (q_move rfl) rfl ?_
        obtain ⟨hk4, H⟩ := ck_some H
        refine .q (x := .d (cI (Int.tdiv v1nl1 10))) (q_quoT rfl rfl hk4) rfl ?_
        obtain ⟨hk5, H⟩ := ck_some H
        refine .q (x := .d (cI (Int.tmod (Int.tdiv v1nl1 10) 10))) (q_remT rfl rfl hk5) rfl ?_
        obtain ⟨hk6, H⟩ := ck_some H
        refine .q (x := .d (cI ((Int.tmod (Int.tdiv v1nl1 10) 10) * 2 ^ (Int.toNat (4))))) (q_shlI rfl rfl hk6) rfl ?_
        refine .q (q_move rfl) rfl ?_
        obtain ⟨hk7, H⟩ := ck_some H
        refine .q (x := .d (cI (Int.tmod v1nl1 10))) (q_remT rfl rfl hk7) rfl ?_
        refine .q (x := .d (cI (bOr .i64 ((Int.tmod (Int.tdiv v1nl1 10) 10) * 2 ^ (Int.toNat (4))) (Int.tmod v1nl1 10)))) (q_or rfl rfl) rfl ?_
        refine .q (x := .d (cU8 (UInt8.ofInt (bOr .i64 ((Int.tmod (Int.tdiv v1nl1 10) 10) * 2 ^ (Int.toNat (4))) (Int.tmod v1nl1 10))))) (q_conv8 Tryd.underlying3 Tryd.underlying5 rfl) rfl ?_
        obtain ⟨hk8, H⟩ := ck_some H
        refine .q (x := .vp 0 y0tl1.length (Int.toNat (v9il1)) 0) (q_idxV (l := y0tl1) (row := rB8) (i := v9il1) Tryd.underlying32 hi5 hs5 rfl rfl rfl hk8) rfl ?_
        obtain ⟨hk9, H⟩ := ck_some H
        refine .u (u_storeV (l := y0tl1) (row := rB8) (a := UInt8.ofInt (bOr .i64 ((Int.tmod (Int.tdiv v1nl1 10) 10) * 2 ^ (Int.toNat (4))) (Int.tmod v1nl1 10))) rfl rfl hk9 rfl rfl sz_5 rfl (Nat.le_of_ble_eq_true rfl) rfl) rfl ?_
        refine .withSt (st' := ⟨[], [⟨5, 1, y0tl1.length, some ((y0tl1.set (Int.toNat (v9il1)) (UInt8.ofInt (bOr .i64 ((Int.tmod (Int.tdiv v1nl1 10) 10) * 2 ^ (Int.toNat (4))) (Int.tmod v1nl1 10)))).map rB8)⟩]⟩) rfl ?_
        refine .nil ?_
        refine .region ?_
        refine .q (q_move rfl) rfl ?_
        obtain ⟨hk10, H⟩ := ck_some H
        refine .q (x := .d (cI (Int.tdiv v1nl1 100))) (q_quoT rfl rfl hk10) rfl ?_
        refine .q (q_assign rfl) rfl ?_
        refine .nil ?_
        refine .inBlock ?_
        refine .region ?_
        refine .q (q_move rfl) rfl ?_
        obtain ⟨hk11, H⟩ := ck_some H
        refine .q (q_subI rfl rfl hk11.1 hk11.2) rfl ?_
        refine .q (q_assign rfl) rfl ?_
        refine .nil ?_
        cases H
        refine .normV (l := y0tl1.set (Int.toNat (v9il1)) (UInt8.ofInt (bOr .i64 ((Int.tmod (Int.tdiv v1nl1 10) 10) * 2 ^ (Int.toNat (4))) (Int.tmod v1nl1 10)))) (row := rB8) (tk := 0) (fun z => [(0, .d (slOf 1 rB8 v0b)), (1, .d (cI (Int.tdiv v1nl1 100))), (8, .vc 0 z), (9, .d (cI (v9il1 - 1)))]) (fun z => ⟨[], [⟨5, 1, z, some ((y0tl1.set (Int.toNat (v9il1)) (UInt8.ofInt (bOr .i64 ((Int.tmod (Int.tdiv v1nl1 10) 10) * 2 ^ (Int.toNat (4))) (Int.tmod v1nl1 10)))).map rB8)⟩]⟩) rfl (.cons rfl (.rfl' _) (.cons rfl (.rfl' _) (.cons rfl (.rfl' _) (.cons rfl (.rfl' _) (.nil))))) rfl ?_
        exact .withSt (st' := ⟨[], [⟨5, 1, (y0tl1.set (Int.toNat (v9il1)) (UInt8.ofInt (bOr .i64 ((Int.tmod (Int.tdiv v1nl1 10) 10) * 2 ^ (Int.toNat (4))) (Int.tmod v1nl1 10)))).length, some ((y0tl1.set (Int.toNat (v9il1)) (UInt8.ofInt (bOr .i64 ((Int.tmod (Int.tdiv v1nl1 10) 10) * 2 ^ (Int.toNat (4))) (Int.tmod v1nl1 10)))).map rB8)⟩]⟩) rfl <| .sub (.cons rfl (.rfl' _) (.cons rfl (.rfl' _) (.cons rfl (.rfl' _) (.cons rfl (.rfl' _) (.nil))))) (ih1 (n1, (y0tl1.set (Int.toNat (v9il1)) (UInt8.ofInt (bOr .i64 ((Int.tmod (Int.tdiv v1nl1 10) 10) * 2 ^ (Int.toNat (4))) (Int.tmod v1nl1 10))), Int.tdiv v1nl1 100, v9il1 - 1)) HK1 hm1)
      · replace H := ifF hc H; clear hc
        refine .exit rfl ?_
        obtain ⟨q0, H9, hq0⟩ := map_some' H; clear H; cases hq0
        cases HK1
        have H := H9
        exact .withSt (st' := ⟨[], [⟨5, 1, y0tl1.length, some (y0tl1.map rB8)⟩]⟩) rfl <| .sub (.cons rfl (.rfl' _) (.cons rfl (.rfl' _) (.nil))) (hj1x (y0tl1, v1nl1) H)

set_option maxRecDepth 100000 in
set_option maxHeartbeats 1000000 in
theorem c_f_packed_bit {v0holds : Bool} {v1n : UInt8} {r : UInt8} (H : f_packed_bit v0holds v1n = some r) : ACall Tryd.prog 57 [cB v0holds, cU8 v1n] (· = cU8 r) := by
  refine ACall.enter' Tryd.func57 rfl Tryd.ntmps57 rfl fun S hS => ?_
  unfold f_packed_bit at H
  change ARun _ _ _ _ _ _ [(0, .d (cB v0holds)), (1, .d (cU8 v1n))] _
  refine .seq ?_
  refine .region ?_
  refine .q (q_assign rfl) rfl ?_
  refine .nil ?_
  refine .seq ?_
  refine .seq ?_
  refine .region ?_
  refine .q (q_move rfl) rfl ?_
  refine .nil ?_
  refine .cond rfl (fun hc => ?_) (fun hc => ?_)
  · replace H := ifT hc H; clear hc
    refine .seq ?_
    refine .region ?_
    refine .q (q_move rfl) rfl ?_
    refine .q (q_assign rfl) rfl ?_
    refine .nil ?_
    refine .retN [.tmp 4] [.d (cU8 v1n)] Tryd.func57 Tryd.results57 ⟨rfl, trivial⟩ ?_
    cases H
    exact ⟨_, .rfl' _, rfl⟩
  · replace H := ifF hc H; clear hc
    refine .skip ?_
    refine .seq ?_
    refine .region ?_
    refine .q (q_assign rfl) rfl ?_
    refine .nil ?_
    refine .retN [.tmp 4] [.d (cU8 0)] Tryd.func57 Tryd.results57 ⟨rfl, trivial⟩ ?_
    cases H
    exact ⟨_, .rfl' _, rfl⟩

set_option maxRecDepth 100000 in
set_option maxHeartbeats 1000000 in
theorem c_f_packed_sum {v0b : List UInt8} {r : UInt8} (H : f_packed_sum v0b = some r) : ACall Tryd.prog 59 [slOf 1 rB8 v0b] (· = cU8 r) := by
  obtain ⟨i5, hi5, hz5, hs5, hb5⟩ := in_5
  refine ACall.enter' Tryd.func59 rfl Tryd.ntmps59 rfl fun S hS => ?_
  unfold f_packed_sum at H
  change ARun _ _ _ _ _ _ [(0, .d (slOf 1 rB8 v0b))] _
  refine .seq ?_
  refine .region ?_
  refine .q (q_assign rfl) rfl ?_
  refine .nil ?_
  refine .seq ?_
  refine .region ?_
  refine .q (q_assign rfl) rfl ?_
  refine .nil ?_
  refine .seq ?_
  refine .seq ?_
  refine .region ?_
  refine .q (q_move rfl) rfl ?_
  refine .q (q_lenL (l := v0b) (row := rB8) Tryd.underlying32 rfl rfl) rfl ?_
  refine .q (q_move rfl) rfl ?_
  refine .nil ?_
  refine .block ?_
  obtain ⟨n1, H⟩ := loop_some H
  refine .loop (ι := Nat × (UInt8 × Int)) (fun p => [(3, .d (cU8 p.2.1)), (6, .d (slOf 1 rB8 v0b)), (7, .d (cI (v0b.length : Int))), (8, .d (cI p.2.2))]) (fun p => ⟨[], []⟩) (fun p => iter (fun s => f_packed_sum_l1 v0b s.1 s.2) p.1 p.2 = some r) (·.1) (n1, (0, 0)) H (.cons rfl (.rfl' _) (.cons rfl (.rfl' _) (.cons rfl (.rfl' _) (.cons rfl (.rfl' _) (.nil))))) rfl ?_
  rintro ⟨m1, v3nl1, v8l1⟩ HI ih1
  obtain ⟨n1, q1, hm1, H, HK1⟩ := iter_succ HI
  clear HI
  replace H : f_packed_sum_l1 v0b v3nl1 v8l1 = some q1 := H
  unfold f_packed_sum_l1 at H
  change ARun _ _ _ _ _ _ [(3, .d (cU8 v3nl1)), (6, .d (slOf 1 rB8 v0b)), (7, .d (cI (v0b.length : Int))), (8, .d (cI v8l1))] ⟨[], []⟩
  refine .seq ?_
  refine .region ?_
  refine .q (q_lss rfl rfl) rfl ?_
  refine .nil ?_
  refine .seq ?_
  refine .cond rfl (fun hc => ?_) (fun hc => ?_)
  · replace H := ifT hc H; clear hc
    refine .skip ?_
    refine .seq ?_
    refine .block ?_
    refine .seq ?_
    refine .region ?_
    obtain ⟨hk1, H⟩ := ck_some H
    refine .q (x := .d (.ro (rB8 (nth v0b (Int.toNat (v8l1)))))) (q_idxL (row := rB8) (l := v0b) (i := v8l1) Tryd.underlying32 hi5 hs5 rfl rfl rfl hk1) rfl ?_
    refine .q (x := .d (cU8 (nth v0b (Int.toNat (v8l1))))) (q_load one_5 rfl) rfl ?_
    refine .q (q_assign rfl) rfl ?_
    refine .nil ?_
    refine .region ?_
    refine .q (q_move rfl) rfl ?_
    refine .q (q_move rfl) rfl ?_
    refine .q (x := .d (cU8 (v3nl1 + (nth v0b (Int.toNat (v8l1)))))) (q8_add (a := v3nl1) (b := nth v0b (Int.toNat (v8l1))) rfl rfl) rfl ?_
    refine .q (q_assign rfl) rfl ?_
    refine .nil ?_
    refine .inBlock ?_
    refine .region ?_
    obtain ⟨hk2, H⟩ := ck_some H
    refine .q (q_addI rfl rfl hk2.1 hk2.2) rfl ?_
    refine .q (q_move rfl) rfl ?_
    refine .nil ?_
    cases H
    exact .sub (.cons rfl (.rfl' _) (.cons rfl (.rfl' _) (.cons rfl (.rfl' _) (.cons rfl (.rfl' _) (.nil))))) (ih1 (n1, (v3nl1 + (nth v0b (Int.toNat (v8l1))), v8l1 + 1)) HK1 hm1)
  · replace H := ifF hc H; clear hc
    refine .exit rfl ?_
    refine .seq ?_
    refine .region ?_
    refine .q (q_move rfl) rfl ?_
    refine .q (q_assign rfl) rfl ?_
    refine .nil ?_
    refine .retN [.tmp 2] [.d (cU8 v3nl1)] Tryd.func59 Tryd.results59 ⟨rfl, trivial⟩ ?_
    cases H
    cases HK1
    exact ⟨_, .rfl' _, rfl⟩

set_option maxRecDepth 100000 in
set_option maxHeartbeats 1000000 in
theorem c_g_packed_PutDecimal {v0b : List UInt8} {v1n : Int} {v2size : Int} {r : (List UInt8) × Int} (H : f_packed_PutDecimal v0b v1n v2size = some r) : ACallS Tryd.prog 56 [.d (slOf 1 rB8 v0b), .d (cI v1n), .d (cI v2size)] ⟨[], []⟩ (QE (.tup [.tsl 1 (r.1.map rB8) 0, .d (cI r.2)]) ⟨[], [⟨5, 1, r.1.length, none⟩]⟩) := by
  obtain ⟨i5, hi5, hz5, hs5, hb5⟩ := in_5
  refine ACallS.keep ?_
  refine ACallS.enter Tryd.func56 rfl Tryd.ntmps56 rfl fun S hS => ?_
  unfold f_packed_PutDecimal at H
  change ARun _ _ _ _ _ _ [(0, .d (slOf 1 rB8 v0b)), (1, .d (cI v1n)), (2, .d (cI v2size))] _
  refine .seq ?_
  refine .region ?_
  refine .q (q_assign rfl) rfl ?_
  refine .q (q_assign rfl) rfl ?_
  refine .nil ?_
  refine .seq ?_
  refine .seq ?_
  refine .region ?_
  refine .q (q_move rfl) rfl ?_
  refine .q (q_lss rfl rfl) rfl ?_
  refine .q (q_move rfl) rfl ?_
  refine .guardG (env' := [(2, _)]) rfl rfl rfl ⟨.inl rfl, trivial⟩ rfl (fun hg => OpQ.g (q_move rfl)) ?_
  refine .guardG (env' := [(13, _)]) rfl rfl rfl ⟨.inr (.inl rfl), trivial⟩ rfl (fun hg => OpQ.g (q_gtr rfl rfl)) ?_
  refine .q (q_pickOrB rfl rfl rfl) rfl ?_
  refine .q (q_move rfl) rfl ?_
  refine .guardG (env' := [(1, _)]) rfl rfl rfl ⟨.inl rfl, trivial⟩ rfl (fun hg => OpQ.g (q_move rfl)) ?_
  refine .guardG (env' := [(17, _)]) rfl rfl rfl ⟨.inr (.inl rfl), trivial⟩ rfl (fun hg => OpQ.g (q_lss rfl rfl)) ?_
  refine .q (q_pickOrB rfl rfl rfl) rfl ?_
  refine .nil ?_
  refine .cond rfl (fun hc => ?_) (fun hc => ?_)
  · replace H := ifT hc H; clear hc
    refine .seq ?_
    refine .region ?_
    refine .q (q_assign rfl) rfl ?_
    refine .q (q_assign rfl) rfl ?_
    refine .nil ?_
    refine .tok (i := 6) (e := 5) (sz := 1) rfl ?_
    refine .withSt (st' := ⟨[], [⟨5, 1, ([] : List UInt8).length, none⟩]⟩) rfl ?_
    refine .retN [.tmp 6, .tmp 7] [.tsl 1 (([] : List UInt8).map rB8) 0, .d (cI 6)] Tryd.func56 Tryd.results56 ⟨rfl, rfl, trivial⟩ ?_
    cases H
    exact ⟨[], [0], rfl, rfl, rfl, rfl, rfl, rfl, rfl, rfl, .tupE ⟨.rfl' _, .rfl' _, trivial⟩⟩
  · replace H := ifF hc H; clear hc
    refine .skip ?_
    refine .seq ?_
    refine .region ?_
    refine .q (q_move rfl) rfl ?_
    refine .q (q_lenL (l := v0b) (row := rB8) Tryd.underlying32 rfl rfl) rfl ?_
    refine .q (q_move rfl) rfl ?_
    obtain ⟨hk1, H⟩ := ck_some H
    refine .q (q_addI rfl rfl hk1.1 hk1.2) rfl ?_
    obtain ⟨hk2, H⟩ := ck_some H
    refine .v (x := .vc 0 ((List.replicate (Int.toNat ((v0b.length : Int) + v2size)) 0 : List UInt8).length)) (v_makeV (row := rB8) (a := (v0b.length : Int) + v2size) (b := (v0b.length : Int) + v2size) (a0 := 0) Tryd.underlying32 hi5 hz5 hs5 rfl (by rw [hb5]; decide) rfl rfl rfl hk2) rfl ?_
    refine .withSt (st' := ⟨[], [⟨5, 1, ((List.replicate (Int.toNat ((v0b.length : Int) + v2size)) 0 : List UInt8).length), some ((List.replicate (Int.toNat ((v0b.length : Int) + v2size)) 0 : List UInt8).map rB8)⟩]⟩) rfl ?_
    refine .q (q_assign rfl) rfl ?_
    refine .nil ?_
    refine .seq ?_
    refine .region ?_
    refine .q (q_move rfl) rfl ?_
    refine .q (q_move rfl) rfl ?_
    refine .v (x := .d (cI ((min v0b.length (List.replicate (Int.toNat ((v0b.length : Int) + v2size)) 0 : List UInt8).length : Nat) : Int))) (v_copyV (l := (List.replicate (Int.toNat ((v0b.length : Int) + v2size)) 0 : List UInt8)) (l' := v0b) (row := rB8) Tryd.underlying32 hi5 hs5 rfl rfl rfl rfl) rfl ?_
    refine .withSt (st' := ⟨[], [⟨5, 1, ((List.replicate (Int.toNat ((v0b.length : Int) + v2size)) 0 : List UInt8).length), some ((v0b.take (min v0b.length (List.replicate (Int.toNat ((v0b.length : Int) + v2size)) 0 : List UInt8).length) ++ (List.replicate (Int.toNat ((v0b.length : Int) + v2size)) 0 : List UInt8).drop (min v0b.length (List.replicate (Int.toNat ((v0b.length : Int) + v2size)) 0 : List UInt8).length)).map rB8)⟩]⟩) rfl ?_
    refine .nil ?_
    refine .seq ?_
    refine .seq ?_
    refine .region ?_
    refine .q (q_move rfl) rfl ?_
    refine .q (x := .d (cI ((v0b.take (min v0b.length (List.replicate (Int.toNat ((v0b.length : Int) + v2size)) 0 : List UInt8).length) ++ (List.replicate (Int.toNat ((v0b.length : Int) + v2size)) 0 : List UInt8).drop (min v0b.length (List.replicate (Int.toNat ((v0b.length : Int) + v2size)) 0 : List UInt8).length)).length : Int))) (q_lenV (l := v0b.take (min v0b.length (List.replicate (Int.toNat ((v0b.length : Int) + v2size)) 0 : List UInt8).length) ++ (List.replicate (Int.toNat ((v0b.length : Int) + v2size)) 0 : List UInt8).drop (min v0b.length (List.replicate (Int.toNat ((v0b.length : Int) + v2size)) 0 : List UInt8).length)) (row := rB8) Tryd.underlying32 rfl rfl) rfl ?_
    obtain ⟨hk3, H⟩ := ck_some H
    refine .q (q_subI rfl rfl hk3.1 hk3.2) rfl ?_
    refine .q (q_assign rfl) rfl ?_
    refine .nil ?_
    refine .blockJoin2 (ι := List UInt8 × Int) (fun s => [(1, .d (cI s.2)), (8, .vc 0 s.1.length)]) (fun s => ⟨[], [⟨5, 1, s.1.length, some (s.1.map rB8)⟩]⟩) (fun s => f_packed_PutDecimal_j1 s.1 s.2 = some r) ?_ ?_
    · rintro ⟨y0tj1, v1nj1⟩ H
      replace H : f_packed_PutDecimal_j1 y0tj1 v1nj1 = some r := H
      unfold f_packed_PutDecimal_j1 at H
      change ARun _ _ _ _ _ _ [(1, .d (cI v1nj1)), (8, .vc 0 y0tj1.length)] ⟨[], [⟨5, 1, y0tj1.length, some (y0tj1.map rB8)⟩]⟩
      refine .seq ?_
      refine .seq ?_
      refine .region ?_
      refine .q (q_move rfl) rfl ?_
      refine .q (q_gtr rfl rfl) rfl ?_
      refine .nil ?_
      refine .cond rfl (fun hc => ?_) (fun hc => ?_)
      · replace H := ifT hc H; clear hc
        refine .seq ?_
        refine .region ?_
        refine .q (q_assign rfl) rfl ?_
        refine .q (q_assign rfl) rfl ?_
        refine .nil ?_
        refine .tok (i := 6) (e := 5) (sz := 1) rfl ?_
        refine .withSt (st' := ⟨[], [⟨5, 1, y0tj1.length, some (y0tj1.map rB8)⟩, ⟨5, 1, ([] : List UInt8).length, none⟩]⟩) rfl ?_
        refine .retN [.tmp 6, .tmp 7] [.tsl 1 (([] : List UInt8).map rB8) 1, .d (cI 6)] Tryd.func56 Tryd.results56 ⟨rfl, rfl, trivial⟩ ?_
        cases H
        exact ⟨[], [1], rfl, rfl, rfl, rfl, rfl, rfl, rfl, rfl, .tupE ⟨.rfl' _, .rfl' _, trivial⟩⟩
      · replace H := ifF hc H; clear hc
        refine .skip ?_
        refine .seq ?_
        refine .region ?_
        refine .q (q_move rfl) rfl ?_
        refine .q (q_assign rfl) rfl ?_
        refine .q (q_assign rfl) rfl ?_
        refine .nil ?_
        refine .freezeL (l := y0tj1) (row := rB8) (i := 6) rfl rfl ?_
        refine .withSt (st' := ⟨[], [⟨5, 1, y0tj1.length, none⟩]⟩) rfl ?_
        refine .retN [.tmp 6, .tmp 7] [.tsl 1 (y0tj1.map rB8) 0, .d (cI 0)] Tryd.func56 Tryd.results56 ⟨rfl, rfl, trivial⟩ ?_
        cases H
        exact ⟨[], [0], rfl, rfl, rfl, rfl, rfl, rfl, rfl, rfl, .tupE ⟨.rfl' _, .rfl' _, trivial⟩⟩
    · intro hj1 hj1x
      obtain ⟨n1, H⟩ := loop_some H
      refine .normV (l := v0b.take (min v0b.length (List.replicate (Int.toNat ((v0b.length : Int) + v2size)) 0 : List UInt8).length) ++ (List.replicate (Int.toNat ((v0b.length : Int) + v2size)) 0 : List UInt8).drop (min v0b.length (List.replicate (Int.toNat ((v0b.length : Int) + v2size)) 0 : List UInt8).length)) (row := rB8) (tk := 0) (fun z => [(0, .d (slOf 1 rB8 v0b)), (1, .d (cI v1n)), (8, .vc 0 z), (9, .d (cI (((v0b.take (min v0b.length (List.replicate (Int.toNat ((v0b.length : Int) + v2size)) 0 : List UInt8).length) ++ (List.replicate (Int.toNat ((v0b.length : Int) + v2size)) 0 : List UInt8).drop (min v0b.length (List.replicate (Int.toNat ((v0b.length : Int) + v2size)) 0 : List UInt8).length)).length : Int) - 1)))]) (fun z => ⟨[], [⟨5, 1, z, some ((v0b.take (min v0b.length (List.replicate (Int.toNat ((v0b.length : Int) + v2size)) 0 : List UInt8).length) ++ (List.replicate (Int.toNat ((v0b.length : Int) + v2size)) 0 : List UInt8).drop (min v0b.length (List.replicate (Int.toNat ((v0b.length : Int) + v2size)) 0 : List UInt8).length)).map rB8)⟩]⟩) rfl (.cons rfl (.rfl' _) (.cons rfl (.rfl' _) (.cons rfl (.rfl' _) (.cons rfl (.rfl' _) (.nil))))) rfl ?_
      refine .withSt (st' := ⟨[], [⟨5, 1, (v0b.take (min v0b.length (List.replicate (Int.toNat ((v0b.length : Int) + v2size)) 0 : List UInt8).length) ++ (List.replicate (Int.toNat ((v0b.length : Int) + v2size)) 0 : List UInt8).drop (min v0b.length (List.replicate (Int.toNat ((v0b.length : Int) + v2size)) 0 : List UInt8).length)).length, some ((v0b.take (min v0b.length (List.replicate (Int.toNat ((v0b.length : Int) + v2size)) 0 : List UInt8).length) ++ (List.replicate (Int.toNat ((v0b.length : Int) + v2size)) 0 : List UInt8).drop (min v0b.length (List.replicate (Int.toNat ((v0b.length : Int) + v2size)) 0 : List UInt8).length)).map rB8)⟩]⟩) rfl <| .loop (ι := Nat × (List UInt8 × Int × Int)) (fun p => [(0, .d (slOf 1 rB8 v0b)), (1, .d (cI p.2.2.1)), (8, .vc 0 p.2.1.length), (9, .d (cI p.2.2.2))]) (fun p => ⟨[], [⟨5, 1, p.2.1.length, some (p.2.1.map rB8)⟩]⟩) (fun p => iter (fun s => f_packed_PutDecimal_l1 v0b s.1 s.2.1 s.2.2) p.1 p.2 = some r) (·.1) (n1, (v0b.take (min v0b.length (List.replicate (Int.toNat ((v0b.length : Int) + v2size)) 0 : List UInt8).length) ++ (List.replicate (Int.toNat ((v0b.length : Int) + v2size)) 0 : List UInt8).drop (min v0b.length (List.replicate (Int.toNat ((v0b.length : Int) + v2size)) 0 : List UInt8).length), v1n, ((v0b.take (min v0b.length (List.replicate (Int.toNat ((v0b.length : Int) + v2size)) 0 : List UInt8).length) ++ (List.replicate (Int.toNat ((v0b.length : Int) + v2size)) 0 : List UInt8).drop (min v0b.length (List.replicate (Int.toNat ((v0b.length : Int) + v2size)) 0 : List UInt8).length)).length : Int) - 1)) H (.cons rfl (.rfl' _) (.cons rfl (.rfl' _) (.cons rfl (.rfl' _) (.cons rfl (.rfl' _) (.nil))))) rfl ?_
      rintro ⟨m1, y0tl1, v1nl1, v9il1⟩ HI ih1
      obtain ⟨n1, q1, hm1, H, HK1⟩ := iter_succ HI
      clear HI
      replace H : f_packed_PutDecimal_l1 v0b y0tl1 v1nl1 v9il1 = some q1 := H
      unfold f_packed_PutDecimal_l1 at H
      change ARun _ _ _ _ _ _ [(0, .d (slOf 1 rB8 v0b)), (1, .d (cI v1nl1)), (8, .vc 0 y0tl1.length), (9, .d (cI v9il1))] ⟨[], [⟨5, 1, y0tl1.length, some (y0tl1.map rB8)⟩]⟩
      refine .seq ?_
      refine .seq ?_
      refine .region ?_
      refine .q (q_move rfl) rfl ?_
      refine .q (q_move rfl) rfl ?_
      refine .q (q_lenL (l := v0b) (row := rB8) Tryd.underlying32 rfl rfl) rfl ?_
      refine .q (q_geq rfl rfl) rfl ?_
      refine .nil ?_
      refine .cond rfl (fun hc => ?_) (fun hc => ?_)
      · replace H := ifT hc H; clear hc
        refine .skip ?_
        refine .seq ?_
        refine .block ?_
        refine .seq ?_
        refine .region ?_
        refine .q (q_move rfl) rfl ?_
        refine .q (q_move rfl) rfl ?_
        refine .q (q_move rfl) rfl ?_
        obtain ⟨hk4, H⟩ := ck_some H
        refine .q (x := .d (cI (Int.tdiv v1nl1 10))) (q_quoT rfl rfl hk4) rfl ?_
        obtain ⟨hk5, H⟩ := ck_some H
        refine .q (x := .d (cI (Int.tmod (Int.tdiv v1nl1 10) 10))) (q_remT rfl rfl hk5) rfl ?_
        obtain ⟨hk6, H⟩ := ck_some H
        refine .q (x := .d (cI ((Int.tmod (Int.tdiv v1nl1 10) 10) * 2 ^ (Int.toNat (4))))) (q_shlI rfl rfl hk6) rfl ?_
        refine .q (q_move rfl) rfl ?_
        obtain ⟨hk7, H⟩ := ck_some H
        refine .q (x := .d (cI (Int.tmod v1nl1 10))) (q_remT rfl rfl hk7) rfl ?_
        refine .q (x := .d (cI (bOr .i64 ((Int.tmod (Int.tdiv v1nl1 10) 10) * 2 ^ (Int.toNat (4))) (Int.tmod v1nl1 10)))) (q_or rfl rfl) rfl ?_
        refine .q (x := .d (cU8 (UInt8.ofInt (bOr .i64 ((Int.tmod (Int.tdiv v1nl1 10) 10) * 2 ^ (Int.toNat (4))) (Int.tmod v1nl1 10))))) (q_conv8 Tryd.underlying3 Tryd.underlying5 rfl) rfl ?_
        obtain ⟨hk8, H⟩ := ck_some H
        refine .q (x := .vp 0 y0tl1.length (Int.toNat (v9il1)) 0) (q_idxV (l := y0tl1) (row := rB8) (i := v9il1) Tryd.underlying32 hi5 hs5 rfl rfl rfl hk8) rfl ?_
        obtain ⟨hk9, H⟩ := ck_some H
        refine .u (u_storeV (l := y0tl1) (row := rB8) (a := UInt8.ofInt (bOr .i64 ((Int.tmod (Int.tdiv v1nl1 10) 10) * 2 ^ (Int.toNat (4))) (Int.tmod v1nl1 10))) rfl rfl hk9 rfl rfl sz_5 rfl (Nat.le_of_ble_eq_true rfl) rfl) rfl ?_
        refine .withSt (st' := ⟨[], [⟨5, 1, y0tl1.length, some ((y0tl1.set (Int.toNat (v9il1)) (UInt8.ofInt (bOr .i64 ((Int.tmod (Int.tdiv v1nl1 10) 10) * 2 ^ (Int.toNat (4))) (Int.tmod v1nl1 10)))).map rB8)⟩]⟩) rfl ?_
        refine .nil ?_
        refine .region ?_
        refine .q (q_move rfl) rfl ?_
        obtain ⟨hk10, H⟩ := ck_some H
        refine .q (x := .d (cI (Int.tdiv v1nl1 100))) (q_quoT rfl rfl hk10) rfl ?_
        refine .q (q_assign rfl) rfl ?_
        refine .nil ?_
        refine .inBlock ?_
        refine .region ?_
        refine .q (q_move rfl) rfl ?_
        obtain ⟨hk11, H⟩ := ck_some H
        refine .q (q_subI rfl rfl hk11.1 hk11.2) rfl ?_
        refine .q (q_assign rfl) rfl ?_
        refine .nil ?_
        cases H
        refine .normV (l := y0tl1.set (Int.toNat (v9il1)) (UInt8.ofInt (bOr .i64 ((Int.tmod (Int.tdiv v1nl1 10) 10) * 2 ^ (Int.toNat (4))) (Int.tmod v1nl1 10)))) (row := rB8) (tk := 0) (fun z => [(0, .d (slOf 1 rB8 v0b)), (1, .d (cI (Int.tdiv v1nl1 100))), (8, .vc 0 z), (9, .d (cI (v9il1 - 1)))]) (fun z => ⟨[], [⟨5, 1, z, some ((y0tl1.set (Int.toNat (v9il1)) (UInt8.ofInt (bOr .i64 ((Int.tmod (Int.tdiv v1nl1 10) 10) * 2 ^ (Int.toNat (4))) (Int.tmod v1nl1 10)))).map rB8)⟩]⟩) rfl (.cons rfl (.rfl' _) (.cons rfl (.rfl' _) (.cons rfl (.rfl' _) (.cons rfl (.rfl' _) (.nil))))) rfl ?_
        exact .withSt (st' := ⟨[], [⟨5, 1, (y0tl1.set (Int.toNat (v9il1)) (UInt8.ofInt (bOr .i64 ((Int.tmod (Int.tdiv v1nl1 10) 10) * 2 ^ (Int.toNat (4))) (Int.tmod v1nl1 10)))).length, some ((y0tl1.set (Int.toNat (v9il1)) (UInt8.ofInt (bOr .i64 ((Int.tmod (Int.tdiv v1nl1 10) 10) * 2 ^ (Int.toNat (4))) (Int.tmod v1nl1 10)))).map rB8)⟩]⟩) rfl <| .sub (.cons rfl (.rfl' _) (.cons rfl (.rfl' _) (.cons rfl (.rfl' _) (.cons rfl (.rfl' _) (.nil))))) (ih1 (n1, (y0tl1.set (Int.toNat (v9il1)) (UInt8.ofInt (bOr .i64 ((Int.tmod (Int.tdiv v1nl1 10) 10) * 2 ^ (Int.toNat (4))) (Int.tmod v1nl1 10))), Int.tdiv v1nl1 100, v9il1 - 1)) HK1 hm1)
      · replace H := ifF hc H; clear hc
        refine .exit rfl ?_
        obtain ⟨q0, H9, hq0⟩ := map_some' H; clear H; cases hq0
        cases HK1
        have H := H9
        exact .withSt (st' := ⟨[], [⟨5, 1, y0tl1.length, some (y0tl1.map rB8)⟩]⟩) rfl <| .sub (.cons rfl (.rfl' _) (.cons rfl (.rfl' _) (.nil))) (hj1x (y0tl1, v1nl1) H)

set_option maxRecDepth 100000 in
set_option maxHeartbeats 1000000 in
theorem c_g_packed_Encode_1 {v0n : Int} {v1size : Int} {r : (List UInt8)} (H : g_packed_Encode_1 v0n v1size = some r) : ACallS Tryd.prog 55 [.d (cI v0n), .d (cI v1size), .ref 0 0] ⟨[.row 32 [.d (nilD)]], []⟩ (QE (.d (.tup [])) ⟨[.row 32 [.tsl 1 (r.map rB8) 0]], [⟨5, 1, r.length, none⟩]⟩) := by
  refine ACallS.keep ?_
  refine ACallS.enter Tryd.func55 rfl Tryd.ntmps55 rfl fun S hS => ?_
  unfold g_packed_Encode_1 at H
  change ARun _ _ _ _ _ _ [(0, .d (cI v0n)), (1, .d (cI v1size)), (2, .ref 0 0)] _
  refine .region ?_
  refine .q (x := .d (nilD)) (q_loadO one_32 rfl rfl rfl) rfl ?_
  refine .q (q_move rfl) rfl ?_
  refine .q (q_move rfl) rfl ?_
  obtain ⟨y1, hy1, H⟩ := bind_some' H
  refine .callF en_56 rfl [] [] (x := .tup [.tsl 1 (y1.1.map rB8) 0, .d (cI y1.2)]) (st' := ⟨[.row 32 [.d (nilD)]], [⟨5, 1, y1.1.length, none⟩]⟩) rfl (c_g_packed_PutDecimal (hy1)) ⟨.nil 1, .rfl' _, .rfl' _, trivial⟩ rfl rfl rfl rfl rfl rfl ?_
  refine .withSt (st' := ⟨[.row 32 [.d (nilD)]], [⟨5, 1, y1.1.length, none⟩]⟩) rfl ?_
  refine .q (q_move rfl) rfl ?_
  refine .q (x := .tsl 1 (y1.1.map rB8) 0) (q_extractE rfl rfl) rfl ?_
  refine .q (x := .d (cI y1.2)) (q_extractE rfl rfl) rfl ?_
  refine .u (u_store rfl rfl rfl rfl (Nat.le_of_ble_eq_true rfl) sz_32) rfl ?_
  refine .withSt (st' := ⟨[.row 32 [.tsl 1 (y1.1.map rB8) 0]], [⟨5, 1, y1.1.length, none⟩]⟩) rfl ?_
  refine .nil ?_
  refine .fin0 Tryd.func55 Tryd.results55 ?_
  cases H
  exact ⟨[0], [0], rfl, rfl, rfl, rfl, rfl, rfl, rfl, rfl, EVle.tupL (ds := []) trivial⟩

set_option maxRecDepth 100000 in
set_option maxHeartbeats 1000000 in
theorem c_g_packed_Encode_1_v1 {v0n : Int} {v1size : Int} {y0t0p : List UInt8} {r : (List UInt8)} (H : g_packed_Encode_1_v1 v0n v1size y0t0p = some r) : ACallS Tryd.prog 55 [.d (cI v0n), .d (cI v1size), .ref 0 0] ⟨[.row 32 [.tsl 1 (y0t0p.map rB8) 0]], [⟨5, 1, y0t0p.length, none⟩]⟩ (QE (.d (.tup [])) ⟨[.row 32 [.tsl 1 (r.map rB8) 1]], [⟨5, 1, y0t0p.length, none⟩, ⟨5, 1, r.length, none⟩]⟩) := by
  refine ACallS.keep ?_
  refine ACallS.enter Tryd.func55 rfl Tryd.ntmps55 rfl fun S hS => ?_
  unfold g_packed_Encode_1_v1 at H
  change ARun _ _ _ _ _ _ [(0, .d (cI v0n)), (1, .d (cI v1size)), (2, .ref 0 0)] _
  refine .region ?_
  refine .q (x := .tsl 1 (y0t0p.map rB8) 0) (q_loadO one_32 rfl rfl rfl) rfl ?_
  refine .q (q_move rfl) rfl ?_
  refine .q (q_move rfl) rfl ?_
  obtain ⟨y1, hy1, H⟩ := bind_some' H
  refine .callF en_56 rfl [] [] (x := .tup [.tsl 1 (y1.1.map rB8) 1, .d (cI y1.2)]) (st' := ⟨[.row 32 [.tsl 1 (y0t0p.map rB8) 0]], [⟨5, 1, y0t0p.length, none⟩, ⟨5, 1, y1.1.length, none⟩]⟩) rfl (c_g_packed_PutDecimal (hy1)) ⟨.tsl _ _ _, .rfl' _, .rfl' _, trivial⟩ rfl rfl rfl rfl rfl rfl ?_
  refine .withSt (st' := ⟨[.row 32 [.tsl 1 (y0t0p.map rB8) 0]], [⟨5, 1, y0t0p.length, none⟩, ⟨5, 1, y1.1.length, none⟩]⟩) rfl ?_
  refine .q (q_move rfl) rfl ?_
  refine .q (x := .tsl 1 (y1.1.map rB8) 1) (q_extractE rfl rfl) rfl ?_
  refine .q (x := .d (cI y1.2)) (q_extractE rfl rfl) rfl ?_
  refine .u (u_store rfl rfl rfl rfl (Nat.le_of_ble_eq_true rfl) sz_32) rfl ?_
  refine .withSt (st' := ⟨[.row 32 [.tsl 1 (y1.1.map rB8) 1]], [⟨5, 1, y0t0p.length, none⟩, ⟨5, 1, y1.1.length, none⟩]⟩) rfl ?_
  refine .nil ?_
  refine .fin0 Tryd.func55 Tryd.results55 ?_
  cases H
  exact ⟨[0], [0, 1], rfl, rfl, rfl, rfl, rfl, rfl, rfl, rfl, EVle.tupL (ds := []) trivial⟩

set_option maxRecDepth 100000 in
set_option maxHeartbeats 1000000 in
theorem c_g_packed_putNumber {v1s : List UInt8} {y0t0p : List UInt8} {r : (List UInt8)} (H : g_packed_putNumber v1s y0t0p = some r) : ACallS Tryd.prog 58 [.tsl 1 (y0t0p.map rB8) 0, .d (cS v1s)] ⟨[], [⟨5, 1, y0t0p.length, none⟩]⟩ (QE (.tsl 1 (r.map rB8) 0) ⟨[], [⟨5, 1, r.length, none⟩]⟩) := by
  obtain ⟨i5, hi5, hz5, hs5, hb5⟩ := in_5
  refine ACallS.keep ?_
  refine ACallS.enter Tryd.func58 rfl Tryd.ntmps58 rfl fun S hS => ?_
  unfold g_packed_putNumber at H
  change ARun _ _ _ _ _ _ [(0, .tsl 1 (y0t0p.map rB8) 0), (1, .d (cS v1s))] _
  refine .seq ?_
  refine .region ?_
  refine .q (q_assign rfl) rfl ?_
  refine .nil ?_
  refine .seq ?_
  refine .region ?_
  refine .v (x := .ref 0 0) (v_alloc zr_112 rfl) rfl ?_
  refine .withSt (st' := ⟨[.row 112 ((List.replicate 8 0 : List UInt8).map fun b => EV.d (cU8 b))], [⟨5, 1, y0t0p.length, none⟩]⟩) rfl ?_
  refine .nil ?_
  refine .seq ?_
  refine .region ?_
  refine .q (q_move rfl) rfl ?_
  refine .q (q_lenS Tryd.underlying9 rfl) rfl ?_
  obtain ⟨hk1, H⟩ := ck_some H
  refine .q (x := .d (cI ((v1s.length : Int) * 2 ^ (Int.toNat (4))))) (q_shlI rfl rfl hk1) rfl ?_
  refine .q (x := .d (cU8 (UInt8.ofInt ((v1s.length : Int) * 2 ^ (Int.toNat (4)))))) (q_conv8 Tryd.underlying3 Tryd.underlying5 rfl) rfl ?_
  obtain ⟨hk2, H⟩ := ck_some H
  refine .q (x := .ref 0 (Int.toNat (0))) (q_idxArrS (i := 0) Tryd.underlying112 ⟨_, hi5, hs5⟩ rfl rfl hk2) rfl ?_
  obtain ⟨hk3, H⟩ := ck_some H
  refine .u (u_storeArr (l := (List.replicate 8 0 : List UInt8)) (c1 := cU8) (a := UInt8.ofInt ((v1s.length : Int) * 2 ^ (Int.toNat (4)))) rfl rfl rfl rfl hk3 sz_5) rfl ?_
  refine .withSt (st' := ⟨[.row 112 (((List.replicate 8 0 : List UInt8).set (Int.toNat (0)) (UInt8.ofInt ((v1s.length : Int) * 2 ^ (Int.toNat (4))))).map fun b => EV.d (cU8 b))], [⟨5, 1, y0t0p.length, none⟩]⟩) rfl ?_
  refine .nil ?_
  refine .seq ?_
  refine .seq ?_
  refine .region ?_
  refine .q (q_move rfl) rfl ?_
  refine .q (q_lenS Tryd.underlying9 rfl) rfl ?_
  refine .q (q_move rfl) rfl ?_
  refine .nil ?_
  refine .blockJoin2 (ι := List UInt8) (fun s => [(0, .tsl 1 (y0t0p.map rB8) 0), (5, .ref 0 0)]) (fun s => ⟨[.row 112 (s.map fun b => EV.d (cU8 b))], [⟨5, 1, y0t0p.length, none⟩]⟩) (fun s => g_packed_putNumber_j1 y0t0p s = some r) ?_ ?_
  · rintro o0c0j1 H
    replace H : g_packed_putNumber_j1 y0t0p o0c0j1 = some r := H
    unfold g_packed_putNumber_j1 at H
    change ARun _ _ _ _ _ _ [(0, .tsl 1 (y0t0p.map rB8) 0), (5, .ref 0 0)] ⟨[.row 112 (o0c0j1.map fun b => EV.d (cU8 b))], [⟨5, 1, y0t0p.length, none⟩]⟩
    refine .seq ?_
    refine .region ?_
    refine .q (q_move rfl) rfl ?_
    refine .q (x := .osl 0 0 8 8) (q_arrAll Tryd.underlying112 ⟨_, hi5, hs5⟩ rfl) rfl ?_
    obtain ⟨hk4, H⟩ := ck_some H
    refine .v (x := .tsl 1 ((y0t0p ++ o0c0j1).map rB8) 0) (v_appendOsl (l := y0t0p) (l' := o0c0j1) (c1 := cU8) Tryd.underlying32 hi5 hz5 hs5 rfl (by rw [hb5]; decide) rfl rfl rfl rfl hk4) rfl ?_
    refine .withSt (st' := ⟨[.row 112 (o0c0j1.map fun b => EV.d (cU8 b))], [⟨5, 1, (y0t0p ++ o0c0j1).length, none⟩]⟩) rfl ?_
    refine .q (q_assign rfl) rfl ?_
    refine .nil ?_
    refine .retN [.tmp 4] [.tsl 1 ((y0t0p ++ o0c0j1).map rB8) 0] Tryd.func58 Tryd.results58 ⟨rfl, trivial⟩ ?_
    cases H
    exact ⟨[], [0], rfl, rfl, (by first | rfl | (simp only [List.map_cons, List.map_nil, renMap, renArr, mergeSt]; rfl)), (by first | rfl | (simp only [List.map_cons, List.map_nil, renMap, renArr, mergeSt]; rfl)), (by first | rfl | (simp only [List.map_cons, List.map_nil, renMap, renArr, mergeSt]; rfl)), (by first | rfl | (simp only [List.map_cons, List.map_nil, renMap, renArr, mergeSt]; rfl)), (by first | rfl | (simp only [List.map_cons, List.map_nil, renMap, renArr, mergeSt]; rfl)), (by first | rfl | (simp only [List.map_cons, List.map_nil, renMap, renArr, mergeSt]; rfl)), .rfl' _⟩
  · intro hj1 hj1x
    obtain ⟨n1, H⟩ := loop_some H
    refine .withSt (st' := ⟨[.row 112 (((List.replicate 8 0 : List UInt8).set (Int.toNat (0)) (UInt8.ofInt ((v1s.length : Int) * 2 ^ (Int.toNat (4))))).map fun b => EV.d (cU8 b))], [⟨5, 1, y0t0p.length, none⟩]⟩) rfl <| .loop (ι := Nat × (Int × List UInt8)) (fun p => [(0, .tsl 1 (y0t0p.map rB8) 0), (1, .d (cS v1s)), (5, .ref 0 0), (14, .d (cI (v1s.length : Int))), (15, .d (cI p.2.1))]) (fun p => ⟨[.row 112 (p.2.2.map fun b => EV.d (cU8 b))], [⟨5, 1, y0t0p.length, none⟩]⟩) (fun p => iter (fun s => g_packed_putNumber_l1 v1s y0t0p s.1 s.2) p.1 p.2 = some r) (·.1) (n1, (0, (List.replicate 8 0 : List UInt8).set (Int.toNat (0)) (UInt8.ofInt ((v1s.length : Int) * 2 ^ (Int.toNat (4)))))) H (.cons rfl (.rfl' _) (.cons rfl (.rfl' _) (.cons rfl (.rfl' _) (.cons rfl (.rfl' _) (.cons rfl (.rfl' _) (.nil)))))) rfl ?_
    rintro ⟨m1, v15l1, o0c0l1⟩ HI ih1
    obtain ⟨n1, q1, hm1, H, HK1⟩ := iter_succ HI
    clear HI
    replace H : g_packed_putNumber_l1 v1s y0t0p v15l1 o0c0l1 = some q1 := H
    unfold g_packed_putNumber_l1 at H
    change ARun _ _ _ _ _ _ [(0, .tsl 1 (y0t0p.map rB8) 0), (1, .d (cS v1s)), (5, .ref 0 0), (14, .d (cI (v1s.length : Int))), (15, .d (cI v15l1))] ⟨[.row 112 (o0c0l1.map fun b => EV.d (cU8 b))], [⟨5, 1, y0t0p.length, none⟩]⟩
    refine .seq ?_
    refine .region ?_
    refine .q (q_lss rfl rfl) rfl ?_
    refine .nil ?_
    refine .seq ?_
    refine .cond rfl (fun hc => ?_) (fun hc => ?_)
    · replace H := ifT hc H; clear hc
      refine .skip ?_
      refine .seq ?_
      refine .block ?_
      refine .seq ?_
      refine .region ?_
      refine .q (q_move rfl) rfl ?_
      refine .q (q_assign rfl) rfl ?_
      refine .nil ?_
      refine .seq ?_
      refine .region ?_
      refine .q (q_move rfl) rfl ?_
      refine .q (q_move rfl) rfl ?_
      obtain ⟨hk5, H⟩ := ck_some H
      refine .q (x := .d (cU8 (nth v1s (Int.toNat (v15l1))))) (q_indexL (i := v15l1) Tryd.underlying9 rfl rfl hk5) rfl ?_
      refine .q (x := .d (cU8 ((nth v1s (Int.toNat (v15l1))) - 48))) (q8_sub (a := nth v1s (Int.toNat (v15l1))) (b := 48) rfl rfl) rfl ?_
      refine .q (q_assign rfl) rfl ?_
      refine .nil ?_
      refine .seq ?_
      refine .region ?_
      refine .q (q_move rfl) rfl ?_
      obtain ⟨hk6, H⟩ := ck_some H
      refine .q (x := .d (cI (Int.tmod v15l1 2))) (q_remT rfl rfl hk6) rfl ?_
      refine .q (q_eql rfl rfl) rfl ?_
      refine .nil ?_
      refine .cond rfl (fun hc => ?_) (fun hc => ?_)
      · replace H := ifT hc H; clear hc
        refine .region ?_
        refine .q (q_move rfl) rfl ?_
        obtain ⟨hk7, H⟩ := ck_some H
        refine .q (x := .d (cI (Int.tdiv v15l1 2))) (q_quoT rfl rfl hk7) rfl ?_
        obtain ⟨hk8, H⟩ := ck_some H
        refine .q (x := .ref 0 (Int.toNat (Int.tdiv v15l1 2))) (q_idxArrS (i := Int.tdiv v15l1 2) Tryd.underlying112 ⟨_, hi5, hs5⟩ rfl rfl hk8) rfl ?_
        obtain ⟨hk9, H⟩ := ck_some H
        refine .q (x := .d (cU8 (nth o0c0l1 (Int.toNat (Int.tdiv v15l1 2))))) (q_loadArr (l := o0c0l1) (c1 := cU8) one_5 rfl rfl hk9) rfl ?_
        refine .q (q_move rfl) rfl ?_
        refine .q (x := .d (cU8 ((nth o0c0l1 (Int.toNat (Int.tdiv v15l1 2))) ||| ((nth v1s (Int.toNat (v15l1))) - 48)))) (q8_or (a := nth o0c0l1 (Int.toNat (Int.tdiv v15l1 2))) (b := (nth v1s (Int.toNat (v15l1))) - 48) rfl rfl) rfl ?_
        obtain ⟨hk10, H⟩ := ck_some H
        refine .q (x := .ref 0 (Int.toNat (Int.tdiv v15l1 2))) (q_idxArrS (i := Int.tdiv v15l1 2) Tryd.underlying112 ⟨_, hi5, hs5⟩ rfl rfl hk10) rfl ?_
        obtain ⟨hk11, H⟩ := ck_some H
        refine .u (u_storeArr (l := o0c0l1) (c1 := cU8) (a := (nth o0c0l1 (Int.toNat (Int.tdiv v15l1 2))) ||| ((nth v1s (Int.toNat (v15l1))) - 48)) rfl rfl rfl rfl hk11 sz_5) rfl ?_
        refine .withSt (st' := ⟨[.row 112 ((o0c0l1.set (Int.toNat (Int.tdiv v15l1 2)) ((nth o0c0l1 (Int.toNat (Int.tdiv v15l1 2))) ||| ((nth v1s (Int.toNat (v15l1))) - 48))).map fun b => EV.d (cU8 b))], [⟨5, 1, y0t0p.length, none⟩]⟩) rfl ?_
        refine .nil ?_
        refine .inBlock ?_
        refine .region ?_
        obtain ⟨hk12, H⟩ := ck_some H
        refine .q (q_addI rfl rfl hk12.1 hk12.2) rfl ?_
        refine .q (q_move rfl) rfl ?_
        refine .nil ?_
        cases H
        exact .withSt (st' := ⟨[.row 112 ((o0c0l1.set (Int.toNat (Int.tdiv v15l1 2)) ((nth o0c0l1 (Int.toNat (Int.tdiv v15l1 2))) ||| ((nth v1s (Int.toNat (v15l1))) - 48))).map fun b => EV.d (cU8 b))], [⟨5, 1, y0t0p.length, none⟩]⟩) rfl <| .sub (.cons rfl (.rfl' _) (.cons rfl (.rfl' _) (.cons rfl (.rfl' _) (.cons rfl (.rfl' _) (.cons rfl (.rfl' _) (.nil)))))) (ih1 (n1, (v15l1 + 1, o0c0l1.set (Int.toNat (Int.tdiv v15l1 2)) ((nth o0c0l1 (Int.toNat (Int.tdiv v15l1 2))) ||| ((nth v1s (Int.toNat (v15l1))) - 48)))) HK1 hm1)
      · replace H := ifF hc H; clear hc
        refine .region ?_
        refine .q (q_move rfl) rfl ?_
        obtain ⟨hk13, H⟩ := ck_some H
        refine .q (q_addI rfl rfl hk13.1 hk13.2) rfl ?_
        obtain ⟨hk14, H⟩ := ck_some H
        refine .q (x := .d (cI (Int.tdiv (v15l1 + 1) 2))) (q_quoT rfl rfl hk14) rfl ?_
        refine .q (q_move rfl) rfl ?_
        obtain ⟨hk15, H⟩ := ck_some H
        refine .q (x := .d (cU8 (u8shl ((nth v1s (Int.toNat (v15l1))) - 48) 4))) (q8_shl (a := (nth v1s (Int.toNat (v15l1))) - 48) (n := 4) rfl rfl hk15) rfl ?_
        obtain ⟨hk16, H⟩ := ck_some H
        refine .q (x := .ref 0 (Int.toNat (Int.tdiv (v15l1 + 1) 2))) (q_idxArrS (i := Int.tdiv (v15l1 + 1) 2) Tryd.underlying112 ⟨_, hi5, hs5⟩ rfl rfl hk16) rfl ?_
        obtain ⟨hk17, H⟩ := ck_some H
        refine .u (u_storeArr (l := o0c0l1) (c1 := cU8) (a := u8shl ((nth v1s (Int.toNat (v15l1))) - 48) 4) rfl rfl rfl rfl hk17 sz_5) rfl ?_
        refine .withSt (st' := ⟨[.row 112 ((o0c0l1.set (Int.toNat (Int.tdiv (v15l1 + 1) 2)) (u8shl ((nth v1s (Int.toNat (v15l1))) - 48) 4)).map fun b => EV.d (cU8 b))], [⟨5, 1, y0t0p.length, none⟩]⟩) rfl ?_
        refine .nil ?_
        refine .inBlock ?_
        refine .region ?_
        obtain ⟨hk18, H⟩ := ck_some H
        refine .q (q_addI rfl rfl hk18.1 hk18.2) rfl ?_
        refine .q (q_move rfl) rfl ?_
        refine .nil ?_
        cases H
        exact .withSt (st' := ⟨[.row 112 ((o0c0l1.set (Int.toNat (Int.tdiv (v15l1 + 1) 2)) (u8shl ((nth v1s (Int.toNat (v15l1))) - 48) 4)).map fun b => EV.d (cU8 b))], [⟨5, 1, y0t0p.length, none⟩]⟩) rfl <| .sub (.cons rfl (.rfl' _) (.cons rfl (.rfl' _) (.cons rfl (.rfl' _) (.cons rfl (.rfl' _) (.cons rfl (.rfl' _) (.nil)))))) (ih1 (n1, (v15l1 + 1, o0c0l1.set (Int.toNat (Int.tdiv (v15l1 + 1) 2)) (u8shl ((nth v1s (Int.toNat (v15l1))) - 48) 4))) HK1 hm1)
    · replace H := ifF hc H; clear hc
      refine .exit rfl ?_
      obtain ⟨q0, H9, hq0⟩ := map_some' H; clear H; cases hq0
      cases HK1
      have H := H9
      exact .withSt (st' := ⟨[.row 112 (o0c0l1.map fun b => EV.d (cU8 b))], [⟨5, 1, y0t0p.length, none⟩]⟩) rfl <| .sub (.cons rfl (.rfl' _) (.cons rfl (.rfl' _) (.nil))) (hj1x o0c0l1 H)

end Go.Proofs.YtccmaffefdcikaaDoor

set_option linter.unusedSimpArgs false
set_option linter.unusedVariables false
namespace Go.Proofs.YtccmaffefdcikaaDoor
open Go.RowKit Go.Abs
set_option maxRecDepth 100000 in
set_option maxHeartbeats 1000000 in
theorem c_f_packed_Encode {v0 : Record} {r : (List UInt8) × Int} (H : f_packed_Encode v0 = some r) : ACall Tryd.prog 32 [.agg (Record.row v0)] (· = .tup [slOf 1 rB8 r.1, cI r.2]) := by
  obtain ⟨i5, hi5, hz5, hs5, hb5⟩ := in_5
  refine ACall.enter' Tryd.func32 rfl Tryd.ntmps32 rfl fun S hS => ?_
  unfold f_packed_Encode at H
  change ARun _ _ _ _ _ _ [(0, .d (.agg (Record.row v0)))] _
  refine .seq ?_
  refine .region ?_
  refine .v (x := .ref 0 0) (v_box rfl rfl) rfl ?_
  refine .withSt (st' := ⟨[.row 39 [.d (cI v0.source), .d (cI v0.serial), .d (cI v0.kind), .d (cS v0.a), .d (cS v0.b), .d (cI v0.start), .d (cI v0.units), .d (cI v0.call), .d (cI v0.part), .d (cB v0.last), .d (cI v0.trunk), .d (cB v0.inbound)]], []⟩) rfl ?_
  refine .q (q_assign rfl) rfl ?_
  refine .q (q_assign rfl) rfl ?_
  refine .nil ?_
  refine .seq ?_
  refine .seq ?_
  refine .region ?_
  refine .q (x := .d (.agg (Record.row v0))) (q_loadOA one_39 sz_39 rfl rfl (Nat.le_of_ble_eq_true rfl) rfl) rfl ?_
  obtain ⟨y1, hy1, H⟩ := bind_some' H
  refine .g (x := .d (.tup [cS y1.1, cI y1.2])) (g_call en_24 rfl rfl (c_f_textual_Encode (hy1))) rfl ?_
  refine .q (q_move rfl) rfl ?_
  refine .q (q_extract rfl rfl) rfl ?_
  refine .q (q_extract rfl rfl) rfl ?_
  refine .q (q_assign rfl) rfl ?_
  refine .q (q_assign rfl) rfl ?_
  refine .nil ?_
  refine .seq ?_
  refine .region ?_
  refine .q (q_move rfl) rfl ?_
  refine .q (q_neq rfl rfl) rfl ?_
  refine .nil ?_
  refine .cond rfl (fun hc => ?_) (fun hc => ?_)
  · replace H := ifT hc H; clear hc
    refine .seq ?_
    refine .region ?_
    refine .q (q_move rfl) rfl ?_
    refine .q (q_assign rfl) rfl ?_
    refine .q (q_assign rfl) rfl ?_
    refine .nil ?_
    refine .retN [.tmp 2, .tmp 3] [.d (nilD), .d (cI y1.2)] Tryd.func32 Tryd.results32 ⟨rfl, rfl, trivial⟩ ?_
    cases H
    exact ⟨_, EVle.tupL (ds := [slOf 1 rB8 ([] : List UInt8), cI y1.2]) ⟨.nil 1, .rfl' _, trivial⟩, rfl⟩
  · replace H := ifF hc H; clear hc
    refine .skip ?_
    refine .seq ?_
    refine .region ?_
    refine .v (x := .ref 1 0) (v_alloc zr_32 rfl) rfl ?_
    refine .withSt (st' := ⟨[.row 39 [.d (cI v0.source), .d (cI v0.serial), .d (cI v0.kind), .d (cS v0.a), .d (cS v0.b), .d (cI v0.start), .d (cI v0.units), .d (cI v0.call), .d (cI v0.part), .d (cB v0.last), .d (cI v0.trunk), .d (cB v0.inbound)], .row 32 [.d (nilD)]], []⟩) rfl ?_
    refine .nil ?_
    refine .seq ?_
    refine .region ?_
    refine .q (x := .clo 55 [.ref 1 0]) (q_makeFunc rfl) rfl ?_
    refine .q (q_assign rfl) rfl ?_
    refine .nil ?_
    refine .seq ?_
    refine .region ?_
    refine .q (q_move rfl) rfl ?_
    refine .q (q_fieldRef fo_39_0 rfl) rfl ?_
    refine .q (x := .d (cI v0.source)) (q_loadO one_3 rfl rfl rfl) rfl ?_
    obtain ⟨y2, hy2, H⟩ := bind_some' H
    refine .callFC en_55 rfl rfl [1] [] (x := .d (.tup [])) (st' := ⟨[.row 39 [.d (cI v0.source), .d (cI v0.serial), .d (cI v0.kind), .d (cS v0.a), .d (cS v0.b), .d (cI v0.start), .d (cI v0.units), .d (cI v0.call), .d (cI v0.part), .d (cB v0.last), .d (cI v0.trunk), .d (cB v0.inbound)], .row 32 [.tsl 1 (y2.map rB8) 0]], [⟨5, 1, y2.length, none⟩]⟩) rfl (c_g_packed_Encode_1 (hy2)) ⟨.rfl' _, .rfl' _, .rfl' _, trivial⟩ rfl rfl rfl rfl rfl rfl ?_
    refine .withSt (st' := ⟨[.row 39 [.d (cI v0.source), .d (cI v0.serial), .d (cI v0.kind), .d (cS v0.a), .d (cS v0.b), .d (cI v0.start), .d (cI v0.units), .d (cI v0.call), .d (cI v0.part), .d (cB v0.last), .d (cI v0.trunk), .d (cB v0.inbound)], .row 32 [.tsl 1 (y2.map rB8) 0]], [⟨5, 1, y2.length, none⟩]⟩) rfl ?_
    refine .nil ?_
    refine .seq ?_
    refine .region ?_
    refine .q (q_move rfl) rfl ?_
    refine .q (q_fieldRef fo_39_1 rfl) rfl ?_
    refine .q (x := .d (cI v0.serial)) (q_loadO one_3 rfl rfl rfl) rfl ?_
    obtain ⟨y3, hy3, H⟩ := bind_some' H
    refine .callFC en_55 rfl rfl [1] [0] (x := .d (.tup [])) (st' := ⟨[.row 39 [.d (cI v0.source), .d (cI v0.serial), .d (cI v0.kind), .d (cS v0.a), .d (cS v0.b), .d (cI v0.start), .d (cI v0.units), .d (cI v0.call), .d (cI v0.part), .d (cB v0.last), .d (cI v0.trunk), .d (cB v0.inbound)], .row 32 [.tsl 1 (y3.map rB8) 1]], [⟨5, 1, y2.length, none⟩, ⟨5, 1, y3.length, none⟩]⟩) rfl (c_g_packed_Encode_1_v1 (hy3)) ⟨.rfl' _, .rfl' _, .rfl' _, trivial⟩ rfl rfl rfl rfl rfl rfl ?_
    refine .withSt (st' := ⟨[.row 39 [.d (cI v0.source), .d (cI v0.serial), .d (cI v0.kind), .d (cS v0.a), .d (cS v0.b), .d (cI v0.start), .d (cI v0.units), .d (cI v0.call), .d (cI v0.part), .d (cB v0.last), .d (cI v0.trunk), .d (cB v0.inbound)], .row 32 [.tsl 1 (y3.map rB8) 1]], [⟨5, 1, y2.length, none⟩, ⟨5, 1, y3.length, none⟩]⟩) rfl ?_
    refine .nil ?_
    refine .seq ?_
    refine .drawn 14 hMix (by kernel_rfl) ?_
    show DOps _ _ _ _ _ _ _ (_ :: _) _ _ _
    refine .q (x := .tsl 1 (y3.map rB8) 1) (q_loadO one_32 rfl rfl rfl) rfl ?_
    refine .q (q_fieldRef fo_39_2 rfl) rfl ?_
    refine .q (x := .d (cI v0.kind)) (q_loadO one_3 rfl rfl rfl) rfl ?_
    obtain ⟨hk1, H⟩ := ck_some H
    refine .q (x := .d (cI (v0.kind * 2 ^ (Int.toNat (4))))) (q_shlI rfl rfl hk1) rfl ?_
    refine .q (x := .d (cU8 (UInt8.ofInt (v0.kind * 2 ^ (Int.toNat (4)))))) (q_conv8 Tryd.underlying3 Tryd.underlying5 rfl) rfl ?_
    refine .q (q_fieldRef fo_39_9 rfl) rfl ?_
    refine .q (x := .d (cB v0.last)) (q_loadO one_4 rfl rfl rfl) rfl ?_
    obtain ⟨y4, hy4, H⟩ := bind_some' H
    refine .g (x := .d (cU8 y4)) (g_call en_57 rfl rfl (c_f_packed_bit (hy4))) rfl ?_
    refine .q (x := .d (cU8 ((UInt8.ofInt (v0.kind * 2 ^ (Int.toNat (4)))) ||| y4))) (q8_or (a := UInt8.ofInt (v0.kind * 2 ^ (Int.toNat (4)))) (b := y4) rfl rfl) rfl ?_
    refine .q (q_fieldRef fo_39_11 rfl) rfl ?_
    refine .q (x := .d (cB v0.inbound)) (q_loadO one_4 rfl rfl rfl) rfl ?_
    obtain ⟨y5, hy5, H⟩ := bind_some' H
    refine .g (x := .d (cU8 y5)) (g_call en_57 rfl rfl (c_f_packed_bit (hy5))) rfl ?_
    refine .q (x := .d (cU8 (((UInt8.ofInt (v0.kind * 2 ^ (Int.toNat (4)))) ||| y4) ||| y5))) (q8_or (a := (UInt8.ofInt (v0.kind * 2 ^ (Int.toNat (4)))) ||| y4) (b := y5) rfl rfl) rfl ?_
    refine .g (x := .d (slOf 1 rB8 ([((UInt8.ofInt (v0.kind * 2 ^ (Int.toNat (4)))) ||| y4) ||| y5] : List UInt8))) (g_buildSlice1 Tryd.underlying32 hi5 hs5 hz5 rfl rfl rfl rfl rfl) rfl ?_
    refine .nil ?_
    show AOps _ _ _ _ _ _ (_ :: _) _ _ _
    obtain ⟨hk2, H⟩ := ck_some H
    refine .v (x := .tsl 1 ((y3 ++ ([((UInt8.ofInt (v0.kind * 2 ^ (Int.toNat (4)))) ||| y4) ||| y5] : List UInt8)).map rB8) 1) (v_appendL (l := y3) (l' := ([((UInt8.ofInt (v0.kind * 2 ^ (Int.toNat (4)))) ||| y4) ||| y5] : List UInt8)) (row := rB8) Tryd.underlying32 hi5 hz5 hs5 rfl (by rw [hb5]; decide) rfl rfl rfl rfl hk2) rfl ?_
    refine .withSt (st' := ⟨[.row 39 [.d (cI v0.source), .d (cI v0.serial), .d (cI v0.kind), .d (cS v0.a), .d (cS v0.b), .d (cI v0.start), .d (cI v0.units), .d (cI v0.call), .d (cI v0.part), .d (cB v0.last), .d (cI v0.trunk), .d (cB v0.inbound)], .row 32 [.tsl 1 (y3.map rB8) 1]], [⟨5, 1, y2.length, none⟩, ⟨5, 1, (y3 ++ ([((UInt8.ofInt (v0.kind * 2 ^ (Int.toNat (4)))) ||| y4) ||| y5] : List UInt8)).length, none⟩]⟩) rfl ?_
    refine .u (u_store rfl rfl rfl rfl (Nat.le_of_ble_eq_true rfl) sz_32) rfl ?_
    refine .withSt (st' := ⟨[.row 39 [.d (cI v0.source), .d (cI v0.serial), .d (cI v0.kind), .d (cS v0.a), .d (cS v0.b), .d (cI v0.start), .d (cI v0.units), .d (cI v0.call), .d (cI v0.part), .d (cB v0.last), .d (cI v0.trunk), .d (cB v0.inbound)], .row 32 [.tsl 1 ((y3 ++ ([((UInt8.ofInt (v0.kind * 2 ^ (Int.toNat (4)))) ||| y4) ||| y5] : List UInt8)).map rB8) 1]], [⟨5, 1, y2.length, none⟩, ⟨5, 1, (y3 ++ ([((UInt8.ofInt (v0.kind * 2 ^ (Int.toNat (4)))) ||| y4) ||| y5] : List UInt8)).length, none⟩]⟩) rfl ?_
    refine .nil ?_
    refine .seq ?_
    refine .region ?_
    refine .q (x := .tsl 1 ((y3 ++ ([((UInt8.ofInt (v0.kind * 2 ^ (Int.toNat (4)))) ||| y4) ||| y5] : List UInt8)).map rB8) 1) (q_loadO one_32 rfl rfl rfl) rfl ?_
    refine .q (q_fieldRef fo_39_3 rfl) rfl ?_
    refine .q (x := .d (cS v0.a)) (q_loadO one_9 rfl rfl rfl) rfl ?_
    obtain ⟨y6, hy6, H⟩ := bind_some' H
    refine .callF en_58 rfl [] [1] (x := .tsl 1 (y6.map rB8) 1) (st' := ⟨[.row 39 [.d (cI v0.source), .d (cI v0.serial), .d (cI v0.kind), .d (cS v0.a), .d (cS v0.b), .d (cI v0.start), .d (cI v0.units), .d (cI v0.call), .d (cI v0.part), .d (cB v0.last), .d (cI v0.trunk), .d (cB v0.inbound)], .row 32 [.tsl 1 ((y3 ++ ([((UInt8.ofInt (v0.kind * 2 ^ (Int.toNat (4)))) ||| y4) ||| y5] : List UInt8)).map rB8) 1]], [⟨5, 1, y2.length, none⟩, ⟨5, 1, y6.length, none⟩]⟩) rfl (c_g_packed_putNumber (hy6)) ⟨.rfl' _, .rfl' _, trivial⟩ rfl rfl rfl rfl rfl rfl ?_
    refine .withSt (st' := ⟨[.row 39 [.d (cI v0.source), .d (cI v0.serial), .d (cI v0.kind), .d (cS v0.a), .d (cS v0.b), .d (cI v0.start), .d (cI v0.units), .d (cI v0.call), .d (cI v0.part), .d (cB v0.last), .d (cI v0.trunk), .d (cB v0.inbound)], .row 32 [.tsl 1 ((y3 ++ ([((UInt8.ofInt (v0.kind * 2 ^ (Int.toNat (4)))) ||| y4) ||| y5] : List UInt8)).map rB8) 1]], [⟨5, 1, y2.length, none⟩, ⟨5, 1, y6.length, none⟩]⟩) rfl ?_
    refine .u (u_store rfl rfl rfl rfl (Nat.le_of_ble_eq_true rfl) sz_32) rfl ?_
    refine .withSt (st' := ⟨[.row 39 [.d (cI v0.source), .d (cI v0.serial), .d (cI v0.kind), .d (cS v0.a), .d (cS v0.b), .d (cI v0.start), .d (cI v0.units), .d (cI v0.call), .d (cI v0.part), .d (cB v0.last), .d (cI v0.trunk), .d (cB v0.inbound)], .row 32 [.tsl 1 (y6.map rB8) 1]], [⟨5, 1, y2.length, none⟩, ⟨5, 1, y6.length, none⟩]⟩) rfl ?_
    refine .nil ?_
    refine .seq ?_
    refine .region ?_
    refine .q (x := .tsl 1 (y6.map rB8) 1) (q_loadO one_32 rfl rfl rfl) rfl ?_
    refine .q (q_fieldRef fo_39_4 rfl) rfl ?_
    refine .q (x := .d (cS v0.b)) (q_loadO one_9 rfl rfl rfl) rfl ?_
    obtain ⟨y7, hy7, H⟩ := bind_some' H
    refine .callF en_58 rfl [] [1] (x := .tsl 1 (y7.map rB8) 1) (st' := ⟨[.row 39 [.d (cI v0.source), .d (cI v0.serial), .d (cI v0.kind), .d (cS v0.a), .d (cS v0.b), .d (cI v0.start), .d (cI v0.units), .d (cI v0.call), .d (cI v0.part), .d (cB v0.last), .d (cI v0.trunk), .d (cB v0.inbound)], .row 32 [.tsl 1 (y6.map rB8) 1]], [⟨5, 1, y2.length, none⟩, ⟨5, 1, y7.length, none⟩]⟩) rfl (c_g_packed_putNumber (hy7)) ⟨.rfl' _, .rfl' _, trivial⟩ rfl rfl rfl rfl rfl rfl ?_
    refine .withSt (st' := ⟨[.row 39 [.d (cI v0.source), .d (cI v0.serial), .d (cI v0.kind), .d (cS v0.a), .d (cS v0.b), .d (cI v0.start), .d (cI v0.units), .d (cI v0.call), .d (cI v0.part), .d (cB v0.last), .d (cI v0.trunk), .d (cB v0.inbound)], .row 32 [.tsl 1 (y6.map rB8) 1]], [⟨5, 1, y2.length, none⟩, ⟨5, 1, y7.length, none⟩]⟩) rfl ?_
    refine .u (u_store rfl rfl rfl rfl (Nat.le_of_ble_eq_true rfl) sz_32) rfl ?_
    refine .withSt (st' := ⟨[.row 39 [.d (cI v0.source), .d (cI v0.serial), .d (cI v0.kind), .d (cS v0.a), .d (cS v0.b), .d (cI v0.start), .d (cI v0.units), .d (cI v0.call), .d (cI v0.part), .d (cB v0.last), .d (cI v0.trunk), .d (cB v0.inbound)], .row 32 [.tsl 1 (y7.map rB8) 1]], [⟨5, 1, y2.length, none⟩, ⟨5, 1, y7.length, none⟩]⟩) rfl ?_
    refine .nil ?_
    refine .seq ?_
    refine .region ?_
    refine .q (q_move rfl) rfl ?_
    refine .q (q_fieldRef fo_39_5 rfl) rfl ?_
    refine .q (x := .d (cI v0.start)) (q_loadO one_3 rfl rfl rfl) rfl ?_
    obtain ⟨y8, hy8, H⟩ := bind_some' H
    refine .callFC en_55 rfl rfl [1] [1] (x := .d (.tup [])) (st' := ⟨[.row 39 [.d (cI v0.source), .d (cI v0.serial), .d (cI v0.kind), .d (cS v0.a), .d (cS v0.b), .d (cI v0.start), .d (cI v0.units), .d (cI v0.call), .d (cI v0.part), .d (cB v0.last), .d (cI v0.trunk), .d (cB v0.inbound)], .row 32 [.tsl 1 (y8.map rB8) 2]], [⟨5, 1, y2.length, none⟩, ⟨5, 1, y7.length, none⟩, ⟨5, 1, y8.length, none⟩]⟩) rfl (c_g_packed_Encode_1_v1 (hy8)) ⟨.rfl' _, .rfl' _, .rfl' _, trivial⟩ rfl rfl rfl rfl rfl rfl ?_
    refine .withSt (st' := ⟨[.row 39 [.d (cI v0.source), .d (cI v0.serial), .d (cI v0.kind), .d (cS v0.a), .d (cS v0.b), .d (cI v0.start), .d (cI v0.units), .d (cI v0.call), .d (cI v0.part), .d (cB v0.last), .d (cI v0.trunk), .d (cB v0.inbound)], .row 32 [.tsl 1 (y8.map rB8) 2]], [⟨5, 1, y2.length, none⟩, ⟨5, 1, y7.length, none⟩, ⟨5, 1, y8.length, none⟩]⟩) rfl ?_
    refine .nil ?_
    refine .seq ?_
    refine .region ?_
    refine .q (q_move rfl) rfl ?_
    refine .q (q_fieldRef fo_39_6 rfl) rfl ?_
    refine .q (x := .d (cI v0.units)) (q_loadO one_3 rfl rfl rfl) rfl ?_
    obtain ⟨y9, hy9, H⟩ := bind_some' H
    refine .callFC en_55 rfl rfl [1] [2] (x := .d (.tup [])) (st' := ⟨[.row 39 [.d (cI v0.source), .d (cI v0.serial), .d (cI v0.kind), .d (cS v0.a), .d (cS v0.b), .d (cI v0.start), .d (cI v0.units), .d (cI v0.call), .d (cI v0.part), .d (cB v0.last), .d (cI v0.trunk), .d (cB v0.inbound)], .row 32 [.tsl 1 (y9.map rB8) 3]], [⟨5, 1, y2.length, none⟩, ⟨5, 1, y7.length, none⟩, ⟨5, 1, y8.length, none⟩, ⟨5, 1, y9.length, none⟩]⟩) rfl (c_g_packed_Encode_1_v1 (hy9)) ⟨.rfl' _, .rfl' _, .rfl' _, trivial⟩ rfl rfl rfl rfl rfl rfl ?_
    refine .withSt (st' := ⟨[.row 39 [.d (cI v0.source), .d (cI v0.serial), .d (cI v0.kind), .d (cS v0.a), .d (cS v0.b), .d (cI v0.start), .d (cI v0.units), .d (cI v0.call), .d (cI v0.part), .d (cB v0.last), .d (cI v0.trunk), .d (cB v0.inbound)], .row 32 [.tsl 1 (y9.map rB8) 3]], [⟨5, 1, y2.length, none⟩, ⟨5, 1, y7.length, none⟩, ⟨5, 1, y8.length, none⟩, ⟨5, 1, y9.length, none⟩]⟩) rfl ?_
    refine .nil ?_
    refine .seq ?_
    refine .region ?_
    refine .q (q_move rfl) rfl ?_
    refine .q (q_fieldRef fo_39_7 rfl) rfl ?_
    refine .q (x := .d (cI v0.call)) (q_loadO one_3 rfl rfl rfl) rfl ?_
    obtain ⟨y10, hy10, H⟩ := bind_some' H
    refine .callFC en_55 rfl rfl [1] [3] (x := .d (.tup [])) (st' := ⟨[.row 39 [.d (cI v0.source), .d (cI v0.serial), .d (cI v0.kind), .d (cS v0.a), .d (cS v0.b), .d (cI v0.start), .d (cI v0.units), .d (cI v0.call), .d (cI v0.part), .d (cB v0.last), .d (cI v0.trunk), .d (cB v0.inbound)], .row 32 [.tsl 1 (y10.map rB8) 4]], [⟨5, 1, y2.length, none⟩, ⟨5, 1, y7.length, none⟩, ⟨5, 1, y8.length, none⟩, ⟨5, 1, y9.length, none⟩, ⟨5, 1, y10.length, none⟩]⟩) rfl (c_g_packed_Encode_1_v1 (hy10)) ⟨.rfl' _, .rfl' _, .rfl' _, trivial⟩ rfl rfl rfl rfl rfl rfl ?_
    refine .withSt (st' := ⟨[.row 39 [.d (cI v0.source), .d (cI v0.serial), .d (cI v0.kind), .d (cS v0.a), .d (cS v0.b), .d (cI v0.start), .d (cI v0.units), .d (cI v0.call), .d (cI v0.part), .d (cB v0.last), .d (cI v0.trunk), .d (cB v0.inbound)], .row 32 [.tsl 1 (y10.map rB8) 4]], [⟨5, 1, y2.length, none⟩, ⟨5, 1, y7.length, none⟩, ⟨5, 1, y8.length, none⟩, ⟨5, 1, y9.length, none⟩, ⟨5, 1, y10.length, none⟩]⟩) rfl ?_
    refine .nil ?_
    refine .seq ?_
    refine .region ?_
    refine .q (q_move rfl) rfl ?_
    refine .q (q_fieldRef fo_39_8 rfl) rfl ?_
    refine .q (x := .d (cI v0.part)) (q_loadO one_3 rfl rfl rfl) rfl ?_
    obtain ⟨y11, hy11, H⟩ := bind_some' H
    refine .callFC en_55 rfl rfl [1] [4] (x := .d (.tup [])) (st' := ⟨[.row 39 [.d (cI v0.source), .d (cI v0.serial), .d (cI v0.kind), .d (cS v0.a), .d (cS v0.b), .d (cI v0.start), .d (cI v0.units), .d (cI v0.call), .d (cI v0.part), .d (cB v0.last), .d (cI v0.trunk), .d (cB v0.inbound)], .row 32 [.tsl 1 (y11.map rB8) 5]], [⟨5, 1, y2.length, none⟩, ⟨5, 1, y7.length, none⟩, ⟨5, 1, y8.length, none⟩, ⟨5, 1, y9.length, none⟩, ⟨5, 1, y10.length, none⟩, ⟨5, 1, y11.length, none⟩]⟩) rfl (c_g_packed_Encode_1_v1 (hy11)) ⟨.rfl' _, .rfl' _, .rfl' _, trivial⟩ rfl rfl rfl rfl rfl rfl ?_
    refine .withSt (st' := ⟨[.row 39 [.d (cI v0.source), .d (cI v0.serial), .d (cI v0.kind), .d (cS v0.a), .d (cS v0.b), .d (cI v0.start), .d (cI v0.units), .d (cI v0.call), .d (cI v0.part), .d (cB v0.last), .d (cI v0.trunk), .d (cB v0.inbound)], .row 32 [.tsl 1 (y11.map rB8) 5]], [⟨5, 1, y2.length, none⟩, ⟨5, 1, y7.length, none⟩, ⟨5, 1, y8.length, none⟩, ⟨5, 1, y9.length, none⟩, ⟨5, 1, y10.length, none⟩, ⟨5, 1, y11.length, none⟩]⟩) rfl ?_
    refine .nil ?_
    refine .seq ?_
    refine .region ?_
    refine .q (q_move rfl) rfl ?_
    refine .q (q_fieldRef fo_39_10 rfl) rfl ?_
    refine .q (x := .d (cI v0.trunk)) (q_loadO one_3 rfl rfl rfl) rfl ?_
    obtain ⟨y12, hy12, H⟩ := bind_some' H
    refine .callFC en_55 rfl rfl [1] [5] (x := .d (.tup [])) (st' := ⟨[.row 39 [.d (cI v0.source), .d (cI v0.serial), .d (cI v0.kind), .d (cS v0.a), .d (cS v0.b), .d (cI v0.start), .d (cI v0.units), .d (cI v0.call), .d (cI v0.part), .d (cB v0.last), .d (cI v0.trunk), .d (cB v0.inbound)], .row 32 [.tsl 1 (y12.map rB8) 6]], [⟨5, 1, y2.length, none⟩, ⟨5, 1, y7.length, none⟩, ⟨5, 1, y8.length, none⟩, ⟨5, 1, y9.length, none⟩, ⟨5, 1, y10.length, none⟩, ⟨5, 1, y11.length, none⟩, ⟨5, 1, y12.length, none⟩]⟩) rfl (c_g_packed_Encode_1_v1 (hy12)) ⟨.rfl' _, .rfl' _, .rfl' _, trivial⟩ rfl rfl rfl rfl rfl rfl ?_
    refine .withSt (st' := ⟨[.row 39 [.d (cI v0.source), .d (cI v0.serial), .d (cI v0.kind), .d (cS v0.a), .d (cS v0.b), .d (cI v0.start), .d (cI v0.units), .d (cI v0.call), .d (cI v0.part), .d (cB v0.last), .d (cI v0.trunk), .d (cB v0.inbound)], .row 32 [.tsl 1 (y12.map rB8) 6]], [⟨5, 1, y2.length, none⟩, ⟨5, 1, y7.length, none⟩, ⟨5, 1, y8.length, none⟩, ⟨5, 1, y9.length, none⟩, ⟨5, 1, y10.length, none⟩, ⟨5, 1, y11.length, none⟩, ⟨5, 1, y12.length, none⟩]⟩) rfl ?_
    refine .nil ?_
    refine .seq ?_
    refine .drawn 4 hMix (by kernel_rfl) ?_
    show DOps _ _ _ _ _ _ _ (_ :: _) _ _ _
    refine .q (x := .tsl 1 (y12.map rB8) 6) (q_loadO one_32 rfl rfl rfl) rfl ?_
    refine .q (x := .tsl 1 (y12.map rB8) 6) (q_loadO one_32 rfl rfl rfl) rfl ?_
    obtain ⟨y13, hy13, H⟩ := bind_some' H
    refine .g (x := .d (cU8 y13)) (g_call en_59 rfl rfl (c_f_packed_sum (hy13))) rfl ?_
    refine .g (x := .d (slOf 1 rB8 ([y13] : List UInt8))) (g_buildSlice1 Tryd.underlying32 hi5 hs5 hz5 rfl rfl rfl rfl rfl) rfl ?_
    refine .nil ?_
    show AOps _ _ _ _ _ _ (_ :: _) _ _ _
    obtain ⟨hk3, H⟩ := ck_some H
    refine .v (x := .tsl 1 ((y12 ++ ([y13] : List UInt8)).map rB8) 6) (v_appendL (l := y12) (l' := ([y13] : List UInt8)) (row := rB8) Tryd.underlying32 hi5 hz5 hs5 rfl (by rw [hb5]; decide) rfl rfl rfl rfl hk3) rfl ?_
    refine .withSt (st' := ⟨[.row 39 [.d (cI v0.source), .d (cI v0.serial), .d (cI v0.kind), .d (cS v0.a), .d (cS v0.b), .d (cI v0.start), .d (cI v0.units), .d (cI v0.call), .d (cI v0.part), .d (cB v0.last), .d (cI v0.trunk), .d (cB v0.inbound)], .row 32 [.tsl 1 (y12.map rB8) 6]], [⟨5, 1, y2.length, none⟩, ⟨5, 1, y7.length, none⟩, ⟨5, 1, y8.length, none⟩, ⟨5, 1, y9.length, none⟩, ⟨5, 1, y10.length, none⟩, ⟨5, 1, y11.length, none⟩, ⟨5, 1, (y12 ++ ([y13] : List UInt8)).length, none⟩]⟩) rfl ?_
    refine .q (q_assign rfl) rfl ?_
    refine .q (q_assign rfl) rfl ?_
    refine .nil ?_
    refine .retN [.tmp 2, .tmp 3] [.tsl 1 ((y12 ++ ([y13] : List UInt8)).map rB8) 6, .d (cI 0)] Tryd.func32 Tryd.results32 ⟨rfl, rfl, trivial⟩ ?_
    cases H
    exact ⟨_, EVle.tupL (ds := [slOf 1 rB8 (y12 ++ ([y13] : List UInt8)), cI 0]) ⟨.tsl _ _ _, .rfl' _, trivial⟩, rfl⟩

set_option maxRecDepth 100000 in
set_option maxHeartbeats 1000000 in
theorem c_f_batch_line {v0r : Record} {r : (List UInt8) × Int} (H : f_batch_line v0r = some r) : ACall Tryd.prog 34 [.agg (Record.row v0r)] (· = .tup [cS r.1, cI r.2]) := by
  refine ACall.enter' Tryd.func34 rfl Tryd.ntmps34 rfl fun S hS => ?_
  unfold f_batch_line at H
  change ARun _ _ _ _ _ _ [(0, .d (.agg (Record.row v0r)))] _
  refine .seq ?_
  refine .region ?_
  refine .v (x := .ref 0 0) (v_box rfl rfl) rfl ?_
  refine .withSt (st' := ⟨[.row 39 [.d (cI v0r.source), .d (cI v0r.serial), .d (cI v0r.kind), .d (cS v0r.a), .d (cS v0r.b), .d (cI v0r.start), .d (cI v0r.units), .d (cI v0r.call), .d (cI v0r.part), .d (cB v0r.last), .d (cI v0r.trunk), .d (cB v0r.inbound)]], []⟩) rfl ?_
  refine .q (q_assign rfl) rfl ?_
  refine .q (q_assign rfl) rfl ?_
  refine .nil ?_
  refine .seq ?_
  refine .region ?_
  refine .q (x := .d (.agg (Record.row v0r))) (q_loadOA one_39 sz_39 rfl rfl (Nat.le_of_ble_eq_true rfl) rfl) rfl ?_
  obtain ⟨y1, hy1, H⟩ := bind_some' H
  refine .g (x := .d (.tup [cS y1.1, cI y1.2])) (g_call en_24 rfl rfl (c_f_textual_Encode (hy1))) rfl ?_
  refine .q (q_move rfl) rfl ?_
  refine .q (q_extract rfl rfl) rfl ?_
  refine .q (q_extract rfl rfl) rfl ?_
  refine .q (q_assign rfl) rfl ?_
  refine .q (q_assign rfl) rfl ?_
  refine .nil ?_
  refine .seq ?_
  refine .region ?_
  refine .q (q_move rfl) rfl ?_
  obtain ⟨hk1, H⟩ := ck_some H
  refine .q (x := .d (cS (y1.1 ++ ([10] : List UInt8)))) (q_sadd rfl rfl hk1) rfl ?_
  refine .q (q_move rfl) rfl ?_
  refine .q (q_assign rfl) rfl ?_
  refine .q (q_assign rfl) rfl ?_
  refine .nil ?_
  refine .retN [.tmp 2, .tmp 3] [.d (cS (y1.1 ++ ([10] : List UInt8))), .d (cI y1.2)] Tryd.func34 Tryd.results34 ⟨rfl, rfl, trivial⟩ ?_
  cases H
  exact ⟨_, EVle.tupL (ds := [cS (y1.1 ++ ([10] : List UInt8)), cI y1.2]) ⟨.rfl' _, .rfl' _, trivial⟩, rfl⟩

set_option maxRecDepth 100000 in
set_option maxHeartbeats 1000000 in
theorem c_g_api_Record_byte {v0list : List Record} {r : (List UInt8)} (H : g_api_Record_byte v0list = some r) : ACallS Tryd.prog 30 [.d (slOf 12 Record.row v0list), .d (.ex (.func (.func 31) #[] #[]))] ⟨[], []⟩ (QE (.d (slOf 1 rB8 r)) ⟨[], []⟩) := by
  obtain ⟨i5, hi5, hz5, hs5, hb5⟩ := in_5
  obtain ⟨i39, hi39, hz39, hs39, hb39⟩ := in_39
  refine ACallS.keep ?_
  refine ACallS.enter Tryd.func30 rfl Tryd.ntmps30 rfl fun S hS => ?_
  unfold g_api_Record_byte at H
  change ARun _ _ _ _ _ _ [(0, .d (slOf 12 Record.row v0list)), (1, .d (.ex (.func (.func 31) #[] #[])))] _
  refine .seq ?_
  refine .region ?_
  refine .q (q_assign rfl) rfl ?_
  refine .nil ?_
  refine .seq ?_
  refine .region ?_
  refine .q (q_assign rfl) rfl ?_
  refine .nil ?_
  refine .seq ?_
  refine .seq ?_
  refine .region ?_
  refine .q (q_move rfl) rfl ?_
  refine .q (q_lenL (l := v0list) (row := Record.row) Tryd.underlying22 rfl rfl) rfl ?_
  refine .q (q_move rfl) rfl ?_
  refine .nil ?_
  refine .block ?_
  refine .tok (i := 5) (e := 5) (sz := 1) rfl ?_
  refine .withSt (st' := ⟨[], [⟨5, 1, ([] : List UInt8).length, none⟩]⟩) rfl ?_
  obtain ⟨n1, H⟩ := loop_some H
  refine .withSt (st' := ⟨[], [⟨5, 1, ([] : List UInt8).length, none⟩]⟩) rfl <| .loop (ι := Nat × (List UInt8 × Int)) (fun p => [(1, .d (.ex (.func (.func 31) #[] #[]))), (5, .tsl 1 (p.2.1.map rB8) 0), (10, .d (slOf 12 Record.row v0list)), (11, .d (cI (v0list.length : Int))), (12, .d (cI p.2.2))]) (fun p => ⟨[], [⟨5, 1, p.2.1.length, none⟩]⟩) (fun p => iter (fun s => g_api_Record_byte_l1 v0list s.1 s.2) p.1 p.2 = some r) (·.1) (n1, (([] : List UInt8), 0)) H (.cons rfl (.rfl' _) (.cons rfl (.rfl' _) (.cons rfl (.rfl' _) (.cons rfl (.rfl' _) (.cons rfl (.rfl' _) (.nil)))))) rfl ?_
  rintro ⟨m1, v5outl1, v12l1⟩ HI ih1
  obtain ⟨n1, q1, hm1, H, HK1⟩ := iter_succ HI
  clear HI
  replace H : g_api_Record_byte_l1 v0list v5outl1 v12l1 = some q1 := H
  unfold g_api_Record_byte_l1 at H
  change ARun _ _ _ _ _ _ [(1, .d (.ex (.func (.func 31) #[] #[]))), (5, .tsl 1 (v5outl1.map rB8) 0), (10, .d (slOf 12 Record.row v0list)), (11, .d (cI (v0list.length : Int))), (12, .d (cI v12l1))] ⟨[], [⟨5, 1, v5outl1.length, none⟩]⟩
  refine .seq ?_
  refine .region ?_
  refine .q (q_lss rfl rfl) rfl ?_
  refine .nil ?_
  refine .seq ?_
  refine .cond rfl (fun hc => ?_) (fun hc => ?_)
  · replace H := ifT hc H; clear hc
    refine .skip ?_
    refine .seq ?_
    refine .block ?_
    refine .seq ?_
    refine .region ?_
    obtain ⟨hk1, H⟩ := ck_some H
    refine .q (x := .d (.ro (Record.row (nth v0list (Int.toNat (v12l1)))))) (q_idxL (row := Record.row) (l := v0list) (i := v12l1) Tryd.underlying22 hi39 hs39 rfl rfl rfl hk1) rfl ?_
    refine .q (x := .d (.agg (Record.row (nth v0list (Int.toNat (v12l1)))))) (q_loadAll one_39 sz_39 rfl rfl) rfl ?_
    refine .v (x := .ref 0 0) (v_alloc zr_39 rfl) rfl ?_
    refine .withSt (st' := ⟨[.row 39 [.d (cI 0), .d (cI 0), .d (cI 0), .d (cS ([] : List UInt8)), .d (cS ([] : List UInt8)), .d (cI 0), .d (cI 0), .d (cI 0), .d (cI 0), .d (cB false), .d (cI 0), .d (cB false)]], [⟨5, 1, v5outl1.length, none⟩]⟩) rfl ?_
    refine .u (u_store rfl rfl rfl rfl (Nat.le_of_ble_eq_true rfl) sz_39) rfl ?_
    refine .withSt (st' := ⟨[.row 39 [.d (cI ((nth v0list (Int.toNat (v12l1))).source)), .d (cI ((nth v0list (Int.toNat (v12l1))).serial)), .d (cI ((nth v0list (Int.toNat (v12l1))).kind)), .d (cS ((nth v0list (Int.toNat (v12l1))).a)), .d (cS ((nth v0list (Int.toNat (v12l1))).b)), .d (cI ((nth v0list (Int.toNat (v12l1))).start)), .d (cI ((nth v0list (Int.toNat (v12l1))).units)), .d (cI ((nth v0list (Int.toNat (v12l1))).call)), .d (cI ((nth v0list (Int.toNat (v12l1))).part)), .d (cB ((nth v0list (Int.toNat (v12l1))).last)), .d (cI ((nth v0list (Int.toNat (v12l1))).trunk)), .d (cB ((nth v0list (Int.toNat (v12l1))).inbound))]], [⟨5, 1, v5outl1.length, none⟩]⟩) rfl ?_
    refine .nil ?_
    refine .seq ?_
    refine .region ?_
    refine .q (q_move rfl) rfl ?_
    refine .q (x := .d (.agg (Record.row (nth v0list (Int.toNat (v12l1)))))) (q_loadOA one_39 sz_39 rfl rfl (Nat.le_of_ble_eq_true rfl) rfl) rfl ?_
    obtain ⟨y1, hy1, H⟩ := bind_some' H
    refine .g (x := .d (.tup [slOf 1 rB8 y1.1, cI y1.2])) (g_callF en_31 rfl rfl rfl (c_f_tagged_Encode (hy1))) rfl ?_
    refine .q (q_move rfl) rfl ?_
    refine .q (q_extract rfl rfl) rfl ?_
    refine .q (q_extract rfl rfl) rfl ?_
    refine .q (q_assign rfl) rfl ?_
    refine .q (q_assign rfl) rfl ?_
    refine .nil ?_
    refine .region ?_
    refine .q (q_move rfl) rfl ?_
    refine .q (q_move rfl) rfl ?_
    obtain ⟨hk2, H⟩ := ck_some H
    refine .v (x := .tsl 1 ((v5outl1 ++ y1.1).map rB8) 0) (v_appendL (l := v5outl1) (l' := y1.1) (row := rB8) Tryd.underlying32 hi5 hz5 hs5 rfl (by rw [hb5]; decide) rfl rfl rfl rfl hk2) rfl ?_
    refine .withSt (st' := ⟨[.row 39 [.d (cI ((nth v0list (Int.toNat (v12l1))).source)), .d (cI ((nth v0list (Int.toNat (v12l1))).serial)), .d (cI ((nth v0list (Int.toNat (v12l1))).kind)), .d (cS ((nth v0list (Int.toNat (v12l1))).a)), .d (cS ((nth v0list (Int.toNat (v12l1))).b)), .d (cI ((nth v0list (Int.toNat (v12l1))).start)), .d (cI ((nth v0list (Int.toNat (v12l1))).units)), .d (cI ((nth v0list (Int.toNat (v12l1))).call)), .d (cI ((nth v0list (Int.toNat (v12l1))).part)), .d (cB ((nth v0list (Int.toNat (v12l1))).last)), .d (cI ((nth v0list (Int.toNat (v12l1))).trunk)), .d (cB ((nth v0list (Int.toNat (v12l1))).inbound))]], [⟨5, 1, (v5outl1 ++ y1.1).length, none⟩]⟩) rfl ?_
    refine .q (q_assign rfl) rfl ?_
    refine .nil ?_
    refine .inBlock ?_
    refine .region ?_
    obtain ⟨hk3, H⟩ := ck_some H
    refine .q (q_addI rfl rfl hk3.1 hk3.2) rfl ?_
    refine .q (q_move rfl) rfl ?_
    refine .nil ?_
    cases H
    exact .to 0 1 (env' := [(1, .d (.ex (.func (.func 31) #[] #[]))), (5, .tsl 1 ((v5outl1 ++ y1.1).map rB8) 0), (10, .d (slOf 12 Record.row v0list)), (11, .d (cI (v0list.length : Int))), (12, .d (cI (v12l1 + 1)))]) (st' := ⟨[], [⟨5, 1, (v5outl1 ++ y1.1).length, none⟩]⟩) (.cons rfl (.rfl' _) (.cons rfl (.rfl' _) (.cons rfl (.rfl' _) (.cons rfl (.rfl' _) (.cons rfl (.rfl' _) (.nil)))))) rfl rfl rfl rfl rfl (by rw [hS]; exact Nat.le_of_ble_eq_true rfl) (by rw [hS]; exact Nat.le_of_ble_eq_true rfl) <| .sub (.cons rfl (.rfl' _) (.cons rfl (.rfl' _) (.cons rfl (.rfl' _) (.cons rfl (.rfl' _) (.cons rfl (.rfl' _) (.nil)))))) (ih1 (n1, (v5outl1 ++ y1.1, v12l1 + 1)) HK1 hm1)
  · replace H := ifF hc H; clear hc
    refine .exit rfl ?_
    refine .seq ?_
    refine .region ?_
    refine .q (q_move rfl) rfl ?_
    refine .q (q_assign rfl) rfl ?_
    refine .nil ?_
    refine .retN [.tmp 4] [.tsl 1 (v5outl1.map rB8) 0] Tryd.func30 Tryd.results30 ⟨rfl, trivial⟩ ?_
    cases H
    cases HK1
    exact ⟨[], [], rfl, rfl, rfl, rfl, rfl, rfl, rfl, rfl, .tsl _ _ _⟩

set_option maxRecDepth 100000 in
set_option maxHeartbeats 1000000 in
theorem c_g_api_Record_byte_v1 {v0list : List Record} {r : (List UInt8)} (H : g_api_Record_byte_v1 v0list = some r) : ACallS Tryd.prog 30 [.d (slOf 12 Record.row v0list), .d (.ex (.func (.func 32) #[] #[]))] ⟨[], []⟩ (QE (.d (slOf 1 rB8 r)) ⟨[], []⟩) := by
  obtain ⟨i5, hi5, hz5, hs5, hb5⟩ := in_5
  obtain ⟨i39, hi39, hz39, hs39, hb39⟩ := in_39
  refine ACallS.keep ?_
  refine ACallS.enter Tryd.func30 rfl Tryd.ntmps30 rfl fun S hS => ?_
  unfold g_api_Record_byte_v1 at H
  change ARun _ _ _ _ _ _ [(0, .d (slOf 12 Record.row v0list)), (1, .d (.ex (.func (.func 32) #[] #[])))] _
  refine .seq ?_
  refine .region ?_
  refine .q (q_assign rfl) rfl ?_
  refine .nil ?_
  refine .seq ?_
  refine .region ?_
  refine .q (q_assign rfl) rfl ?_
  refine .nil ?_
  refine .seq ?_
  refine .seq ?_
  refine .region ?_
  refine .q (q_move rfl) rfl ?_
  refine .q (q_lenL (l := v0list) (row := Record.row) Tryd.underlying22 rfl rfl) rfl ?_
  refine .q (q_move rfl) rfl ?_
  refine .nil ?_
  refine .block ?_
  refine .tok (i := 5) (e := 5) (sz := 1) rfl ?_
  refine .withSt (st' := ⟨[], [⟨5, 1, ([] : List UInt8).length, none⟩]⟩) rfl ?_
  obtain ⟨n1, H⟩ := loop_some H
  refine .withSt (st' := ⟨[], [⟨5, 1, ([] : List UInt8).length, none⟩]⟩) rfl <| .loop (ι := Nat × (List UInt8 × Int)) (fun p => [(1, .d (.ex (.func (.func 32) #[] #[]))), (5, .tsl 1 (p.2.1.map rB8) 0), (10, .d (slOf 12 Record.row v0list)), (11, .d (cI (v0list.length : Int))), (12, .d (cI p.2.2))]) (fun p => ⟨[], [⟨5, 1, p.2.1.length, none⟩]⟩) (fun p => iter (fun s => g_api_Record_byte_v1_l1 v0list s.1 s.2) p.1 p.2 = some r) (·.1) (n1, (([] : List UInt8), 0)) H (.cons rfl (.rfl' _) (.cons rfl (.rfl' _) (.cons rfl (.rfl' _) (.cons rfl (.rfl' _) (.cons rfl (.rfl' _) (.nil)))))) rfl ?_
  rintro ⟨m1, v5outl1, v12l1⟩ HI ih1
  obtain ⟨n1, q1, hm1, H, HK1⟩ := iter_succ HI
  clear HI
  replace H : g_api_Record_byte_v1_l1 v0list v5outl1 v12l1 = some q1 := H
  unfold g_api_Record_byte_v1_l1 at H
  change ARun _ _ _ _ _ _ [(1, .d (.ex (.func (.func 32) #[] #[]))), (5, .tsl 1 (v5outl1.map rB8) 0), (10, .d (slOf 12 Record.row v0list)), (11, .d (cI (v0list.length : Int))), (12, .d (cI v12l1))] ⟨[], [⟨5, 1, v5outl1.length, none⟩]⟩
  refine .seq ?_
  refine .region ?_
  refine .q (q_lss rfl rfl) rfl ?_
  refine .nil ?_
  refine .seq ?_
  refine .cond rfl (fun hc => ?_) (fun hc => ?_)
  · replace H := ifT hc H; clear hc
    refine .skip ?_
    refine .seq ?_
    refine .block ?_
    refine .seq ?_
    refine .region ?_
    obtain ⟨hk1, H⟩ := ck_some H
    refine .q (x := .d (.ro (Record.row (nth v0list (Int.toNat (v12l1)))))) (q_idxL (row := Record.row) (l := v0list) (i := v12l1) Tryd.underlying22 hi39 hs39 rfl rfl rfl hk1) rfl ?_
    refine .q (x := .d (.agg (Record.row (nth v0list (Int.toNat (v12l1)))))) (q_loadAll one_39 sz_39 rfl rfl) rfl ?_
    refine .v (x := .ref 0 0) (v_alloc zr_39 rfl) rfl ?_
    refine .withSt (st' := ⟨[.row 39 [.d (cI 0), .d (cI 0), .d (cI 0), .d (cS ([] : List UInt8)), .d (cS ([] : List UInt8)), .d (cI 0), .d (cI 0), .d (cI 0), .d (cI 0), .d (cB false), .d (cI 0), .d (cB false)]], [⟨5, 1, v5outl1.length, none⟩]⟩) rfl ?_
    refine .u (u_store rfl rfl rfl rfl (Nat.le_of_ble_eq_true rfl) sz_39) rfl ?_
    refine .withSt (st' := ⟨[.row 39 [.d (cI ((nth v0list (Int.toNat (v12l1))).source)), .d (cI ((nth v0list (Int.toNat (v12l1))).serial)), .d (cI ((nth v0list (Int.toNat (v12l1))).kind)), .d (cS ((nth v0list (Int.toNat (v12l1))).a)), .d (cS ((nth v0list (Int.toNat (v12l1))).b)), .d (cI ((nth v0list (Int.toNat (v12l1))).start)), .d (cI ((nth v0list (Int.toNat (v12l1))).units)), .d (cI ((nth v0list (Int.toNat (v12l1))).call)), .d (cI ((nth v0list (Int.toNat (v12l1))).part)), .d (cB ((nth v0list (Int.toNat (v12l1))).last)), .d (cI ((nth v0list (Int.toNat (v12l1))).trunk)), .d (cB ((nth v0list (Int.toNat (v12l1))).inbound))]], [⟨5, 1, v5outl1.length, none⟩]⟩) rfl ?_
    refine .nil ?_
    refine .seq ?_
    refine .region ?_
    refine .q (q_move rfl) rfl ?_
    refine .q (x := .d (.agg (Record.row (nth v0list (Int.toNat (v12l1)))))) (q_loadOA one_39 sz_39 rfl rfl (Nat.le_of_ble_eq_true rfl) rfl) rfl ?_
    obtain ⟨y1, hy1, H⟩ := bind_some' H
    refine .g (x := .d (.tup [slOf 1 rB8 y1.1, cI y1.2])) (g_callF en_32 rfl rfl rfl (c_f_packed_Encode (hy1))) rfl ?_
    refine .q (q_move rfl) rfl ?_
    refine .q (q_extract rfl rfl) rfl ?_
    refine .q (q_extract rfl rfl) rfl ?_
    refine .q (q_assign rfl) rfl ?_
    refine .q (q_assign rfl) rfl ?_
    refine .nil ?_
    refine .region ?_
    refine .q (q_move rfl) rfl ?_
    refine .q (q_move rfl) rfl ?_
    obtain ⟨hk2, H⟩ := ck_some H
    refine .v (x := .tsl 1 ((v5outl1 ++ y1.1).map rB8) 0) (v_appendL (l := v5outl1) (l' := y1.1) (row := rB8) Tryd.underlying32 hi5 hz5 hs5 rfl (by rw [hb5]; decide) rfl rfl rfl rfl hk2) rfl ?_
    refine .withSt (st' := ⟨[.row 39 [.d (cI ((nth v0list (Int.toNat (v12l1))).source)), .d (cI ((nth v0list (Int.toNat (v12l1))).serial)), .d (cI ((nth v0list (Int.toNat (v12l1))).kind)), .d (cS ((nth v0list (Int.toNat (v12l1))).a)), .d (cS ((nth v0list (Int.toNat (v12l1))).b)), .d (cI ((nth v0list (Int.toNat (v12l1))).start)), .d (cI ((nth v0list (Int.toNat (v12l1))).units)), .d (cI ((nth v0list (Int.toNat (v12l1))).call)), .d (cI ((nth v0list (Int.toNat (v12l1))).part)), .d (cB ((nth v0list (Int.toNat (v12l1))).last)), .d (cI ((nth v0list (Int.toNat (v12l1))).trunk)), .d (cB ((nth v0list (Int.toNat (v12l1))).inbound))]], [⟨5, 1, (v5outl1 ++ y1.1).length, none⟩]⟩) rfl ?_
    refine .q (q_assign rfl) rfl ?_
    refine .nil ?_
    refine .inBlock ?_
    refine .region ?_
    obtain ⟨hk3, H⟩ := ck_some H
    refine .q (q_addI rfl rfl hk3.1 hk3.2) rfl ?_
    refine .q (q_move rfl) rfl ?_
    refine .nil ?_
    cases H
    exact .to 0 1 (env' := [(1, .d (.ex (.func (.func 32) #[] #[]))), (5, .tsl 1 ((v5outl1 ++ y1.1).map rB8) 0), (10, .d (slOf 12 Record.row v0list)), (11, .d (cI (v0list.length : Int))), (12, .d (cI (v12l1 + 1)))]) (st' := ⟨[], [⟨5, 1, (v5outl1 ++ y1.1).length, none⟩]⟩) (.cons rfl (.rfl' _) (.cons rfl (.rfl' _) (.cons rfl (.rfl' _) (.cons rfl (.rfl' _) (.cons rfl (.rfl' _) (.nil)))))) rfl rfl rfl rfl rfl (by rw [hS]; exact Nat.le_of_ble_eq_true rfl) (by rw [hS]; exact Nat.le_of_ble_eq_true rfl) <| .sub (.cons rfl (.rfl' _) (.cons rfl (.rfl' _) (.cons rfl (.rfl' _) (.cons rfl (.rfl' _) (.cons rfl (.rfl' _) (.nil)))))) (ih1 (n1, (v5outl1 ++ y1.1, v12l1 + 1)) HK1 hm1)
  · replace H := ifF hc H; clear hc
    refine .exit rfl ?_
    refine .seq ?_
    refine .region ?_
    refine .q (q_move rfl) rfl ?_
    refine .q (q_assign rfl) rfl ?_
    refine .nil ?_
    refine .retN [.tmp 4] [.tsl 1 (v5outl1.map rB8) 0] Tryd.func30 Tryd.results30 ⟨rfl, trivial⟩ ?_
    cases H
    cases HK1
    exact ⟨[], [], rfl, rfl, rfl, rfl, rfl, rfl, rfl, rfl, .tsl _ _ _⟩

set_option maxRecDepth 100000 in
set_option maxHeartbeats 1000000 in
theorem c_g_api_Record_string {v0list : List Record} {r : (List UInt8)} (H : g_api_Record_string v0list = some r) : ACallS Tryd.prog 33 [.d (slOf 12 Record.row v0list), .d (.ex (.func (.func 34) #[] #[]))] ⟨[], []⟩ (QE (.d (slOf 1 rB8 r)) ⟨[], []⟩) := by
  obtain ⟨i5, hi5, hz5, hs5, hb5⟩ := in_5
  obtain ⟨i39, hi39, hz39, hs39, hb39⟩ := in_39
  refine ACallS.keep ?_
  refine ACallS.enter Tryd.func33 rfl Tryd.ntmps33 rfl fun S hS => ?_
  unfold g_api_Record_string at H
  change ARun _ _ _ _ _ _ [(0, .d (slOf 12 Record.row v0list)), (1, .d (.ex (.func (.func 34) #[] #[])))] _
  refine .seq ?_
  refine .region ?_
  refine .q (q_assign rfl) rfl ?_
  refine .nil ?_
  refine .seq ?_
  refine .region ?_
  refine .q (q_assign rfl) rfl ?_
  refine .nil ?_
  refine .seq ?_
  refine .seq ?_
  refine .region ?_
  refine .q (q_move rfl) rfl ?_
  refine .q (q_lenL (l := v0list) (row := Record.row) Tryd.underlying22 rfl rfl) rfl ?_
  refine .q (q_move rfl) rfl ?_
  refine .nil ?_
  refine .block ?_
  refine .tok (i := 5) (e := 5) (sz := 1) rfl ?_
  refine .withSt (st' := ⟨[], [⟨5, 1, ([] : List UInt8).length, none⟩]⟩) rfl ?_
  obtain ⟨n1, H⟩ := loop_some H
  refine .withSt (st' := ⟨[], [⟨5, 1, ([] : List UInt8).length, none⟩]⟩) rfl <| .loop (ι := Nat × (List UInt8 × Int)) (fun p => [(1, .d (.ex (.func (.func 34) #[] #[]))), (5, .tsl 1 (p.2.1.map rB8) 0), (10, .d (slOf 12 Record.row v0list)), (11, .d (cI (v0list.length : Int))), (12, .d (cI p.2.2))]) (fun p => ⟨[], [⟨5, 1, p.2.1.length, none⟩]⟩) (fun p => iter (fun s => g_api_Record_string_l1 v0list s.1 s.2) p.1 p.2 = some r) (·.1) (n1, (([] : List UInt8), 0)) H (.cons rfl (.rfl' _) (.cons rfl (.rfl' _) (.cons rfl (.rfl' _) (.cons rfl (.rfl' _) (.cons rfl (.rfl' _) (.nil)))))) rfl ?_
  rintro ⟨m1, v5outl1, v12l1⟩ HI ih1
  obtain ⟨n1, q1, hm1, H, HK1⟩ := iter_succ HI
  clear HI
  replace H : g_api_Record_string_l1 v0list v5outl1 v12l1 = some q1 := H
  unfold g_api_Record_string_l1 at H
  change ARun _ _ _ _ _ _ [(1, .d (.ex (.func (.func 34) #[] #[]))), (5, .tsl 1 (v5outl1.map rB8) 0), (10, .d (slOf 12 Record.row v0list)), (11, .d (cI (v0list.length : Int))), (12, .d (cI v12l1))] ⟨[], [⟨5, 1, v5outl1.length, none⟩]⟩
  refine .seq ?_
  refine .region ?_
  refine .q (q_lss rfl rfl) rfl ?_
  refine .nil ?_
  refine .seq ?_
  refine .cond rfl (fun hc => ?_) (fun hc => ?_)
  · replace H := ifT hc H; clear hc
    refine .skip ?_
    refine .seq ?_
    refine .block ?_
    refine .seq ?_
    refine .region ?_
    obtain ⟨hk1, H⟩ := ck_some H
    refine .q (x := .d (.ro (Record.row (nth v0list (Int.toNat (v12l1)))))) (q_idxL (row := Record.row) (l := v0list) (i := v12l1) Tryd.underlying22 hi39 hs39 rfl rfl rfl hk1) rfl ?_
    refine .q (x := .d (.agg (Record.row (nth v0list (Int.toNat (v12l1)))))) (q_loadAll one_39 sz_39 rfl rfl) rfl ?_
    refine .v (x := .ref 0 0) (v_alloc zr_39 rfl) rfl ?_
    refine .withSt (st' := ⟨[.row 39 [.d (cI 0), .d (cI 0), .d (cI 0), .d (cS ([] : List UInt8)), .d (cS ([] : List UInt8)), .d (cI 0), .d (cI 0), .d (cI 0), .d (cI 0), .d (cB false), .d (cI 0), .d (cB false)]], [⟨5, 1, v5outl1.length, none⟩]⟩) rfl ?_
    refine .u (u_store rfl rfl rfl rfl (Nat.le_of_ble_eq_true rfl) sz_39) rfl ?_
    refine .withSt (st' := ⟨[.row 39 [.d (cI ((nth v0list (Int.toNat (v12l1))).source)), .d (cI ((nth v0list (Int.toNat (v12l1))).serial)), .d (cI ((nth v0list (Int.toNat (v12l1))).kind)), .d (cS ((nth v0list (Int.toNat (v12l1))).a)), .d (cS ((nth v0list (Int.toNat (v12l1))).b)), .d (cI ((nth v0list (Int.toNat (v12l1))).start)), .d (cI ((nth v0list (Int.toNat (v12l1))).units)), .d (cI ((nth v0list (Int.toNat (v12l1))).call)), .d (cI ((nth v0list (Int.toNat (v12l1))).part)), .d (cB ((nth v0list (Int.toNat (v12l1))).last)), .d (cI ((nth v0list (Int.toNat (v12l1))).trunk)), .d (cB ((nth v0list (Int.toNat (v12l1))).inbound))]], [⟨5, 1, v5outl1.length, none⟩]⟩) rfl ?_
    refine .nil ?_
    refine .seq ?_
    refine .region ?_
    refine .q (q_move rfl) rfl ?_
    refine .q (x := .d (.agg (Record.row (nth v0list (Int.toNat (v12l1)))))) (q_loadOA one_39 sz_39 rfl rfl (Nat.le_of_ble_eq_true rfl) rfl) rfl ?_
    obtain ⟨y1, hy1, H⟩ := bind_some' H
    refine .g (x := .d (.tup [cS y1.1, cI y1.2])) (g_callF en_34 rfl rfl rfl (c_f_batch_line (hy1))) rfl ?_
    refine .q (q_move rfl) rfl ?_
    refine .q (q_extract rfl rfl) rfl ?_
    refine .q (q_extract rfl rfl) rfl ?_
    refine .q (q_assign rfl) rfl ?_
    refine .q (q_assign rfl) rfl ?_
    refine .nil ?_
    refine .region ?_
    refine .q (q_move rfl) rfl ?_
    refine .q (q_move rfl) rfl ?_
    obtain ⟨hk2, H⟩ := ck_some H
    refine .v (x := .tsl 1 ((v5outl1 ++ y1.1).map rB8) 0) (v_appendStrL (l := v5outl1) (a := y1.1) Tryd.underlying32 Tryd.underlying9 hi5 hz5 hs5 rfl (by rw [hb5]; decide) rfl rfl rfl hk2) rfl ?_
    refine .withSt (st' := ⟨[.row 39 [.d (cI ((nth v0list (Int.toNat (v12l1))).source)), .d (cI ((nth v0list (Int.toNat (v12l1))).serial)), .d (cI ((nth v0list (Int.toNat (v12l1))).kind)), .d (cS ((nth v0list (Int.toNat (v12l1))).a)), .d (cS ((nth v0list (Int.toNat (v12l1))).b)), .d (cI ((nth v0list (Int.toNat (v12l1))).start)), .d (cI ((nth v0list (Int.toNat (v12l1))).units)), .d (cI ((nth v0list (Int.toNat (v12l1))).call)), .d (cI ((nth v0list (Int.toNat (v12l1))).part)), .d (cB ((nth v0list (Int.toNat (v12l1))).last)), .d (cI ((nth v0list (Int.toNat (v12l1))).trunk)), .d (cB ((nth v0list (Int.toNat (v12l1))).inbound))]], [⟨5, 1, (v5outl1 ++ y1.1).length, none⟩]⟩) rfl ?_
    refine .q (q_assign rfl) rfl ?_
    refine .nil ?_
    refine .inBlock ?_
    refine .region ?_
    obtain ⟨hk3, H⟩ := ck_some H
    refine .q (q_addI rfl rfl hk3.1 hk3.2) rfl ?_
    refine .q (q_move rfl) rfl ?_
    refine .nil ?_
    cases H
    exact .to 0 1 (env' := [(1, .d (.ex (.func (.func 34) #[] #[]))), (5, .tsl 1 ((v5outl1 ++ y1.1).map rB8) 0), (10, .d (slOf 12 Record.row v0list)), (11, .d (cI (v0list.length : Int))), (12, .d (cI (v12l1 + 1)))]) (st' := ⟨[], [⟨5, 1, (v5outl1 ++ y1.1).length, none⟩]⟩) (.cons rfl (.rfl' _) (.cons rfl (.rfl' _) (.cons rfl (.rfl' _) (.cons rfl (.rfl' _) (.cons rfl (.rfl' _) (.nil)))))) rfl rfl rfl rfl rfl (by rw [hS]; exact Nat.le_of_ble_eq_true rfl) (by rw [hS]; exact Nat.le_of_ble_eq_true rfl) <| .sub (.cons rfl (.rfl' _) (.cons rfl (.rfl' _) (.cons rfl (.rfl' _) (.cons rfl (.rfl' _) (.cons rfl (.rfl' _) (.nil)))))) (ih1 (n1, (v5outl1 ++ y1.1, v12l1 + 1)) HK1 hm1)
  · replace H := ifF hc H; clear hc
    refine .exit rfl ?_
    refine .seq ?_
    refine .region ?_
    refine .q (q_move rfl) rfl ?_
    refine .q (q_assign rfl) rfl ?_
    refine .nil ?_
    refine .retN [.tmp 4] [.tsl 1 (v5outl1.map rB8) 0] Tryd.func33 Tryd.results33 ⟨rfl, trivial⟩ ?_
    cases H
    cases HK1
    exact ⟨[], [], rfl, rfl, rfl, rfl, rfl, rfl, rfl, rfl, .tsl _ _ _⟩

set_option maxRecDepth 100000 in
set_option maxHeartbeats 1000000 in
theorem c_f_batch_payload {v0format : Int} {v1records : List Record} {r : (List UInt8)} (H : f_batch_payload v0format v1records = some r) : ACall Tryd.prog 20 [cI v0format, slOf 12 Record.row v1records] (· = slOf 1 rB8 r) := by
  refine ACall.enter' Tryd.func20 rfl Tryd.ntmps20 rfl fun S hS => ?_
  unfold f_batch_payload at H
  change ARun _ _ _ _ _ _ [(0, .d (cI v0format)), (1, .d (slOf 12 Record.row v1records))] _
  refine .seq ?_
  refine .region ?_
  refine .q (q_assign rfl) rfl ?_
  refine .nil ?_
  refine .seq ?_
  refine .seq ?_
  refine .region ?_
  refine .q (q_move rfl) rfl ?_
  refine .nil ?_
  refine .block ?_
  refine .seq ?_
  refine .region ?_
  refine .q (q_eql rfl rfl) rfl ?_
  refine .q (q_assign rfl) rfl ?_
  refine .nil ?_
  refine .cond rfl (fun hc => ?_) (fun hc => ?_)
  · replace H := ifT hc H; clear hc
    refine .seq ?_
    refine .region ?_
    refine .q (q_move rfl) rfl ?_
    obtain ⟨y1, hy1, H⟩ := bind_some' H
    refine .g (x := .d (slOf 1 rB8 y1)) (g_call en_30 rfl rfl (ACall.ofE (ds := [slOf 12 Record.row v1records, .ex (.func (.func 31) #[] #[])]) (c_g_api_Record_byte (hy1)))) rfl ?_
    refine .q (q_assign rfl) rfl ?_
    refine .nil ?_
    refine .retN [.tmp 4] [.d (slOf 1 rB8 y1)] Tryd.func20 Tryd.results20 ⟨rfl, trivial⟩ ?_
    cases H
    exact ⟨_, .rfl' _, rfl⟩
  · replace H := ifF hc H; clear hc
    refine .seq ?_
    refine .region ?_
    refine .q (q_eql rfl rfl) rfl ?_
    refine .q (q_assign rfl) rfl ?_
    refine .nil ?_
    refine .cond rfl (fun hc => ?_) (fun hc => ?_)
    · replace H := ifT hc H; clear hc
      refine .seq ?_
      refine .region ?_
      refine .q (q_move rfl) rfl ?_
      obtain ⟨y2, hy2, H⟩ := bind_some' H
      refine .g (x := .d (slOf 1 rB8 y2)) (g_call en_30 rfl rfl (ACall.ofE (ds := [slOf 12 Record.row v1records, .ex (.func (.func 32) #[] #[])]) (c_g_api_Record_byte_v1 (hy2)))) rfl ?_
      refine .q (q_assign rfl) rfl ?_
      refine .nil ?_
      refine .retN [.tmp 4] [.d (slOf 1 rB8 y2)] Tryd.func20 Tryd.results20 ⟨rfl, trivial⟩ ?_
      cases H
      exact ⟨_, .rfl' _, rfl⟩
    · replace H := ifF hc H; clear hc
      refine .skip ?_
      refine .inBlock ?_
      refine .seq ?_
      refine .region ?_
      refine .q (q_move rfl) rfl ?_
      obtain ⟨y3, hy3, H⟩ := bind_some' H
      refine .g (x := .d (slOf 1 rB8 y3)) (g_call en_33 rfl rfl (ACall.ofE (ds := [slOf 12 Record.row v1records, .ex (.func (.func 34) #[] #[])]) (c_g_api_Record_string (hy3)))) rfl ?_
      refine .q (q_assign rfl) rfl ?_
      refine .nil ?_
      refine .retN [.tmp 4] [.d (slOf 1 rB8 y3)] Tryd.func20 Tryd.results20 ⟨rfl, trivial⟩ ?_
      cases H
      exact ⟨_, .rfl' _, rfl⟩

set_option maxRecDepth 100000 in
set_option maxHeartbeats 1000000 in
theorem c_f_frame_Sum {v0b : List UInt8} {r : Int} (H : f_frame_Sum v0b = some r) : ACall Tryd.prog 47 [slOf 1 rB8 v0b] (· = cK .u32 r) := by
  obtain ⟨i5, hi5, hz5, hs5, hb5⟩ := in_5
  refine ACall.enter' Tryd.func47 rfl Tryd.ntmps47 rfl fun S hS => ?_
  unfold f_frame_Sum at H
  change ARun _ _ _ _ _ _ [(0, .d (slOf 1 rB8 v0b))] _
  refine .seq ?_
  refine .region ?_
  refine .q (q_assign rfl) rfl ?_
  refine .nil ?_
  refine .seq ?_
  refine .region ?_
  refine .q (q_assign rfl) rfl ?_
  refine .nil ?_
  refine .seq ?_
  refine .seq ?_
  refine .region ?_
  refine .q (q_move rfl) rfl ?_
  refine .q (q_lenL (l := v0b) (row := rB8) Tryd.underlying32 rfl rfl) rfl ?_
  refine .q (q_move rfl) rfl ?_
  refine .nil ?_
  refine .block ?_
  obtain ⟨n1, H⟩ := loop_some H
  refine .loop (ι := Nat × (Int × Int)) (fun p => [(3, .d (cK .u32 p.2.1)), (6, .d (slOf 1 rB8 v0b)), (7, .d (cI (v0b.length : Int))), (8, .d (cI p.2.2))]) (fun p => ⟨[], []⟩) (fun p => iter (fun s => f_frame_Sum_l1 v0b s.1 s.2) p.1 p.2 = some r) (·.1) (n1, (2166136261, 0)) H (.cons rfl (.rfl' _) (.cons rfl (.rfl' _) (.cons rfl (.rfl' _) (.cons rfl (.rfl' _) (.nil))))) rfl ?_
  rintro ⟨m1, v3nl1, v8l1⟩ HI ih1
  obtain ⟨n1, q1, hm1, H, HK1⟩ := iter_succ HI
  clear HI
  replace H : f_frame_Sum_l1 v0b v3nl1 v8l1 = some q1 := H
  unfold f_frame_Sum_l1 at H
  change ARun _ _ _ _ _ _ [(3, .d (cK .u32 v3nl1)), (6, .d (slOf 1 rB8 v0b)), (7, .d (cI (v0b.length : Int))), (8, .d (cI v8l1))] ⟨[], []⟩
  refine .seq ?_
  refine .region ?_
  refine .q (q_lss rfl rfl) rfl ?_
  refine .nil ?_
  refine .seq ?_
  refine .cond rfl (fun hc => ?_) (fun hc => ?_)
  · replace H := ifT hc H; clear hc
    refine .skip ?_
    refine .seq ?_
    refine .block ?_
    refine .seq ?_
    refine .region ?_
    obtain ⟨hk1, H⟩ := ck_some H
    refine .q (x := .d (.ro (rB8 (nth v0b (Int.toNat (v8l1)))))) (q_idxL (row := rB8) (l := v0b) (i := v8l1) Tryd.underlying32 hi5 hs5 rfl rfl rfl hk1) rfl ?_
    refine .q (x := .d (cU8 (nth v0b (Int.toNat (v8l1))))) (q_load one_5 rfl) rfl ?_
    refine .q (q_assign rfl) rfl ?_
    refine .nil ?_
    refine .seq ?_
    refine .region ?_
    refine .q (q_move rfl) rfl ?_
    refine .q (q_move rfl) rfl ?_
    refine .q (x := .d (cK .u32 (IntKind.wrap .u32 ((nth v0b (Int.toNat (v8l1))).toNat : Int)))) (q_conv (n := ((nth v0b (Int.toNat (v8l1))).toNat : Int)) Tryd.underlying5 Tryd.underlying76 rfl rfl) rfl ?_
    refine .q (x := .d (cK .u32 (bXor .u32 v3nl1 (IntKind.wrap .u32 ((nth v0b (Int.toNat (v8l1))).toNat : Int))))) (q_xor rfl rfl) rfl ?_
    refine .q (q_assign rfl) rfl ?_
    refine .nil ?_
    refine .region ?_
    refine .q (q_move rfl) rfl ?_
    refine .q (x := .d (cK .u32 (IntKind.wrap .u32 ((bXor .u32 v3nl1 (IntKind.wrap .u32 ((nth v0b (Int.toNat (v8l1))).toNat : Int))) * 16777619)))) (q_mul rfl rfl rfl) rfl ?_
    refine .q (q_assign rfl) rfl ?_
    refine .nil ?_
    refine .inBlock ?_
    refine .region ?_
    obtain ⟨hk2, H⟩ := ck_some H
    refine .q (q_addI rfl rfl hk2.1 hk2.2) rfl ?_
    refine .q (q_move rfl) rfl ?_
    refine .nil ?_
    cases H
    exact .sub (.cons rfl (.rfl' _) (.cons rfl (.rfl' _) (.cons rfl (.rfl' _) (.cons rfl (.rfl' _) (.nil))))) (ih1 (n1, (IntKind.wrap .u32 ((bXor .u32 v3nl1 (IntKind.wrap .u32 ((nth v0b (Int.toNat (v8l1))).toNat : Int))) * 16777619), v8l1 + 1)) HK1 hm1)
  · replace H := ifF hc H; clear hc
    refine .exit rfl ?_
    refine .seq ?_
    refine .region ?_
    refine .q (q_move rfl) rfl ?_
    refine .q (q_assign rfl) rfl ?_
    refine .nil ?_
    refine .retN [.tmp 2] [.d (cK .u32 v3nl1)] Tryd.func47 Tryd.results47 ⟨rfl, trivial⟩ ?_
    cases H
    cases HK1
    exact ⟨_, .rfl' _, rfl⟩

set_option maxRecDepth 100000 in
set_option maxHeartbeats 1000000 in
theorem c_g_frame_wrap {v1payload : List UInt8} {r : (List UInt8)} (H : g_frame_wrap v1payload = some r) : ACallS Tryd.prog 28 [.d (nilD), .d (slOf 1 rB8 v1payload)] ⟨[], []⟩ (QE (.tsl 1 (r.map rB8) 0) ⟨[], [⟨5, 1, r.length, none⟩]⟩) := by
  obtain ⟨i5, hi5, hz5, hs5, hb5⟩ := in_5
  refine ACallS.keep ?_
  refine ACallS.enter Tryd.func28 rfl Tryd.ntmps28 rfl fun S hS => ?_
  unfold g_frame_wrap at H
  change ARun _ _ _ _ _ _ [(0, .d (nilD)), (1, .d (slOf 1 rB8 v1payload))] _
  refine .seq ?_
  refine .region ?_
  refine .q (q_assign rfl) rfl ?_
  refine .nil ?_
  refine .seq ?_
  refine .region ?_
  refine .q (q_move rfl) rfl ?_
  obtain ⟨y1, hy1, H⟩ := bind_some' H
  refine .g (x := .d (cK .u32 y1)) (g_call en_47 rfl rfl (c_f_frame_Sum (hy1))) rfl ?_
  refine .q (q_assign rfl) rfl ?_
  refine .nil ?_
  refine .seq ?_
  refine .region ?_
  refine .q (q_move rfl) rfl ?_
  refine .q (q_move rfl) rfl ?_
  refine .q (q_lenL (l := v1payload) (row := rB8) Tryd.underlying32 rfl rfl) rfl ?_
  obtain ⟨y2, hy2, H⟩ := bind_some' H
  refine .g (x := .d (slOf 1 rB8 y2)) (g_call en_29 rfl rfl ((c_f_codec_PutNumber (hy2)).le ⟨.nil 1, .rfl' _, trivial⟩)) rfl ?_
  obtain ⟨hk1, H⟩ := ck_some H
  refine .v (x := .tsl 1 (y2.map rB8) 0) (v_appendNilL (l' := y2) (row := rB8) Tryd.underlying32 hi5 hz5 hs5 rfl (by rw [hb5]; decide) rfl rfl rfl hk1) rfl ?_
  refine .withSt (st' := ⟨[], [⟨5, 1, y2.length, none⟩]⟩) rfl ?_
  refine .q (q_assign rfl) rfl ?_
  refine .nil ?_
  refine .seq ?_
  refine .region ?_
  refine .q (q_move rfl) rfl ?_
  refine .q (q_move rfl) rfl ?_
  obtain ⟨hk2, H⟩ := ck_some H
  refine .q (x := .d (cK .u32 (Int.fdiv y1 (2 ^ (min (Int.toNat (24)) 32))))) (q_shr (a := y1) (b := 24) rfl rfl hk2 rfl) rfl ?_
  refine .q (x := .d (cU8 (UInt8.ofInt (Int.fdiv y1 (2 ^ (min (Int.toNat (24)) 32)))))) (q_conv8 Tryd.underlying76 Tryd.underlying5 rfl) rfl ?_
  refine .q (q_move rfl) rfl ?_
  obtain ⟨hk3, H⟩ := ck_some H
  refine .q (x := .d (cK .u32 (Int.fdiv y1 (2 ^ (min (Int.toNat (16)) 32))))) (q_shr (a := y1) (b := 16) rfl rfl hk3 rfl) rfl ?_
  refine .q (x := .d (cU8 (UInt8.ofInt (Int.fdiv y1 (2 ^ (min (Int.toNat (16)) 32)))))) (q_conv8 Tryd.underlying76 Tryd.underlying5 rfl) rfl ?_
  refine .q (q_move rfl) rfl ?_
  obtain ⟨hk4, H⟩ := ck_some H
  refine .q (x := .d (cK .u32 (Int.fdiv y1 (2 ^ (min (Int.toNat (8)) 32))))) (q_shr (a := y1) (b := 8) rfl rfl hk4 rfl) rfl ?_
  refine .q (x := .d (cU8 (UInt8.ofInt (Int.fdiv y1 (2 ^ (min (Int.toNat (8)) 32)))))) (q_conv8 Tryd.underlying76 Tryd.underlying5 rfl) rfl ?_
  refine .q (q_move rfl) rfl ?_
  refine .q (x := .d (cU8 (UInt8.ofInt y1))) (q_conv8 Tryd.underlying76 Tryd.underlying5 rfl) rfl ?_
  refine .g (x := .d (slOf 1 rB8 ([UInt8.ofInt (Int.fdiv y1 (2 ^ (min (Int.toNat (24)) 32))), UInt8.ofInt (Int.fdiv y1 (2 ^ (min (Int.toNat (16)) 32))), UInt8.ofInt (Int.fdiv y1 (2 ^ (min (Int.toNat (8)) 32))), UInt8.ofInt y1] : List UInt8))) (g_buildSliceN (n := 4) (rows := ([UInt8.ofInt (Int.fdiv y1 (2 ^ (min (Int.toNat (24)) 32))), UInt8.ofInt (Int.fdiv y1 (2 ^ (min (Int.toNat (16)) 32))), UInt8.ofInt (Int.fdiv y1 (2 ^ (min (Int.toNat (8)) 32))), UInt8.ofInt y1] : List UInt8).map rB8) Tryd.underlying32 hi5 hs5 hz5 rfl rfl rfl rfl rfl) rfl ?_
  obtain ⟨hk5, H⟩ := ck_some H
  refine .v (x := .tsl 1 ((y2 ++ ([UInt8.ofInt (Int.fdiv y1 (2 ^ (min (Int.toNat (24)) 32))), UInt8.ofInt (Int.fdiv y1 (2 ^ (min (Int.toNat (16)) 32))), UInt8.ofInt (Int.fdiv y1 (2 ^ (min (Int.toNat (8)) 32))), UInt8.ofInt y1] : List UInt8)).map rB8) 0) (v_appendL (l := y2) (l' := ([UInt8.ofInt (Int.fdiv y1 (2 ^ (min (Int.toNat (24)) 32))), UInt8.ofInt (Int.fdiv y1 (2 ^ (min (Int.toNat (16)) 32))), UInt8.ofInt (Int.fdiv y1 (2 ^ (min (Int.toNat (8)) 32))), UInt8.ofInt y1] : List UInt8)) (row := rB8) Tryd.underlying32 hi5 hz5 hs5 rfl (by rw [hb5]; decide) rfl rfl rfl rfl hk5) rfl ?_
  refine .withSt (st' := ⟨[], [⟨5, 1, (y2 ++ ([UInt8.ofInt (Int.fdiv y1 (2 ^ (min (Int.toNat (24)) 32))), UInt8.ofInt (Int.fdiv y1 (2 ^ (min (Int.toNat (16)) 32))), UInt8.ofInt (Int.fdiv y1 (2 ^ (min (Int.toNat (8)) 32))), UInt8.ofInt y1] : List UInt8)).length, none⟩]⟩) rfl ?_
  refine .q (q_assign rfl) rfl ?_
  refine .nil ?_
  refine .seq ?_
  refine .region ?_
  refine .q (q_move rfl) rfl ?_
  refine .q (q_move rfl) rfl ?_
  obtain ⟨hk6, H⟩ := ck_some H
  refine .v (x := .tsl 1 (((y2 ++ ([UInt8.ofInt (Int.fdiv y1 (2 ^ (min (Int.toNat (24)) 32))), UInt8.ofInt (Int.fdiv y1 (2 ^ (min (Int.toNat (16)) 32))), UInt8.ofInt (Int.fdiv y1 (2 ^ (min (Int.toNat (8)) 32))), UInt8.ofInt y1] : List UInt8)) ++ v1payload).map rB8) 0) (v_appendL (l := y2 ++ ([UInt8.ofInt (Int.fdiv y1 (2 ^ (min (Int.toNat (24)) 32))), UInt8.ofInt (Int.fdiv y1 (2 ^ (min (Int.toNat (16)) 32))), UInt8.ofInt (Int.fdiv y1 (2 ^ (min (Int.toNat (8)) 32))), UInt8.ofInt y1] : List UInt8)) (l' := v1payload) (row := rB8) Tryd.underlying32 hi5 hz5 hs5 rfl (by rw [hb5]; decide) rfl rfl rfl rfl hk6) rfl ?_
  refine .withSt (st' := ⟨[], [⟨5, 1, ((y2 ++ ([UInt8.ofInt (Int.fdiv y1 (2 ^ (min (Int.toNat (24)) 32))), UInt8.ofInt (Int.fdiv y1 (2 ^ (min (Int.toNat (16)) 32))), UInt8.ofInt (Int.fdiv y1 (2 ^ (min (Int.toNat (8)) 32))), UInt8.ofInt y1] : List UInt8)) ++ v1payload).length, none⟩]⟩) rfl ?_
  refine .q (q_assign rfl) rfl ?_
  refine .nil ?_
  refine .retN [.tmp 4] [.tsl 1 (((y2 ++ ([UInt8.ofInt (Int.fdiv y1 (2 ^ (min (Int.toNat (24)) 32))), UInt8.ofInt (Int.fdiv y1 (2 ^ (min (Int.toNat (16)) 32))), UInt8.ofInt (Int.fdiv y1 (2 ^ (min (Int.toNat (8)) 32))), UInt8.ofInt y1] : List UInt8)) ++ v1payload).map rB8) 0] Tryd.func28 Tryd.results28 ⟨rfl, trivial⟩ ?_
  cases H
  exact ⟨[], [0], rfl, rfl, rfl, rfl, rfl, rfl, rfl, rfl, .rfl' _⟩

set_option maxRecDepth 100000 in
set_option maxHeartbeats 1000000 in
theorem c_g_frame_wrap_v1 {v1payload : List UInt8} {y0t0p : List UInt8} {r : (List UInt8)} (H : g_frame_wrap_v1 v1payload y0t0p = some r) : ACallS Tryd.prog 28 [.tsl 1 (y0t0p.map rB8) 0, .d (slOf 1 rB8 v1payload)] ⟨[], [⟨5, 1, y0t0p.length, none⟩]⟩ (QE (.tsl 1 (r.map rB8) 0) ⟨[], [⟨5, 1, r.length, none⟩]⟩) := by
  obtain ⟨i5, hi5, hz5, hs5, hb5⟩ := in_5
  refine ACallS.keep ?_
  refine ACallS.enter Tryd.func28 rfl Tryd.ntmps28 rfl fun S hS => ?_
  unfold g_frame_wrap_v1 at H
  change ARun _ _ _ _ _ _ [(0, .tsl 1 (y0t0p.map rB8) 0), (1, .d (slOf 1 rB8 v1payload))] _
  refine .seq ?_
  refine .region ?_
  refine .q (q_assign rfl) rfl ?_
  refine .nil ?_
  refine .seq ?_
  refine .region ?_
  refine .q (q_move rfl) rfl ?_
  obtain ⟨y1, hy1, H⟩ := bind_some' H
  refine .g (x := .d (cK .u32 y1)) (g_call en_47 rfl rfl (c_f_frame_Sum (hy1))) rfl ?_
  refine .q (q_assign rfl) rfl ?_
  refine .nil ?_
  refine .seq ?_
  refine .region ?_
  refine .q (q_move rfl) rfl ?_
  refine .q (q_move rfl) rfl ?_
  refine .q (q_lenL (l := v1payload) (row := rB8) Tryd.underlying32 rfl rfl) rfl ?_
  obtain ⟨y2, hy2, H⟩ := bind_some' H
  refine .g (x := .d (slOf 1 rB8 y2)) (g_call en_29 rfl rfl ((c_f_codec_PutNumber (hy2)).le ⟨.nil 1, .rfl' _, trivial⟩)) rfl ?_
  obtain ⟨hk1, H⟩ := ck_some H
  refine .v (x := .tsl 1 ((y0t0p ++ y2).map rB8) 0) (v_appendL (l := y0t0p) (l' := y2) (row := rB8) Tryd.underlying32 hi5 hz5 hs5 rfl (by rw [hb5]; decide) rfl rfl rfl rfl hk1) rfl ?_
  refine .withSt (st' := ⟨[], [⟨5, 1, (y0t0p ++ y2).length, none⟩]⟩) rfl ?_
  refine .q (q_assign rfl) rfl ?_
  refine .nil ?_
  refine .seq ?_
  refine .region ?_
  refine .q (q_move rfl) rfl ?_
  refine .q (q_move rfl) rfl ?_
  obtain ⟨hk2, H⟩ := ck_some H
  refine .q (x := .d (cK .u32 (Int.fdiv y1 (2 ^ (min (Int.toNat (24)) 32))))) (q_shr (a := y1) (b := 24) rfl rfl hk2 rfl) rfl ?_
  refine .q (x := .d (cU8 (UInt8.ofInt (Int.fdiv y1 (2 ^ (min (Int.toNat (24)) 32)))))) (q_conv8 Tryd.underlying76 Tryd.underlying5 rfl) rfl ?_
  refine .q (q_move rfl) rfl ?_
  obtain ⟨hk3, H⟩ := ck_some H
  refine .q (x := .d (cK .u32 (Int.fdiv y1 (2 ^ (min (Int.toNat (16)) 32))))) (q_shr (a := y1) (b := 16) rfl rfl hk3 rfl) rfl ?_
  refine .q (x := .d (cU8 (UInt8.ofInt (Int.fdiv y1 (2 ^ (min (Int.toNat (16)) 32)))))) (q_conv8 Tryd.underlying76 Tryd.underlying5 rfl) rfl ?_
  refine .q (q_move rfl) rfl ?_
  obtain ⟨hk4, H⟩ := ck_some H
  refine .q (x := .d (cK .u32 (Int.fdiv y1 (2 ^ (min (Int.toNat (8)) 32))))) (q_shr (a := y1) (b := 8) rfl rfl hk4 rfl) rfl ?_
  refine .q (x := .d (cU8 (UInt8.ofInt (Int.fdiv y1 (2 ^ (min (Int.toNat (8)) 32)))))) (q_conv8 Tryd.underlying76 Tryd.underlying5 rfl) rfl ?_
  refine .q (q_move rfl) rfl ?_
  refine .q (x := .d (cU8 (UInt8.ofInt y1))) (q_conv8 Tryd.underlying76 Tryd.underlying5 rfl) rfl ?_
  refine .g (x := .d (slOf 1 rB8 ([UInt8.ofInt (Int.fdiv y1 (2 ^ (min (Int.toNat (24)) 32))), UInt8.ofInt (Int.fdiv y1 (2 ^ (min (Int.toNat (16)) 32))), UInt8.ofInt (Int.fdiv y1 (2 ^ (min (Int.toNat (8)) 32))), UInt8.ofInt y1] : List UInt8))) (g_buildSliceN (n := 4) (rows := ([UInt8.ofInt (Int.fdiv y1 (2 ^ (min (Int.toNat (24)) 32))), UInt8.ofInt (Int.fdiv y1 (2 ^ (min (Int.toNat (16)) 32))), UInt8.ofInt (Int.fdiv y1 (2 ^ (min (Int.toNat (8)) 32))), UInt8.ofInt y1] : List UInt8).map rB8) Tryd.underlying32 hi5 hs5 hz5 rfl rfl rfl rfl rfl) rfl ?_
  obtain ⟨hk5, H⟩ := ck_some H
  refine .v (x := .tsl 1 (((y0t0p ++ y2) ++ ([UInt8.ofInt (Int.fdiv y1 (2 ^ (min (Int.toNat (24)) 32))), UInt8.ofInt (Int.fdiv y1 (2 ^ (min (Int.toNat (16)) 32))), UInt8.ofInt (Int.fdiv y1 (2 ^ (min (Int.toNat (8)) 32))), UInt8.ofInt y1] : List UInt8)).map rB8) 0) (v_appendL (l := y0t0p ++ y2) (l' := ([UInt8.ofInt (Int.fdiv y1 (2 ^ (min (Int.toNat (24)) 32))), UInt8.ofInt (Int.fdiv y1 (2 ^ (min (Int.toNat (16)) 32))), UInt8.ofInt (Int.fdiv y1 (2 ^ (min (Int.toNat (8)) 32))), UInt8.ofInt y1] : List UInt8)) (row := rB8) Tryd.underlying32 hi5 hz5 hs5 rfl (by rw [hb5]; decide) rfl rfl rfl rfl hk5) rfl ?_
  refine .withSt (st' := ⟨[], [⟨5, 1, ((y0t0p ++ y2) ++ ([UInt8.ofInt (Int.fdiv y1 (2 ^ (min (Int.toNat (24)) 32))), UInt8.ofInt (Int.fdiv y1 (2 ^ (min (Int.toNat (16)) 32))), UInt8.ofInt (Int.fdiv y1 (2 ^ (min (Int.toNat (8)) 32))), UInt8.ofInt y1] : List UInt8)).length, none⟩]⟩) rfl ?_
  refine .q (q_assign rfl) rfl ?_
  refine .nil ?_
  refine .seq ?_
  refine .region ?_
  refine .q (q_move rfl) rfl ?_
  refine .q (q_move rfl) rfl ?_
  obtain ⟨hk6, H⟩ := ck_some H
  refine .v (x := .tsl 1 ((((y0t0p ++ y2) ++ ([UInt8.ofInt (Int.fdiv y1 (2 ^ (min (Int.toNat (24)) 32))), UInt8.ofInt (Int.fdiv y1 (2 ^ (min (Int.toNat (16)) 32))), UInt8.ofInt (Int.fdiv y1 (2 ^ (min (Int.toNat (8)) 32))), UInt8.ofInt y1] : List UInt8)) ++ v1payload).map rB8) 0) (v_appendL (l := (y0t0p ++ y2) ++ ([UInt8.ofInt (Int.fdiv y1 (2 ^ (min (Int.toNat (24)) 32))), UInt8.ofInt (Int.fdiv y1 (2 ^ (min (Int.toNat (16)) 32))), UInt8.ofInt (Int.fdiv y1 (2 ^ (min (Int.toNat (8)) 32))), UInt8.ofInt y1] : List UInt8)) (l' := v1payload) (row := rB8) Tryd.underlying32 hi5 hz5 hs5 rfl (by rw [hb5]; decide) rfl rfl rfl rfl hk6) rfl ?_
  refine .withSt (st' := ⟨[], [⟨5, 1, (((y0t0p ++ y2) ++ ([UInt8.ofInt (Int.fdiv y1 (2 ^ (min (Int.toNat (24)) 32))), UInt8.ofInt (Int.fdiv y1 (2 ^ (min (Int.toNat (16)) 32))), UInt8.ofInt (Int.fdiv y1 (2 ^ (min (Int.toNat (8)) 32))), UInt8.ofInt y1] : List UInt8)) ++ v1payload).length, none⟩]⟩) rfl ?_
  refine .q (q_assign rfl) rfl ?_
  refine .nil ?_
  refine .retN [.tmp 4] [.tsl 1 ((((y0t0p ++ y2) ++ ([UInt8.ofInt (Int.fdiv y1 (2 ^ (min (Int.toNat (24)) 32))), UInt8.ofInt (Int.fdiv y1 (2 ^ (min (Int.toNat (16)) 32))), UInt8.ofInt (Int.fdiv y1 (2 ^ (min (Int.toNat (8)) 32))), UInt8.ofInt y1] : List UInt8)) ++ v1payload).map rB8) 0] Tryd.func28 Tryd.results28 ⟨rfl, trivial⟩ ?_
  cases H
  exact ⟨[], [0], rfl, rfl, rfl, rfl, rfl, rfl, rfl, rfl, .rfl' _⟩

set_option maxRecDepth 100000 in
set_option maxHeartbeats 1000000 in
theorem c_f_frame_Join {v0list : List (List UInt8)} {r : (List UInt8) × Int} (H : f_frame_Join v0list = some r) : ACall Tryd.prog 17 [slOf 1 (rSl 1 rB8) v0list] (· = .tup [slOf 1 rB8 r.1, cI r.2]) := by
  obtain ⟨i32, hi32, hz32, hs32, hb32⟩ := in_32
  refine ACall.enter' Tryd.func17 rfl Tryd.ntmps17 rfl fun S hS => ?_
  unfold f_frame_Join at H
  change ARun _ _ _ _ _ _ [(0, .d (slOf 1 (rSl 1 rB8) v0list))] _
  refine .seq ?_
  refine .region ?_
  refine .q (q_assign rfl) rfl ?_
  refine .q (q_assign rfl) rfl ?_
  refine .nil ?_
  refine .seq ?_
  refine .region ?_
  refine .q (q_assign rfl) rfl ?_
  refine .nil ?_
  refine .seq ?_
  refine .seq ?_
  refine .region ?_
  refine .q (q_move rfl) rfl ?_
  refine .q (q_lenL (l := v0list) (row := (rSl 1 rB8)) Tryd.underlying52 rfl rfl) rfl ?_
  refine .q (q_move rfl) rfl ?_
  refine .nil ?_
  refine .block ?_
  refine .tok (i := 4) (e := 5) (sz := 1) rfl ?_
  refine .withSt (st' := ⟨[], [⟨5, 1, ([] : List UInt8).length, none⟩]⟩) rfl ?_
  obtain ⟨n1, H⟩ := loop_some H
  refine .withSt (st' := ⟨[], [⟨5, 1, ([] : List UInt8).length, none⟩]⟩) rfl <| .loop (ι := Nat × (List UInt8 × Int)) (fun p => [(4, .tsl 1 (p.2.1.map rB8) 0), (7, .d (slOf 1 (rSl 1 rB8) v0list)), (8, .d (cI (v0list.length : Int))), (9, .d (cI p.2.2))]) (fun p => ⟨[], [⟨5, 1, p.2.1.length, none⟩]⟩) (fun p => iter (fun s => f_frame_Join_l1 v0list s.1 s.2) p.1 p.2 = some r) (·.1) (n1, (([] : List UInt8), 0)) H (.cons rfl (.rfl' _) (.cons rfl (.rfl' _) (.cons rfl (.rfl' _) (.cons rfl (.rfl' _) (.nil))))) rfl ?_
  rintro ⟨m1, v4outl1, v9l1⟩ HI ih1
  obtain ⟨n1, q1, hm1, H, HK1⟩ := iter_succ HI
  clear HI
  replace H : f_frame_Join_l1 v0list v4outl1 v9l1 = some q1 := H
  unfold f_frame_Join_l1 at H
  change ARun _ _ _ _ _ _ [(4, .tsl 1 (v4outl1.map rB8) 0), (7, .d (slOf 1 (rSl 1 rB8) v0list)), (8, .d (cI (v0list.length : Int))), (9, .d (cI v9l1))] ⟨[], [⟨5, 1, v4outl1.length, none⟩]⟩
  refine .seq ?_
  refine .region ?_
  refine .q (q_lss rfl rfl) rfl ?_
  refine .nil ?_
  refine .seq ?_
  refine .cond rfl (fun hc => ?_) (fun hc => ?_)
  · replace H := ifT hc H; clear hc
    refine .skip ?_
    refine .seq ?_
    refine .block ?_
    refine .seq ?_
    refine .region ?_
    obtain ⟨hk1, H⟩ := ck_some H
    refine .q (x := .d (.ro ((rSl 1 rB8) (nth v0list (Int.toNat (v9l1)))))) (q_idxL (row := (rSl 1 rB8)) (l := v0list) (i := v9l1) Tryd.underlying52 hi32 hs32 rfl rfl rfl hk1) rfl ?_
    refine .q (x := .d (slOf 1 rB8 (nth v0list (Int.toNat (v9l1))))) (q_load one_32 rfl) rfl ?_
    refine .q (q_assign rfl) rfl ?_
    refine .nil ?_
    refine .seq ?_
    refine .seq ?_
    refine .region ?_
    refine .q (q_move rfl) rfl ?_
    refine .q (q_lenL (l := nth v0list (Int.toNat (v9l1))) (row := rB8) Tryd.underlying32 rfl rfl) rfl ?_
    refine .q (q_gtr rfl rfl) rfl ?_
    refine .nil ?_
    refine .cond rfl (fun hc => ?_) (fun hc => ?_)
    · replace H := ifT hc H; clear hc
      refine .seq ?_
      refine .region ?_
      refine .q (q_assign rfl) rfl ?_
      refine .q (q_assign rfl) rfl ?_
      refine .nil ?_
      refine .retN [.tmp 2, .tmp 3] [.d (nilD), .d (cI 5)] Tryd.func17 Tryd.results17 ⟨rfl, rfl, trivial⟩ ?_
      cases H
      cases HK1
      exact ⟨_, EVle.tupL (ds := [slOf 1 rB8 ([] : List UInt8), cI 5]) ⟨.nil 1, .rfl' _, trivial⟩, rfl⟩
    · replace H := ifF hc H; clear hc
      refine .skip ?_
      refine .region ?_
      refine .q (q_move rfl) rfl ?_
      refine .q (q_move rfl) rfl ?_
      obtain ⟨y1, hy1, H⟩ := bind_some' H
      refine .callF en_28 rfl [] [0] (x := .tsl 1 (y1.map rB8) 0) (st' := ⟨[], [⟨5, 1, y1.length, none⟩]⟩) rfl (c_g_frame_wrap_v1 (hy1)) ⟨.rfl' _, .rfl' _, trivial⟩ rfl rfl rfl rfl rfl rfl ?_
      refine .withSt (st' := ⟨[], [⟨5, 1, y1.length, none⟩]⟩) rfl ?_
      refine .q (q_assign rfl) rfl ?_
      refine .nil ?_
      refine .inBlock ?_
      refine .region ?_
      obtain ⟨hk2, H⟩ := ck_some H
      refine .q (q_addI rfl rfl hk2.1 hk2.2) rfl ?_
      refine .q (q_move rfl) rfl ?_
      refine .nil ?_
      cases H
      exact .withSt (st' := ⟨[], [⟨5, 1, y1.length, none⟩]⟩) rfl <| .sub (.cons rfl (.rfl' _) (.cons rfl (.rfl' _) (.cons rfl (.rfl' _) (.cons rfl (.rfl' _) (.nil))))) (ih1 (n1, (y1, v9l1 + 1)) HK1 hm1)
  · replace H := ifF hc H; clear hc
    refine .exit rfl ?_
    refine .seq ?_
    refine .region ?_
    refine .q (q_move rfl) rfl ?_
    refine .q (q_assign rfl) rfl ?_
    refine .q (q_assign rfl) rfl ?_
    refine .nil ?_
    refine .retN [.tmp 2, .tmp 3] [.tsl 1 (v4outl1.map rB8) 0, .d (cI 0)] Tryd.func17 Tryd.results17 ⟨rfl, rfl, trivial⟩ ?_
    cases H
    cases HK1
    exact ⟨_, EVle.tupL (ds := [slOf 1 rB8 v4outl1, cI 0]) ⟨.tsl _ _ _, .rfl' _, trivial⟩, rfl⟩

end Go.Proofs.YtccmaffefdcikaaDoor
