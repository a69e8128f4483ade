/- TextualAll: the lines of valid records are decoded to these records; whatever lines stand between them become rejects, with their numbers (at most 30 records and 30 other lines); for every input, with no condition. -/
import Derived.Test.YtoknjmclbfgkiaaDoorQB
import Derived.Test.YtoknjmclbfgkiaaDoorLS
set_option linter.unusedSimpArgs false
set_option linter.unusedVariables false
namespace Go.Proofs.YtoknjmclbfgkiaaDoor
open Go.RowKit Go.ChangeShapes Go.WideShapes Go.ChangeAt Go.Abs
def Record.Ok (x : Record) : Prop := (-9223372036854775808 ≤ x.source ∧ x.source ≤ 9223372036854775807) ∧ (-9223372036854775808 ≤ x.serial ∧ x.serial ≤ 9223372036854775807) ∧ (-9223372036854775808 ≤ x.kind ∧ x.kind ≤ 9223372036854775807) ∧ (x.a.length ≤ maxLen) ∧ (x.b.length ≤ maxLen) ∧ (-9223372036854775808 ≤ x.start ∧ x.start ≤ 9223372036854775807) ∧ (-9223372036854775808 ≤ x.units ∧ x.units ≤ 9223372036854775807) ∧ (-9223372036854775808 ≤ x.call ∧ x.call ≤ 9223372036854775807) ∧ (-9223372036854775808 ≤ x.part ∧ x.part ≤ 9223372036854775807) ∧ True ∧ (-9223372036854775808 ≤ x.trunk ∧ x.trunk ≤ 9223372036854775807) ∧ True
set_option maxRecDepth 100000 in
theorem of_Record {r : List D} (h1 : r.length = 12) (h2 : ∀ (i : Nat) sh d, ([.i .i64, .i .i64, .i .i64, .s, .s, .i .i64, .i .i64, .i .i64, .i .i64, .b, .i .i64, .b] : List Sh)[i]? = some sh → r[i]? = some d → DFits sh d) : ∃ x : Record, r = Record.row x ∧ Record.Ok x := by
  match r, h1 with
  | [d0, d1, d2, d3, d4, d5, d6, d7, d8, d9, d10, d11], _ =>
    obtain ⟨a0, rfl, k0⟩ := (h2 0 _ d0 rfl rfl).i_inv
    obtain ⟨a1, rfl, k1⟩ := (h2 1 _ d1 rfl rfl).i_inv
    obtain ⟨a2, rfl, k2⟩ := (h2 2 _ d2 rfl rfl).i_inv
    obtain ⟨a3, rfl, k3⟩ := (h2 3 _ d3 rfl rfl).s_inv'
    obtain ⟨a4, rfl, k4⟩ := (h2 4 _ d4 rfl rfl).s_inv'
    obtain ⟨a5, rfl, k5⟩ := (h2 5 _ d5 rfl rfl).i_inv
    obtain ⟨a6, rfl, k6⟩ := (h2 6 _ d6 rfl rfl).i_inv
    obtain ⟨a7, rfl, k7⟩ := (h2 7 _ d7 rfl rfl).i_inv
    obtain ⟨a8, rfl, k8⟩ := (h2 8 _ d8 rfl rfl).i_inv
    obtain ⟨a9, rfl⟩ := (h2 9 _ d9 rfl rfl).b_inv
    obtain ⟨a10, rfl, k10⟩ := (h2 10 _ d10 rfl rfl).i_inv
    obtain ⟨a11, rfl⟩ := (h2 11 _ d11 rfl rfl).b_inv
    exact ⟨⟨a0, a1, a2, a3, a4, a5, a6, a7, a8, a9, a10, a11⟩, rfl, ⟨k0, k1, k2, k3, k4, k5, k6, k7, k8, trivial, k10, trivial⟩⟩
theorem shape33 : Go.Abs.shape Tryd.prog 3 33 = some ([.sl [.s]] : List Sh) := by kernel_rfl
theorem shape36 : Go.Abs.shape Tryd.prog 4 36 = some ([.sl [.i .i64, .i .i64, .i .i64, .s, .s, .i .i64, .i .i64, .i .i64, .i .i64, .b, .i .i64, .b]] : List Sh) := by kernel_rfl
set_option maxRecDepth 100000 in
theorem lifted_TextualAll (os : Os) (started : os.Started) (H : Type) (enc : TypeId × Value → H) :
    ReturnsInHanded {} Tryd.checked os 7 .any (fun w args => (Rows.textualAllSpec.pre enc Tryd.prog Tryd.f7 [] false w args ∧ laidMetH Tryd.prog Rows.textualAllRow.laid w) ∧ sizedMet enc Tryd.prog Tryd.f7 (OpenSpec.ofChange Rows.textualAllSpec) false w args) (Rows.textualAllSpec.post enc Tryd.prog Tryd.f7 false true false false) := by
  refine returnsInHanded_and_shaped (C := Tryd.checked) (X := fun w _ => laidMetH Tryd.prog Rows.textualAllRow.laid w) (fun _ _ _ hh h => h.of_heap hh) own started (by kernel_rfl) Tryd.func7
    (ChangeSpec.witness_shaped (enc := enc) (C := Tryd.checked) (os := os) (X := fun w _ => laidMetH Tryd.prog Rows.textualAllRow.laid w) false (World.laidAll Tryd.prog os Rows.textualAllRow.laid) #[.slice none 0 0, .slice none 0 0] 8 (World.laidAll_os _ _ _)
      (World.shaped_of_ZipB (by kernel_rfl) (by kernel_rfl)) (by kernel_rfl) (by kernel_rfl) (by kernel_rfl)
      (by rw [MakeChecks.laidMetH_plain _ _ _ (by kernel_rfl)]; exact laidMet_laidAll _ (by kernel_rfl) (by kernel_rfl))) ?_
  intro W base args ds gs before hval0 hW hcnd _ hLaid hShape _
  have hglob := globs_of_laid (show laidMetH Tryd.prog laidL W from hLaid) hShape
  have hval : ∀ (j : Nat) t v, Tryd.f7.params[j]? = some t → args[j]? = some v → Value.okWide Tryd.prog W .any base t v := hval0
  have hW' := hW
  obtain ⟨p, q, hA0, hV, rfl, hfz, hnd⟩ := hW
  have hA : DataW.TrodAll enc Tryd.prog W 0 (fun _ => true) true Tryd.f7.params.toList args.toList ds p := hA0
  have hA1 := hA
  rw [Tryd.params7] at hA hval
  obtain ⟨v0, vs0, d0, ds0, p0, q0, hargs, rfl, rfl, h0, r0⟩ := trodAll_cons hA
  obtain ⟨v1, vs1, d1, ds1, p1, q1, rfl, rfl, rfl, h1, r1⟩ := trodAll_cons r0
  obtain ⟨rfl, rfl, rfl⟩ := trodAll_nil r1
  obtain rfl : args = #[v0, v1] := by cases args; simp_all
  obtain ⟨rfl, rfl⟩ := trodVars_none hV
  obtain ⟨y0, f0, e0⟩ := top_slice shape36 Tryd.underlying36 (hval 0 36 v0 rfl rfl) h0
  obtain ⟨x0, rfl, k0⟩ := DFits.sl_of f0 (fun r a b => of_Record a b)
  obtain ⟨y1, f1, e1⟩ := top_slice shape33 Tryd.underlying33 (hval 1 33 v1 rfl rfl) h1
  obtain ⟨x1, rfl, k1⟩ := DFits.sl_of (row := rS) (p := fun z => z.length ≤ maxLen) f1 ofS
  clear hA0 hval0
  simp only [List.append_nil] at hW'
  have hlaw := alls_true x0 x1
  refine (c_f_billinglaw09_TextualAll hlaw (limW W) W #[v0, v1] hglob ⟨rfl, fun i x v hx hv => ?_⟩).mono fun e W' ⟨v, r, lim', he, hq, hr, hev, hb, hl⟩ => ?_
  · match i with
    | 0 => simp at hx hv; subst hx; subst hv; exact e0
    | 1 => simp at hx hv; subst hx; subst hv; exact e1
    | n + 2 => simp at hx
  subst he; subst hq; cases hr
  have hA2 : DataW.TrodAll enc Tryd.prog W 0 (fun _ => true) true [36, 33] [v0, v1] [d0, d1] (p0 ++ p1) := by simpa using hA1
  have hlt : ∀ p ∈ (p0 ++ p1), p.block < W.heap.size := fun p hp => hW'.lt p (by simpa using hp)
  exact ⟨_, rfl, post_of_below (pa := (p0 ++ p1)) (pv := []) hW' (fun _ _ _ => trodAll_mk1 (shut_bool Tryd.underlying4 true)) (fun sp hsp => trodAll_stays laidOut hb sp (by kernel_rfl) hA2 hlt (fun p hp => hsp p (by simpa using hp))) (fun _ _ => rfl) (by simp)
    hb (ok_one (by kernel_rfl) rfl (okWide_bool_mk Tryd.underlying4 true))⟩
theorem textualAll_holds : Rows.TextualAllSaid :=
  OpenClaim.holds_of_wide 7 Tryd.f7 rfl rfl rfl rfl rfl rfl rfl ⟨rfl, rfl, rfl, rfl, rfl⟩ rfl rfl rfl rfl rfl (by kernel_rfl) Tryd.func7 (by kernel_rfl)
    (of_decide_eq_true (by kernel_rfl)) (by unfold Func.isWrapper; first | (rw [if_pos (by decide +kernel)]; kernel_rfl) | (rw [if_neg (by decide +kernel)]; exact ⟨rfl, rfl⟩))
    (fun os started H enc _ => lifted_TextualAll os started H enc)
theorem textualAll_card : Rows.TextualAllCardSaid :=
  Claim7.holds_tied_plain_at .later [] [.data, .data, .data, .data, .pinned] true (true, "fb4aa93f1b84c0fdcbbafaffef7e576bba0dee1e5a1a5ccb715ec1411b3406dc") false textualAll_holds (fun _ h => by cases h) (by kernel_rfl) (fun _ h => by cases h) textualAll_row_tie rfl ⟨rfl, rfl⟩ (by kernel_rfl) rfl
    (fun f fn hf hfn => by
      obtain rfl : f = 7 := Option.some.inj ((show Tryd.prog.funcNamed "billing/billinglaw09.TextualAll" = some 7 by kernel_rfl).symm.trans hf) |>.symm
      obtain rfl : fn = Tryd.f7 := (Option.some.inj (Tryd.func7.symm.trans hfn)).symm
      exact ⟨by kernel_rfl, fun j t ht => by
        rw [Tryd.params7] at ht
        have hm : t ∈ [36, 33] := by simpa using Array.mem_of_getElem? ht
        have hall : ([36, 33].all fun u => !Tryd.prog.wantsStandIn u) = true := by kernel_rfl
        exact (show Tryd.prog.wantsStandIn t = false by simpa using List.all_eq_true.1 hall t hm)⟩)
    (by kernel_rfl)
end Go.Proofs.YtoknjmclbfgkiaaDoor
