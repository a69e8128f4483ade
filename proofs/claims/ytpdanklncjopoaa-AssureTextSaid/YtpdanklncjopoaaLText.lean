/- AssureText: the text of any leaks is as defined; for every input, with no condition. -/
import Derived.Test.YtpdanklncjopoaaWA
import Derived.Test.YtpdanklncjopoaaC2
set_option linter.unusedSimpArgs false
set_option linter.unusedVariables false
namespace Go.Proofs.Ytpdanklncjopoaa
open Go.RowKit Go.ChangeShapes Go.WideShapes Go.ChangeAt Go.Abs

theorem own : ownKnob Try.prog.godebug = none := by kernel_rfl
theorem laidOut : laidOutB Try.prog = true := by kernel_rfl
theorem leaks_of {d : D} (h : DFits (.sl [.i .i64, .i .i64, .i .i64, .i .i64]) d) : ∃ l : List Leak, d = slOf 4 Leak.row l ∧ ∀ x, x ∈ l → x.ok := by
  obtain ⟨rows, rfl, _, hr⟩ := h.sl_inv
  obtain ⟨l, rfl, hl⟩ := rows_of (row := Leak.row) (p := Leak.ok) (rows := rows) fun r hrm => by
    obtain ⟨h1, h2⟩ := hr r hrm
    match r, h1 with
    | [a, b, c, d], _ =>
      obtain ⟨a, rfl, _⟩ := (h2 0 _ a rfl rfl).i_inv
      obtain ⟨b, rfl, kb⟩ := (h2 1 _ b rfl rfl).i_inv
      obtain ⟨c, rfl, kc⟩ := (h2 2 _ c rfl rfl).i_inv
      obtain ⟨d, rfl, kd⟩ := (h2 3 _ d rfl rfl).i_inv
      exact ⟨⟨a, b, c, d⟩, ⟨kb, kc, kd⟩, rfl⟩
  exact ⟨l, rfl, hl⟩
theorem shape42 : Go.Abs.shape Try.prog 4 42 = some [Sh.sl [.i .i64, .i .i64, .i .i64, .i .i64]] := by kernel_rfl
set_option maxRecDepth 100000 in
theorem text_lifted (os : Os) (started : os.Started) (H : Type) (enc : TypeId × Value → H) :
    ReturnsInHanded {} Try.checked os 7 .any (Rows.assureTextSpec.pre6 enc Try.prog Try.f7 Rows.assureTextRow.domain false) (Rows.assureTextSpec.post enc Try.prog Try.f7 false true false false) := by
  refine returnsInHanded_of_change (C := Try.checked) own started (by kernel_rfl) Try.func7
    (ChangeSpec.witness6 (enc := enc) (C := Try.checked) false ⟨#[], #[.slice none 0 0], []⟩ 8 (by kernel_rfl) (by kernel_rfl) (by kernel_rfl) (by kernel_rfl)) ?_
  intro W base args ds gs before hval0 hW hcnd _
  have hval : ∀ (j : Nat) t v, Try.f7.params[j]? = some t → args[j]? = some v → Value.okWide Try.prog W .any base t v := hval0
  have hW' := hW
  obtain ⟨p, q, hA0, hV, rfl, hfz, hnd⟩ := hW
  have hA : DataW.TrodAll enc Try.prog W 0 (fun _ => true) true Try.f7.params.toList args.toList ds p := hA0
  have hA1 := hA
  rw [Try.params7] at hA hval
  obtain ⟨v0, vs0, d0, ds0, p0, q0, hargs, rfl, rfl, h0, r0⟩ := trodAll_cons hA
  obtain ⟨rfl, rfl, rfl⟩ := trodAll_nil r0
  obtain rfl : args = #[v0] := by cases args; simp_all
  obtain ⟨rfl, rfl⟩ := trodVars_none hV
  obtain ⟨x0, f0, e0⟩ := top_slice shape42 Try.underlying42 (hval 0 42 v0 rfl rfl) h0
  obtain ⟨l, rfl, hok⟩ := leaks_of f0
  clear hA0 hval0
  simp only [List.append_nil] at hW'
  refine ((l_Text l fun k hk => hok _ (nth_mem hk)) (limW W) W #[v0] ⟨rfl, fun i x v hx hv => ?_⟩).mono fun e W' ⟨v, r, lim', he, hq, hr, hev, hb, hl⟩ => ?_
  · match i with
    | 0 => simp at hx hv; subst hx; subst hv; exact e0
    | n + 1 => simp at hx
  subst he; subst hq; cases hr
  have hA2 : DataW.TrodAll enc Try.prog W 0 (fun _ => true) true [42] [v0] [d0] p0 := by simpa using hA1
  have hlt : ∀ p ∈ p0, p.block < W.heap.size := fun p hp => hW'.lt p (by simpa using hp)
  exact ⟨_, rfl, post_of_below (pa := p0) (pv := []) hW' (fun _ _ _ => trodAll_mk1 (shut_bool Try.underlying4 true)) (fun sp hsp => trodAll_stays laidOut hb sp (by kernel_rfl) hA2 hlt (fun p hp => hsp p (by simpa using hp))) (fun _ _ => rfl) (by simp)
    hb (ok_one (by kernel_rfl) rfl (okWide_bool_mk Try.underlying4 true))⟩
theorem text_holds : Rows.AssureTextSaid :=
  OpenClaim.holds_of_wide 7 Try.f7 rfl rfl rfl rfl rfl rfl rfl ⟨rfl, rfl, rfl, rfl, rfl⟩ rfl rfl rfl rfl rfl (by kernel_rfl) Try.func7 (by kernel_rfl)
    (of_decide_eq_true (by kernel_rfl)) (by unfold Func.isWrapper; first | (rw [if_pos (by decide +kernel)]; kernel_rfl) | (rw [if_neg (by decide +kernel)]; exact ⟨rfl, rfl⟩))
    (fun os started H enc _ => text_lifted os started H enc)
end Go.Proofs.Ytpdanklncjopoaa
