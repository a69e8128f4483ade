/- AssureFound: a rated usage that is missing or changed is found; for every input, with no condition. -/
import Derived.Test.YtpdanklncjopoaaZ5
set_option linter.unusedSimpArgs false
set_option linter.unusedVariables false
namespace Go.Proofs.Ytpdanklncjopoaa
open Go.RowKit Go.ChangeShapes Go.WideShapes Go.ChangeAt Go.Abs
theorem own : ownKnob Try.prog.godebug = none := by kernel_rfl
theorem laidOut : laidOutB Try.prog = true := by kernel_rfl
def Usage.Ok (x : Usage) : Prop := (-9223372036854775808 ≤ x.id ∧ x.id ≤ 9223372036854775807) ∧ (-9223372036854775808 ≤ x.kind ∧ x.kind ≤ 9223372036854775807) ∧ (-9223372036854775808 ≤ x.account ∧ x.account ≤ 9223372036854775807) ∧ (-9223372036854775808 ≤ x.sub ∧ x.sub ≤ 9223372036854775807) ∧ (x.a.length ≤ maxLen) ∧ (x.b.length ≤ maxLen) ∧ (-9223372036854775808 ≤ x.start ∧ x.start ≤ 9223372036854775807) ∧ (-9223372036854775808 ≤ x.units ∧ x.units ≤ 9223372036854775807) ∧ (-9223372036854775808 ≤ x.trunk ∧ x.trunk ≤ 9223372036854775807) ∧ True ∧ (-9223372036854775808 ≤ x.source ∧ x.source ≤ 9223372036854775807) ∧ (-9223372036854775808 ≤ x.serial ∧ x.serial ≤ 9223372036854775807)
set_option maxRecDepth 100000 in
theorem of_Usage {r : List D} (h1 : r.length = 12) (h2 : ∀ (i : Nat) sh d, ([.i .i64, .i .i64, .i .i64, .i .i64, .s, .s, .i .i64, .i .i64, .i .i64, .b, .i .i64, .i .i64] : List Sh)[i]? = some sh → r[i]? = some d → DFits sh d) : ∃ x : Usage, r = Usage.row x ∧ Usage.Ok x := by
  match r, h1 with
  | [d0, d1, d2, d3, d4, d5, d6, d7, d8, d9, d10, d11], _ =>
    obtain ⟨a0, rfl, k0⟩ := (h2 0 _ d0 rfl rfl).i_inv
    obtain ⟨a1, rfl, k1⟩ := (h2 1 _ d1 rfl rfl).i_inv
    obtain ⟨a2, rfl, k2⟩ := (h2 2 _ d2 rfl rfl).i_inv
    obtain ⟨a3, rfl, k3⟩ := (h2 3 _ d3 rfl rfl).i_inv
    obtain ⟨a4, rfl, k4⟩ := (h2 4 _ d4 rfl rfl).s_inv'
    obtain ⟨a5, rfl, k5⟩ := (h2 5 _ d5 rfl rfl).s_inv'
    obtain ⟨a6, rfl, k6⟩ := (h2 6 _ d6 rfl rfl).i_inv
    obtain ⟨a7, rfl, k7⟩ := (h2 7 _ d7 rfl rfl).i_inv
    obtain ⟨a8, rfl, k8⟩ := (h2 8 _ d8 rfl rfl).i_inv
    obtain ⟨a9, rfl⟩ := (h2 9 _ d9 rfl rfl).b_inv
    obtain ⟨a10, rfl, k10⟩ := (h2 10 _ d10 rfl rfl).i_inv
    obtain ⟨a11, rfl, k11⟩ := (h2 11 _ d11 rfl rfl).i_inv
    exact ⟨⟨a0, a1, a2, a3, a4, a5, a6, a7, a8, a9, a10, a11⟩, rfl, ⟨k0, k1, k2, k3, k4, k5, k6, k7, k8, trivial, k10, k11⟩⟩
theorem shape31 : Go.Abs.shape Try.prog 4 31 = some ([.sl [.i .i64, .i .i64, .i .i64, .i .i64, .s, .s, .i .i64, .i .i64, .i .i64, .b, .i .i64, .i .i64]] : List Sh) := by kernel_rfl
set_option maxRecDepth 100000 in
theorem lifted_AssureFound (os : Os) (started : os.Started) (H : Type) (enc : TypeId × Value → H) :
    ReturnsInHanded {} Try.checked os 5 .any (Rows.assureFoundSpec.pre6 enc Try.prog Try.f5 Rows.assureFoundRow.domain false) (Rows.assureFoundSpec.post enc Try.prog Try.f5 false true false false) := by
  refine returnsInHanded_of_change (C := Try.checked) own started (by kernel_rfl) Try.func5
    (ChangeSpec.witness6 (enc := enc) (C := Try.checked) false ⟨#[], #[.slice none 0 0, .int .i64 0, .int .i64 0], []⟩ 8 (by kernel_rfl) (by kernel_rfl) (by kernel_rfl) (by kernel_rfl)) ?_
  intro W base args ds gs before hval0 hW hcnd _
  have hglob : Globs W.heap.size W := ⟨fun x hx => (by cases hx), fun k hk => (by cases hk)⟩
  have hval : ∀ (j : Nat) t v, Try.f5.params[j]? = some t → args[j]? = some v → Value.okWide Try.prog W .any base t v := hval0
  have hW' := hW
  obtain ⟨p, q, hA0, hV, rfl, hfz, hnd⟩ := hW
  have hA : DataW.TrodAll enc Try.prog W 0 (fun _ => true) true Try.f5.params.toList args.toList ds p := hA0
  have hA1 := hA
  rw [Try.params5] at hA hval
  obtain ⟨v0, vs0, d0, ds0, p0, q0, hargs, rfl, rfl, h0, r0⟩ := trodAll_cons hA
  obtain ⟨v1, vs1, d1, ds1, p1, q1, rfl, rfl, rfl, h1, r1⟩ := trodAll_cons r0
  obtain ⟨v2, vs2, d2, ds2, p2, q2, rfl, rfl, rfl, h2, r2⟩ := trodAll_cons r1
  obtain ⟨rfl, rfl, rfl⟩ := trodAll_nil r2
  obtain rfl : args = #[v0, v1, v2] := by cases args; simp_all
  obtain ⟨rfl, rfl⟩ := trodVars_none hV
  obtain ⟨y0, f0, e0⟩ := top_slice shape31 Try.underlying31 (hval 0 31 v0 rfl rfl) h0
  obtain ⟨x0, rfl, k0⟩ := DFits.sl_of f0 (fun r a b => of_Usage a b)
  obtain ⟨x1, e1, k1⟩ := top_int Try.underlying3 (hval 1 3 v1 rfl rfl) h1
  obtain ⟨x2, e2, k2⟩ := top_int Try.underlying3 (hval 2 3 v2 rfl rfl) h2
  clear hA0 hval0
  simp only [List.append_nil] at hW'
  have hlaw := found_true x0 x1 x2 (Nat.lt_of_le_of_lt k0.1 (by decide))
  refine (c_f_billinglaw54_AssureFound hlaw (limW W) W #[v0, v1, v2] hglob ⟨rfl, fun i x v hx hv => ?_⟩).mono fun e W' ⟨v, r, lim', he, hq, hr, hev, hb, hl⟩ => ?_
  · match i with
    | 0 => simp at hx hv; subst hx; subst hv; exact e0
    | 1 => simp at hx hv; subst hx; subst hv; exact e1
    | 2 => simp at hx hv; subst hx; subst hv; exact e2
    | n + 3 => simp at hx
  subst he; subst hq; cases hr
  have hA2 : DataW.TrodAll enc Try.prog W 0 (fun _ => true) true [31, 3, 3] [v0, v1, v2] [d0, d1, d2] (p0 ++ (p1 ++ (p2))) := by simpa using hA1
  have hlt : ∀ p ∈ (p0 ++ (p1 ++ (p2))), p.block < W.heap.size := fun p hp => hW'.lt p (by simpa using hp)
  exact ⟨_, rfl, post_of_below (pa := (p0 ++ (p1 ++ (p2)))) (pv := []) hW' (fun _ _ _ => trodAll_mk1 (shut_bool Try.underlying4 true)) (fun sp hsp => trodAll_stays laidOut hb sp (by kernel_rfl) hA2 hlt (fun p hp => hsp p (by simpa using hp))) (fun _ _ => rfl) (by simp)
    hb (ok_one (by kernel_rfl) rfl (okWide_bool_mk Try.underlying4 true))⟩
theorem assureFound_holds : Rows.AssureFoundSaid :=
  OpenClaim.holds_of_wide 5 Try.f5 rfl rfl rfl rfl rfl rfl rfl ⟨rfl, rfl, rfl, rfl, rfl⟩ rfl rfl rfl rfl rfl (by kernel_rfl) Try.func5 (by kernel_rfl)
    (of_decide_eq_true (by kernel_rfl)) (by unfold Func.isWrapper; first | (rw [if_pos (by decide +kernel)]; kernel_rfl) | (rw [if_neg (by decide +kernel)]; exact ⟨rfl, rfl⟩))
    (fun os started H enc _ => lifted_AssureFound os started H enc)
end Go.Proofs.Ytpdanklncjopoaa
