/- AssureMoney: amounts are checked as defined; for every input, with no condition. -/
import Derived.Test.YtpdanklncjopoabLW
import Derived.Test.YtpdanklncjopoabLP
import Derived.Test.YtpdanklncjopoabC3
set_option linter.unusedSimpArgs false
set_option linter.unusedVariables false
namespace Go.Proofs.Ytpdanklncjopoab
open Go.RowKit Go.ChangeShapes Go.WideShapes Go.ChangeAt Go.Abs
theorem own : ownKnob Try.prog.godebug = none := by kernel_rfl
theorem laidOut : laidOutB Try.prog = true := by kernel_rfl
def Usage.Ok (x : Usage) : Prop := (-9223372036854775808 ≤ x.id ∧ x.id ≤ 9223372036854775807) ∧ (-9223372036854775808 ≤ x.kind ∧ x.kind ≤ 9223372036854775807) ∧ (-9223372036854775808 ≤ x.account ∧ x.account ≤ 9223372036854775807) ∧ (-9223372036854775808 ≤ x.sub ∧ x.sub ≤ 9223372036854775807) ∧ (x.a.length ≤ maxLen) ∧ (x.b.length ≤ maxLen) ∧ (-9223372036854775808 ≤ x.start ∧ x.start ≤ 9223372036854775807) ∧ (-9223372036854775808 ≤ x.units ∧ x.units ≤ 9223372036854775807) ∧ (-9223372036854775808 ≤ x.trunk ∧ x.trunk ≤ 9223372036854775807) ∧ True ∧ (-9223372036854775808 ≤ x.source ∧ x.source ≤ 9223372036854775807) ∧ (-9223372036854775808 ≤ x.serial ∧ x.serial ≤ 9223372036854775807)
set_option maxRecDepth 100000 in
theorem of_Usage {r : List D} (h1 : r.length = 12) (h2 : ∀ (i : Nat) sh d, ([.i .i64, .i .i64, .i .i64, .i .i64, .s, .s, .i .i64, .i .i64, .i .i64, .b, .i .i64, .i .i64] : List Sh)[i]? = some sh → r[i]? = some d → DFits sh d) : ∃ x : Usage, r = Usage.row x ∧ Usage.Ok x := by
  match r, h1 with
  | [d0, d1, d2, d3, d4, d5, d6, d7, d8, d9, d10, d11], _ =>
    obtain ⟨a0, rfl, k0⟩ := (h2 0 _ d0 rfl rfl).i_inv
    obtain ⟨a1, rfl, k1⟩ := (h2 1 _ d1 rfl rfl).i_inv
    obtain ⟨a2, rfl, k2⟩ := (h2 2 _ d2 rfl rfl).i_inv
    obtain ⟨a3, rfl, k3⟩ := (h2 3 _ d3 rfl rfl).i_inv
    obtain ⟨a4, rfl, k4⟩ := (h2 4 _ d4 rfl rfl).s_inv'
    obtain ⟨a5, rfl, k5⟩ := (h2 5 _ d5 rfl rfl).s_inv'
    obtain ⟨a6, rfl, k6⟩ := (h2 6 _ d6 rfl rfl).i_inv
    obtain ⟨a7, rfl, k7⟩ := (h2 7 _ d7 rfl rfl).i_inv
    obtain ⟨a8, rfl, k8⟩ := (h2 8 _ d8 rfl rfl).i_inv
    obtain ⟨a9, rfl⟩ := (h2 9 _ d9 rfl rfl).b_inv
    obtain ⟨a10, rfl, k10⟩ := (h2 10 _ d10 rfl rfl).i_inv
    obtain ⟨a11, rfl, k11⟩ := (h2 11 _ d11 rfl rfl).i_inv
    exact ⟨⟨a0, a1, a2, a3, a4, a5, a6, a7, a8, a9, a10, a11⟩, rfl, ⟨k0, k1, k2, k3, k4, k5, k6, k7, k8, trivial, k10, k11⟩⟩
def Take.Ok (x : Take) : Prop := (-9223372036854775808 ≤ x.sub ∧ x.sub ≤ 9223372036854775807) ∧ (x.product.length ≤ maxLen) ∧ (-9223372036854775808 ≤ x.index ∧ x.index ≤ 9223372036854775807) ∧ (-9223372036854775808 ≤ x.from_ ∧ x.from_ ≤ 9223372036854775807) ∧ (-9223372036854775808 ≤ x.units ∧ x.units ≤ 9223372036854775807)
set_option maxRecDepth 100000 in
theorem of_Take {r : List D} (h1 : r.length = 5) (h2 : ∀ (i : Nat) sh d, ([.i .i64, .s, .i .i64, .i .i64, .i .i64] : List Sh)[i]? = some sh → r[i]? = some d → DFits sh d) : ∃ x : Take, r = Take.row x ∧ Take.Ok x := by
  match r, h1 with
  | [d0, d1, d2, d3, d4], _ =>
    obtain ⟨a0, rfl, k0⟩ := (h2 0 _ d0 rfl rfl).i_inv
    obtain ⟨a1, rfl, k1⟩ := (h2 1 _ d1 rfl rfl).s_inv'
    obtain ⟨a2, rfl, k2⟩ := (h2 2 _ d2 rfl rfl).i_inv
    obtain ⟨a3, rfl, k3⟩ := (h2 3 _ d3 rfl rfl).i_inv
    obtain ⟨a4, rfl, k4⟩ := (h2 4 _ d4 rfl rfl).i_inv
    exact ⟨⟨a0, a1, a2, a3, a4⟩, rfl, ⟨k0, k1, k2, k3, k4⟩⟩
def Segment.Ok (x : Segment) : Prop := (x.band.length ≤ maxLen) ∧ (-9223372036854775808 ≤ x.start ∧ x.start ≤ 9223372036854775807) ∧ (-9223372036854775808 ≤ x.units ∧ x.units ≤ 9223372036854775807) ∧ (-9223372036854775808 ≤ x.amount ∧ x.amount ≤ 9223372036854775807)
set_option maxRecDepth 100000 in
theorem of_Segment {r : List D} (h1 : r.length = 4) (h2 : ∀ (i : Nat) sh d, ([.s, .i .i64, .i .i64, .i .i64] : List Sh)[i]? = some sh → r[i]? = some d → DFits sh d) : ∃ x : Segment, r = Segment.row x ∧ Segment.Ok x := by
  match r, h1 with
  | [d0, d1, d2, d3], _ =>
    obtain ⟨a0, rfl, k0⟩ := (h2 0 _ d0 rfl rfl).s_inv'
    obtain ⟨a1, rfl, k1⟩ := (h2 1 _ d1 rfl rfl).i_inv
    obtain ⟨a2, rfl, k2⟩ := (h2 2 _ d2 rfl rfl).i_inv
    obtain ⟨a3, rfl, k3⟩ := (h2 3 _ d3 rfl rfl).i_inv
    exact ⟨⟨a0, a1, a2, a3⟩, rfl, ⟨k0, k1, k2, k3⟩⟩
def Given.Ok (x : Given) : Prop := (x.name.length ≤ maxLen) ∧ (-9223372036854775808 ≤ x.amount ∧ x.amount ≤ 9223372036854775807)
set_option maxRecDepth 100000 in
theorem of_Given {r : List D} (h1 : r.length = 2) (h2 : ∀ (i : Nat) sh d, ([.s, .i .i64] : List Sh)[i]? = some sh → r[i]? = some d → DFits sh d) : ∃ x : Given, r = Given.row x ∧ Given.Ok x := by
  match r, h1 with
  | [d0, d1], _ =>
    obtain ⟨a0, rfl, k0⟩ := (h2 0 _ d0 rfl rfl).s_inv'
    obtain ⟨a1, rfl, k1⟩ := (h2 1 _ d1 rfl rfl).i_inv
    exact ⟨⟨a0, a1⟩, rfl, ⟨k0, k1⟩⟩
def Rated.Ok (x : Rated) : Prop := (Usage.Ok x.usage) ∧ (-9223372036854775808 ≤ x.err ∧ x.err ≤ 9223372036854775807) ∧ (x.plan.length ≤ maxLen) ∧ (-9223372036854775808 ≤ x.version ∧ x.version ≤ 9223372036854775807) ∧ (x.zone.length ≤ maxLen) ∧ (x.takes.length ≤ maxLen ∧ ∀ z, z ∈ x.takes → Take.Ok z) ∧ (x.segments.length ≤ maxLen ∧ ∀ z, z ∈ x.segments → Segment.Ok z) ∧ (-9223372036854775808 ≤ x.setup ∧ x.setup ≤ 9223372036854775807) ∧ (-9223372036854775808 ≤ x.gross ∧ x.gross ≤ 9223372036854775807) ∧ (-9223372036854775808 ≤ x.net ∧ x.net ≤ 9223372036854775807) ∧ (x.given.length ≤ maxLen ∧ ∀ z, z ∈ x.given → Given.Ok z) ∧ (-9223372036854775808 ≤ x.paid ∧ x.paid ≤ 9223372036854775807) ∧ (-9223372036854775808 ≤ x.owed ∧ x.owed ≤ 9223372036854775807)
set_option maxRecDepth 100000 in
theorem of_Rated {r : List D} (h1 : r.length = 24) (h2 : ∀ (i : Nat) sh d, ([.i .i64, .i .i64, .i .i64, .i .i64, .s, .s, .i .i64, .i .i64, .i .i64, .b, .i .i64, .i .i64, .i .i64, .s, .i .i64, .s, .sl [.i .i64, .s, .i .i64, .i .i64, .i .i64], .sl [.s, .i .i64, .i .i64, .i .i64], .i .i64, .i .i64, .i .i64, .sl [.s, .i .i64], .i .i64, .i .i64] : List Sh)[i]? = some sh → r[i]? = some d → DFits sh d) : ∃ x : Rated, r = Rated.row x ∧ Rated.Ok x := by
  match r, h1 with
  | [d0, d1, d2, d3, d4, d5, d6, d7, d8, d9, d10, d11, d12, d13, d14, d15, d16, d17, d18, d19, d20, d21, d22, d23], _ =>
    obtain ⟨a0, rfl, k0⟩ := (h2 0 _ d0 rfl rfl).i_inv
    obtain ⟨a1, rfl, k1⟩ := (h2 1 _ d1 rfl rfl).i_inv
    obtain ⟨a2, rfl, k2⟩ := (h2 2 _ d2 rfl rfl).i_inv
    obtain ⟨a3, rfl, k3⟩ := (h2 3 _ d3 rfl rfl).i_inv
    obtain ⟨a4, rfl, k4⟩ := (h2 4 _ d4 rfl rfl).s_inv'
    obtain ⟨a5, rfl, k5⟩ := (h2 5 _ d5 rfl rfl).s_inv'
    obtain ⟨a6, rfl, k6⟩ := (h2 6 _ d6 rfl rfl).i_inv
    obtain ⟨a7, rfl, k7⟩ := (h2 7 _ d7 rfl rfl).i_inv
    obtain ⟨a8, rfl, k8⟩ := (h2 8 _ d8 rfl rfl).i_inv
    obtain ⟨a9, rfl⟩ := (h2 9 _ d9 rfl rfl).b_inv
    obtain ⟨a10, rfl, k10⟩ := (h2 10 _ d10 rfl rfl).i_inv
    obtain ⟨a11, rfl, k11⟩ := (h2 11 _ d11 rfl rfl).i_inv
    obtain ⟨a12, rfl, k12⟩ := (h2 12 _ d12 rfl rfl).i_inv
    obtain ⟨a13, rfl, k13⟩ := (h2 13 _ d13 rfl rfl).s_inv'
    obtain ⟨a14, rfl, k14⟩ := (h2 14 _ d14 rfl rfl).i_inv
    obtain ⟨a15, rfl, k15⟩ := (h2 15 _ d15 rfl rfl).s_inv'
    obtain ⟨a16, rfl, k16⟩ := DFits.sl_of (h2 16 _ d16 rfl rfl) (fun r a b => of_Take a b)
    obtain ⟨a17, rfl, k17⟩ := DFits.sl_of (h2 17 _ d17 rfl rfl) (fun r a b => of_Segment a b)
    obtain ⟨a18, rfl, k18⟩ := (h2 18 _ d18 rfl rfl).i_inv
    obtain ⟨a19, rfl, k19⟩ := (h2 19 _ d19 rfl rfl).i_inv
    obtain ⟨a20, rfl, k20⟩ := (h2 20 _ d20 rfl rfl).i_inv
    obtain ⟨a21, rfl, k21⟩ := DFits.sl_of (h2 21 _ d21 rfl rfl) (fun r a b => of_Given a b)
    obtain ⟨a22, rfl, k22⟩ := (h2 22 _ d22 rfl rfl).i_inv
    obtain ⟨a23, rfl, k23⟩ := (h2 23 _ d23 rfl rfl).i_inv
    exact ⟨⟨⟨a0, a1, a2, a3, a4, a5, a6, a7, a8, a9, a10, a11⟩, a12, a13, a14, a15, a16, a17, a18, a19, a20, a21, a22, a23⟩, rfl, ⟨⟨k0, k1, k2, k3, k4, k5, k6, k7, k8, trivial, k10, k11⟩, k12, k13, k14, k15, k16, k17, k18, k19, k20, k21, k22, k23⟩⟩
theorem shape22 : Go.Abs.shape Try.prog 6 22 = some ([.sl [.i .i64, .i .i64, .i .i64, .i .i64, .s, .s, .i .i64, .i .i64, .i .i64, .b, .i .i64, .i .i64, .i .i64, .s, .i .i64, .s, .sl [.i .i64, .s, .i .i64, .i .i64, .i .i64], .sl [.s, .i .i64, .i .i64, .i .i64], .i .i64, .i .i64, .i .i64, .sl [.s, .i .i64], .i .i64, .i .i64]] : List Sh) := by kernel_rfl
set_option maxRecDepth 100000 in
theorem lifted_AssureMoney (os : Os) (started : os.Started) (H : Type) (enc : TypeId × Value → H) :
    ReturnsInHanded {} Try.checked os 3 .any (Rows.assureMoneySpec.pre6 enc Try.prog Try.f3 Rows.assureMoneyRow.domain false) (Rows.assureMoneySpec.post enc Try.prog Try.f3 false true false false) := by
  refine returnsInHanded_of_change (C := Try.checked) own started (by kernel_rfl) Try.func3
    (ChangeSpec.witness6 (enc := enc) (C := Try.checked) false ⟨#[], #[.slice none 0 0], []⟩ 8 (by kernel_rfl) (by kernel_rfl) (by kernel_rfl) (by kernel_rfl)) ?_
  intro W base args ds gs before hval0 hW hcnd _
  have hglob : Globs W.heap.size W := fun x hx => by cases hx
  have hval : ∀ (j : Nat) t v, Try.f3.params[j]? = some t → args[j]? = some v → Value.okWide Try.prog W .any base t v := hval0
  have hW' := hW
  obtain ⟨p, q, hA0, hV, rfl, hfz, hnd⟩ := hW
  have hA : DataW.TrodAll enc Try.prog W 0 (fun _ => true) true Try.f3.params.toList args.toList ds p := hA0
  have hA1 := hA
  rw [Try.params3] at hA hval
  obtain ⟨v0, vs0, d0, ds0, p0, q0, hargs, rfl, rfl, h0, r0⟩ := trodAll_cons hA
  obtain ⟨rfl, rfl, rfl⟩ := trodAll_nil r0
  obtain rfl : args = #[v0] := by cases args; simp_all
  obtain ⟨rfl, rfl⟩ := trodVars_none hV
  obtain ⟨y0, f0, e0⟩ := top_slice shape22 Try.underlying22 (hval 0 22 v0 rfl rfl) h0
  obtain ⟨x0, rfl, k0⟩ := DFits.sl_of f0 (fun r a b => of_Rated a b)
  clear hA0 hval0
  simp only [List.append_nil] at hW'
  have hlaw := money_true x0
  refine (L.c_f_billinglaw54_AssureMoney hlaw (limW W) W #[v0] hglob ⟨rfl, fun i x v hx hv => ?_⟩).mono fun e W' ⟨v, r, lim', he, hq, hr, hev, hb, hl⟩ => ?_
  · match i with
    | 0 => simp at hx hv; subst hx; subst hv; exact e0
    | n + 1 => simp at hx
  subst he; subst hq; cases hr
  have hA2 : DataW.TrodAll enc Try.prog W 0 (fun _ => true) true [22] [v0] [d0] (p0) := by simpa using hA1
  have hlt : ∀ p ∈ (p0), p.block < W.heap.size := fun p hp => hW'.lt p (by simpa using hp)
  exact ⟨_, rfl, post_of_below (pa := (p0)) (pv := []) hW' (fun _ _ _ => trodAll_mk1 (shut_bool Try.underlying4 true)) (fun sp hsp => trodAll_stays laidOut hb sp (by kernel_rfl) hA2 hlt (fun p hp => hsp p (by simpa using hp))) (fun _ _ => rfl) (by simp)
    hb (ok_one (by kernel_rfl) rfl (okWide_bool_mk Try.underlying4 true))⟩
theorem assureMoney_holds : Rows.AssureMoneySaid :=
  OpenClaim.holds_of_wide 3 Try.f3 rfl rfl rfl rfl rfl rfl rfl ⟨rfl, rfl, rfl, rfl, rfl⟩ rfl rfl rfl rfl rfl (by kernel_rfl) Try.func3 (by kernel_rfl)
    (of_decide_eq_true (by kernel_rfl)) (by unfold Func.isWrapper; first | (rw [if_pos (by decide +kernel)]; kernel_rfl) | (rw [if_neg (by decide +kernel)]; exact ⟨rfl, rfl⟩))
    (fun os started H enc _ => lifted_AssureMoney os started H enc)
end Go.Proofs.Ytpdanklncjopoab
