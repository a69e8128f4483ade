/- AssureBooks: invoices and the ledger are compared as defined; for every input, with no condition. -/
import Derived.Test.YtpdanklncjopoaaLW2
import Derived.Test.YtpdanklncjopoaaF7
import Derived.Test.YtpdanklncjopoaaC3
set_option linter.unusedSimpArgs false
set_option linter.unusedVariables false
namespace Go.Proofs.Ytpdanklncjopoaa
open Go.RowKit Go.ChangeShapes Go.WideShapes Go.ChangeAt Go.Abs
theorem own : ownKnob Try.prog.godebug = none := by kernel_rfl
theorem laidOut : laidOutB Try.prog = true := by kernel_rfl
def Period.Ok (x : Period) : Prop := (-9223372036854775808 ≤ x.from_ ∧ x.from_ ≤ 9223372036854775807) ∧ (-9223372036854775808 ≤ x.to_ ∧ x.to_ ≤ 9223372036854775807)
set_option maxRecDepth 100000 in
theorem of_Period {r : List D} (h1 : r.length = 2) (h2 : ∀ (i : Nat) sh d, ([.i .i64, .i .i64] : List Sh)[i]? = some sh → r[i]? = some d → DFits sh d) : ∃ x : Period, r = Period.row x ∧ Period.Ok x := by
  match r, h1 with
  | [d0, d1], _ =>
    obtain ⟨a0, rfl, k0⟩ := (h2 0 _ d0 rfl rfl).i_inv
    obtain ⟨a1, rfl, k1⟩ := (h2 1 _ d1 rfl rfl).i_inv
    exact ⟨⟨a0, a1⟩, rfl, ⟨k0, k1⟩⟩
def Line.Ok (x : Line) : Prop := (-9223372036854775808 ≤ x.kind ∧ x.kind ≤ 9223372036854775807) ∧ (-9223372036854775808 ≤ x.sub ∧ x.sub ≤ 9223372036854775807) ∧ (x.name.length ≤ maxLen) ∧ (x.category.length ≤ maxLen) ∧ (-9223372036854775808 ≤ x.count ∧ x.count ≤ 9223372036854775807) ∧ (-9223372036854775808 ≤ x.units ∧ x.units ≤ 9223372036854775807) ∧ (-9223372036854775808 ≤ x.amount ∧ x.amount ≤ 9223372036854775807) ∧ (-9223372036854775808 ≤ x.rounded ∧ x.rounded ≤ 9223372036854775807)
set_option maxRecDepth 100000 in
theorem of_Line {r : List D} (h1 : r.length = 8) (h2 : ∀ (i : Nat) sh d, ([.i .i64, .i .i64, .s, .s, .i .i64, .i .i64, .i .i64, .i .i64] : List Sh)[i]? = some sh → r[i]? = some d → DFits sh d) : ∃ x : Line, r = Line.row x ∧ Line.Ok x := by
  match r, h1 with
  | [d0, d1, d2, d3, d4, d5, d6, d7], _ =>
    obtain ⟨a0, rfl, k0⟩ := (h2 0 _ d0 rfl rfl).i_inv
    obtain ⟨a1, rfl, k1⟩ := (h2 1 _ d1 rfl rfl).i_inv
    obtain ⟨a2, rfl, k2⟩ := (h2 2 _ d2 rfl rfl).s_inv'
    obtain ⟨a3, rfl, k3⟩ := (h2 3 _ d3 rfl rfl).s_inv'
    obtain ⟨a4, rfl, k4⟩ := (h2 4 _ d4 rfl rfl).i_inv
    obtain ⟨a5, rfl, k5⟩ := (h2 5 _ d5 rfl rfl).i_inv
    obtain ⟨a6, rfl, k6⟩ := (h2 6 _ d6 rfl rfl).i_inv
    obtain ⟨a7, rfl, k7⟩ := (h2 7 _ d7 rfl rfl).i_inv
    exact ⟨⟨a0, a1, a2, a3, a4, a5, a6, a7⟩, rfl, ⟨k0, k1, k2, k3, k4, k5, k6, k7⟩⟩
def TaxLine.Ok (x : TaxLine) : Prop := (x.category.length ≤ maxLen) ∧ (-9223372036854775808 ≤ x.points ∧ x.points ≤ 9223372036854775807) ∧ (-9223372036854775808 ≤ x.base ∧ x.base ≤ 9223372036854775807) ∧ (-9223372036854775808 ≤ x.rounded ∧ x.rounded ≤ 9223372036854775807)
set_option maxRecDepth 100000 in
theorem of_TaxLine {r : List D} (h1 : r.length = 4) (h2 : ∀ (i : Nat) sh d, ([.s, .i .i64, .i .i64, .i .i64] : List Sh)[i]? = some sh → r[i]? = some d → DFits sh d) : ∃ x : TaxLine, r = TaxLine.row x ∧ TaxLine.Ok x := by
  match r, h1 with
  | [d0, d1, d2, d3], _ =>
    obtain ⟨a0, rfl, k0⟩ := (h2 0 _ d0 rfl rfl).s_inv'
    obtain ⟨a1, rfl, k1⟩ := (h2 1 _ d1 rfl rfl).i_inv
    obtain ⟨a2, rfl, k2⟩ := (h2 2 _ d2 rfl rfl).i_inv
    obtain ⟨a3, rfl, k3⟩ := (h2 3 _ d3 rfl rfl).i_inv
    exact ⟨⟨a0, a1, a2, a3⟩, rfl, ⟨k0, k1, k2, k3⟩⟩
def Invoice.Ok (x : Invoice) : Prop := (-9223372036854775808 ≤ x.account ∧ x.account ≤ 9223372036854775807) ∧ (Period.Ok x.period) ∧ (x.lines.length ≤ maxLen ∧ ∀ z, z ∈ x.lines → Line.Ok z) ∧ (x.taxes.length ≤ maxLen ∧ ∀ z, z ∈ x.taxes → TaxLine.Ok z) ∧ (-9223372036854775808 ≤ x.net ∧ x.net ≤ 9223372036854775807) ∧ (-9223372036854775808 ≤ x.tax ∧ x.tax ≤ 9223372036854775807) ∧ (-9223372036854775808 ≤ x.total ∧ x.total ≤ 9223372036854775807)
set_option maxRecDepth 100000 in
theorem of_Invoice {r : List D} (h1 : r.length = 8) (h2 : ∀ (i : Nat) sh d, ([.i .i64, .i .i64, .i .i64, .sl [.i .i64, .i .i64, .s, .s, .i .i64, .i .i64, .i .i64, .i .i64], .sl [.s, .i .i64, .i .i64, .i .i64], .i .i64, .i .i64, .i .i64] : List Sh)[i]? = some sh → r[i]? = some d → DFits sh d) : ∃ x : Invoice, r = Invoice.row x ∧ Invoice.Ok x := by
  match r, h1 with
  | [d0, d1, d2, d3, d4, d5, d6, d7], _ =>
    obtain ⟨a0, rfl, k0⟩ := (h2 0 _ d0 rfl rfl).i_inv
    obtain ⟨a1, rfl, k1⟩ := (h2 1 _ d1 rfl rfl).i_inv
    obtain ⟨a2, rfl, k2⟩ := (h2 2 _ d2 rfl rfl).i_inv
    obtain ⟨a3, rfl, k3⟩ := DFits.sl_of (h2 3 _ d3 rfl rfl) (fun r a b => of_Line a b)
    obtain ⟨a4, rfl, k4⟩ := DFits.sl_of (h2 4 _ d4 rfl rfl) (fun r a b => of_TaxLine a b)
    obtain ⟨a5, rfl, k5⟩ := (h2 5 _ d5 rfl rfl).i_inv
    obtain ⟨a6, rfl, k6⟩ := (h2 6 _ d6 rfl rfl).i_inv
    obtain ⟨a7, rfl, k7⟩ := (h2 7 _ d7 rfl rfl).i_inv
    exact ⟨⟨a0, ⟨a1, a2⟩, a3, a4, a5, a6, a7⟩, rfl, ⟨k0, ⟨k1, k2⟩, k3, k4, k5, k6, k7⟩⟩
def Post.Ok (x : Post) : Prop := (x.account.length ≤ maxLen) ∧ (-9223372036854775808 ≤ x.amount ∧ x.amount ≤ 9223372036854775807)
set_option maxRecDepth 100000 in
theorem of_Post {r : List D} (h1 : r.length = 2) (h2 : ∀ (i : Nat) sh d, ([.s, .i .i64] : List Sh)[i]? = some sh → r[i]? = some d → DFits sh d) : ∃ x : Post, r = Post.row x ∧ Post.Ok x := by
  match r, h1 with
  | [d0, d1], _ =>
    obtain ⟨a0, rfl, k0⟩ := (h2 0 _ d0 rfl rfl).s_inv'
    obtain ⟨a1, rfl, k1⟩ := (h2 1 _ d1 rfl rfl).i_inv
    exact ⟨⟨a0, a1⟩, rfl, ⟨k0, k1⟩⟩
def Entry.Ok (x : Entry) : Prop := (-9223372036854775808 ≤ x.at_ ∧ x.at_ ≤ 9223372036854775807) ∧ (x.text.length ≤ maxLen) ∧ (x.posts.length ≤ maxLen ∧ ∀ z, z ∈ x.posts → Post.Ok z)
set_option maxRecDepth 100000 in
theorem of_Entry {r : List D} (h1 : r.length = 3) (h2 : ∀ (i : Nat) sh d, ([.i .i64, .s, .sl [.s, .i .i64]] : List Sh)[i]? = some sh → r[i]? = some d → DFits sh d) : ∃ x : Entry, r = Entry.row x ∧ Entry.Ok x := by
  match r, h1 with
  | [d0, d1, d2], _ =>
    obtain ⟨a0, rfl, k0⟩ := (h2 0 _ d0 rfl rfl).i_inv
    obtain ⟨a1, rfl, k1⟩ := (h2 1 _ d1 rfl rfl).s_inv'
    obtain ⟨a2, rfl, k2⟩ := DFits.sl_of (h2 2 _ d2 rfl rfl) (fun r a b => of_Post a b)
    exact ⟨⟨a0, a1, a2⟩, rfl, ⟨k0, k1, k2⟩⟩
theorem shape69 : Go.Abs.shape Try.prog 6 69 = some ([.sl [.i .i64, .i .i64, .i .i64, .sl [.i .i64, .i .i64, .s, .s, .i .i64, .i .i64, .i .i64, .i .i64], .sl [.s, .i .i64, .i .i64, .i .i64], .i .i64, .i .i64, .i .i64]] : List Sh) := by kernel_rfl
theorem shape70 : Go.Abs.shape Try.prog 6 70 = some ([.sl [.i .i64, .s, .sl [.s, .i .i64]]] : List Sh) := by kernel_rfl
set_option maxRecDepth 100000 in
theorem lifted_AssureBooks (os : Os) (started : os.Started) (H : Type) (enc : TypeId × Value → H) :
    ReturnsInHanded {} Try.checked os 8 .any (Rows.assureBooksSpec.pre6 enc Try.prog Try.f8 Rows.assureBooksRow.domain false) (Rows.assureBooksSpec.post enc Try.prog Try.f8 false true false false) := by
  refine returnsInHanded_of_change (C := Try.checked) own started (by kernel_rfl) Try.func8
    (ChangeSpec.witness6 (enc := enc) (C := Try.checked) false ⟨#[], #[.slice none 0 0, .slice none 0 0], []⟩ 8 (by kernel_rfl) (by kernel_rfl) (by kernel_rfl) (by kernel_rfl)) ?_
  intro W base args ds gs before hval0 hW hcnd _
  have hglob : Globs W.heap.size W := ⟨fun x hx => (by cases hx), fun k hk => (by cases hk)⟩
  have hval : ∀ (j : Nat) t v, Try.f8.params[j]? = some t → args[j]? = some v → Value.okWide Try.prog W .any base t v := hval0
  have hW' := hW
  obtain ⟨p, q, hA0, hV, rfl, hfz, hnd⟩ := hW
  have hA : DataW.TrodAll enc Try.prog W 0 (fun _ => true) true Try.f8.params.toList args.toList ds p := hA0
  have hA1 := hA
  rw [Try.params8] at hA hval
  obtain ⟨v0, vs0, d0, ds0, p0, q0, hargs, rfl, rfl, h0, r0⟩ := trodAll_cons hA
  obtain ⟨v1, vs1, d1, ds1, p1, q1, rfl, rfl, rfl, h1, r1⟩ := trodAll_cons r0
  obtain ⟨rfl, rfl, rfl⟩ := trodAll_nil r1
  obtain rfl : args = #[v0, v1] := by cases args; simp_all
  obtain ⟨rfl, rfl⟩ := trodVars_none hV
  obtain ⟨y0, f0, e0⟩ := top_slice shape69 Try.underlying69 (hval 0 69 v0 rfl rfl) h0
  obtain ⟨x0, rfl, k0⟩ := DFits.sl_of f0 (fun r a b => of_Invoice a b)
  obtain ⟨y1, f1, e1⟩ := top_slice shape70 Try.underlying70 (hval 1 70 v1 rfl rfl) h1
  obtain ⟨x1, rfl, k1⟩ := DFits.sl_of f1 (fun r a b => of_Entry a b)
  clear hA0 hval0
  simp only [List.append_nil] at hW'
  have hlaw := books_true x0 x1
  refine (c_f_billinglaw54_AssureBooks hlaw (limW W) W #[v0, v1] hglob ⟨rfl, fun i x v hx hv => ?_⟩).mono fun e W' ⟨v, r, lim', he, hq, hr, hev, hb, hl⟩ => ?_
  · match i with
    | 0 => simp at hx hv; subst hx; subst hv; exact e0
    | 1 => simp at hx hv; subst hx; subst hv; exact e1
    | n + 2 => simp at hx
  subst he; subst hq; cases hr
  have hA2 : DataW.TrodAll enc Try.prog W 0 (fun _ => true) true [69, 70] [v0, v1] [d0, d1] (p0 ++ p1) := by simpa using hA1
  have hlt : ∀ p ∈ (p0 ++ p1), p.block < W.heap.size := fun p hp => hW'.lt p (by simpa using hp)
  exact ⟨_, rfl, post_of_below (pa := (p0 ++ p1)) (pv := []) hW' (fun _ _ _ => trodAll_mk1 (shut_bool Try.underlying4 true)) (fun sp hsp => trodAll_stays laidOut hb sp (by kernel_rfl) hA2 hlt (fun p hp => hsp p (by simpa using hp))) (fun _ _ => rfl) (by simp)
    hb (ok_one (by kernel_rfl) rfl (okWide_bool_mk Try.underlying4 true))⟩
theorem assureBooks_holds : Rows.AssureBooksSaid :=
  OpenClaim.holds_of_wide 8 Try.f8 rfl rfl rfl rfl rfl rfl rfl ⟨rfl, rfl, rfl, rfl, rfl⟩ rfl rfl rfl rfl rfl (by kernel_rfl) Try.func8 (by kernel_rfl)
    (of_decide_eq_true (by kernel_rfl)) (by unfold Func.isWrapper; first | (rw [if_pos (by decide +kernel)]; kernel_rfl) | (rw [if_neg (by decide +kernel)]; exact ⟨rfl, rfl⟩))
    (fun os started H enc _ => lifted_AssureBooks os started H enc)
end Go.Proofs.Ytpdanklncjopoaa
