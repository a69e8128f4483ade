import Derived.Test.YtpdanklncjopoabW8
set_option linter.unusedSimpArgs false
set_option linter.unusedVariables false
namespace Go.Proofs.Ytpdanklncjopoab
open Go.RowKit Go.Abs

def u3 : Usage := { (default : Usage) with id := 3 }
def r2 : Rated := { (default : Rated) with usage := { (default : Usage) with sub := 2 }, owed := 700 }
def l2 : Line := { (default : Line) with kind := 3, sub := 2, amount := 500 }
def m0 : Med := ⟨[], [], [], [], [], []⟩
abbrev nilD : D := .ex (.slice none 0 0)
theorem a_Usages : ACall Try.prog 10 [slOf 12 Usage.row [u3], nilD] (· = slOf 4 Leak.row [⟨2, 3, 1, 0⟩]) := (c_Usages [u3] [] (by decide) (by decide)).le ⟨.rfl' _, .nil 24, trivial⟩
def r2D : List D := [cI 0, cI 0, cI 0, cI 2, cS [], cS [], cI 0, cI 0, cI 0, cB false, cI 0, cI 0, cI 0, cS [], cI 0, cS [], nilD, nilD, cI 0, cI 0, cI 0, nilD, cI 0, cI 700]
theorem r2_le : DLes r2D r2.row := ⟨.rfl' _, .rfl' _, .rfl' _, .rfl' _, .rfl' _, .rfl' _, .rfl' _, .rfl' _, .rfl' _, .rfl' _, .rfl' _, .rfl' _, .rfl' _, .rfl' _, .rfl' _, .rfl' _, .nil 5, .nil 4, .rfl' _, .rfl' _, .rfl' _, .nil 2, .rfl' _, .rfl' _, trivial⟩
theorem a_Invoices : ACall Try.prog 11 [.sl 24 [r2D], slOf 8 Line.row [l2]] (· = slOf 4 Leak.row [⟨5, 2, 700, 500⟩]) := ((c_Invoices [r2] [l2] (by decide) (by decide)).mono fun x h => h.trans (by rfl)).le ⟨.sl ⟨r2_le, trivial⟩, .rfl' _, trivial⟩
theorem a_Intake (n : Int) : ACall Try.prog 13 [.agg [nilD, nilD, nilD, nilD, nilD, nilD], cI n] (· = slOf 4 Leak.row (intakeF m0 n)) :=
  (c_Intake m0 n (by decide) (by decide)).le ⟨.agg ⟨.nil _, .nil _, .nil _, .nil _, .nil _, .nil _, trivial⟩, .rfl' _, trivial⟩
theorem ok1 {x : Leak} (h : x.ok) : ∀ k, k < [x].length → (nth [x] k).ok := fun k hk => by
  have : k = 0 := by simp at hk; omega
  subst this; exact h
theorem a_Text5 : ACall Try.prog 12 [slOf 4 Leak.row [⟨5, 2, 700, 500⟩]] (· = cS (textF [⟨5, 2, 700, 500⟩])) := c_Text _ (by decide) (ok1 ⟨⟨by decide, by decide⟩, ⟨by decide, by decide⟩, by decide, by decide⟩)
theorem a_Text2 : ACall Try.prog 12 [slOf 4 Leak.row [⟨2, 3, 1, 0⟩]] (· = cS (textF [⟨2, 3, 1, 0⟩])) := c_Text _ (by decide) (ok1 ⟨⟨by decide, by decide⟩, ⟨by decide, by decide⟩, by decide, by decide⟩)

set_option maxRecDepth 100000 in
set_option maxHeartbeats 400000 in
theorem c_awake  : ACall Try.prog 5 [] (· = cB true) := by
  refine ACall.enter' Try.func5 rfl Try.ntmps5 rfl fun S hS => ?_
  obtain ⟨i30, hi30, hz30, hs30, hb30⟩ := in_30
  obtain ⟨i36, hi36, hz36, hs36, hb36⟩ := in_36
  obtain ⟨i48, hi48, hz48, hs48, hb48⟩ := in_48
  obtain ⟨i51, hi51, hz51, hs51, hb51⟩ := in_51
  obtain ⟨i61, hi61, hz61, hs61, hb61⟩ := in_61
  refine .seq ?_
  refine .region ?_
  refine .q (q_assign rfl) rfl ?_
  refine .nil ?_
  refine .seq ?_
  refine .region ?_
  refine .q (q_buildP pl_30 hi30 hz30 rfl rfl) rfl ?_
  refine .g (g_buildSlice1 Try.underlying45 hi30 hs30 hz30 rfl rfl rfl rfl rfl) rfl ?_
  refine .g (g_call en_10 rfl rfl (a_Usages)) rfl ?_
  refine .q (q_assign rfl) rfl ?_
  refine .nil ?_
  refine .seq ?_
  refine .region ?_
  refine .q (q_buildP pl_30 hi30 hz30 rfl rfl) rfl ?_
  refine .q (q_buildP pl_36 hi36 hz36 rfl rfl) rfl ?_
  refine .g (g_buildSlice1 Try.underlying22 hi36 hs36 hz36 rfl rfl rfl rfl rfl) rfl ?_
  refine .q (q_buildP pl_48 hi48 hz48 rfl rfl) rfl ?_
  refine .g (g_buildSlice1 Try.underlying49 hi48 hs48 hz48 rfl rfl rfl rfl rfl) rfl ?_
  refine .g (g_call en_11 rfl rfl (a_Invoices)) rfl ?_
  refine .q (q_assign rfl) rfl ?_
  refine .nil ?_
  refine .seq ?_
  refine .region ?_
  refine .q (q_move rfl) rfl ?_
  refine .q (q_buildP pl_51 hi51 hz51 rfl rfl) rfl ?_
  refine .g (g_buildSlice1 Try.underlying26 hi51 hs51 hz51 rfl rfl rfl rfl rfl) rfl ?_
  refine .g (g_call en_6 rfl rfl (c_Same [⟨2, 3, 1, 0⟩] [⟨2, 3, 1, 0⟩] (by decide) (by decide))) rfl ?_
  refine .q (q_move rfl) rfl ?_
  refine .guardG (env' := [(2, _)]) rfl rfl rfl ⟨.inl rfl, trivial⟩ rfl (fun _ => (q_move rfl).g) ?_
  refine .guardG (env' := [(17, _)]) rfl rfl rfl ⟨.inr (.inl rfl), trivial⟩ rfl (fun _ => (g_call en_12 rfl rfl (a_Text5))) ?_
  refine .guardG (env' := [(18, _)]) rfl rfl rfl ⟨.inr (.inl rfl), trivial⟩ rfl (fun _ => (q_seql rfl rfl).g) ?_
  refine .q (q_pickAnd rfl rfl rfl) rfl ?_
  refine .q (q_move rfl) rfl ?_
  refine .guardG (env' := [(1, _)]) rfl rfl rfl ⟨.inl rfl, trivial⟩ rfl (fun _ => (q_move rfl).g) ?_
  refine .guardG (env' := [(22, _)]) rfl rfl rfl ⟨.inr (.inl rfl), trivial⟩ rfl (fun _ => (g_call en_12 rfl rfl (a_Text2))) ?_
  refine .guardG (env' := [(23, _)]) rfl rfl rfl ⟨.inr (.inl rfl), trivial⟩ rfl (fun _ => (q_seql rfl rfl).g) ?_
  refine .q (q_pickAnd rfl rfl rfl) rfl ?_
  refine .q (q_move rfl) rfl ?_
  refine .guardG (env' := []) rfl rfl rfl trivial rfl (fun _ => (q_buildP pl_61 hi61 hz61 rfl rfl).g) ?_
  refine .guardG (env' := [(27, _)]) rfl rfl rfl ⟨.inr (.inl rfl), trivial⟩ rfl (fun _ => (g_call en_13 rfl rfl (a_Intake 0))) ?_
  refine .guardG (env' := [(28, _)]) rfl rfl rfl ⟨.inr (.inl rfl), trivial⟩ rfl (fun _ => (q_lenA Try.underlying26 rfl rfl).g) ?_
  refine .guardG (env' := [(29, _)]) rfl rfl rfl ⟨.inr (.inl rfl), trivial⟩ rfl (fun _ => (q_eql rfl rfl).g) ?_
  refine .q (q_pickAnd rfl rfl rfl) rfl ?_
  refine .q (q_move rfl) rfl ?_
  refine .guardG (env' := []) rfl rfl rfl trivial rfl (fun _ => (q_buildP pl_61 hi61 hz61 rfl rfl).g) ?_
  refine .guardG (env' := [(33, _)]) rfl rfl rfl ⟨.inr (.inl rfl), trivial⟩ rfl (fun _ => (g_call en_13 rfl rfl (a_Intake 1))) ?_
  refine .guardG (env' := [(34, _)]) rfl rfl rfl ⟨.inr (.inl rfl), trivial⟩ rfl (fun _ => (q_lenA Try.underlying26 rfl rfl).g) ?_
  refine .guardG (env' := [(35, _)]) rfl rfl rfl ⟨.inr (.inl rfl), trivial⟩ rfl (fun _ => (q_eql rfl rfl).g) ?_
  refine .q (q_pickAnd rfl rfl rfl) rfl ?_
  refine .q (q_assign rfl) rfl ?_
  refine .nil ?_
  refine .ret1 Try.func5 Try.results5 rfl ?_
  exact .d (by rfl)

end Go.Proofs.Ytpdanklncjopoab
