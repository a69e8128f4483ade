/- TopOnce: every record of any batches is in exactly one place, and a batch is not fed twice; for every input, with no condition. -/
import Derived.Test.YtleflofddacmdaaGreatDoorYD5
import Derived.Test.YtleflofddacmdaaGreatDoorLS
set_option linter.all false
namespace Go.Proofs.YtleflofddacmdaaGreatDoor
open Go.RowKit Go.ChangeShapes Go.WideShapes Go.ChangeAt Go.Abs
def Event.Ok (x : Event) : Prop := (-9223372036854775808 ≤ x.at_ ∧ x.at_ ≤ 9223372036854775807) ∧ (-9223372036854775808 ≤ x.kind ∧ x.kind ≤ 9223372036854775807) ∧ (-9223372036854775808 ≤ x.ah ∧ x.ah ≤ 9223372036854775807) ∧ (-9223372036854775808 ≤ x.sub ∧ x.sub ≤ 9223372036854775807) ∧ (x.number.length ≤ maxLen) ∧ (x.name.length ≤ maxLen) ∧ (-9223372036854775808 ≤ x.value ∧ x.value ≤ 9223372036854775807)
set_option maxRecDepth 100000 in
theorem of_Event {r : List D} (h1 : r.length = 7) (h2 : ∀ (i : Nat) sh d, ([.i .i64, .i .i64, .i .i64, .i .i64, .s, .s, .i .i64] : List Sh)[i]? = some sh → r[i]? = some d → ka sh d) : ∃ x : Event, r = Event.row x ∧ Event.Ok x := by
  match r, h1 with
  | [d0, d1, d2, d3, d4, d5, d6], _ =>
    obtain ⟨a0, rfl, k0⟩ := (h2 0 _ d0 rfl rfl).i_inv
    obtain ⟨a1, rfl, k1⟩ := (h2 1 _ d1 rfl rfl).i_inv
    obtain ⟨a2, rfl, k2⟩ := (h2 2 _ d2 rfl rfl).i_inv
    obtain ⟨a3, rfl, k3⟩ := (h2 3 _ d3 rfl rfl).i_inv
    obtain ⟨a4, rfl, k4⟩ := (h2 4 _ d4 rfl rfl).s_inv'
    obtain ⟨a5, rfl, k5⟩ := (h2 5 _ d5 rfl rfl).s_inv'
    obtain ⟨a6, rfl, k6⟩ := (h2 6 _ d6 rfl rfl).i_inv
    exact ⟨⟨a0, a1, a2, a3, a4, a5, a6⟩, rfl, ⟨k0, k1, k2, k3, k4, k5, k6⟩⟩
theorem ofSl8 (r : List D) (h1 : r.length = 1) (h2 : ∀ (i : Nat) sh d, ([.sl [.i .u8]] : List Sh)[i]? = some sh → r[i]? = some d → ka sh d) : ∃ x : List UInt8, r = rSl 1 eW x ∧ x.length ≤ maxLen := by
  match r, h1 with
  | [d], _ =>
    obtain ⟨l, e, k⟩ := ka.sl_of (row := eW) (p := fun _ => True) (h2 0 _ d rfl rfl) ofB8
    subst e
    exact ⟨l, rfl, k.1⟩
theorem shape22 : Go.Abs.shape Tryz.prog 4 22 = some ([.sl [.i .i64, .i .i64, .i .i64, .i .i64, .s, .s, .i .i64]] : List Sh) := by kernel_rfl
theorem shape23 : Go.Abs.shape Tryz.prog 4 23 = some ([.sl [.sl [.i .u8]]] : List Sh) := by kernel_rfl
set_option maxRecDepth 100000 in
theorem lifted_TopOnce (os : Os) (started : os.Started) (H : Type) (enc : TypeId × Value → H) :
    ReturnsInHanded {} Tryz.checked os 3 .any (fun w args => (Rows.topOnceSpec.pre enc Tryz.prog Tryz.f3 [] false w args ∧ laidMetH Tryz.prog Rows.topOnceRow.laid w) ∧ sizedMet enc Tryz.prog Tryz.f3 (OpenSpec.ofChange Rows.topOnceSpec) false w args) (Rows.topOnceSpec.post enc Tryz.prog Tryz.f3 false true false false) := by
  refine returnsInHanded_and_shaped (C := Tryz.checked) (X := fun w _ => laidMetH Tryz.prog Rows.topOnceRow.laid w) (fun _ _ _ hh h => h.of_heap hh) own started (by kernel_rfl) Tryz.func3
    (ChangeSpec.witness_shaped (enc := enc) (C := Tryz.checked) (os := os) (X := fun w _ => laidMetH Tryz.prog Rows.topOnceRow.laid w) false (World.laidAll Tryz.prog os Rows.topOnceRow.laid) #[.slice none 0 0, .slice none 0 0] 8 (World.laidAll_os _ _ _)
      (World.shaped_of_ZipB (z1 os) (z2 os)) (by kernel_rfl) (by kernel_rfl) (by kernel_rfl)
      (by rw [MakeChecks.laidMetH_plain _ _ _ (by kernel_rfl)]; exact laidMet_laidAll _ (z6w os) (z7 os))) ?_
  intro W base args ds gs before hval0 hW hcnd _ hLaid hShape _
  have hglob := globs_of_laid (show laidMetH Tryz.prog laidL W from hLaid) hShape
  have hval : ∀ (j : Nat) t v, Tryz.f3.params[j]? = some t → args[j]? = some v → Value.okWide Tryz.prog W .any base t v := hval0
  have hW' := hW
  obtain ⟨p, q, hA0, hV, rfl, hfz, hnd⟩ := hW
  have hA : DataW.TrodAll enc Tryz.prog W 0 (fun _ => true) true Tryz.f3.params.toList args.toList ds p := hA0
  have hA1 := hA
  rw [Tryz.params3] at hA hval
  obtain ⟨v0, vs0, d0, ds0, p0, q0, Xk, rfl, rfl, h0, r0⟩ := trodAll_cons hA
  obtain ⟨v1, vs1, d1, ds1, p1, q1, rfl, rfl, rfl, h1, r1⟩ := trodAll_cons r0
  obtain ⟨rfl, rfl, rfl⟩ := trodAll_nil r1
  obtain rfl : args = #[v0, v1] := by cases args; simp_all
  obtain ⟨rfl, rfl⟩ := trodVars_none hV
  obtain ⟨y0, f0, e0⟩ := top_slice shape22 Tryz.underlying22 (hval 0 22 v0 rfl rfl) h0
  obtain ⟨x0, rfl, k0⟩ := ka.sl_of f0 (fun r a b => of_Event a b)
  obtain ⟨y1, f1, e1⟩ := top_slice shape23 Tryz.underlying23 (hval 1 23 v1 rfl rfl) h1
  obtain ⟨x1, rfl, k1⟩ := ka.sl_of (row := rSl 1 eW) (p := fun z => z.length ≤ maxLen) f1 ofSl8
  clear hA0 hval0
  simp only [List.append_nil] at hW'
  have hlaw := V2 x0 x1 k0.1 k1.1 (fun e he => ⟨(k0.2 e he).2.2.2.2.2.1, (k0.2 e he).2.2.2.2.1⟩)
  refine (wD hlaw (limW W) W #[v0, v1] hglob ⟨rfl, fun i x v hx hv => ?_⟩).mono fun e W' ⟨v, r, cw, he, hq, hr, Ju, hb, hl⟩ => ?_
  · match i with
    | 0 => simp at hx hv; subst hx; subst hv; exact e0
    | 1 => simp at hx hv; subst hx; subst hv; exact e1
    | n + 2 => simp at hx
  subst he; subst hq; cases hr
  have hA2 : DataW.TrodAll enc Tryz.prog W 0 (fun _ => true) true [22, 23] [v0, v1] [d0, d1] (p0 ++ p1) := by simpa using hA1
  have bS : ∀ p ∈ (p0 ++ p1), p.block < W.heap.size := fun p hp => hW'.lt p (by simpa using hp)
  exact ⟨_, rfl, post_of_below (pa := (p0 ++ p1)) (pv := []) hW' (fun _ _ _ => trodAll_mk1 (shut_bool Tryz.underlying4 true)) (fun sp hsp => trodAll_stays laidOut hb sp (by kernel_rfl) hA2 bS (fun p hp => hsp p (by simpa using hp))) (fun _ _ => rfl) (by simp)
    hb (ok_one (by kernel_rfl) rfl (okWide_bool_mk Tryz.underlying4 true))⟩
theorem topOnce_holds : Rows.TopOnceSaid :=
  OpenClaim.holds_of_wide 3 Tryz.f3 rfl rfl rfl rfl rfl rfl rfl ⟨rfl, rfl, rfl, rfl, rfl⟩ rfl rfl rfl rfl rfl fname Tryz.func3 joined
    (of_decide_eq_true (by kernel_rfl)) (by unfold Func.isWrapper; first | (rw [if_pos (by decide +kernel)]; kernel_rfl) | (rw [if_neg (by decide +kernel)]; exact ⟨rfl, rfl⟩))
    (fun os started H enc _ => lifted_TopOnce os started H enc)
theorem topOnce_card : Rows.TopOnceCardSaid :=
  Claim7.holds_tied_plain_at .later [] [.pinned, .data, .sentinel, .sentinel, .data, .data, .data, .data] true (true, "eea57e2cda364cd95651d56999c81e7ed0587d6c56fb8d6fb248d2315105d4cd") true topOnce_holds (fun _ h => by cases h) (by kernel_rfl) (fun _ h => by cases h) topOnce_row_tie rfl ⟨rfl, rfl⟩ (by kernel_rfl) rfl
    (fun f fn hf hfn => by
      obtain rfl : f = 3 := Option.some.inj (fname.symm.trans hf) |>.symm
      obtain rfl : fn = Tryz.f3 := (Option.some.inj (Tryz.func3.symm.trans hfn)).symm
      exact ⟨by kernel_rfl, fun j t ht => by
        rw [Tryz.params3] at ht
        have hm : t ∈ [22, 23] := by simpa using Array.mem_of_getElem? ht
        have jb : ([22, 23].all fun u => !Tryz.prog.wantsStandIn u) = true := by kernel_rfl
        exact (show Tryz.prog.wantsStandIn t = false by simpa using List.all_eq_true.1 jb t hm)⟩)
    goes_is
end Go.Proofs.YtleflofddacmdaaGreatDoor
