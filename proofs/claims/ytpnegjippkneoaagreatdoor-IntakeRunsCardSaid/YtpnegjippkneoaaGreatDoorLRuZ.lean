/- IntakeRuns: after any (at most 12) steps the states are those of the specification, consistent, and the next numbers grow by one with each batch taken; for every input, with no condition. -/
import Derived.Test.YtpnegjippkneoaaGreatDoorYG4
import Derived.Test.YtpnegjippkneoaaGreatDoorCards
import Derived.Test.YtpnegjippkneoaaGreatDoorTie
import Derived.Lay
import Derived.LaidSub
import Derived.LaidLaws
import Derived.Lib.LaidTab
import Derived.ProofKit
import Derived.Handy
set_option linter.unusedSimpArgs false
set_option linter.unusedVariables false
namespace Go.Proofs.YtpnegjippkneoaaGreatDoor
open Go.RowKit Go.ChangeShapes Go.WideShapes Go.ChangeAt Go.Abs
theorem own:ownKnob Tryz.prog.godebug=none:=by kernel_rfl
theorem laidOut:laidOutB Tryz.prog=true:=by kernel_rfl
def laidL:List (String×DataW Unit):=[("math/bits.deBruijn32tab",Rows.laid_math_bits_deBruijn32tab),("math/bits.deBruijn64tab",Rows.laid_math_bits_deBruijn64tab),("internal/strconv.uint64pow10",Rows.laid_internal_strconv_uint64pow10)]
theorem globs_of_laid {W:World} (h:laidMetH Tryz.prog laidL W):Globs W.heap.size W:=by
  rw [MakeChecks.laidMetH_plain _ _ _ (by kernel_rfl)] at h
  have h1:=laidMet.filter (fun x=>x.1 == "internal/strconv.uint64pow10") h
  have h2:laidL.filter (fun x=>x.1 == "internal/strconv.uint64pow10")=[("internal/strconv.uint64pow10",Go.Lib.tabData .u64 Go.Lib.pow10Tab)]:=by kernel_rfl
  rw [h2] at h1
  have hn:Tryz.prog.globalNamed "internal/strconv.uint64pow10" = some 0:=by kernel_rfl
  have h3:=Go.Lib.tabIs_of_head (rest:=[]) hn (t:=189) (by kernel_rfl) Tryz.underlying189 Tryz.underlying142 (by kernel_rfl) (by kernel_rfl) h1
  unfold Go.Lib.TabIs World.var? at h3
  rw [hn] at h3
  simp only [Option.bind_some] at h3
  split at h3
  · rename_i cs ty fr hb
    simp only [Option.some.injEq] at h3
    subst h3
    refine ⟨fun x hx=>?_,fun k hk=>by cases hk⟩
    simp only [GL,List.mem_singleton] at hx
    subst hx
    exact ⟨(Array.getElem?_eq_some_iff.1 hb).1,ty,fr,hb⟩
  · cases h3
def Record.Ok (x:Record):Prop:=(-9223372036854775808≤x.source∧x.source≤9223372036854775807)∧(-9223372036854775808≤x.serial∧x.serial≤9223372036854775807)∧(-9223372036854775808≤x.kind∧x.kind≤9223372036854775807)∧(x.a.length≤maxLen)∧(x.b.length≤maxLen)∧(-9223372036854775808≤x.start∧x.start≤9223372036854775807)∧(-9223372036854775808≤x.units∧x.units≤9223372036854775807)∧(-9223372036854775808≤x.call∧x.call≤9223372036854775807)∧(-9223372036854775808≤x.part∧x.part≤9223372036854775807)∧True∧(-9223372036854775808≤x.trunk∧x.trunk≤9223372036854775807)∧True
set_option maxRecDepth 100000 in
theorem of_Record {r:List D} (h1:r.length=12) (h2:∀ (i:Nat) sh d,([.i .i64,.i .i64,.i .i64,.s,.s,.i .i64,.i .i64,.i .i64,.i .i64,.b,.i .i64,.b]:List Sh)[i]?=some sh→r[i]?=some d→DFits sh d):∃ x:Record,r=Record.row x∧Record.Ok x:=by
  match r,h1 with
  | [d0,d1,d2,d3,d4,d5,d6,d7,d8,d9,d10,d11],_ =>
    obtain ⟨a0,rfl,k0⟩:=(h2 0 _ d0 rfl rfl).i_inv
    obtain ⟨a1,rfl,k1⟩:=(h2 1 _ d1 rfl rfl).i_inv
    obtain ⟨a2,rfl,k2⟩:=(h2 2 _ d2 rfl rfl).i_inv
    obtain ⟨a3,rfl,k3⟩:=(h2 3 _ d3 rfl rfl).s_inv'
    obtain ⟨a4,rfl,k4⟩:=(h2 4 _ d4 rfl rfl).s_inv'
    obtain ⟨a5,rfl,k5⟩:=(h2 5 _ d5 rfl rfl).i_inv
    obtain ⟨a6,rfl,k6⟩:=(h2 6 _ d6 rfl rfl).i_inv
    obtain ⟨a7,rfl,k7⟩:=(h2 7 _ d7 rfl rfl).i_inv
    obtain ⟨a8,rfl,k8⟩:=(h2 8 _ d8 rfl rfl).i_inv
    obtain ⟨a9,rfl⟩:=(h2 9 _ d9 rfl rfl).b_inv
    obtain ⟨a10,rfl,k10⟩:=(h2 10 _ d10 rfl rfl).i_inv
    obtain ⟨a11,rfl⟩:=(h2 11 _ d11 rfl rfl).b_inv
    exact ⟨⟨a0,a1,a2,a3,a4,a5,a6,a7,a8,a9,a10,a11⟩,rfl,⟨k0,k1,k2,k3,k4,k5,k6,k7,k8,trivial,k10,trivial⟩⟩
def Batch.Ok (x:Batch):Prop:=(-9223372036854775808≤x.source∧x.source≤9223372036854775807)∧(-9223372036854775808≤x.number∧x.number≤9223372036854775807)∧(-9223372036854775808≤x.format∧x.format≤9223372036854775807)∧(x.records.length≤maxLen∧∀ z,z∈x.records→Record.Ok z)
set_option maxRecDepth 100000 in
theorem of_Batch {r:List D} (h1:r.length=4) (h2:∀ (i:Nat) sh d,([.i .i64,.i .i64,.i .i64,.sl [.i .i64,.i .i64,.i .i64,.s,.s,.i .i64,.i .i64,.i .i64,.i .i64,.b,.i .i64,.b]]:List Sh)[i]?=some sh→r[i]?=some d→DFits sh d):∃ x:Batch,r=Batch.row x∧Batch.Ok x:=by
  match r,h1 with
  | [d0,d1,d2,d3],_ =>
    obtain ⟨a0,rfl,k0⟩:=(h2 0 _ d0 rfl rfl).i_inv
    obtain ⟨a1,rfl,k1⟩:=(h2 1 _ d1 rfl rfl).i_inv
    obtain ⟨a2,rfl,k2⟩:=(h2 2 _ d2 rfl rfl).i_inv
    obtain ⟨a3,rfl,k3⟩:=DFits.sl_of (h2 3 _ d3 rfl rfl) (fun r a b=>of_Record a b)
    exact ⟨⟨a0,a1,a2,a3⟩,rfl,⟨k0,k1,k2,k3⟩⟩
def Window.Ok (x:Window):Prop:=(-9223372036854775808≤x.earliest∧x.earliest≤9223372036854775807)∧(-9223372036854775808≤x.latest∧x.latest≤9223372036854775807)
set_option maxRecDepth 100000 in
theorem of_Window {r:List D} (h1:r.length=2) (h2:∀ (i:Nat) sh d,([.i .i64,.i .i64]:List Sh)[i]?=some sh→r[i]?=some d→DFits sh d):∃ x:Window,r=Window.row x∧Window.Ok x:=by
  match r,h1 with
  | [d0,d1],_ =>
    obtain ⟨a0,rfl,k0⟩:=(h2 0 _ d0 rfl rfl).i_inv
    obtain ⟨a1,rfl,k1⟩:=(h2 1 _ d1 rfl rfl).i_inv
    exact ⟨⟨a0,a1⟩,rfl,⟨k0,k1⟩⟩
def Billinglaw16Step.Ok (x:Billinglaw16Step):Prop:=(Batch.Ok x.batch)∧(Window.Ok x.window)∧True∧(-9223372036854775808≤x.before∧x.before≤9223372036854775807)
set_option maxRecDepth 100000 in
theorem of_Billinglaw16Step {r:List D} (h1:r.length=8) (h2:∀ (i:Nat) sh d,([.i .i64,.i .i64,.i .i64,.sl [.i .i64,.i .i64,.i .i64,.s,.s,.i .i64,.i .i64,.i .i64,.i .i64,.b,.i .i64,.b],.i .i64,.i .i64,.b,.i .i64]:List Sh)[i]?=some sh→r[i]?=some d→DFits sh d):∃ x:Billinglaw16Step,r=Billinglaw16Step.row x∧Billinglaw16Step.Ok x:=by
  match r,h1 with
  | [d0,d1,d2,d3,d4,d5,d6,d7],_ =>
    obtain ⟨a0,rfl,k0⟩:=(h2 0 _ d0 rfl rfl).i_inv
    obtain ⟨a1,rfl,k1⟩:=(h2 1 _ d1 rfl rfl).i_inv
    obtain ⟨a2,rfl,k2⟩:=(h2 2 _ d2 rfl rfl).i_inv
    obtain ⟨a3,rfl,k3⟩:=DFits.sl_of (h2 3 _ d3 rfl rfl) (fun r a b=>of_Record a b)
    obtain ⟨a4,rfl,k4⟩:=(h2 4 _ d4 rfl rfl).i_inv
    obtain ⟨a5,rfl,k5⟩:=(h2 5 _ d5 rfl rfl).i_inv
    obtain ⟨a6,rfl⟩:=(h2 6 _ d6 rfl rfl).b_inv
    obtain ⟨a7,rfl,k7⟩:=(h2 7 _ d7 rfl rfl).i_inv
    exact ⟨⟨⟨a0,a1,a2,a3⟩,⟨a4,a5⟩,a6,a7⟩,rfl,⟨⟨k0,k1,k2,k3⟩,⟨k4,k5⟩,trivial,k7⟩⟩
theorem shape55:Go.Abs.shape Tryz.prog 7 55=some ([.sl [.i .i64,.i .i64,.i .i64,.sl [.i .i64,.i .i64,.i .i64,.s,.s,.i .i64,.i .i64,.i .i64,.i .i64,.b,.i .i64,.b],.i .i64,.i .i64,.b,.i .i64]]:List Sh):=by kernel_rfl
set_option maxRecDepth 100000 in
theorem lifted_IntakeRuns (os:Os) (started:os.Started) (H:Type) (enc:TypeId×Value→H) :
    ReturnsInHanded {} Tryz.checked os 8 .any (fun w args=>(Rows.intakeRunsSpec.pre enc Tryz.prog Tryz.f8 [] false w args∧laidMetH Tryz.prog Rows.intakeRunsRow.laid w)∧sizedMet enc Tryz.prog Tryz.f8 (OpenSpec.ofChange Rows.intakeRunsSpec) false w args) (Rows.intakeRunsSpec.post enc Tryz.prog Tryz.f8 false true false false):=by
  refine returnsInHanded_of_change_and (C:=Tryz.checked) (X:=fun w _=>laidMetH Tryz.prog Rows.intakeRunsRow.laid w) (fun _ _ _ hh h=>h.of_heap hh) own started (by kernel_rfl) Tryz.func8
    (ChangeSpec.witness_shaped (enc:=enc) (C:=Tryz.checked) (os:=os) (X:=fun w _=>laidMetH Tryz.prog Rows.intakeRunsRow.laid w) false (World.laidAll Tryz.prog os Rows.intakeRunsRow.laid) #[.slice none 0 0] 8 (World.laidAll_os _ _ _)
      (World.shaped_of_ZipB (by kernel_rfl) (by kernel_rfl)) (by kernel_rfl) (by kernel_rfl) (by kernel_rfl)
      (by rw [MakeChecks.laidMetH_plain _ _ _ (by kernel_rfl)]; exact laidMet_laidAll _ (by kernel_rfl) (by kernel_rfl))) ?_
  intro W base args ds gs before hval0 hW hcnd _ hLaid _
  have hglob:=globs_of_laid (show laidMetH Tryz.prog laidL W from hLaid)
  have hval:∀ (j:Nat) t v,Tryz.f8.params[j]?=some t→args[j]?=some v→Value.okWide Tryz.prog W .any base t v:=hval0
  have hW':=hW
  obtain ⟨p,q,hA0,hV,rfl,hfz,hnd⟩:=hW
  have hA:DataW.TrodAll enc Tryz.prog W 0 (fun _=>true) true Tryz.f8.params.toList args.toList ds p:=hA0
  have hA1:=hA
  rw [Tryz.params8] at hA hval
  obtain ⟨v0,vs0,d0,ds0,p0,q0,hargs,rfl,rfl,h0,r0⟩:=trodAll_cons hA
  obtain ⟨rfl,rfl,rfl⟩:=trodAll_nil r0
  obtain rfl:args=#[v0]:=by cases args; simp_all
  obtain ⟨rfl,rfl⟩:=trodVars_none hV
  obtain ⟨y0,f0,e0⟩:=top_slice shape55 Tryz.underlying55 (hval 0 55 v0 rfl rfl) h0
  obtain ⟨x0,rfl,k0⟩:=DFits.sl_of f0 (fun r a b=>of_Billinglaw16Step a b)
  clear hA0 hval0
  simp only [List.append_nil] at hW'
  have hlaw:=runs_true x0
  refine (c_f_w16_IntakeRuns hlaw (limW W) W #[v0] hglob ⟨rfl,fun i x v hx hv=>?_⟩).mono fun e W' ⟨v,r,lim',he,hq,hr,hev,hb,hl⟩=>?_
  · match i with
    | 0=>simp at hx hv; subst hx; subst hv; exact e0
    | n+1=>simp at hx
  subst he; subst hq; cases hr
  have hA2:DataW.TrodAll enc Tryz.prog W 0 (fun _=>true) true [55] [v0] [d0] (p0):=by simpa using hA1
  have hlt:∀ p∈(p0),p.block < W.heap.size:=fun p hp=>hW'.lt p (by simpa using hp)
  exact ⟨_,rfl,post_of_below (pa:=(p0)) (pv:=[]) hW' (fun _ _ _=>trodAll_mk1 (shut_bool Tryz.underlying4 true)) (fun sp hsp=>trodAll_stays laidOut hb sp (by kernel_rfl) hA2 hlt (fun p hp=>hsp p (by simpa using hp))) (fun _ _=>rfl) (by simp)
    hb (ok_one (by kernel_rfl) rfl (okWide_bool_mk Tryz.underlying4 true))⟩
theorem intakeRuns_holds:Rows.IntakeRunsSaid :=
  OpenClaim.holds_of_wide 8 Tryz.f8 rfl rfl rfl rfl rfl rfl rfl ⟨rfl,rfl,rfl,rfl,rfl⟩ rfl rfl rfl rfl rfl (by kernel_rfl) Tryz.func8 (by kernel_rfl)
    (of_decide_eq_true (by kernel_rfl)) (by unfold Func.isWrapper; first | (rw [if_pos (by decide +kernel)]; kernel_rfl) | (rw [if_neg (by decide +kernel)]; exact ⟨rfl,rfl⟩))
    (fun os started H enc _=>lifted_IntakeRuns os started H enc)
theorem intakeRuns_card:Rows.IntakeRunsCardSaid :=
  Claim7.holds_tied_plain_at .later [] [.data,.data,.data] true (true, "d632b53567770e4af808dd7890639a8240c230276b765301b7e07b711be97218") false intakeRuns_holds (fun _ h=>by cases h) (by kernel_rfl) (fun _ h=>by cases h) intakeRuns_row_tie rfl ⟨rfl,rfl⟩ (by kernel_rfl) rfl
    (fun f fn hf hfn=>by
      obtain rfl:f=8:=Option.some.inj ((show Tryz.prog.funcNamed "billing/billinglaw16.IntakeRuns" = some 8 by kernel_rfl).symm.trans hf) |>.symm
      obtain rfl:fn=Tryz.f8:=(Option.some.inj (Tryz.func8.symm.trans hfn)).symm
      exact ⟨by kernel_rfl,fun j t ht=>by
        rw [Tryz.params8] at ht
        have hm:t∈[55]:=by simpa using Array.mem_of_getElem? ht
        have hall:([55].all fun u=>!Tryz.prog.wantsStandIn u)=true:=by kernel_rfl
        exact (show Tryz.prog.wantsStandIn t=false by simpa using List.all_eq_true.1 hall t hm)⟩)
    (by kernel_rfl)
end Go.Proofs.YtpnegjippkneoaaGreatDoor
