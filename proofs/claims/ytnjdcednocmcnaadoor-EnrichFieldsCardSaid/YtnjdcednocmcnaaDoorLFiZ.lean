/- EnrichFields: the fields of a usage are as the specification says; for every input, with no condition. -/
import Derived.Test.YtnjdcednocmcnaaDoorYF3
import Derived.Test.YtnjdcednocmcnaaDoorCards
import Derived.Test.YtnjdcednocmcnaaDoorTie
import Derived.Lay
import Derived.LaidSub
import Derived.LaidLaws
import Derived.Lib.LaidTab
import Derived.ProofKit
import Derived.Handy
set_option linter.unusedSimpArgs false
set_option linter.unusedVariables false
namespace Go.Proofs.YtnjdcednocmcnaaDoor
open Go.RowKit Go.ChangeShapes Go.WideShapes Go.ChangeAt Go.Abs
theorem own:ownKnob Tryd.prog.godebug=none:=by kernel_rfl
theorem laidOut:laidOutB Tryd.prog=true:=by kernel_rfl
def laidL:List (String×DataW Unit):=[("math/bits.deBruijn32tab",Rows.laid_math_bits_deBruijn32tab),("math/bits.deBruijn64tab",Rows.laid_math_bits_deBruijn64tab),("internal/strconv.uint64pow10",Rows.laid_internal_strconv_uint64pow10)]
theorem globs_of_laid {W:World} (h:laidMetH Tryd.prog laidL W):Globs W.heap.size W:=by
  rw [MakeChecks.laidMetH_plain _ _ _ (by kernel_rfl)] at h
  have h1:=laidMet.filter (fun x=>x.1 == "internal/strconv.uint64pow10") h
  have h2:laidL.filter (fun x=>x.1 == "internal/strconv.uint64pow10")=[("internal/strconv.uint64pow10",Go.Lib.tabData .u64 Go.Lib.pow10Tab)]:=by kernel_rfl
  rw [h2] at h1
  have hn:Tryd.prog.globalNamed "internal/strconv.uint64pow10" = some 0:=by kernel_rfl
  have h3:=Go.Lib.tabIs_of_head (rest:=[]) hn (t:=131) (by kernel_rfl) Tryd.underlying131 Tryd.underlying121 (by kernel_rfl) (by kernel_rfl) h1
  unfold Go.Lib.TabIs World.var? at h3
  rw [hn] at h3
  simp only [Option.bind_some] at h3
  split at h3
  · rename_i cs ty fr hb
    simp only [Option.some.injEq] at h3
    subst h3
    refine ⟨fun x hx=>?_,fun k hk=>by cases hk⟩
    simp only [GL,List.mem_singleton] at hx
    subst hx
    exact ⟨(Array.getElem?_eq_some_iff.1 hb).1,ty,fr,hb⟩
  · cases h3
def Event.Ok (x:Event):Prop:=(-9223372036854775808≤x.at_∧x.at_≤9223372036854775807)∧(-9223372036854775808≤x.kind∧x.kind≤9223372036854775807)∧(-9223372036854775808≤x.account∧x.account≤9223372036854775807)∧(-9223372036854775808≤x.sub∧x.sub≤9223372036854775807)∧(x.number.length≤maxLen)∧(x.name.length≤maxLen)∧(-9223372036854775808≤x.value∧x.value≤9223372036854775807)
set_option maxRecDepth 100000 in
theorem of_Event {r:List D} (h1:r.length=7) (h2:∀ (i:Nat) sh d,([.i .i64,.i .i64,.i .i64,.i .i64,.s,.s,.i .i64]:List Sh)[i]?=some sh→r[i]?=some d→DFits sh d):∃ x:Event,r=Event.row x∧Event.Ok x:=by
  match r,h1 with
  | [d0,d1,d2,d3,d4,d5,d6],_ =>
    obtain ⟨a0,rfl,k0⟩:=(h2 0 _ d0 rfl rfl).i_inv
    obtain ⟨a1,rfl,k1⟩:=(h2 1 _ d1 rfl rfl).i_inv
    obtain ⟨a2,rfl,k2⟩:=(h2 2 _ d2 rfl rfl).i_inv
    obtain ⟨a3,rfl,k3⟩:=(h2 3 _ d3 rfl rfl).i_inv
    obtain ⟨a4,rfl,k4⟩:=(h2 4 _ d4 rfl rfl).s_inv'
    obtain ⟨a5,rfl,k5⟩:=(h2 5 _ d5 rfl rfl).s_inv'
    obtain ⟨a6,rfl,k6⟩:=(h2 6 _ d6 rfl rfl).i_inv
    exact ⟨⟨a0,a1,a2,a3,a4,a5,a6⟩,rfl,⟨k0,k1,k2,k3,k4,k5,k6⟩⟩
def Record.Ok (x:Record):Prop:=(-9223372036854775808≤x.source∧x.source≤9223372036854775807)∧(-9223372036854775808≤x.serial∧x.serial≤9223372036854775807)∧(-9223372036854775808≤x.kind∧x.kind≤9223372036854775807)∧(x.a.length≤maxLen)∧(x.b.length≤maxLen)∧(-9223372036854775808≤x.start∧x.start≤9223372036854775807)∧(-9223372036854775808≤x.units∧x.units≤9223372036854775807)∧(-9223372036854775808≤x.call∧x.call≤9223372036854775807)∧(-9223372036854775808≤x.part∧x.part≤9223372036854775807)∧True∧(-9223372036854775808≤x.trunk∧x.trunk≤9223372036854775807)∧True
set_option maxRecDepth 100000 in
theorem of_Record {r:List D} (h1:r.length=12) (h2:∀ (i:Nat) sh d,([.i .i64,.i .i64,.i .i64,.s,.s,.i .i64,.i .i64,.i .i64,.i .i64,.b,.i .i64,.b]:List Sh)[i]?=some sh→r[i]?=some d→DFits sh d):∃ x:Record,r=Record.row x∧Record.Ok x:=by
  match r,h1 with
  | [d0,d1,d2,d3,d4,d5,d6,d7,d8,d9,d10,d11],_ =>
    obtain ⟨a0,rfl,k0⟩:=(h2 0 _ d0 rfl rfl).i_inv
    obtain ⟨a1,rfl,k1⟩:=(h2 1 _ d1 rfl rfl).i_inv
    obtain ⟨a2,rfl,k2⟩:=(h2 2 _ d2 rfl rfl).i_inv
    obtain ⟨a3,rfl,k3⟩:=(h2 3 _ d3 rfl rfl).s_inv'
    obtain ⟨a4,rfl,k4⟩:=(h2 4 _ d4 rfl rfl).s_inv'
    obtain ⟨a5,rfl,k5⟩:=(h2 5 _ d5 rfl rfl).i_inv
    obtain ⟨a6,rfl,k6⟩:=(h2 6 _ d6 rfl rfl).i_inv
    obtain ⟨a7,rfl,k7⟩:=(h2 7 _ d7 rfl rfl).i_inv
    obtain ⟨a8,rfl,k8⟩:=(h2 8 _ d8 rfl rfl).i_inv
    obtain ⟨a9,rfl⟩:=(h2 9 _ d9 rfl rfl).b_inv
    obtain ⟨a10,rfl,k10⟩:=(h2 10 _ d10 rfl rfl).i_inv
    obtain ⟨a11,rfl⟩:=(h2 11 _ d11 rfl rfl).b_inv
    exact ⟨⟨a0,a1,a2,a3,a4,a5,a6,a7,a8,a9,a10,a11⟩,rfl,⟨k0,k1,k2,k3,k4,k5,k6,k7,k8,trivial,k10,trivial⟩⟩
theorem shape22:Go.Abs.shape Tryd.prog 4 22=some ([.sl [.i .i64,.i .i64,.i .i64,.i .i64,.s,.s,.i .i64]]:List Sh):=by kernel_rfl
theorem shape24:Go.Abs.shape Tryd.prog 3 24=some ([.i .i64,.i .i64,.i .i64,.s,.s,.i .i64,.i .i64,.i .i64,.i .i64,.b,.i .i64,.b]:List Sh):=by kernel_rfl
set_option maxRecDepth 100000 in
theorem lifted_EnrichFields (os:Os) (started:os.Started) (H:Type) (enc:TypeId×Value→H) :
    ReturnsInHanded {} Tryd.checked os 4 .any (fun w args=>(Rows.enrichFieldsSpec.pre enc Tryd.prog Tryd.f4 [] false w args∧laidMetH Tryd.prog Rows.enrichFieldsRow.laid w)∧sizedMet enc Tryd.prog Tryd.f4 (OpenSpec.ofChange Rows.enrichFieldsSpec) false w args) (Rows.enrichFieldsSpec.post enc Tryd.prog Tryd.f4 false true false false):=by
  refine returnsInHanded_of_change_and (C:=Tryd.checked) (X:=fun w _=>laidMetH Tryd.prog Rows.enrichFieldsRow.laid w) (fun _ _ _ hh h=>h.of_heap hh) own started (by kernel_rfl) Tryd.func4
    (ChangeSpec.witness_shaped (enc:=enc) (C:=Tryd.checked) (os:=os) (X:=fun w _=>laidMetH Tryd.prog Rows.enrichFieldsRow.laid w) false (World.laidAll Tryd.prog os Rows.enrichFieldsRow.laid) #[.slice none 0 0,(.agg #[.int .i64 0,.int .i64 0,.int .i64 0,.string ⟨#[]⟩,.string ⟨#[]⟩,.int .i64 0,.int .i64 0,.int .i64 0,.int .i64 0,.bool false,.int .i64 0,.bool false]),.int .i64 0] 8 (World.laidAll_os _ _ _)
      (World.shaped_of_ZipB (by kernel_rfl) (by kernel_rfl)) (by kernel_rfl) (by kernel_rfl) (by kernel_rfl)
      (by rw [MakeChecks.laidMetH_plain _ _ _ (by kernel_rfl)]; exact laidMet_laidAll _ (by kernel_rfl) (by kernel_rfl))) ?_
  intro W base args ds gs before hval0 hW hcnd _ hLaid _
  have hglob:=globs_of_laid (show laidMetH Tryd.prog laidL W from hLaid)
  have hval:∀ (j:Nat) t v,Tryd.f4.params[j]?=some t→args[j]?=some v→Value.okWide Tryd.prog W .any base t v:=hval0
  have hW':=hW
  obtain ⟨p,q,hA0,hV,rfl,hfz,hnd⟩:=hW
  have hA:DataW.TrodAll enc Tryd.prog W 0 (fun _=>true) true Tryd.f4.params.toList args.toList ds p:=hA0
  have hA1:=hA
  rw [Tryd.params4] at hA hval
  obtain ⟨v0,vs0,d0,ds0,p0,q0,hargs,rfl,rfl,h0,r0⟩:=trodAll_cons hA
  obtain ⟨v1,vs1,d1,ds1,p1,q1,rfl,rfl,rfl,h1,r1⟩:=trodAll_cons r0
  obtain ⟨v2,vs2,d2,ds2,p2,q2,rfl,rfl,rfl,h2,r2⟩:=trodAll_cons r1
  obtain ⟨rfl,rfl,rfl⟩:=trodAll_nil r2
  obtain rfl:args=#[v0,v1,v2]:=by cases args; simp_all
  obtain ⟨rfl,rfl⟩:=trodVars_none hV
  obtain ⟨y0,f0,e0⟩:=top_slice shape22 Tryd.underlying22 (hval 0 22 v0 rfl rfl) h0
  obtain ⟨x0,rfl,k0⟩:=DFits.sl_of f0 (fun r a b=>of_Event a b)
  obtain ⟨y1,f1,g1,e1⟩:=top_agg shape24 Tryd.underlying24 (hval 1 24 v1 rfl rfl) h1
  obtain ⟨x1,rfl,k1⟩:=of_Record f1 g1
  obtain ⟨x2,e2,k2⟩:=top_int Tryd.underlying3 (hval 2 3 v2 rfl rfl) h2
  clear hA0 hval0
  simp only [List.append_nil] at hW'
  have hlaw:=fields_true x0 x1 x2
  refine (c_f_w21_EnrichFields hlaw (limW W) W #[v0,v1,v2] hglob ⟨rfl,fun i x v hx hv=>?_⟩).mono fun e W' ⟨v,r,lim',he,hq,hr,hev,hb,hl⟩=>?_
  · match i with
    | 0=>simp at hx hv; subst hx; subst hv; exact e0
    | 1=>simp at hx hv; subst hx; subst hv; exact e1
    | 2=>simp at hx hv; subst hx; subst hv; exact e2
    | n+3=>simp at hx
  subst he; subst hq; cases hr
  have hA2:DataW.TrodAll enc Tryd.prog W 0 (fun _=>true) true [22,24,3] [v0,v1,v2] [d0,d1,d2] (p0++(p1++(p2))):=by simpa using hA1
  have hlt:∀ p∈(p0++(p1++(p2))),p.block < W.heap.size:=fun p hp=>hW'.lt p (by simpa using hp)
  exact ⟨_,rfl,post_of_below (pa:=(p0++(p1++(p2)))) (pv:=[]) hW' (fun _ _ _=>trodAll_mk1 (shut_bool Tryd.underlying4 true)) (fun sp hsp=>trodAll_stays laidOut hb sp (by kernel_rfl) hA2 hlt (fun p hp=>hsp p (by simpa using hp))) (fun _ _=>rfl) (by simp)
    hb (ok_one (by kernel_rfl) rfl (okWide_bool_mk Tryd.underlying4 true))⟩
theorem enrichFields_holds:Rows.EnrichFieldsSaid :=
  OpenClaim.holds_of_wide 4 Tryd.f4 rfl rfl rfl rfl rfl rfl rfl ⟨rfl,rfl,rfl,rfl,rfl⟩ rfl rfl rfl rfl rfl (by kernel_rfl) Tryd.func4 (by kernel_rfl)
    (of_decide_eq_true (by kernel_rfl)) (by unfold Func.isWrapper; first | (rw [if_pos (by decide +kernel)]; kernel_rfl) | (rw [if_neg (by decide +kernel)]; exact ⟨rfl,rfl⟩))
    (fun os started H enc _=>lifted_EnrichFields os started H enc)
theorem enrichFields_card:Rows.EnrichFieldsCardSaid :=
  Claim7.holds_tied_plain_at .later [] [.data,.data,.data] true (true, "1de66392b20e8682d6492460847c958386d9e265e48018317419b16c4752a596") false enrichFields_holds (fun _ h=>by cases h) (by kernel_rfl) (fun _ h=>by cases h) enrichFields_row_tie rfl ⟨rfl,rfl⟩ (by kernel_rfl) rfl
    (fun f fn hf hfn=>by
      obtain rfl:f=4:=Option.some.inj ((show Tryd.prog.funcNamed "billing/billinglaw21.EnrichFields" = some 4 by kernel_rfl).symm.trans hf) |>.symm
      obtain rfl:fn=Tryd.f4:=(Option.some.inj (Tryd.func4.symm.trans hfn)).symm
      exact ⟨by kernel_rfl,fun j t ht=>by
        rw [Tryd.params4] at ht
        have hm:t∈[22,24,3]:=by simpa using Array.mem_of_getElem? ht
        have hall:([22,24,3].all fun u=>!Tryd.prog.wantsStandIn u)=true:=by kernel_rfl
        exact (show Tryd.prog.wantsStandIn t=false by simpa using List.all_eq_true.1 hall t hm)⟩)
    (by kernel_rfl)
end Go.Proofs.YtnjdcednocmcnaaDoor
