/- MediationRuns: after each of up to 10 steps from the zero state the state and the balance are those of the specification, and the state is consistent; for every input, with no condition. -/
import Derived.Test.YtimkfiaffohhkabGreatDoorYR6
import Derived.Test.YtimkfiaffohhkabGreatDoorCards
import Derived.Test.YtimkfiaffohhkabGreatDoorTie
import Derived.Lay
import Derived.LaidSub
import Derived.LaidLaws
import Derived.Lib.LaidTab
import Derived.ProofKit
import Derived.Handy
set_option linter.unusedSimpArgs false
set_option linter.unusedVariables false
set_option maxRecDepth 100000
set_option maxHeartbeats 1000000
namespace Go.Proofs.YtimkfiaffohhkabGreatDoor
open Go.RowKit Go.ChangeShapes Go.WideShapes Go.ChangeAt Go.Abs
theorem own:ownKnob Tryz.prog.godebug=none:=by kernel_rfl
theorem laidOut:laidOutB Tryz.prog=true:=by kernel_rfl
def U0:O (String×DataW Unit):=[("math/bits.deBruijn32tab",Rows.laid_math_bits_deBruijn32tab),("math/bits.deBruijn64tab",Rows.laid_math_bits_deBruijn64tab),("internal/strconv.uint64pow10",Rows.laid_internal_strconv_uint64pow10)]
theorem I4 {W:uC} (h:laidMetH Tryz.prog U0 W):zh W.heap.size W:=by
  rw [MakeChecks.laidMetH_plain _ _ _ (by kernel_rfl)] at h;have h1:=laidMet.filter (λx=>x.1 == "internal/strconv.uint64pow10") h;have h2:U0.filter (λx=>x.1 == "internal/strconv.uint64pow10")=[("internal/strconv.uint64pow10",Go.Lib.tabData .u64 Go.Lib.pow10Tab)]:=by kernel_rfl
  rw [h2] at h1;have hn:Tryz.prog.globalNamed "internal/strconv.uint64pow10" = some 0:=by kernel_rfl
  have h3:=Go.Lib.tabIs_of_head (rest:=[]) hn (t:=277) (by kernel_rfl) Tryz.underlying277 Tryz.underlying224 (by kernel_rfl) (by kernel_rfl) h1;unfold Go.Lib.TabIs World.var? at h3;rw [hn] at h3;simp only [zac] at h3;split at h3
  · rename_i cs ty fr hb
    simp only [Option.some.injEq] at h3;subst h3;refine ⟨λx hx=>?_,λk hk=>by cases hk⟩;simp only [GL,zcc] at hx;subst hx;exact ⟨(zay.1 hb).1,ty,fr,hb⟩
  · cases h3
def Event.Ok (x:Event):Prop:=(-9223372036854775808<=x.at_/\x.at_<=9223372036854775807)/\(-9223372036854775808<=x.kind/\x.kind<=9223372036854775807)/\(-9223372036854775808<=x.az/\x.az<=9223372036854775807)/\(-9223372036854775808<=x.sub/\x.sub<=9223372036854775807)/\(x.number.length<=maxLen)/\(x.name.length<=maxLen)/\(-9223372036854775808<=x.value/\x.value<=9223372036854775807)
theorem U4 {r:List D} (h1:r.length=7) (h2:∀ (i:Nat) sh d,([.i .i64,.i .i64,.i .i64,.i .i64,.s,.s,.i .i64]:List Sh)[i]?=some sh->r[i]?=some d->jc sh d):∃ x:Event,r=Event.row x/\Event.Ok x:=by
  match r,h1 with
  | [d0,d1,d2,d3,d4,d5,d6],_ =>
    obtain ⟨a0,rfl,k0⟩:=(h2 0 _ d0 rfl rfl).kt;obtain ⟨a1,rfl,k1⟩:=(h2 1 _ d1 rfl rfl).kt;obtain ⟨a2,rfl,k2⟩:=(h2 2 _ d2 rfl rfl).kt;obtain ⟨a3,rfl,k3⟩:=(h2 3 _ d3 rfl rfl).kt;obtain ⟨a4,rfl,k4⟩:=(h2 4 _ d4 rfl rfl).Lp;obtain ⟨a5,rfl,k5⟩:=(h2 5 _ d5 rfl rfl).Lp;obtain ⟨a6,rfl,k6⟩:=(h2 6 _ d6 rfl rfl).kt;exact ⟨⟨a0,a1,a2,a3,a4,a5,a6⟩,rfl,⟨k0,k1,k2,k3,k4,k5,k6⟩⟩
def aa.Ok (x:aa):Prop:=(-9223372036854775808<=x.source/\x.source<=9223372036854775807)/\(-9223372036854775808<=x.aF/\x.aF<=9223372036854775807)/\(-9223372036854775808<=x.kind/\x.kind<=9223372036854775807)/\(x.a.length<=maxLen)/\(x.b.length<=maxLen)/\(-9223372036854775808<=x.start/\x.start<=9223372036854775807)/\(-9223372036854775808<=x.cX/\x.cX<=9223372036854775807)/\(-9223372036854775808<=x.call/\x.call<=9223372036854775807)/\(-9223372036854775808<=x.part/\x.part<=9223372036854775807)/\True/\(-9223372036854775808<=x.dh/\x.dh<=9223372036854775807)/\True
theorem EK {r:List D} (h1:r.length=12) (h2:∀ (i:Nat) sh d,([.i .i64,.i .i64,.i .i64,.s,.s,.i .i64,.i .i64,.i .i64,.i .i64,.b,.i .i64,.b]:List Sh)[i]?=some sh->r[i]?=some d->jc sh d):∃ x:aa,r=aa.row x/\aa.Ok x:=by
  match r,h1 with
  | [d0,d1,d2,d3,d4,d5,d6,d7,d8,d9,d10,d11],_ =>
    obtain ⟨a0,rfl,k0⟩:=(h2 0 _ d0 rfl rfl).kt;obtain ⟨a1,rfl,k1⟩:=(h2 1 _ d1 rfl rfl).kt;obtain ⟨a2,rfl,k2⟩:=(h2 2 _ d2 rfl rfl).kt;obtain ⟨a3,rfl,k3⟩:=(h2 3 _ d3 rfl rfl).Lp;obtain ⟨a4,rfl,k4⟩:=(h2 4 _ d4 rfl rfl).Lp;obtain ⟨a5,rfl,k5⟩:=(h2 5 _ d5 rfl rfl).kt;obtain ⟨a6,rfl,k6⟩:=(h2 6 _ d6 rfl rfl).kt;obtain ⟨a7,rfl,k7⟩:=(h2 7 _ d7 rfl rfl).kt;obtain ⟨a8,rfl,k8⟩:=(h2 8 _ d8 rfl rfl).kt;obtain ⟨a9,rfl⟩:=(h2 9 _ d9 rfl rfl).XP;obtain ⟨a10,rfl,Q6⟩:=(h2 10 _ d10 rfl rfl).kt;obtain ⟨a11,rfl⟩:=(h2 11 _ d11 rfl rfl).XP;exact ⟨⟨a0,a1,a2,a3,a4,a5,a6,a7,a8,a9,a10,a11⟩,rfl,⟨k0,k1,k2,k3,k4,k5,k6,k7,k8,trivial,Q6,trivial⟩⟩
def Batch.Ok (x:Batch):Prop:=(-9223372036854775808<=x.source/\x.source<=9223372036854775807)/\(-9223372036854775808<=x.number/\x.number<=9223372036854775807)/\(-9223372036854775808<=x.format/\x.format<=9223372036854775807)/\(x.records.length<=maxLen/\∀ z,z∈x.records->aa.Ok z)
theorem of_Batch {r:List D} (h1:r.length=4) (h2:∀ (i:Nat) sh d,([.i .i64,.i .i64,.i .i64,.sl [.i .i64,.i .i64,.i .i64,.s,.s,.i .i64,.i .i64,.i .i64,.i .i64,.b,.i .i64,.b]]:List Sh)[i]?=some sh->r[i]?=some d->jc sh d):∃ x:Batch,r=Batch.row x/\Batch.Ok x:=by
  match r,h1 with
  | [d0,d1,d2,d3],_ =>
    obtain ⟨a0,rfl,k0⟩:=(h2 0 _ d0 rfl rfl).kt;obtain ⟨a1,rfl,k1⟩:=(h2 1 _ d1 rfl rfl).kt;obtain ⟨a2,rfl,k2⟩:=(h2 2 _ d2 rfl rfl).kt;obtain ⟨a3,rfl,k3⟩:=jc.N4 (h2 3 _ d3 rfl rfl) (λr a b=>EK a b);exact ⟨⟨a0,a1,a2,a3⟩,rfl,⟨k0,k1,k2,k3⟩⟩
def bU.Ok (x:bU):Prop:=(-9223372036854775808<=x.eJ/\x.eJ<=9223372036854775807)/\(-9223372036854775808<=x.jl/\x.jl<=9223372036854775807)
theorem of_Window {r:List D} (h1:r.length=2) (h2:∀ (i:Nat) sh d,([.i .i64,.i .i64]:List Sh)[i]?=some sh->r[i]?=some d->jc sh d):∃ x:bU,r=bU.row x/\bU.Ok x:=by
  match r,h1 with
  | [d0,d1],_ =>
    obtain ⟨a0,rfl,k0⟩:=(h2 0 _ d0 rfl rfl).kt;obtain ⟨a1,rfl,k1⟩:=(h2 1 _ d1 rfl rfl).kt;exact ⟨⟨a0,a1⟩,rfl,⟨k0,k1⟩⟩
def ib.Ok (x:ib):Prop:=(Batch.Ok x.batch)/\(bU.Ok x.qH)
def cM.Ok (x:cM):Prop:=(-9223372036854775808<=x.kind/\x.kind<=9223372036854775807)/\(-9223372036854775808<=x.before/\x.before<=9223372036854775807)/\(-9223372036854775808<=x.now/\x.now<=9223372036854775807)/\(ib.Ok x.yN)
theorem A6 {r:List D} (h1:r.length=9) (h2:∀ (i:Nat) sh d,([.i .i64,.i .i64,.i .i64,.i .i64,.i .i64,.i .i64,.sl [.i .i64,.i .i64,.i .i64,.s,.s,.i .i64,.i .i64,.i .i64,.i .i64,.b,.i .i64,.b],.i .i64,.i .i64]:List Sh)[i]?=some sh->r[i]?=some d->jc sh d):∃ x:cM,r=cM.row x/\cM.Ok x:=by
  match r,h1 with
  | [d0,d1,d2,d3,d4,d5,d6,d7,d8],_ =>
    obtain ⟨a0,rfl,k0⟩:=(h2 0 _ d0 rfl rfl).kt;obtain ⟨a1,rfl,k1⟩:=(h2 1 _ d1 rfl rfl).kt;obtain ⟨a2,rfl,k2⟩:=(h2 2 _ d2 rfl rfl).kt;obtain ⟨a3,rfl,k3⟩:=(h2 3 _ d3 rfl rfl).kt;obtain ⟨a4,rfl,k4⟩:=(h2 4 _ d4 rfl rfl).kt;obtain ⟨a5,rfl,k5⟩:=(h2 5 _ d5 rfl rfl).kt;obtain ⟨a6,rfl,k6⟩:=jc.N4 (h2 6 _ d6 rfl rfl) (λr a b=>EK a b);obtain ⟨a7,rfl,k7⟩:=(h2 7 _ d7 rfl rfl).kt;obtain ⟨a8,rfl,k8⟩:=(h2 8 _ d8 rfl rfl).kt;exact ⟨⟨a0,a1,a2,⟨⟨a3,a4,a5,a6⟩,⟨a7,a8⟩⟩⟩,rfl,⟨k0,k1,k2,⟨⟨k3,k4,k5,k6⟩,⟨k7,k8⟩⟩⟩⟩
theorem WW:Go.Abs.shape Tryz.prog 4 22=some ([.sl [.i .i64,.i .i64,.i .i64,.i .i64,.s,.s,.i .i64]]:O Sh):=by kernel_rfl
theorem WX:Go.Abs.shape Tryz.prog 8 23=some ([.sl [.i .i64,.i .i64,.i .i64,.i .i64,.i .i64,.i .i64,.sl [.i .i64,.i .i64,.i .i64,.s,.s,.i .i64,.i .i64,.i .i64,.i .i64,.b,.i .i64,.b],.i .i64,.i .i64]]:O Sh):=by kernel_rfl
theorem Ae (os:Os) (started:os.Started) (H:Type) (enc:uE×uB->H) :
    ReturnsInHanded {} Tryz.checked os 3 .any (λw args=>(Rows.mediationRunsSpec.pre enc Tryz.prog Tryz.f3 [] false w args/\laidMetH Tryz.prog Rows.mediationRunsRow.laid w)/\sizedMet enc Tryz.prog Tryz.f3 (OpenSpec.ofChange Rows.mediationRunsSpec) false w args) (Rows.mediationRunsSpec.post enc Tryz.prog Tryz.f3 false true false false):=by
  refine returnsInHanded_of_change_and (C:=Tryz.checked) (X:=λw _=>laidMetH Tryz.prog Rows.mediationRunsRow.laid w) (λ_ _ _ hh h=>h.of_heap hh) own started (by kernel_rfl) Tryz.func3
    (ChangeSpec.witness_shaped (enc:=enc) (C:=Tryz.checked) (os:=os) (X:=λw _=>laidMetH Tryz.prog Rows.mediationRunsRow.laid w) false (World.laidAll Tryz.prog os Rows.mediationRunsRow.laid) #[.slice none 0 0,.slice none 0 0] 8 (World.laidAll_os _ _ _)
      (World.shaped_of_ZipB (by kernel_rfl) (by kernel_rfl)) (by kernel_rfl) (by kernel_rfl) (by kernel_rfl)
      (by rw [MakeChecks.laidMetH_plain _ _ _ (by kernel_rfl)];exact laidMet_laidAll _ (by kernel_rfl) (by kernel_rfl))) ?_
  intro W base args ds gs before XR hW hcnd _ hLaid _;have Sq:=I4 (show laidMetH Tryz.prog U0 W from hLaid);have JV:∀ (j:Nat) t v,Tryz.f3.params[j]?=some t->args[j]?=some v->Value.okWide Tryz.prog W .any base t v:=XR;have hW':=hW;obtain ⟨p,q,hA0,hV,rfl,hfz,Xb⟩:=hW;have hA:DataW.TrodAll enc Tryz.prog W 0 (λ_=>true) true Tryz.f3.params.toList args.toList ds p:=hA0;have ZE:=hA;rw [Tryz.params3] at hA JV;obtain ⟨v0,vs0,d0,ds0,p0,q0,Mq,rfl,rfl,h0,r0⟩:=trodAll_cons hA;obtain ⟨v1,vs1,d1,ds1,p1,q1,rfl,rfl,rfl,h1,r1⟩:=trodAll_cons r0;obtain ⟨rfl,rfl,rfl⟩:=trodAll_nil r1;obtain rfl:args=#[v0,v1]:=by cases args;simp_all
  obtain ⟨rfl,rfl⟩:=trodVars_none hV;obtain ⟨y0,f0,e0⟩:=JS WW Tryz.underlying22 (JV 0 22 v0 rfl rfl) h0;obtain ⟨x0,rfl,k0⟩:=jc.N4 f0 (λr a b=>U4 a b);obtain ⟨y1,f1,e1⟩:=JS WX Tryz.underlying23 (JV 1 23 v1 rfl rfl) h1;obtain ⟨x1,rfl,k1⟩:=jc.N4 f1 (λr a b=>A6 a b);clear hA0 XR;simp only [zbp] at hW';have hlaw:=N3 x0 x1;refine (zf hlaw (WU W) W #[v0,v1] Sq ⟨rfl,λi x v hx hv=>?_⟩).mono λe W' ⟨v,r,dG,he,hq,hr,Sv,hb,hl⟩=>?_
  · match i with
    | 0=>simp at hx hv;subst hx;subst hv;exact e0
    | 1=>simp at hx hv;subst hx;subst hv;exact e1
    | n+2=>simp at hx
  subst he;subst hq;cases hr;have hA2:DataW.TrodAll enc Tryz.prog W 0 (λ_=>true) true [22,23] [v0,v1] [d0,d1] (p0++p1):=by simpa using ZE
  have cT:∀ p∈(p0++p1),p.block<W.heap.size:=λp hp=>hW'.lt p (by simpa using hp)
  exact ⟨_,rfl,I3 (pa:=(p0++p1)) (pv:=[]) hW' (λ_ _ _=>trodAll_mk1 (shut_bool Tryz.underlying4 true)) (λsp Xz=>BC laidOut hb sp (by kernel_rfl) hA2 cT (λp hp=>Xz p (by simpa using hp))) (λ_ _=>rfl) (by simp)
    hb (ok_one (by kernel_rfl) rfl (okWide_bool_mk Tryz.underlying4 true))⟩
theorem A7:Rows.MediationRunsSaid :=
  OpenClaim.holds_of_wide 3 Tryz.f3 rfl rfl rfl rfl rfl rfl rfl ⟨rfl,rfl,rfl,rfl,rfl⟩ rfl rfl rfl rfl rfl (by kernel_rfl) Tryz.func3 (by kernel_rfl)
    (zcv (by kernel_rfl)) (by unfold Func.isWrapper;first|(rw [zab (by decide +kernel)];kernel_rfl)|(rw [zaa (by decide +kernel)];exact ⟨rfl,rfl⟩))
    (λos started H enc _=>Ae os started H enc)
theorem mediationRuns_card:Rows.MediationRunsCardSaid :=
  Claim7.holds_tied_plain_at .later [] [.data,.data,.data] true (true, "13ee59345dc59ba7bd73c07ac4935255aaf6fb12afc807d0c02a89f36b7cb08a") false A7 (λ_ h=>by cases h) (by kernel_rfl) (λ_ h=>by cases h) mediationRuns_row_tie rfl ⟨rfl,rfl⟩ (by kernel_rfl) rfl
    (λf fn hf hfn=>by
      obtain rfl:f=3:=Option.some.inj ((show Tryz.prog.funcNamed "billing/billinglaw22.MediationRuns" = some 3 by kernel_rfl).symm.trans hf) |>.symm;obtain rfl:fn=Tryz.f3:=(Option.some.inj (Tryz.func3.symm.trans hfn)).symm;exact ⟨by kernel_rfl,λj t ht=>by
        rw [Tryz.params3] at ht;have hm:t∈[22,23]:=by simpa using Array.mem_of_getElem? ht
        have pL:([22,23].all λu=>!Tryz.prog.wantsStandIn u)=true:=by kernel_rfl
        exact (show Tryz.prog.wantsStandIn t=false by simpa using zbf.1 pL t hm)⟩)
    (by kernel_rfl)
end Go.Proofs.YtimkfiaffohhkabGreatDoor
