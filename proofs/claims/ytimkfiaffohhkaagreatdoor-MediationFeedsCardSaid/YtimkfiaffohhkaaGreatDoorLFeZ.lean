/- MediationFeeds: the state after a batch, or the error, is that of the specification; for every input, with no condition. -/
import Derived.Test.YtimkfiaffohhkaaGreatDoorYF5
import Derived.Test.YtimkfiaffohhkaaGreatDoorCards
import Derived.Test.YtimkfiaffohhkaaGreatDoorTie
import Derived.Lay
import Derived.LaidSub
import Derived.LaidLaws
import Derived.Lib.LaidTab
import Derived.ProofKit
import Derived.Handy
set_option linter.unusedSimpArgs false
set_option linter.unusedVariables false
set_option maxRecDepth 100000
set_option maxHeartbeats 1000000
namespace Go.Proofs.YtimkfiaffohhkaaGreatDoor
open Go.RowKit Go.ChangeShapes Go.WideShapes Go.ChangeAt Go.Abs
theorem own:ownKnob Tryz.prog.godebug=none:=by kernel_rfl
theorem laidOut:laidOutB Tryz.prog=true:=by kernel_rfl
def RT:List (String×DataW Unit):=[("math/bits.deBruijn32tab",Rows.laid_math_bits_deBruijn32tab),("math/bits.deBruijn64tab",Rows.laid_math_bits_deBruijn64tab),("internal/strconv.uint64pow10",Rows.laid_internal_strconv_uint64pow10)]
theorem GB {W:World} (h:laidMetH Tryz.prog RT W):xj W.heap.size W:=by
  rw [MakeChecks.laidMetH_plain _ _ _ (by kernel_rfl)] at h;have h1:=laidMet.filter (λx=>x.1 == "internal/strconv.uint64pow10") h;have h2:RT.filter (λx=>x.1 == "internal/strconv.uint64pow10")=[("internal/strconv.uint64pow10",Go.Lib.tabData .u64 Go.Lib.pow10Tab)]:=by kernel_rfl
  rw [h2] at h1;have hn:Tryz.prog.globalNamed "internal/strconv.uint64pow10" = some 0:=by kernel_rfl
  have h3:=Go.Lib.tabIs_of_head (rest:=[]) hn (t:=269) (by kernel_rfl) Tryz.underlying269 Tryz.underlying229 (by kernel_rfl) (by kernel_rfl) h1;unfold Go.Lib.TabIs World.var? at h3;rw [hn] at h3;simp only [zac] at h3;split at h3
  · rename_i cs ty fr hb
    simp only [Option.some.injEq] at h3;subst h3;refine ⟨λx hx=>?_,λk hk=>by cases hk⟩;simp only [GL,zca] at hx;subst hx;exact ⟨(zaw.1 hb).1,ty,fr,hb⟩
  · cases h3
def Event.Ok (x:Event):Prop:=(-9223372036854775808<=x.at_/\x.at_<=9223372036854775807)/\(-9223372036854775808<=x.kind/\x.kind<=9223372036854775807)/\(-9223372036854775808<=x.au/\x.au<=9223372036854775807)/\(-9223372036854775808<=x.sub/\x.sub<=9223372036854775807)/\(x.number.length<=maxLen)/\(x.name.length<=maxLen)/\(-9223372036854775808<=x.value/\x.value<=9223372036854775807)
theorem RU {r:List D} (h1:r.length=7) (h2:∀ (i:Nat) sh d,([.i .i64,.i .i64,.i .i64,.i .i64,.s,.s,.i .i64]:List Sh)[i]?=some sh->r[i]?=some d->eu sh d):∃ x:Event,r=Event.row x/\Event.Ok x:=by
  match r,h1 with
  | [d0,d1,d2,d3,d4,d5,d6],_ =>
    obtain ⟨a0,rfl,k0⟩:=(h2 0 _ d0 rfl rfl).eZ;obtain ⟨a1,rfl,k1⟩:=(h2 1 _ d1 rfl rfl).eZ;obtain ⟨a2,rfl,k2⟩:=(h2 2 _ d2 rfl rfl).eZ;obtain ⟨a3,rfl,k3⟩:=(h2 3 _ d3 rfl rfl).eZ;obtain ⟨a4,rfl,k4⟩:=(h2 4 _ d4 rfl rfl).CD;obtain ⟨a5,rfl,k5⟩:=(h2 5 _ d5 rfl rfl).CD;obtain ⟨a6,rfl,k6⟩:=(h2 6 _ d6 rfl rfl).eZ;exact ⟨⟨a0,a1,a2,a3,a4,a5,a6⟩,rfl,⟨k0,k1,k2,k3,k4,k5,k6⟩⟩
def Range.Ok (x:Range):Prop:=(-9223372036854775808<=x.source/\x.source<=9223372036854775807)/\(-9223372036854775808<=x.from_/\x.from_<=9223372036854775807)/\(-9223372036854775808<=x.iu/\x.iu<=9223372036854775807)
theorem Ll {r:List D} (h1:r.length=3) (h2:∀ (i:Nat) sh d,([.i .i64,.i .i64,.i .i64]:List Sh)[i]?=some sh->r[i]?=some d->eu sh d):∃ x:Range,r=Range.row x/\Range.Ok x:=by
  match r,h1 with
  | [d0,d1,d2],_ =>
    obtain ⟨a0,rfl,k0⟩:=(h2 0 _ d0 rfl rfl).eZ;obtain ⟨a1,rfl,k1⟩:=(h2 1 _ d1 rfl rfl).eZ;obtain ⟨a2,rfl,k2⟩:=(h2 2 _ d2 rfl rfl).eZ;exact ⟨⟨a0,a1,a2⟩,rfl,⟨k0,k1,k2⟩⟩
def aa.Ok (x:aa):Prop:=(-9223372036854775808<=x.source/\x.source<=9223372036854775807)/\(-9223372036854775808<=x.aI/\x.aI<=9223372036854775807)/\(-9223372036854775808<=x.kind/\x.kind<=9223372036854775807)/\(x.a.length<=maxLen)/\(x.b.length<=maxLen)/\(-9223372036854775808<=x.start/\x.start<=9223372036854775807)/\(-9223372036854775808<=x.cU/\x.cU<=9223372036854775807)/\(-9223372036854775808<=x.call/\x.call<=9223372036854775807)/\(-9223372036854775808<=x.part/\x.part<=9223372036854775807)/\True/\(-9223372036854775808<=x.c9/\x.c9<=9223372036854775807)/\True
theorem vQ {r:List D} (h1:r.length=12) (h2:∀ (i:Nat) sh d,([.i .i64,.i .i64,.i .i64,.s,.s,.i .i64,.i .i64,.i .i64,.i .i64,.b,.i .i64,.b]:List Sh)[i]?=some sh->r[i]?=some d->eu sh d):∃ x:aa,r=aa.row x/\aa.Ok x:=by
  match r,h1 with
  | [d0,d1,d2,d3,d4,d5,d6,d7,d8,d9,d10,d11],_ =>
    obtain ⟨a0,rfl,k0⟩:=(h2 0 _ d0 rfl rfl).eZ;obtain ⟨a1,rfl,k1⟩:=(h2 1 _ d1 rfl rfl).eZ;obtain ⟨a2,rfl,k2⟩:=(h2 2 _ d2 rfl rfl).eZ;obtain ⟨a3,rfl,k3⟩:=(h2 3 _ d3 rfl rfl).CD;obtain ⟨a4,rfl,k4⟩:=(h2 4 _ d4 rfl rfl).CD;obtain ⟨a5,rfl,k5⟩:=(h2 5 _ d5 rfl rfl).eZ;obtain ⟨a6,rfl,k6⟩:=(h2 6 _ d6 rfl rfl).eZ;obtain ⟨a7,rfl,k7⟩:=(h2 7 _ d7 rfl rfl).eZ;obtain ⟨a8,rfl,k8⟩:=(h2 8 _ d8 rfl rfl).eZ;obtain ⟨a9,rfl⟩:=(h2 9 _ d9 rfl rfl).RR;obtain ⟨a10,rfl,LN⟩:=(h2 10 _ d10 rfl rfl).eZ;obtain ⟨a11,rfl⟩:=(h2 11 _ d11 rfl rfl).RR;exact ⟨⟨a0,a1,a2,a3,a4,a5,a6,a7,a8,a9,a10,a11⟩,rfl,⟨k0,k1,k2,k3,k4,k5,k6,k7,k8,trivial,LN,trivial⟩⟩
def Head.Ok (x:Head):Prop:=(-9223372036854775808<=x.source/\x.source<=9223372036854775807)/\(-9223372036854775808<=x.number/\x.number<=9223372036854775807)/\(-9223372036854775808<=x.format/\x.format<=9223372036854775807)/\(-9223372036854775808<=x.count/\x.count<=9223372036854775807)
theorem N9 {r:List D} (h1:r.length=4) (h2:∀ (i:Nat) sh d,([.i .i64,.i .i64,.i .i64,.i .i64]:List Sh)[i]?=some sh->r[i]?=some d->eu sh d):∃ x:Head,r=Head.row x/\Head.Ok x:=by
  match r,h1 with
  | [d0,d1,d2,d3],_ =>
    obtain ⟨a0,rfl,k0⟩:=(h2 0 _ d0 rfl rfl).eZ;obtain ⟨a1,rfl,k1⟩:=(h2 1 _ d1 rfl rfl).eZ;obtain ⟨a2,rfl,k2⟩:=(h2 2 _ d2 rfl rfl).eZ;obtain ⟨a3,rfl,k3⟩:=(h2 3 _ d3 rfl rfl).eZ;exact ⟨⟨a0,a1,a2,a3⟩,rfl,⟨k0,k1,k2,k3⟩⟩
def aF.Ok (x:aF):Prop:=(x.seen.length<=maxLen/\∀ z,z∈x.seen->Range.Ok z)/\(x.open_.length<=maxLen/\∀ z,z∈x.open_->aa.Ok z)/\(x.aO.length<=maxLen/\∀ z,z∈x.aO->Head.Ok z)
theorem XE {r:List D} (h1:r.length=3) (h2:∀ (i:Nat) sh d,([.sl [.i .i64,.i .i64,.i .i64],.sl [.i .i64,.i .i64,.i .i64,.s,.s,.i .i64,.i .i64,.i .i64,.i .i64,.b,.i .i64,.b],.sl [.i .i64,.i .i64,.i .i64,.i .i64]]:List Sh)[i]?=some sh->r[i]?=some d->eu sh d):∃ x:aF,r=aF.row x/\aF.Ok x:=by
  match r,h1 with
  | [d0,d1,d2],_ =>
    obtain ⟨a0,rfl,k0⟩:=eu.w7 (h2 0 _ d0 rfl rfl) (λr a b=>Ll a b);obtain ⟨a1,rfl,k1⟩:=eu.w7 (h2 1 _ d1 rfl rfl) (λr a b=>vQ a b);obtain ⟨a2,rfl,k2⟩:=eu.w7 (h2 2 _ d2 rfl rfl) (λr a b=>N9 a b);exact ⟨⟨a0,a1,a2⟩,rfl,⟨k0,k1,k2⟩⟩
def aC.Ok (x:aC):Prop:=(-9223372036854775808<=x.id/\x.id<=9223372036854775807)/\(-9223372036854775808<=x.kind/\x.kind<=9223372036854775807)/\(-9223372036854775808<=x.au/\x.au<=9223372036854775807)/\(-9223372036854775808<=x.sub/\x.sub<=9223372036854775807)/\(x.a.length<=maxLen)/\(x.b.length<=maxLen)/\(-9223372036854775808<=x.start/\x.start<=9223372036854775807)/\(-9223372036854775808<=x.cU/\x.cU<=9223372036854775807)/\(-9223372036854775808<=x.c9/\x.c9<=9223372036854775807)/\True/\(-9223372036854775808<=x.source/\x.source<=9223372036854775807)/\(-9223372036854775808<=x.aI/\x.aI<=9223372036854775807)
theorem RV {r:List D} (h1:r.length=12) (h2:∀ (i:Nat) sh d,([.i .i64,.i .i64,.i .i64,.i .i64,.s,.s,.i .i64,.i .i64,.i .i64,.b,.i .i64,.i .i64]:List Sh)[i]?=some sh->r[i]?=some d->eu sh d):∃ x:aC,r=aC.row x/\aC.Ok x:=by
  match r,h1 with
  | [d0,d1,d2,d3,d4,d5,d6,d7,d8,d9,d10,d11],_ =>
    obtain ⟨a0,rfl,k0⟩:=(h2 0 _ d0 rfl rfl).eZ;obtain ⟨a1,rfl,k1⟩:=(h2 1 _ d1 rfl rfl).eZ;obtain ⟨a2,rfl,k2⟩:=(h2 2 _ d2 rfl rfl).eZ;obtain ⟨a3,rfl,k3⟩:=(h2 3 _ d3 rfl rfl).eZ;obtain ⟨a4,rfl,k4⟩:=(h2 4 _ d4 rfl rfl).CD;obtain ⟨a5,rfl,k5⟩:=(h2 5 _ d5 rfl rfl).CD;obtain ⟨a6,rfl,k6⟩:=(h2 6 _ d6 rfl rfl).eZ;obtain ⟨a7,rfl,k7⟩:=(h2 7 _ d7 rfl rfl).eZ;obtain ⟨a8,rfl,k8⟩:=(h2 8 _ d8 rfl rfl).eZ;obtain ⟨a9,rfl⟩:=(h2 9 _ d9 rfl rfl).RR;obtain ⟨a10,rfl,LN⟩:=(h2 10 _ d10 rfl rfl).eZ;obtain ⟨a11,rfl,Rx⟩:=(h2 11 _ d11 rfl rfl).eZ;exact ⟨⟨a0,a1,a2,a3,a4,a5,a6,a7,a8,a9,a10,a11⟩,rfl,⟨k0,k1,k2,k3,k4,k5,k6,k7,k8,trivial,LN,Rx⟩⟩
def ag.Ok (x:ag):Prop:=(-9223372036854775808<=x.source/\x.source<=9223372036854775807)/\(-9223372036854775808<=x.aI/\x.aI<=9223372036854775807)/\(-9223372036854775808<=x.index/\x.index<=9223372036854775807)/\(-9223372036854775808<=x.err/\x.err<=9223372036854775807)
theorem Pn {r:List D} (h1:r.length=4) (h2:∀ (i:Nat) sh d,([.i .i64,.i .i64,.i .i64,.i .i64]:List Sh)[i]?=some sh->r[i]?=some d->eu sh d):∃ x:ag,r=ag.row x/\ag.Ok x:=by
  match r,h1 with
  | [d0,d1,d2,d3],_ =>
    obtain ⟨a0,rfl,k0⟩:=(h2 0 _ d0 rfl rfl).eZ;obtain ⟨a1,rfl,k1⟩:=(h2 1 _ d1 rfl rfl).eZ;obtain ⟨a2,rfl,k2⟩:=(h2 2 _ d2 rfl rfl).eZ;obtain ⟨a3,rfl,k3⟩:=(h2 3 _ d3 rfl rfl).eZ;exact ⟨⟨a0,a1,a2,a3⟩,rfl,⟨k0,k1,k2,k3⟩⟩
def aj.Ok (x:aj):Prop:=(aF.Ok x.aH)/\(x.usages.length<=maxLen/\∀ z,z∈x.usages->aC.Ok z)/\(x.aS.length<=maxLen/\∀ z,z∈x.aS->aa.Ok z)/\(x.bA.length<=maxLen/\∀ z,z∈x.bA->ag.Ok z)
theorem Jj {r:List D} (h1:r.length=6) (h2:∀ (i:Nat) sh d,([.sl [.i .i64,.i .i64,.i .i64],.sl [.i .i64,.i .i64,.i .i64,.s,.s,.i .i64,.i .i64,.i .i64,.i .i64,.b,.i .i64,.b],.sl [.i .i64,.i .i64,.i .i64,.i .i64],.sl [.i .i64,.i .i64,.i .i64,.i .i64,.s,.s,.i .i64,.i .i64,.i .i64,.b,.i .i64,.i .i64],.sl [.i .i64,.i .i64,.i .i64,.s,.s,.i .i64,.i .i64,.i .i64,.i .i64,.b,.i .i64,.b],.sl [.i .i64,.i .i64,.i .i64,.i .i64]]:List Sh)[i]?=some sh->r[i]?=some d->eu sh d):∃ x:aj,r=aj.row x/\aj.Ok x:=by
  match r,h1 with
  | [d0,d1,d2,d3,d4,d5],_ =>
    obtain ⟨a0,rfl,k0⟩:=eu.w7 (h2 0 _ d0 rfl rfl) (λr a b=>Ll a b);obtain ⟨a1,rfl,k1⟩:=eu.w7 (h2 1 _ d1 rfl rfl) (λr a b=>vQ a b);obtain ⟨a2,rfl,k2⟩:=eu.w7 (h2 2 _ d2 rfl rfl) (λr a b=>N9 a b);obtain ⟨a3,rfl,k3⟩:=eu.w7 (h2 3 _ d3 rfl rfl) (λr a b=>RV a b);obtain ⟨a4,rfl,k4⟩:=eu.w7 (h2 4 _ d4 rfl rfl) (λr a b=>vQ a b);obtain ⟨a5,rfl,k5⟩:=eu.w7 (h2 5 _ d5 rfl rfl) (λr a b=>Pn a b);exact ⟨⟨⟨a0,a1,a2⟩,a3,a4,a5⟩,rfl,⟨⟨k0,k1,k2⟩,k3,k4,k5⟩⟩
def Batch.Ok (x:Batch):Prop:=(-9223372036854775808<=x.source/\x.source<=9223372036854775807)/\(-9223372036854775808<=x.number/\x.number<=9223372036854775807)/\(-9223372036854775808<=x.format/\x.format<=9223372036854775807)/\(x.records.length<=maxLen/\∀ z,z∈x.records->aa.Ok z)
theorem ZK {r:List D} (h1:r.length=4) (h2:∀ (i:Nat) sh d,([.i .i64,.i .i64,.i .i64,.sl [.i .i64,.i .i64,.i .i64,.s,.s,.i .i64,.i .i64,.i .i64,.i .i64,.b,.i .i64,.b]]:List Sh)[i]?=some sh->r[i]?=some d->eu sh d):∃ x:Batch,r=Batch.row x/\Batch.Ok x:=by
  match r,h1 with
  | [d0,d1,d2,d3],_ =>
    obtain ⟨a0,rfl,k0⟩:=(h2 0 _ d0 rfl rfl).eZ;obtain ⟨a1,rfl,k1⟩:=(h2 1 _ d1 rfl rfl).eZ;obtain ⟨a2,rfl,k2⟩:=(h2 2 _ d2 rfl rfl).eZ;obtain ⟨a3,rfl,k3⟩:=eu.w7 (h2 3 _ d3 rfl rfl) (λr a b=>vQ a b);exact ⟨⟨a0,a1,a2,a3⟩,rfl,⟨k0,k1,k2,k3⟩⟩
def bX.Ok (x:bX):Prop:=(-9223372036854775808<=x.eA/\x.eA<=9223372036854775807)/\(-9223372036854775808<=x.iO/\x.iO<=9223372036854775807)
theorem XF {r:List D} (h1:r.length=2) (h2:∀ (i:Nat) sh d,([.i .i64,.i .i64]:List Sh)[i]?=some sh->r[i]?=some d->eu sh d):∃ x:bX,r=bX.row x/\bX.Ok x:=by
  match r,h1 with
  | [d0,d1],_ =>
    obtain ⟨a0,rfl,k0⟩:=(h2 0 _ d0 rfl rfl).eZ;obtain ⟨a1,rfl,k1⟩:=(h2 1 _ d1 rfl rfl).eZ;exact ⟨⟨a0,a1⟩,rfl,⟨k0,k1⟩⟩
def dB.Ok (x:dB):Prop:=(Batch.Ok x.batch)/\(bX.Ok x.EE)
theorem Av {r:List D} (h1:r.length=6) (h2:∀ (i:Nat) sh d,([.i .i64,.i .i64,.i .i64,.sl [.i .i64,.i .i64,.i .i64,.s,.s,.i .i64,.i .i64,.i .i64,.i .i64,.b,.i .i64,.b],.i .i64,.i .i64]:List Sh)[i]?=some sh->r[i]?=some d->eu sh d):∃ x:dB,r=dB.row x/\dB.Ok x:=by
  match r,h1 with
  | [d0,d1,d2,d3,d4,d5],_ =>
    obtain ⟨a0,rfl,k0⟩:=(h2 0 _ d0 rfl rfl).eZ;obtain ⟨a1,rfl,k1⟩:=(h2 1 _ d1 rfl rfl).eZ;obtain ⟨a2,rfl,k2⟩:=(h2 2 _ d2 rfl rfl).eZ;obtain ⟨a3,rfl,k3⟩:=eu.w7 (h2 3 _ d3 rfl rfl) (λr a b=>vQ a b);obtain ⟨a4,rfl,k4⟩:=(h2 4 _ d4 rfl rfl).eZ;obtain ⟨a5,rfl,k5⟩:=(h2 5 _ d5 rfl rfl).eZ;exact ⟨⟨⟨a0,a1,a2,a3⟩,⟨a4,a5⟩⟩,rfl,⟨⟨k0,k1,k2,k3⟩,⟨k4,k5⟩⟩⟩
theorem Tr:Go.Abs.shape Tryz.prog 6 30=some ([.sl [.i .i64,.i .i64,.i .i64],.sl [.i .i64,.i .i64,.i .i64,.s,.s,.i .i64,.i .i64,.i .i64,.i .i64,.b,.i .i64,.b],.sl [.i .i64,.i .i64,.i .i64,.i .i64],.sl [.i .i64,.i .i64,.i .i64,.i .i64,.s,.s,.i .i64,.i .i64,.i .i64,.b,.i .i64,.i .i64],.sl [.i .i64,.i .i64,.i .i64,.s,.s,.i .i64,.i .i64,.i .i64,.i .i64,.b,.i .i64,.b],.sl [.i .i64,.i .i64,.i .i64,.i .i64]]:List Sh):=by kernel_rfl
theorem Ts:Go.Abs.shape Tryz.prog 4 36=some ([.sl [.i .i64,.i .i64,.i .i64,.i .i64,.s,.s,.i .i64]]:List Sh):=by kernel_rfl
theorem Tt:Go.Abs.shape Tryz.prog 6 42=some ([.i .i64,.i .i64,.i .i64,.sl [.i .i64,.i .i64,.i .i64,.s,.s,.i .i64,.i .i64,.i .i64,.i .i64,.b,.i .i64,.b],.i .i64,.i .i64]:List Sh):=by kernel_rfl
theorem xi (os:Os) (started:os.Started) (H:Type) (enc:TypeId×Value->H) :
    ReturnsInHanded {} Tryz.checked os 4 .any (λw args=>(Rows.mediationFeedsSpec.pre enc Tryz.prog Tryz.f4 [] false w args/\laidMetH Tryz.prog Rows.mediationFeedsRow.laid w)/\sizedMet enc Tryz.prog Tryz.f4 (OpenSpec.ofChange Rows.mediationFeedsSpec) false w args) (Rows.mediationFeedsSpec.post enc Tryz.prog Tryz.f4 false true false false):=by
  refine returnsInHanded_of_change_and (C:=Tryz.checked) (X:=λw _=>laidMetH Tryz.prog Rows.mediationFeedsRow.laid w) (λ_ _ _ hh h=>h.of_heap hh) own started (by kernel_rfl) Tryz.func4
    (ChangeSpec.witness_shaped (enc:=enc) (C:=Tryz.checked) (os:=os) (X:=λw _=>laidMetH Tryz.prog Rows.mediationFeedsRow.laid w) false (World.laidAll Tryz.prog os Rows.mediationFeedsRow.laid) #[.slice none 0 0,(.agg #[.slice none 0 0,.slice none 0 0,.slice none 0 0,.slice none 0 0,.slice none 0 0,.slice none 0 0]),(.agg #[.int .i64 0,.int .i64 0,.int .i64 0,.slice none 0 0,.int .i64 0,.int .i64 0])] 8 (World.laidAll_os _ _ _)
      (World.shaped_of_ZipB (by kernel_rfl) (by kernel_rfl)) (by kernel_rfl) (by kernel_rfl) (by kernel_rfl)
      (by rw [MakeChecks.laidMetH_plain _ _ _ (by kernel_rfl)];exact laidMet_laidAll _ (by kernel_rfl) (by kernel_rfl))) ?_
  intro W base args ds gs before Ul hW hcnd _ ZL _;have PA:=GB (show laidMetH Tryz.prog RT W from ZL);have Jw:∀ (j:Nat) t v,Tryz.f4.params[j]?=some t->args[j]?=some v->Value.okWide Tryz.prog W .any base t v:=Ul;have hW':=hW;obtain ⟨p,q,hA0,hV,rfl,hfz,TE⟩:=hW;have hA:DataW.TrodAll enc Tryz.prog W 0 (λ_=>true) true Tryz.f4.params.toList args.toList ds p:=hA0;have Wf:=hA;rw [Tryz.params4] at hA Jw;obtain ⟨v0,vs0,d0,ds0,p0,q0,Kd,rfl,rfl,h0,r0⟩:=trodAll_cons hA;obtain ⟨v1,vs1,d1,ds1,p1,q1,rfl,rfl,rfl,h1,r1⟩:=trodAll_cons r0;obtain ⟨v2,vs2,d2,ds2,p2,q2,rfl,rfl,rfl,h2,r2⟩:=trodAll_cons r1;obtain ⟨rfl,rfl,rfl⟩:=trodAll_nil r2;obtain rfl:args=#[v0,v1,v2]:=by cases args;simp_all
  obtain ⟨rfl,rfl⟩:=trodVars_none hV;obtain ⟨y0,f0,e0⟩:=Pm Ts Tryz.underlying36 (Jw 0 36 v0 rfl rfl) h0;obtain ⟨x0,rfl,k0⟩:=eu.w7 f0 (λr a b=>RU a b);obtain ⟨y1,f1,g1,e1⟩:=N8 Tr Tryz.underlying30 (Jw 1 30 v1 rfl rfl) h1;obtain ⟨x1,rfl,k1⟩:=Jj f1 g1;obtain ⟨y2,f2,g2,e2⟩:=N8 Tt Tryz.underlying42 (Jw 2 42 v2 rfl rfl) h2;obtain ⟨x2,rfl,k2⟩:=Av f2 g2;clear hA0 Ul;simp only [zbq] at hW';have hlaw:=Ji x0 x1 x2;refine (wI hlaw (RQ W) W #[v0,v1,v2] PA ⟨rfl,λi x v hx hv=>?_⟩).mono λe W' ⟨v,r,dh,he,hq,hr,PE,hb,hl⟩=>?_
  · match i with
    | 0=>simp at hx hv;subst hx;subst hv;exact e0
    | 1=>simp at hx hv;subst hx;subst hv;exact e1
    | 2=>simp at hx hv;subst hx;subst hv;exact e2
    | n+3=>simp at hx
  subst he;subst hq;cases hr;have hA2:DataW.TrodAll enc Tryz.prog W 0 (λ_=>true) true [36,30,42] [v0,v1,v2] [d0,d1,d2] (p0++(p1++(p2))):=by simpa using Wf
  have cE:∀ p∈(p0++(p1++(p2))),p.block<W.heap.size:=λp hp=>hW'.lt p (by simpa using hp)
  exact ⟨_,rfl,GA (pa:=(p0++(p1++(p2)))) (pv:=[]) hW' (λ_ _ _=>trodAll_mk1 (shut_bool Tryz.underlying4 true)) (λsp XD=>zH laidOut hb sp (by kernel_rfl) hA2 cE (λp hp=>XD p (by simpa using hp))) (λ_ _=>rfl) (by simp)
    hb (ok_one (by kernel_rfl) rfl (okWide_bool_mk Tryz.underlying4 true))⟩
theorem yf:Rows.MediationFeedsSaid :=
  OpenClaim.holds_of_wide 4 Tryz.f4 rfl rfl rfl rfl rfl rfl rfl ⟨rfl,rfl,rfl,rfl,rfl⟩ rfl rfl rfl rfl rfl (by kernel_rfl) Tryz.func4 (by kernel_rfl)
    (zcp (by kernel_rfl)) (by unfold Func.isWrapper;first|(rw [zab (by decide +kernel)];kernel_rfl)|(rw [zaa (by decide +kernel)];exact ⟨rfl,rfl⟩))
    (λos started H enc _=>xi os started H enc)
theorem mediationFeeds_card:Rows.MediationFeedsCardSaid :=
  Claim7.holds_tied_plain_at .later [] [.data,.data,.data] true (true, "e4d11a115cee6cb0794765d23e11d892f8dff7ade243b85a88ffa52b46a81bd6") false yf (λ_ h=>by cases h) (by kernel_rfl) (λ_ h=>by cases h) mediationFeeds_row_tie rfl ⟨rfl,rfl⟩ (by kernel_rfl) rfl
    (λf fn hf hfn=>by
      obtain rfl:f=4:=Option.some.inj ((show Tryz.prog.funcNamed "billing/billinglaw22.MediationFeeds" = some 4 by kernel_rfl).symm.trans hf) |>.symm;obtain rfl:fn=Tryz.f4:=(Option.some.inj (Tryz.func4.symm.trans hfn)).symm;exact ⟨by kernel_rfl,λj t ht=>by
        rw [Tryz.params4] at ht;have hm:t∈[36,30,42]:=by simpa using Array.mem_of_getElem? ht
        have oO:([36,30,42].all λu=>!Tryz.prog.wantsStandIn u)=true:=by kernel_rfl
        exact (show Tryz.prog.wantsStandIn t=false by simpa using zbd.1 oO t hm)⟩)
    (by kernel_rfl)
end Go.Proofs.YtimkfiaffohhkaaGreatDoor
