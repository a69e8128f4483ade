/- MediationWaits: after Retry those records wait that still have no customer; for every input, with no condition. -/
import Derived.Test.YtimkfiaffohhkaaGreatDoorYT6
import Derived.Test.YtimkfiaffohhkaaGreatDoorCards
import Derived.Test.YtimkfiaffohhkaaGreatDoorTie
import Derived.Lay
import Derived.LaidSub
import Derived.LaidLaws
import Derived.Lib.LaidTab
import Derived.ProofKit
import Derived.Handy
set_option linter.unusedSimpArgs false
set_option linter.unusedVariables false
set_option maxRecDepth 100000
set_option maxHeartbeats 1000000
namespace Go.Proofs.YtimkfiaffohhkaaGreatDoor
open Go.RowKit Go.ChangeShapes Go.WideShapes Go.ChangeAt Go.Abs
theorem own:ownKnob Tryz.prog.godebug=none:=by kernel_rfl
theorem laidOut:laidOutB Tryz.prog=true:=by kernel_rfl
def uz:List (String×DataW Unit):=[("math/bits.deBruijn32tab",Rows.laid_math_bits_deBruijn32tab),("math/bits.deBruijn64tab",Rows.laid_math_bits_deBruijn64tab),("internal/strconv.uint64pow10",Rows.laid_internal_strconv_uint64pow10)]
theorem kH {W:World} (h:laidMetH Tryz.prog uz W):uK W.heap.size W:=by
  rw [MakeChecks.laidMetH_plain _ _ _ (by kernel_rfl)] at h;have h1:=laidMet.filter (λx=>x.1 == "internal/strconv.uint64pow10") h;have h2:uz.filter (λx=>x.1 == "internal/strconv.uint64pow10")=[("internal/strconv.uint64pow10",Go.Lib.tabData .u64 Go.Lib.pow10Tab)]:=by kernel_rfl
  rw [h2] at h1;have hn:Tryz.prog.globalNamed "internal/strconv.uint64pow10" = some 0:=by kernel_rfl
  have h3:=Go.Lib.tabIs_of_head (rest:=[]) hn (t:=269) (by kernel_rfl) Tryz.underlying269 Tryz.underlying229 (by kernel_rfl) (by kernel_rfl) h1;unfold Go.Lib.TabIs World.var? at h3;rw [hn] at h3;simp only [zac] at h3;split at h3
  · rename_i cs ty fr hb
    simp only [Option.some.injEq] at h3;subst h3;refine ⟨λx hx=>?_,λk hk=>by cases hk⟩;simp only [GL,zby] at hx;subst hx;exact ⟨(zau.1 hb).1,ty,fr,hb⟩
  · cases h3
def Event.Ok (x:Event):Prop:=(-9223372036854775808<=x.at_/\x.at_<=9223372036854775807)/\(-9223372036854775808<=x.kind/\x.kind<=9223372036854775807)/\(-9223372036854775808<=x.aq/\x.aq<=9223372036854775807)/\(-9223372036854775808<=x.sub/\x.sub<=9223372036854775807)/\(x.number.length<=maxLen)/\(x.name.length<=maxLen)/\(-9223372036854775808<=x.value/\x.value<=9223372036854775807)
theorem yP {r:List D} (h1:r.length=7) (h2:∀ (i:Nat) sh d,([.i .i64,.i .i64,.i .i64,.i .i64,.s,.s,.i .i64]:List Sh)[i]?=some sh->r[i]?=some d->bM sh d):∃ x:Event,r=Event.row x/\Event.Ok x:=by
  match r,h1 with
  | [d0,d1,d2,d3,d4,d5,d6],_ =>
    obtain ⟨a0,rfl,k0⟩:=(h2 0 _ d0 rfl rfl).bm;obtain ⟨a1,rfl,k1⟩:=(h2 1 _ d1 rfl rfl).bm;obtain ⟨a2,rfl,k2⟩:=(h2 2 _ d2 rfl rfl).bm;obtain ⟨a3,rfl,k3⟩:=(h2 3 _ d3 rfl rfl).bm;obtain ⟨a4,rfl,k4⟩:=(h2 4 _ d4 rfl rfl).jV;obtain ⟨a5,rfl,k5⟩:=(h2 5 _ d5 rfl rfl).jV;obtain ⟨a6,rfl,k6⟩:=(h2 6 _ d6 rfl rfl).bm;exact ⟨⟨a0,a1,a2,a3,a4,a5,a6⟩,rfl,⟨k0,k1,k2,k3,k4,k5,k6⟩⟩
def Range.Ok (x:Range):Prop:=(-9223372036854775808<=x.source/\x.source<=9223372036854775807)/\(-9223372036854775808<=x.from_/\x.from_<=9223372036854775807)/\(-9223372036854775808<=x.ia/\x.ia<=9223372036854775807)
theorem nZ {r:List D} (h1:r.length=3) (h2:∀ (i:Nat) sh d,([.i .i64,.i .i64,.i .i64]:List Sh)[i]?=some sh->r[i]?=some d->bM sh d):∃ x:Range,r=Range.row x/\Range.Ok x:=by
  match r,h1 with
  | [d0,d1,d2],_ =>
    obtain ⟨a0,rfl,k0⟩:=(h2 0 _ d0 rfl rfl).bm;obtain ⟨a1,rfl,k1⟩:=(h2 1 _ d1 rfl rfl).bm;obtain ⟨a2,rfl,k2⟩:=(h2 2 _ d2 rfl rfl).bm;exact ⟨⟨a0,a1,a2⟩,rfl,⟨k0,k1,k2⟩⟩
def aa.Ok (x:aa):Prop:=(-9223372036854775808<=x.source/\x.source<=9223372036854775807)/\(-9223372036854775808<=x.az/\x.az<=9223372036854775807)/\(-9223372036854775808<=x.kind/\x.kind<=9223372036854775807)/\(x.a.length<=maxLen)/\(x.b.length<=maxLen)/\(-9223372036854775808<=x.start/\x.start<=9223372036854775807)/\(-9223372036854775808<=x.cz/\x.cz<=9223372036854775807)/\(-9223372036854775808<=x.call/\x.call<=9223372036854775807)/\(-9223372036854775808<=x.part/\x.part<=9223372036854775807)/\True/\(-9223372036854775808<=x.cF/\x.cF<=9223372036854775807)/\True
theorem e8 {r:List D} (h1:r.length=12) (h2:∀ (i:Nat) sh d,([.i .i64,.i .i64,.i .i64,.s,.s,.i .i64,.i .i64,.i .i64,.i .i64,.b,.i .i64,.b]:List Sh)[i]?=some sh->r[i]?=some d->bM sh d):∃ x:aa,r=aa.row x/\aa.Ok x:=by
  match r,h1 with
  | [d0,d1,d2,d3,d4,d5,d6,d7,d8,d9,d10,d11],_ =>
    obtain ⟨a0,rfl,k0⟩:=(h2 0 _ d0 rfl rfl).bm;obtain ⟨a1,rfl,k1⟩:=(h2 1 _ d1 rfl rfl).bm;obtain ⟨a2,rfl,k2⟩:=(h2 2 _ d2 rfl rfl).bm;obtain ⟨a3,rfl,k3⟩:=(h2 3 _ d3 rfl rfl).jV;obtain ⟨a4,rfl,k4⟩:=(h2 4 _ d4 rfl rfl).jV;obtain ⟨a5,rfl,k5⟩:=(h2 5 _ d5 rfl rfl).bm;obtain ⟨a6,rfl,k6⟩:=(h2 6 _ d6 rfl rfl).bm;obtain ⟨a7,rfl,k7⟩:=(h2 7 _ d7 rfl rfl).bm;obtain ⟨a8,rfl,k8⟩:=(h2 8 _ d8 rfl rfl).bm;obtain ⟨a9,rfl⟩:=(h2 9 _ d9 rfl rfl).xF;obtain ⟨NJ,rfl,Bm⟩:=(h2 10 _ d10 rfl rfl).bm;obtain ⟨NK,rfl⟩:=(h2 11 _ d11 rfl rfl).xF;exact ⟨⟨a0,a1,a2,a3,a4,a5,a6,a7,a8,a9,NJ,NK⟩,rfl,⟨k0,k1,k2,k3,k4,k5,k6,k7,k8,trivial,Bm,trivial⟩⟩
def Head.Ok (x:Head):Prop:=(-9223372036854775808<=x.source/\x.source<=9223372036854775807)/\(-9223372036854775808<=x.number/\x.number<=9223372036854775807)/\(-9223372036854775808<=x.format/\x.format<=9223372036854775807)/\(-9223372036854775808<=x.count/\x.count<=9223372036854775807)
theorem qJ {r:List D} (h1:r.length=4) (h2:∀ (i:Nat) sh d,([.i .i64,.i .i64,.i .i64,.i .i64]:List Sh)[i]?=some sh->r[i]?=some d->bM sh d):∃ x:Head,r=Head.row x/\Head.Ok x:=by
  match r,h1 with
  | [d0,d1,d2,d3],_ =>
    obtain ⟨a0,rfl,k0⟩:=(h2 0 _ d0 rfl rfl).bm;obtain ⟨a1,rfl,k1⟩:=(h2 1 _ d1 rfl rfl).bm;obtain ⟨a2,rfl,k2⟩:=(h2 2 _ d2 rfl rfl).bm;obtain ⟨a3,rfl,k3⟩:=(h2 3 _ d3 rfl rfl).bm;exact ⟨⟨a0,a1,a2,a3⟩,rfl,⟨k0,k1,k2,k3⟩⟩
def aI.Ok (x:aI):Prop:=(x.seen.length<=maxLen/\∀ z,z∈x.seen->Range.Ok z)/\(x.open_.length<=maxLen/\∀ z,z∈x.open_->aa.Ok z)/\(x.aK.length<=maxLen/\∀ z,z∈x.aK->Head.Ok z)
theorem Di {r:List D} (h1:r.length=3) (h2:∀ (i:Nat) sh d,([.sl [.i .i64,.i .i64,.i .i64],.sl [.i .i64,.i .i64,.i .i64,.s,.s,.i .i64,.i .i64,.i .i64,.i .i64,.b,.i .i64,.b],.sl [.i .i64,.i .i64,.i .i64,.i .i64]]:List Sh)[i]?=some sh->r[i]?=some d->bM sh d):∃ x:aI,r=aI.row x/\aI.Ok x:=by
  match r,h1 with
  | [d0,d1,d2],_ =>
    obtain ⟨a0,rfl,k0⟩:=bM.fq (h2 0 _ d0 rfl rfl) (λr a b=>nZ a b);obtain ⟨a1,rfl,k1⟩:=bM.fq (h2 1 _ d1 rfl rfl) (λr a b=>e8 a b);obtain ⟨a2,rfl,k2⟩:=bM.fq (h2 2 _ d2 rfl rfl) (λr a b=>qJ a b);exact ⟨⟨a0,a1,a2⟩,rfl,⟨k0,k1,k2⟩⟩
def aE.Ok (x:aE):Prop:=(-9223372036854775808<=x.id/\x.id<=9223372036854775807)/\(-9223372036854775808<=x.kind/\x.kind<=9223372036854775807)/\(-9223372036854775808<=x.aq/\x.aq<=9223372036854775807)/\(-9223372036854775808<=x.sub/\x.sub<=9223372036854775807)/\(x.a.length<=maxLen)/\(x.b.length<=maxLen)/\(-9223372036854775808<=x.start/\x.start<=9223372036854775807)/\(-9223372036854775808<=x.cz/\x.cz<=9223372036854775807)/\(-9223372036854775808<=x.cF/\x.cF<=9223372036854775807)/\True/\(-9223372036854775808<=x.source/\x.source<=9223372036854775807)/\(-9223372036854775808<=x.az/\x.az<=9223372036854775807)
theorem uA {r:List D} (h1:r.length=12) (h2:∀ (i:Nat) sh d,([.i .i64,.i .i64,.i .i64,.i .i64,.s,.s,.i .i64,.i .i64,.i .i64,.b,.i .i64,.i .i64]:List Sh)[i]?=some sh->r[i]?=some d->bM sh d):∃ x:aE,r=aE.row x/\aE.Ok x:=by
  match r,h1 with
  | [d0,d1,d2,d3,d4,d5,d6,d7,d8,d9,d10,d11],_ =>
    obtain ⟨a0,rfl,k0⟩:=(h2 0 _ d0 rfl rfl).bm;obtain ⟨a1,rfl,k1⟩:=(h2 1 _ d1 rfl rfl).bm;obtain ⟨a2,rfl,k2⟩:=(h2 2 _ d2 rfl rfl).bm;obtain ⟨a3,rfl,k3⟩:=(h2 3 _ d3 rfl rfl).bm;obtain ⟨a4,rfl,k4⟩:=(h2 4 _ d4 rfl rfl).jV;obtain ⟨a5,rfl,k5⟩:=(h2 5 _ d5 rfl rfl).jV;obtain ⟨a6,rfl,k6⟩:=(h2 6 _ d6 rfl rfl).bm;obtain ⟨a7,rfl,k7⟩:=(h2 7 _ d7 rfl rfl).bm;obtain ⟨a8,rfl,k8⟩:=(h2 8 _ d8 rfl rfl).bm;obtain ⟨a9,rfl⟩:=(h2 9 _ d9 rfl rfl).xF;obtain ⟨NJ,rfl,Bm⟩:=(h2 10 _ d10 rfl rfl).bm;obtain ⟨NK,rfl,LS⟩:=(h2 11 _ d11 rfl rfl).bm;exact ⟨⟨a0,a1,a2,a3,a4,a5,a6,a7,a8,a9,NJ,NK⟩,rfl,⟨k0,k1,k2,k3,k4,k5,k6,k7,k8,trivial,Bm,LS⟩⟩
def ai.Ok (x:ai):Prop:=(-9223372036854775808<=x.source/\x.source<=9223372036854775807)/\(-9223372036854775808<=x.az/\x.az<=9223372036854775807)/\(-9223372036854775808<=x.index/\x.index<=9223372036854775807)/\(-9223372036854775808<=x.err/\x.err<=9223372036854775807)
theorem rD {r:List D} (h1:r.length=4) (h2:∀ (i:Nat) sh d,([.i .i64,.i .i64,.i .i64,.i .i64]:List Sh)[i]?=some sh->r[i]?=some d->bM sh d):∃ x:ai,r=ai.row x/\ai.Ok x:=by
  match r,h1 with
  | [d0,d1,d2,d3],_ =>
    obtain ⟨a0,rfl,k0⟩:=(h2 0 _ d0 rfl rfl).bm;obtain ⟨a1,rfl,k1⟩:=(h2 1 _ d1 rfl rfl).bm;obtain ⟨a2,rfl,k2⟩:=(h2 2 _ d2 rfl rfl).bm;obtain ⟨a3,rfl,k3⟩:=(h2 3 _ d3 rfl rfl).bm;exact ⟨⟨a0,a1,a2,a3⟩,rfl,⟨k0,k1,k2,k3⟩⟩
def ag.Ok (x:ag):Prop:=(aI.Ok x.aw)/\(x.usages.length<=maxLen/\∀ z,z∈x.usages->aE.Ok z)/\(x.aB.length<=maxLen/\∀ z,z∈x.aB->aa.Ok z)/\(x.ba.length<=maxLen/\∀ z,z∈x.ba->ai.Ok z)
theorem mh {r:List D} (h1:r.length=6) (h2:∀ (i:Nat) sh d,([.sl [.i .i64,.i .i64,.i .i64],.sl [.i .i64,.i .i64,.i .i64,.s,.s,.i .i64,.i .i64,.i .i64,.i .i64,.b,.i .i64,.b],.sl [.i .i64,.i .i64,.i .i64,.i .i64],.sl [.i .i64,.i .i64,.i .i64,.i .i64,.s,.s,.i .i64,.i .i64,.i .i64,.b,.i .i64,.i .i64],.sl [.i .i64,.i .i64,.i .i64,.s,.s,.i .i64,.i .i64,.i .i64,.i .i64,.b,.i .i64,.b],.sl [.i .i64,.i .i64,.i .i64,.i .i64]]:List Sh)[i]?=some sh->r[i]?=some d->bM sh d):∃ x:ag,r=ag.row x/\ag.Ok x:=by
  match r,h1 with
  | [d0,d1,d2,d3,d4,d5],_ =>
    obtain ⟨a0,rfl,k0⟩:=bM.fq (h2 0 _ d0 rfl rfl) (λr a b=>nZ a b);obtain ⟨a1,rfl,k1⟩:=bM.fq (h2 1 _ d1 rfl rfl) (λr a b=>e8 a b);obtain ⟨a2,rfl,k2⟩:=bM.fq (h2 2 _ d2 rfl rfl) (λr a b=>qJ a b);obtain ⟨a3,rfl,k3⟩:=bM.fq (h2 3 _ d3 rfl rfl) (λr a b=>uA a b);obtain ⟨a4,rfl,k4⟩:=bM.fq (h2 4 _ d4 rfl rfl) (λr a b=>e8 a b);obtain ⟨a5,rfl,k5⟩:=bM.fq (h2 5 _ d5 rfl rfl) (λr a b=>rD a b);exact ⟨⟨⟨a0,a1,a2⟩,a3,a4,a5⟩,rfl,⟨⟨k0,k1,k2⟩,k3,k4,k5⟩⟩
theorem xn:Go.Abs.shape Tryz.prog 6 30=some ([.sl [.i .i64,.i .i64,.i .i64],.sl [.i .i64,.i .i64,.i .i64,.s,.s,.i .i64,.i .i64,.i .i64,.i .i64,.b,.i .i64,.b],.sl [.i .i64,.i .i64,.i .i64,.i .i64],.sl [.i .i64,.i .i64,.i .i64,.i .i64,.s,.s,.i .i64,.i .i64,.i .i64,.b,.i .i64,.i .i64],.sl [.i .i64,.i .i64,.i .i64,.s,.s,.i .i64,.i .i64,.i .i64,.i .i64,.b,.i .i64,.b],.sl [.i .i64,.i .i64,.i .i64,.i .i64]]:List Sh):=by kernel_rfl
theorem Ck:Go.Abs.shape Tryz.prog 4 36=some ([.sl [.i .i64,.i .i64,.i .i64,.i .i64,.s,.s,.i .i64]]:List Sh):=by kernel_rfl
theorem xV (os:Os) (started:os.Started) (H:Type) (enc:TypeId×Value->H) :
    ReturnsInHanded {} Tryz.checked os 6 .any (λw args=>(Rows.mediationWaitsSpec.pre enc Tryz.prog Tryz.f6 [] false w args/\laidMetH Tryz.prog Rows.mediationWaitsRow.laid w)/\sizedMet enc Tryz.prog Tryz.f6 (OpenSpec.ofChange Rows.mediationWaitsSpec) false w args) (Rows.mediationWaitsSpec.post enc Tryz.prog Tryz.f6 false true false false):=by
  refine returnsInHanded_of_change_and (C:=Tryz.checked) (X:=λw _=>laidMetH Tryz.prog Rows.mediationWaitsRow.laid w) (λ_ _ _ hh h=>h.of_heap hh) own started (by kernel_rfl) Tryz.func6
    (ChangeSpec.witness_shaped (enc:=enc) (C:=Tryz.checked) (os:=os) (X:=λw _=>laidMetH Tryz.prog Rows.mediationWaitsRow.laid w) false (World.laidAll Tryz.prog os Rows.mediationWaitsRow.laid) #[.slice none 0 0,(.agg #[.slice none 0 0,.slice none 0 0,.slice none 0 0,.slice none 0 0,.slice none 0 0,.slice none 0 0])] 8 (World.laidAll_os _ _ _)
      (World.shaped_of_ZipB (by kernel_rfl) (by kernel_rfl)) (by kernel_rfl) (by kernel_rfl) (by kernel_rfl)
      (by rw [MakeChecks.laidMetH_plain _ _ _ (by kernel_rfl)];exact laidMet_laidAll _ (by kernel_rfl) (by kernel_rfl))) ?_
  intro W base args ds gs before yQ hW YM _ Gw _;have A7:=kH (show laidMetH Tryz.prog uz W from Gw);have uC:∀ (j:Nat) t v,Tryz.f6.params[j]?=some t->args[j]?=some v->Value.okWide Tryz.prog W .any base t v:=yQ;have NL:=hW;obtain ⟨p,q,Ty,hV,rfl,hfz,Q0⟩:=hW;have hA:DataW.TrodAll enc Tryz.prog W 0 (λ_=>true) true Tryz.f6.params.toList args.toList ds p:=Ty;have PU:=hA;rw [Tryz.params6] at hA uC;obtain ⟨v0,vs0,d0,ds0,p0,q0,Dz,rfl,rfl,h0,r0⟩:=trodAll_cons hA;obtain ⟨v1,vs1,d1,ds1,p1,q1,rfl,rfl,rfl,h1,r1⟩:=trodAll_cons r0;obtain ⟨rfl,rfl,rfl⟩:=trodAll_nil r1;obtain rfl:args=#[v0,v1]:=by cases args;simp_all
  obtain ⟨rfl,rfl⟩:=trodVars_none hV;obtain ⟨y0,f0,e0⟩:=Dh Ck Tryz.underlying36 (uC 0 36 v0 rfl rfl) h0;obtain ⟨x0,rfl,k0⟩:=bM.fq f0 (λr a b=>yP a b);obtain ⟨y1,f1,g1,e1⟩:=zt xn Tryz.underlying30 (uC 1 30 v1 rfl rfl) h1;obtain ⟨x1,rfl,k1⟩:=mh f1 g1;clear Ty yQ;simp only [zbn] at NL;have NM:=JU x0 x1;refine (xc NM (Mh W) W #[v0,v1] A7 ⟨rfl,λi x v hx hv=>?_⟩).mono λe W' ⟨v,r,dm,he,hq,hr,NR,hb,hl⟩=>?_
  · match i with
    | 0=>simp at hx hv;subst hx;subst hv;exact e0
    | 1=>simp at hx hv;subst hx;subst hv;exact e1
    | n+2=>simp at hx
  subst he;subst hq;cases hr;have YN:DataW.TrodAll enc Tryz.prog W 0 (λ_=>true) true [36,30] [v0,v1] [d0,d1] (p0++p1):=by simpa using PU
  have cJ:∀ p∈(p0++p1),p.block<W.heap.size:=λp hp=>NL.lt p (by simpa using hp)
  exact ⟨_,rfl,rV (pa:=(p0++p1)) (pv:=[]) NL (λ_ _ _=>trodAll_mk1 (shut_bool Tryz.underlying4 true)) (λsp QI=>pq laidOut hb sp (by kernel_rfl) YN cJ (λp hp=>QI p (by simpa using hp))) (λ_ _=>rfl) (by simp)
    hb (ok_one (by kernel_rfl) rfl (okWide_bool_mk Tryz.underlying4 true))⟩
theorem yS:Rows.MediationWaitsSaid :=
  OpenClaim.holds_of_wide 6 Tryz.f6 rfl rfl rfl rfl rfl rfl rfl ⟨rfl,rfl,rfl,rfl,rfl⟩ rfl rfl rfl rfl rfl (by kernel_rfl) Tryz.func6 (by kernel_rfl)
    (zcs (by kernel_rfl)) (by unfold Func.isWrapper;first|(rw [zaa (by decide +kernel)];kernel_rfl)|(rw [zab (by decide +kernel)];exact ⟨rfl,rfl⟩))
    (λos started H enc _=>xV os started H enc)
theorem mediationWaits_card:Rows.MediationWaitsCardSaid :=
  Claim7.holds_tied_plain_at .later [] [.data,.data,.data] true (true, "e4d11a115cee6cb0794765d23e11d892f8dff7ade243b85a88ffa52b46a81bd6") false yS (λ_ h=>by cases h) (by kernel_rfl) (λ_ h=>by cases h) mediationWaits_row_tie rfl ⟨rfl,rfl⟩ (by kernel_rfl) rfl
    (λf fn hf YO=>by
      obtain rfl:f=6:=Option.some.inj ((show Tryz.prog.funcNamed "billing/billinglaw22.MediationWaits" = some 6 by kernel_rfl).symm.trans hf) |>.symm;obtain rfl:fn=Tryz.f6:=(Option.some.inj (Tryz.func6.symm.trans YO)).symm;exact ⟨by kernel_rfl,λj t ht=>by
        rw [Tryz.params6] at ht;have hm:t∈[36,30]:=by simpa using zeg ht
        have l7:([36,30].all λu=>!Tryz.prog.wantsStandIn u)=true:=by kernel_rfl
        exact (show Tryz.prog.wantsStandIn t=false by simpa using zaz.1 l7 t hm)⟩)
    (by kernel_rfl)
end Go.Proofs.YtimkfiaffohhkaaGreatDoor
