/- MediationRetries: the states after Retry and Close are those of the specification; for every input, with no condition. -/
import Derived.Test.YtimkfiaffohhkaaGreatDoorYB6
import Derived.Test.YtimkfiaffohhkaaGreatDoorCards
import Derived.Test.YtimkfiaffohhkaaGreatDoorTie
import Derived.Lay
import Derived.LaidSub
import Derived.LaidLaws
import Derived.Lib.LaidTab
import Derived.ProofKit
import Derived.Handy
set_option linter.unusedSimpArgs false
set_option linter.unusedVariables false
set_option maxRecDepth 100000
set_option maxHeartbeats 1000000
namespace Go.Proofs.YtimkfiaffohhkaaGreatDoor
open Go.RowKit Go.ChangeShapes Go.WideShapes Go.ChangeAt Go.Abs
theorem own:ownKnob Tryz.prog.godebug=none:=by kernel_rfl
theorem laidOut:laidOutB Tryz.prog=true:=by kernel_rfl
def Rs:List (String×DataW Unit):=[("math/bits.deBruijn32tab",Rows.laid_math_bits_deBruijn32tab),("math/bits.deBruijn64tab",Rows.laid_math_bits_deBruijn64tab),("internal/strconv.uint64pow10",Rows.laid_internal_strconv_uint64pow10)]
theorem GW {W:World} (h:laidMetH Tryz.prog Rs W):xE W.heap.size W:=by
  rw [MakeChecks.laidMetH_plain _ _ _ (by kernel_rfl)] at h;have h1:=laidMet.filter (λx=>x.1 == "internal/strconv.uint64pow10") h;have h2:Rs.filter (λx=>x.1 == "internal/strconv.uint64pow10")=[("internal/strconv.uint64pow10",Go.Lib.tabData .u64 Go.Lib.pow10Tab)]:=by kernel_rfl
  rw [h2] at h1;have hn:Tryz.prog.globalNamed "internal/strconv.uint64pow10" = some 0:=by kernel_rfl
  have h3:=Go.Lib.tabIs_of_head (rest:=[]) hn (t:=269) (by kernel_rfl) Tryz.underlying269 Tryz.underlying229 (by kernel_rfl) (by kernel_rfl) h1;unfold Go.Lib.TabIs World.var? at h3;rw [hn] at h3;simp only [zac] at h3;split at h3
  · rename_i cs ty fr hb
    simp only [Option.some.injEq] at h3;subst h3;refine ⟨λx hx=>?_,λk hk=>by cases hk⟩;simp only [GL,zca] at hx;subst hx;exact ⟨(zau.1 hb).1,ty,fr,hb⟩
  · cases h3
def Event.Ok (x:Event):Prop:=(-9223372036854775808<=x.at_/\x.at_<=9223372036854775807)/\(-9223372036854775808<=x.kind/\x.kind<=9223372036854775807)/\(-9223372036854775808<=x.aw/\x.aw<=9223372036854775807)/\(-9223372036854775808<=x.sub/\x.sub<=9223372036854775807)/\(x.number.length<=maxLen)/\(x.name.length<=maxLen)/\(-9223372036854775808<=x.value/\x.value<=9223372036854775807)
theorem Rt {r:List D} (h1:r.length=7) (h2:∀ (i:Nat) sh d,([.i .i64,.i .i64,.i .i64,.i .i64,.s,.s,.i .i64]:List Sh)[i]?=some sh->r[i]?=some d->ft sh d):∃ x:Event,r=Event.row x/\Event.Ok x:=by
  match r,h1 with
  | [d0,d1,d2,d3,d4,d5,d6],_ =>
    obtain ⟨a0,rfl,k0⟩:=(h2 0 _ d0 rfl rfl).ir;obtain ⟨a1,rfl,k1⟩:=(h2 1 _ d1 rfl rfl).ir;obtain ⟨a2,rfl,k2⟩:=(h2 2 _ d2 rfl rfl).ir;obtain ⟨a3,rfl,k3⟩:=(h2 3 _ d3 rfl rfl).ir;obtain ⟨a4,rfl,k4⟩:=(h2 4 _ d4 rfl rfl).C8;obtain ⟨a5,rfl,k5⟩:=(h2 5 _ d5 rfl rfl).C8;obtain ⟨a6,rfl,k6⟩:=(h2 6 _ d6 rfl rfl).ir;exact ⟨⟨a0,a1,a2,a3,a4,a5,a6⟩,rfl,⟨k0,k1,k2,k3,k4,k5,k6⟩⟩
def Range.Ok (x:Range):Prop:=(-9223372036854775808<=x.source/\x.source<=9223372036854775807)/\(-9223372036854775808<=x.from_/\x.from_<=9223372036854775807)/\(-9223372036854775808<=x.lz/\x.lz<=9223372036854775807)
theorem Ld {r:List D} (h1:r.length=3) (h2:∀ (i:Nat) sh d,([.i .i64,.i .i64,.i .i64]:List Sh)[i]?=some sh->r[i]?=some d->ft sh d):∃ x:Range,r=Range.row x/\Range.Ok x:=by
  match r,h1 with
  | [d0,d1,d2],_ =>
    obtain ⟨a0,rfl,k0⟩:=(h2 0 _ d0 rfl rfl).ir;obtain ⟨a1,rfl,k1⟩:=(h2 1 _ d1 rfl rfl).ir;obtain ⟨a2,rfl,k2⟩:=(h2 2 _ d2 rfl rfl).ir;exact ⟨⟨a0,a1,a2⟩,rfl,⟨k0,k1,k2⟩⟩
def aa.Ok (x:aa):Prop:=(-9223372036854775808<=x.source/\x.source<=9223372036854775807)/\(-9223372036854775808<=x.aZ/\x.aZ<=9223372036854775807)/\(-9223372036854775808<=x.kind/\x.kind<=9223372036854775807)/\(x.a.length<=maxLen)/\(x.b.length<=maxLen)/\(-9223372036854775808<=x.start/\x.start<=9223372036854775807)/\(-9223372036854775808<=x.cJ/\x.cJ<=9223372036854775807)/\(-9223372036854775808<=x.call/\x.call<=9223372036854775807)/\(-9223372036854775808<=x.part/\x.part<=9223372036854775807)/\True/\(-9223372036854775808<=x.cT/\x.cT<=9223372036854775807)/\True
theorem C9 {r:List D} (h1:r.length=12) (h2:∀ (i:Nat) sh d,([.i .i64,.i .i64,.i .i64,.s,.s,.i .i64,.i .i64,.i .i64,.i .i64,.b,.i .i64,.b]:List Sh)[i]?=some sh->r[i]?=some d->ft sh d):∃ x:aa,r=aa.row x/\aa.Ok x:=by
  match r,h1 with
  | [d0,d1,d2,d3,d4,d5,d6,d7,d8,d9,d10,d11],_ =>
    obtain ⟨a0,rfl,k0⟩:=(h2 0 _ d0 rfl rfl).ir;obtain ⟨a1,rfl,k1⟩:=(h2 1 _ d1 rfl rfl).ir;obtain ⟨a2,rfl,k2⟩:=(h2 2 _ d2 rfl rfl).ir;obtain ⟨a3,rfl,k3⟩:=(h2 3 _ d3 rfl rfl).C8;obtain ⟨a4,rfl,k4⟩:=(h2 4 _ d4 rfl rfl).C8;obtain ⟨a5,rfl,k5⟩:=(h2 5 _ d5 rfl rfl).ir;obtain ⟨a6,rfl,k6⟩:=(h2 6 _ d6 rfl rfl).ir;obtain ⟨a7,rfl,k7⟩:=(h2 7 _ d7 rfl rfl).ir;obtain ⟨a8,rfl,k8⟩:=(h2 8 _ d8 rfl rfl).ir;obtain ⟨a9,rfl⟩:=(h2 9 _ d9 rfl rfl).Rq;obtain ⟨a10,rfl,LI⟩:=(h2 10 _ d10 rfl rfl).ir;obtain ⟨a11,rfl⟩:=(h2 11 _ d11 rfl rfl).Rq;exact ⟨⟨a0,a1,a2,a3,a4,a5,a6,a7,a8,a9,a10,a11⟩,rfl,⟨k0,k1,k2,k3,k4,k5,k6,k7,k8,trivial,LI,trivial⟩⟩
def Head.Ok (x:Head):Prop:=(-9223372036854775808<=x.source/\x.source<=9223372036854775807)/\(-9223372036854775808<=x.number/\x.number<=9223372036854775807)/\(-9223372036854775808<=x.format/\x.format<=9223372036854775807)/\(-9223372036854775808<=x.count/\x.count<=9223372036854775807)
theorem NN {r:List D} (h1:r.length=4) (h2:∀ (i:Nat) sh d,([.i .i64,.i .i64,.i .i64,.i .i64]:List Sh)[i]?=some sh->r[i]?=some d->ft sh d):∃ x:Head,r=Head.row x/\Head.Ok x:=by
  match r,h1 with
  | [d0,d1,d2,d3],_ =>
    obtain ⟨a0,rfl,k0⟩:=(h2 0 _ d0 rfl rfl).ir;obtain ⟨a1,rfl,k1⟩:=(h2 1 _ d1 rfl rfl).ir;obtain ⟨a2,rfl,k2⟩:=(h2 2 _ d2 rfl rfl).ir;obtain ⟨a3,rfl,k3⟩:=(h2 3 _ d3 rfl rfl).ir;exact ⟨⟨a0,a1,a2,a3⟩,rfl,⟨k0,k1,k2,k3⟩⟩
def aH.Ok (x:aH):Prop:=(x.seen.length<=maxLen/\∀ z,z∈x.seen->Range.Ok z)/\(x.open_.length<=maxLen/\∀ z,z∈x.open_->aa.Ok z)/\(x.aT.length<=maxLen/\∀ z,z∈x.aT->Head.Ok z)
theorem Xd {r:List D} (h1:r.length=3) (h2:∀ (i:Nat) sh d,([.sl [.i .i64,.i .i64,.i .i64],.sl [.i .i64,.i .i64,.i .i64,.s,.s,.i .i64,.i .i64,.i .i64,.i .i64,.b,.i .i64,.b],.sl [.i .i64,.i .i64,.i .i64,.i .i64]]:List Sh)[i]?=some sh->r[i]?=some d->ft sh d):∃ x:aH,r=aH.row x/\aH.Ok x:=by
  match r,h1 with
  | [d0,d1,d2],_ =>
    obtain ⟨a0,rfl,k0⟩:=ft.zY (h2 0 _ d0 rfl rfl) (λr a b=>Ld a b);obtain ⟨a1,rfl,k1⟩:=ft.zY (h2 1 _ d1 rfl rfl) (λr a b=>C9 a b);obtain ⟨a2,rfl,k2⟩:=ft.zY (h2 2 _ d2 rfl rfl) (λr a b=>NN a b);exact ⟨⟨a0,a1,a2⟩,rfl,⟨k0,k1,k2⟩⟩
def aA.Ok (x:aA):Prop:=(-9223372036854775808<=x.id/\x.id<=9223372036854775807)/\(-9223372036854775808<=x.kind/\x.kind<=9223372036854775807)/\(-9223372036854775808<=x.aw/\x.aw<=9223372036854775807)/\(-9223372036854775808<=x.sub/\x.sub<=9223372036854775807)/\(x.a.length<=maxLen)/\(x.b.length<=maxLen)/\(-9223372036854775808<=x.start/\x.start<=9223372036854775807)/\(-9223372036854775808<=x.cJ/\x.cJ<=9223372036854775807)/\(-9223372036854775808<=x.cT/\x.cT<=9223372036854775807)/\True/\(-9223372036854775808<=x.source/\x.source<=9223372036854775807)/\(-9223372036854775808<=x.aZ/\x.aZ<=9223372036854775807)
theorem Ru {r:List D} (h1:r.length=12) (h2:∀ (i:Nat) sh d,([.i .i64,.i .i64,.i .i64,.i .i64,.s,.s,.i .i64,.i .i64,.i .i64,.b,.i .i64,.i .i64]:List Sh)[i]?=some sh->r[i]?=some d->ft sh d):∃ x:aA,r=aA.row x/\aA.Ok x:=by
  match r,h1 with
  | [d0,d1,d2,d3,d4,d5,d6,d7,d8,d9,d10,d11],_ =>
    obtain ⟨a0,rfl,k0⟩:=(h2 0 _ d0 rfl rfl).ir;obtain ⟨a1,rfl,k1⟩:=(h2 1 _ d1 rfl rfl).ir;obtain ⟨a2,rfl,k2⟩:=(h2 2 _ d2 rfl rfl).ir;obtain ⟨a3,rfl,k3⟩:=(h2 3 _ d3 rfl rfl).ir;obtain ⟨a4,rfl,k4⟩:=(h2 4 _ d4 rfl rfl).C8;obtain ⟨a5,rfl,k5⟩:=(h2 5 _ d5 rfl rfl).C8;obtain ⟨a6,rfl,k6⟩:=(h2 6 _ d6 rfl rfl).ir;obtain ⟨a7,rfl,k7⟩:=(h2 7 _ d7 rfl rfl).ir;obtain ⟨a8,rfl,k8⟩:=(h2 8 _ d8 rfl rfl).ir;obtain ⟨a9,rfl⟩:=(h2 9 _ d9 rfl rfl).Rq;obtain ⟨a10,rfl,LI⟩:=(h2 10 _ d10 rfl rfl).ir;obtain ⟨a11,rfl,Q3⟩:=(h2 11 _ d11 rfl rfl).ir;exact ⟨⟨a0,a1,a2,a3,a4,a5,a6,a7,a8,a9,a10,a11⟩,rfl,⟨k0,k1,k2,k3,k4,k5,k6,k7,k8,trivial,LI,Q3⟩⟩
def ak.Ok (x:ak):Prop:=(-9223372036854775808<=x.source/\x.source<=9223372036854775807)/\(-9223372036854775808<=x.aZ/\x.aZ<=9223372036854775807)/\(-9223372036854775808<=x.index/\x.index<=9223372036854775807)/\(-9223372036854775808<=x.err/\x.err<=9223372036854775807)
theorem O1 {r:List D} (h1:r.length=4) (h2:∀ (i:Nat) sh d,([.i .i64,.i .i64,.i .i64,.i .i64]:List Sh)[i]?=some sh->r[i]?=some d->ft sh d):∃ x:ak,r=ak.row x/\ak.Ok x:=by
  match r,h1 with
  | [d0,d1,d2,d3],_ =>
    obtain ⟨a0,rfl,k0⟩:=(h2 0 _ d0 rfl rfl).ir;obtain ⟨a1,rfl,k1⟩:=(h2 1 _ d1 rfl rfl).ir;obtain ⟨a2,rfl,k2⟩:=(h2 2 _ d2 rfl rfl).ir;obtain ⟨a3,rfl,k3⟩:=(h2 3 _ d3 rfl rfl).ir;exact ⟨⟨a0,a1,a2,a3⟩,rfl,⟨k0,k1,k2,k3⟩⟩
def ah.Ok (x:ah):Prop:=(aH.Ok x.aM)/\(x.usages.length<=maxLen/\∀ z,z∈x.usages->aA.Ok z)/\(x.aP.length<=maxLen/\∀ z,z∈x.aP->aa.Ok z)/\(x.bu.length<=maxLen/\∀ z,z∈x.bu->ak.Ok z)
theorem Jb {r:List D} (h1:r.length=6) (h2:∀ (i:Nat) sh d,([.sl [.i .i64,.i .i64,.i .i64],.sl [.i .i64,.i .i64,.i .i64,.s,.s,.i .i64,.i .i64,.i .i64,.i .i64,.b,.i .i64,.b],.sl [.i .i64,.i .i64,.i .i64,.i .i64],.sl [.i .i64,.i .i64,.i .i64,.i .i64,.s,.s,.i .i64,.i .i64,.i .i64,.b,.i .i64,.i .i64],.sl [.i .i64,.i .i64,.i .i64,.s,.s,.i .i64,.i .i64,.i .i64,.i .i64,.b,.i .i64,.b],.sl [.i .i64,.i .i64,.i .i64,.i .i64]]:List Sh)[i]?=some sh->r[i]?=some d->ft sh d):∃ x:ah,r=ah.row x/\ah.Ok x:=by
  match r,h1 with
  | [d0,d1,d2,d3,d4,d5],_ =>
    obtain ⟨a0,rfl,k0⟩:=ft.zY (h2 0 _ d0 rfl rfl) (λr a b=>Ld a b);obtain ⟨a1,rfl,k1⟩:=ft.zY (h2 1 _ d1 rfl rfl) (λr a b=>C9 a b);obtain ⟨a2,rfl,k2⟩:=ft.zY (h2 2 _ d2 rfl rfl) (λr a b=>NN a b);obtain ⟨a3,rfl,k3⟩:=ft.zY (h2 3 _ d3 rfl rfl) (λr a b=>Ru a b);obtain ⟨a4,rfl,k4⟩:=ft.zY (h2 4 _ d4 rfl rfl) (λr a b=>C9 a b);obtain ⟨a5,rfl,k5⟩:=ft.zY (h2 5 _ d5 rfl rfl) (λr a b=>O1 a b);exact ⟨⟨⟨a0,a1,a2⟩,a3,a4,a5⟩,rfl,⟨⟨k0,k1,k2⟩,k3,k4,k5⟩⟩
theorem S0:Go.Abs.shape Tryz.prog 6 30=some ([.sl [.i .i64,.i .i64,.i .i64],.sl [.i .i64,.i .i64,.i .i64,.s,.s,.i .i64,.i .i64,.i .i64,.i .i64,.b,.i .i64,.b],.sl [.i .i64,.i .i64,.i .i64,.i .i64],.sl [.i .i64,.i .i64,.i .i64,.i .i64,.s,.s,.i .i64,.i .i64,.i .i64,.b,.i .i64,.i .i64],.sl [.i .i64,.i .i64,.i .i64,.s,.s,.i .i64,.i .i64,.i .i64,.i .i64,.b,.i .i64,.b],.sl [.i .i64,.i .i64,.i .i64,.i .i64]]:List Sh):=by kernel_rfl
theorem S3:Go.Abs.shape Tryz.prog 4 36=some ([.sl [.i .i64,.i .i64,.i .i64,.i .i64,.s,.s,.i .i64]]:List Sh):=by kernel_rfl
theorem wq (os:Os) (started:os.Started) (H:Type) (enc:TypeId×Value->H) :
    ReturnsInHanded {} Tryz.checked os 8 .any (λw args=>(Rows.mediationRetriesSpec.pre enc Tryz.prog Tryz.f8 [] false w args/\laidMetH Tryz.prog Rows.mediationRetriesRow.laid w)/\sizedMet enc Tryz.prog Tryz.f8 (OpenSpec.ofChange Rows.mediationRetriesSpec) false w args) (Rows.mediationRetriesSpec.post enc Tryz.prog Tryz.f8 false true false false):=by
  refine returnsInHanded_of_change_and (C:=Tryz.checked) (X:=λw _=>laidMetH Tryz.prog Rows.mediationRetriesRow.laid w) (λ_ _ _ hh h=>h.of_heap hh) own started (by kernel_rfl) Tryz.func8
    (ChangeSpec.witness_shaped (enc:=enc) (C:=Tryz.checked) (os:=os) (X:=λw _=>laidMetH Tryz.prog Rows.mediationRetriesRow.laid w) false (World.laidAll Tryz.prog os Rows.mediationRetriesRow.laid) #[.slice none 0 0,(.agg #[.slice none 0 0,.slice none 0 0,.slice none 0 0,.slice none 0 0,.slice none 0 0,.slice none 0 0]),.int .i64 0] 8 (World.laidAll_os _ _ _)
      (World.shaped_of_ZipB (by kernel_rfl) (by kernel_rfl)) (by kernel_rfl) (by kernel_rfl) (by kernel_rfl)
      (by rw [MakeChecks.laidMetH_plain _ _ _ (by kernel_rfl)];exact laidMet_laidAll _ (by kernel_rfl) (by kernel_rfl))) ?_
  intro W base args ds gs before TZ hW hcnd _ Zc _;have Pj:=GW (show laidMetH Tryz.prog Rs W from Zc);have Jo:∀ (j:Nat) t v,Tryz.f8.params[j]?=some t->args[j]?=some v->Value.okWide Tryz.prog W .any base t v:=TZ;have hW':=hW;obtain ⟨p,q,hA0,hV,rfl,hfz,Te⟩:=hW;have hA:DataW.TrodAll enc Tryz.prog W 0 (λ_=>true) true Tryz.f8.params.toList args.toList ds p:=hA0;have VS:=hA;rw [Tryz.params8] at hA Jo;obtain ⟨v0,vs0,d0,ds0,p0,q0,J5,rfl,rfl,h0,r0⟩:=trodAll_cons hA;obtain ⟨v1,vs1,d1,ds1,p1,q1,rfl,rfl,rfl,h1,r1⟩:=trodAll_cons r0;obtain ⟨v2,vs2,d2,ds2,p2,q2,rfl,rfl,rfl,h2,r2⟩:=trodAll_cons r1;obtain ⟨rfl,rfl,rfl⟩:=trodAll_nil r2;obtain rfl:args=#[v0,v1,v2]:=by cases args;simp_all
  obtain ⟨rfl,rfl⟩:=trodVars_none hV;obtain ⟨y0,f0,e0⟩:=O0 S3 Tryz.underlying36 (Jo 0 36 v0 rfl rfl) h0;obtain ⟨x0,rfl,k0⟩:=ft.zY f0 (λr a b=>Rt a b);obtain ⟨y1,f1,g1,e1⟩:=SZ S0 Tryz.underlying30 (Jo 1 30 v1 rfl rfl) h1;obtain ⟨x1,rfl,k1⟩:=Jb f1 g1;obtain ⟨x2,e2,k2⟩:=SY Tryz.underlying3 (Jo 2 3 v2 rfl rfl) h2;clear hA0 TZ;simp only [zcg] at hW';have hlaw:=F1 x0 x1 x2;refine (vC hlaw (OZ W) W #[v0,v1,v2] Pj ⟨rfl,λi x v hx hv=>?_⟩).mono λe W' ⟨v,r,dv,he,hq,hr,Po,hb,hl⟩=>?_
  · match i with
    | 0=>simp at hx hv;subst hx;subst hv;exact e0
    | 1=>simp at hx hv;subst hx;subst hv;exact e1
    | 2=>simp at hx hv;subst hx;subst hv;exact e2
    | n+3=>simp at hx
  subst he;subst hq;cases hr;have hA2:DataW.TrodAll enc Tryz.prog W 0 (λ_=>true) true [36,30,3] [v0,v1,v2] [d0,d1,d2] (p0++(p1++(p2))):=by simpa using VS
  have cZ:∀ p∈(p0++(p1++(p2))),p.block<W.heap.size:=λp hp=>hW'.lt p (by simpa using hp)
  exact ⟨_,rfl,GV (pa:=(p0++(p1++(p2)))) (pv:=[]) hW' (λ_ _ _=>trodAll_mk1 (shut_bool Tryz.underlying4 true)) (λsp TO=>zX laidOut hb sp (by kernel_rfl) hA2 cZ (λp hp=>TO p (by simpa using hp))) (λ_ _=>rfl) (by simp)
    hb (ok_one (by kernel_rfl) rfl (okWide_bool_mk Tryz.underlying4 true))⟩
theorem xg:Rows.MediationRetriesSaid :=
  OpenClaim.holds_of_wide 8 Tryz.f8 rfl rfl rfl rfl rfl rfl rfl ⟨rfl,rfl,rfl,rfl,rfl⟩ rfl rfl rfl rfl rfl (by kernel_rfl) Tryz.func8 (by kernel_rfl)
    (zds (by kernel_rfl)) (by unfold Func.isWrapper;first|(rw [zab (by decide +kernel)];kernel_rfl)|(rw [zaa (by decide +kernel)];exact ⟨rfl,rfl⟩))
    (λos started H enc _=>wq os started H enc)
theorem mediationRetries_card:Rows.MediationRetriesCardSaid :=
  Claim7.holds_tied_plain_at .later [] [.data,.data,.data] true (true, "e4d11a115cee6cb0794765d23e11d892f8dff7ade243b85a88ffa52b46a81bd6") false xg (λ_ h=>by cases h) (by kernel_rfl) (λ_ h=>by cases h) mediationRetries_row_tie rfl ⟨rfl,rfl⟩ (by kernel_rfl) rfl
    (λf fn hf hfn=>by
      obtain rfl:f=8:=Option.some.inj ((show Tryz.prog.funcNamed "billing/billinglaw22.MediationRetries" = some 8 by kernel_rfl).symm.trans hf) |>.symm;obtain rfl:fn=Tryz.f8:=(Option.some.inj (Tryz.func8.symm.trans hfn)).symm;exact ⟨by kernel_rfl,λj t ht=>by
        rw [Tryz.params8] at ht;have hm:t∈[36,30,3]:=by simpa using Array.mem_of_getElem? ht
        have oG:([36,30,3].all λu=>!Tryz.prog.wantsStandIn u)=true:=by kernel_rfl
        exact (show Tryz.prog.wantsStandIn t=false by simpa using zbb.1 oG t hm)⟩)
    (by kernel_rfl)
end Go.Proofs.YtimkfiaffohhkaaGreatDoor
