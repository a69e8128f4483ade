/- AssureIntake: the intake is compared as defined, and no record is missing; for every input, with no condition. -/
import Derived.Test.YtpdanklncjopoaaYI4
set_option linter.unusedSimpArgs false
set_option linter.unusedVariables false
set_option maxRecDepth 100000
set_option maxHeartbeats 1000000
namespace Go.Proofs.Ytpdanklncjopoaa
open Go.RowKit Go.ChangeShapes Go.WideShapes Go.ChangeAt Go.Abs
theorem own:ownKnob Try.prog.godebug=none:=by kernel_rfl
theorem laidOut:laidOutB Try.prog=true:=by kernel_rfl
def Event.Ok (x:Event):Prop:=(-9223372036854775808<=x.at_/\x.at_<=9223372036854775807)/\(-9223372036854775808<=x.kind/\x.kind<=9223372036854775807)/\(-9223372036854775808<=x.aH/\x.aH<=9223372036854775807)/\(-9223372036854775808<=x.sub/\x.sub<=9223372036854775807)/\(x.number.length<=maxLen)/\(x.name.length<=maxLen)/\(-9223372036854775808<=x.value/\x.value<=9223372036854775807)
theorem Mu {r:List D} (h1:r.length=7) (h2:∀ (i:Nat) sh d,([.i .i64,.i .i64,.i .i64,.i .i64,.s,.s,.i .i64]:List Sh)[i]?=some sh->r[i]?=some d->fJ sh d):∃ x:Event,r=Event.row x/\Event.Ok x:=by
  match r,h1 with
  | [d0,d1,d2,d3,d4,d5,d6],_ =>
    obtain ⟨a0,rfl,k0⟩:=(h2 0 _ d0 rfl rfl).Fk
    obtain ⟨a1,rfl,k1⟩:=(h2 1 _ d1 rfl rfl).Fk
    obtain ⟨a2,rfl,k2⟩:=(h2 2 _ d2 rfl rfl).Fk
    obtain ⟨a3,rfl,k3⟩:=(h2 3 _ d3 rfl rfl).Fk
    obtain ⟨a4,rfl,k4⟩:=(h2 4 _ d4 rfl rfl).Mr
    obtain ⟨a5,rfl,k5⟩:=(h2 5 _ d5 rfl rfl).Mr
    obtain ⟨a6,rfl,k6⟩:=(h2 6 _ d6 rfl rfl).Fk
    exact ⟨⟨a0,a1,a2,a3,a4,a5,a6⟩,rfl,⟨k0,k1,k2,k3,k4,k5,k6⟩⟩
theorem TX (r:List D) (h1:r.length=1) (h2:∀ (i:Nat) sh d,([.sl [.i .u8]]:List Sh)[i]?=some sh->r[i]?=some d->fJ sh d):∃ x:List uA,r=Kf 1 cq x/\x.length<=maxLen:=by
  match r,h1 with
  | [d],_ =>
    obtain ⟨l,e,k⟩:=fJ.Mt (row:=cq) (p:=λ_=>True) (h2 0 _ d rfl rfl) VZ
    subst e
    exact ⟨l,rfl,k.1⟩
theorem Ox:Go.Abs.shape Try.prog 4 22=some ([.sl [.i .i64,.i .i64,.i .i64,.i .i64,.s,.s,.i .i64]]:O Sh):=by kernel_rfl
theorem Oy:Go.Abs.shape Try.prog 4 23=some ([.sl [.sl [.i .u8]]]:O Sh):=by kernel_rfl
theorem tx (os:Os) (started:os.Started) (H:Type) (enc:uE×uB->H) :
    ReturnsInHanded {} Try.checked os 3 .any (Rows.assureIntakeSpec.pre6 enc Try.prog Try.f3 Rows.assureIntakeRow.domain false) (Rows.assureIntakeSpec.post enc Try.prog Try.f3 false true false false):=by
  refine returnsInHanded_of_change (C:=Try.checked) own started (by kernel_rfl) Try.func3
    (ChangeSpec.witness6 (enc:=enc) (C:=Try.checked) false ⟨#[],#[.slice none 0 0,.slice none 0 0,.int .i64 0],[]⟩ 8 (by kernel_rfl) (by kernel_rfl) (by kernel_rfl) (by kernel_rfl)) ?_
  intro W base args ds gs before Pm hW X7 _
  have JN:uL W.heap.size W:=⟨λx hx=>(by cases hx),λk hk=>(by cases hk)⟩
  have vN:∀ (j:Nat) t v,Try.f3.params[j]?=some t->args[j]?=some v->Value.okWide Try.prog W .any base t v:=Pm
  have V0:=hW
  obtain ⟨p,q,WQ,hV,rfl,YC,OJ⟩:=hW
  have hA:DataW.TrodAll enc Try.prog W 0 (λ_=>true) true Try.f3.params.toList args.toList ds p:=WQ
  have X8:=hA
  rw[Try.params3] at hA vN
  obtain ⟨v0,YD,d0,YE,p0,q0,Mq,rfl,rfl,h0,r0⟩:=trodAll_cons hA
  obtain ⟨v1,YF,d1,YG,p1,q1,rfl,rfl,rfl,h1,r1⟩:=trodAll_cons r0
  obtain ⟨v2,YH,d2,YI,p2,q2,rfl,rfl,rfl,h2,r2⟩:=trodAll_cons r1
  obtain ⟨rfl,rfl,rfl⟩:=trodAll_nil r2
  obtain rfl:args=#[v0,v1,v2]:=by cases args;simp_all
  obtain ⟨rfl,rfl⟩:=trodVars_none hV
  obtain ⟨y0,f0,e0⟩:=Bt Ox Try.underlying22 (vN 0 22 v0 rfl rfl) h0
  obtain ⟨x0,rfl,k0⟩:=fJ.Mt f0 (λr a b=>Mu a b)
  obtain ⟨y1,f1,e1⟩:=Bt Oy Try.underlying23 (vN 1 23 v1 rfl rfl) h1
  obtain ⟨x1,rfl,k1⟩:=fJ.Mt (row:=Kf 1 cq) (p:=λz=>z.length<=maxLen) f1 TX
  obtain ⟨x2,e2,k2⟩:=Ow Try.underlying3 (vN 2 3 v2 rfl rfl) h2
  clear WQ Pm
  simp only[List.append_nil] at V0
  have V3:=Fj x0 x1 x2 k0.1 k1.1 (λe he=>⟨(k0.2 e he).2.2.2.2.2.1,(k0.2 e he).2.2.2.2.1⟩)
  refine (sK V3 (Mp W) W #[v0,v1,v2] JN ⟨rfl,λi x v hx hv=>?_⟩).mono λe W' ⟨v,r,b9,he,hq,hr,RY,hb,hl⟩=>?_
  · match i with
    | 0=>simp at hx hv;subst hx;subst hv;exact e0
    | 1=>simp at hx hv;subst hx;subst hv;exact e1
    | 2=>simp at hx hv;subst hx;subst hv;exact e2
    | n+3=>simp at hx
  subst he;subst hq;cases hr
  have X9:DataW.TrodAll enc Try.prog W 0 (λ_=>true) true [22,23,3] [v0,v1,v2] [d0,d1,d2] (p0++(p1++(p2))):=by simpa using X8
  have cd:∀ p∈(p0++(p1++(p2))),p.block<W.heap.size:=λp hp=>V0.lt p (by simpa using hp)
  exact ⟨_,rfl,Ay (pa:=(p0++(p1++(p2)))) (pv:=[]) V0 (λ_ _ _=>trodAll_mk1 (shut_bool Try.underlying4 true)) (λsp RM=>tO laidOut hb sp (by kernel_rfl) X9 cd (λp hp=>RM p (by simpa using hp))) (λ_ _=>rfl) (by simp)
    hb (ok_one (by kernel_rfl) rfl (okWide_bool_mk Try.underlying4 true))⟩
theorem assureIntake_holds:Rows.AssureIntakeSaid :=
  OpenClaim.holds_of_wide 3 Try.f3 rfl rfl rfl rfl rfl rfl rfl ⟨rfl,rfl,rfl,rfl,rfl⟩ rfl rfl rfl rfl rfl (by kernel_rfl) Try.func3 (by kernel_rfl)
    (of_decide_eq_true (by kernel_rfl)) (by unfold Func.isWrapper;first|(rw[if_pos (by decide +kernel)];kernel_rfl)|(rw[if_neg (by decide +kernel)];exact ⟨rfl,rfl⟩))
    (λos started H enc _=>tx os started H enc)
end Go.Proofs.Ytpdanklncjopoaa
