/- BatchrunNone: a job that nobody made does nothing; for every input, with no condition. -/
import Derived.Test.YtmabakgaacegjaaGreatDoorYN2
set_option linter.unusedSimpArgs false
set_option linter.unusedVariables false
set_option maxRecDepth 100000
set_option maxHeartbeats 1000000
namespace Go.Proofs.YtmabakgaacegjaaGreatDoor
open Go.RowKit Go.ChangeShapes Go.WideShapes Go.ChangeAt Go.Abs
theorem u7 (a b:Int):bj Tryz.prog 3 [.agg [.ex (.int .i64 a),.ex (.int .i64 b)]] (·=.ex (.bool true)) :=
  Go.CI.uX (xs:=[.a [.c (.int .i64 a),.c (.int .i64 b)]]) u4 (by kernel_rfl) (by kernel_rfl) (Go.CI.uY a b)
structure aA where
  w9:Int
  n:Int
instance:Inhabited aA:=⟨⟨default,default⟩⟩
def aA.row (x:aA):O D:=[cI x.w9,cI x.n]
def aA.Bl (x:aA):O uB:=[.int .i64 x.w9,.int .i64 x.n]
def aA.Ok (x:aA):Prop:=(-9223372036854775808<=x.w9/\x.w9<=9223372036854775807)/\(-9223372036854775808<=x.n/\x.n<=9223372036854775807)
theorem eC {r:List D} (h1:r.length=2) (h2:∀ (i:Nat) sh d,([.i .i64,.i .i64]:List Sh)[i]?=some sh->r[i]?=some d->cw sh d):∃ x:aA,r=aA.row x/\aA.Ok x:=by
  match r,h1 with
  | [d0,d1],_ =>
    obtain ⟨a0,rfl,k0⟩:=(h2 0 _ d0 rfl rfl).sZ
    obtain ⟨a1,rfl,k1⟩:=(h2 1 _ d1 rfl rfl).sZ
    exact ⟨⟨a0,a1⟩,rfl,⟨k0,k1⟩⟩
theorem sb:Go.Abs.shape Tryz.prog 3 23=some ([.i .i64,.i .i64]:O Sh):=by kernel_rfl
theorem dR (os:Os) (started:os.Started) (H:Type) (enc:uE×uB->H) :
    ReturnsInHanded {} Tryz.checked os 3 .any (λw args=>(Rows.batchrunNoneSpec.pre enc Tryz.prog Tryz.f3 [] false w args/\laidMetH Tryz.prog Rows.batchrunNoneRow.laid w)/\sizedMet enc Tryz.prog Tryz.f3 (OpenSpec.ofChange Rows.batchrunNoneSpec) false w args) (Rows.batchrunNoneSpec.post enc Tryz.prog Tryz.f3 false true false false):=by
  refine cl (C:=Tryz.checked) (X:=λw _=>laidMetH Tryz.prog Rows.batchrunNoneRow.laid w) (λ_ _ _ hh h=>h.of_heap hh) own started (by kernel_rfl) Tryz.func3
    (ChangeSpec.witness_shaped (enc:=enc) (C:=Tryz.checked) (os:=os) (X:=λw _=>laidMetH Tryz.prog Rows.batchrunNoneRow.laid w) false (World.laidAll Tryz.prog os Rows.batchrunNoneRow.laid) #[(.agg #[.int .i64 0,.int .i64 0])] 8 (World.laidAll_os _ _ _)
      (World.shaped_of_ZipB (by kernel_rfl) (by kernel_rfl)) (by kernel_rfl) (by kernel_rfl) (by kernel_rfl)
      (by rw[MakeChecks.laidMetH_plain _ _ _ (by kernel_rfl)];exact laidMet_laidAll _ (by kernel_rfl) (by kernel_rfl))) ?_
  intro W base args ds gs before s5 hW Bm _ xa u9 _
  have oa:=iy (show laidMetH Tryz.prog qo W from xa) u9
  have nq:∀ (j:Nat) t v,Tryz.f3.params[j]?=some t->args[j]?=some v->Value.okWide Tryz.prog W .any base t v:=s5
  have zh:=hW
  obtain ⟨p,q,z6,hV,rfl,zJ,vd⟩:=hW
  have hA:DataW.TrodAll enc Tryz.prog W 0 (λ_=>true) true Tryz.f3.params.toList args.toList ds p:=z6
  have Bn:=hA
  rw[Tryz.params3] at hA nq
  obtain ⟨v0,BD,d0,BE,p0,q0,kC,rfl,rfl,h0,r0⟩:=trodAll_cons hA
  obtain ⟨rfl,rfl,rfl⟩:=trodAll_nil r0
  obtain rfl:args=#[v0]:=by cases args;simp_all
  obtain ⟨rfl,rfl⟩:=trodVars_none hV
  obtain ⟨y0,f0,g0,e0⟩:=sa sb Tryz.underlying23 (nq 0 23 v0 rfl rfl) h0
  obtain ⟨x0,rfl,k0⟩:=eC f0 g0
  clear z6 s5
  simp only[zbr] at zh
  have zi:=u7 x0.w9 x0.n
  refine (zi (rY W) W #[v0] oa ⟨rfl,λi x v hx hv=>?_⟩).mono λe W' ⟨v,r,aC,he,hq,hr,pS,hb,hl⟩=>?_
  · match i with
    | 0=>simp at hx hv;subst hx;subst hv;exact e0
    | n+1=>simp at hx
  subst he;subst hq;cases hr
  have Bo:DataW.TrodAll enc Tryz.prog W 0 (λ_=>true) true [23] [v0] [d0] (p0):=by simpa using Bn
  have aG:∀ p∈(p0),p.block<W.heap.size:=λp hp=>zh.lt p (by simpa using hp)
  exact ⟨_,rfl,ix (pa:=(p0)) (pv:=[]) zh (λ_ _ _=>trodAll_mk1 (shut_bool Tryz.underlying4 true)) (λsp vy=>ec laidOut hb sp (by kernel_rfl) Bo aG (λp hp=>vy p (by simpa using hp))) (λ_ _=>rfl) (by simp)
    hb (ok_one (by kernel_rfl) rfl (okWide_bool_mk Tryz.underlying4 true))⟩
theorem eD:Rows.BatchrunNoneSaid :=
  OpenClaim.holds_of_wide 3 Tryz.f3 rfl rfl rfl rfl rfl rfl rfl ⟨rfl,rfl,rfl,rfl,rfl⟩ rfl rfl rfl rfl rfl (by kernel_rfl) Tryz.func3 (by kernel_rfl)
    (zaw (by kernel_rfl)) (by unfold Func.isWrapper;first|(rw[zam (by decide +kernel)];kernel_rfl)|(rw[zaj (by decide +kernel)];exact ⟨rfl,rfl⟩))
    (λos started H enc _=>dR os started H enc)
theorem batchrunNone_card:Rows.BatchrunNoneCardSaid :=
  Claim7.holds_tied_plain_at .later [] [.data,.data,.data,.data,.pinned] true (true, "b6322bba0e8e8b14ba9e40f710a61ac92fd41a452ec5528a6415b62810363244") false eD (λ_ h=>by cases h) (by kernel_rfl) (λ_ h=>by cases h) batchrunNone_row_tie rfl ⟨rfl,rfl⟩ (by kernel_rfl) rfl
    (λf fn hf nW=>by
      obtain rfl:f=3:=Option.some.inj ((show Tryz.prog.funcNamed "billing/billinglaw53.BatchrunNone" = some 3 by kernel_rfl).symm.trans hf) |>.symm
      obtain rfl:fn=Tryz.f3:=(Option.some.inj (Tryz.func3.symm.trans nW)).symm
      exact ⟨by kernel_rfl,λj t ht=>by
        rw[Tryz.params3] at ht
        have hm:t∈[23]:=by simpa using Array.mem_of_getElem? ht
        have bF:([23].all λu=>!Tryz.prog.wantsStandIn u)=true:=by kernel_rfl
        exact (show Tryz.prog.wantsStandIn t=false by simpa using zas.1 bF t hm)⟩)
    (by kernel_rfl)
end Go.Proofs.YtmabakgaacegjaaGreatDoor
