/- BatchBack: a batch of (few) records is recovered from its file, without rejects; a file of which one byte of a checksum or of a payload was replaced is refused; for every input, with no condition. -/
import Derived.Test.YthoengcicaicoaaGreatDoorY4
set_option linter.unusedSimpArgs false
set_option linter.unusedVariables false
namespace Go.Proofs.YthoengcicaicoaaGreatDoor
open Go.RowKit Go.ChangeShapes Go.WideShapes Go.ChangeAt Go.Abs
def Record.Ok (x:Record):Prop:=(-9223372036854775808≤x.source∧x.source≤9223372036854775807)∧(-9223372036854775808≤x.serial∧x.serial≤9223372036854775807)∧(-9223372036854775808≤x.kind∧x.kind≤9223372036854775807)∧(x.a.length≤maxLen)∧(x.b.length≤maxLen)∧(-9223372036854775808≤x.start∧x.start≤9223372036854775807)∧(-9223372036854775808≤x.units∧x.units≤9223372036854775807)∧(-9223372036854775808≤x.call∧x.call≤9223372036854775807)∧(-9223372036854775808≤x.part∧x.part≤9223372036854775807)∧True∧(-9223372036854775808≤x.trunk∧x.trunk≤9223372036854775807)∧True
set_option maxRecDepth 100000 in
theorem of_Record {r:List D} (h1:r.length=12) (h2:∀ (i:Nat) sh d,([.i .i64,.i .i64,.i .i64,.s,.s,.i .i64,.i .i64,.i .i64,.i .i64,.b,.i .i64,.b]:List Sh)[i]?=some sh→r[i]?=some d→DFits sh d):∃ x:Record,r=Record.row x∧Record.Ok x:=by
  match r,h1 with
  | [d0,d1,d2,d3,d4,d5,d6,d7,d8,d9,d10,d11],_ =>
    obtain ⟨a0,rfl,k0⟩:=(h2 0 _ d0 rfl rfl).i_inv
    obtain ⟨a1,rfl,k1⟩:=(h2 1 _ d1 rfl rfl).i_inv
    obtain ⟨a2,rfl,k2⟩:=(h2 2 _ d2 rfl rfl).i_inv
    obtain ⟨a3,rfl,k3⟩:=(h2 3 _ d3 rfl rfl).s_inv'
    obtain ⟨a4,rfl,k4⟩:=(h2 4 _ d4 rfl rfl).s_inv'
    obtain ⟨a5,rfl,k5⟩:=(h2 5 _ d5 rfl rfl).i_inv
    obtain ⟨a6,rfl,k6⟩:=(h2 6 _ d6 rfl rfl).i_inv
    obtain ⟨a7,rfl,k7⟩:=(h2 7 _ d7 rfl rfl).i_inv
    obtain ⟨a8,rfl,k8⟩:=(h2 8 _ d8 rfl rfl).i_inv
    obtain ⟨a9,rfl⟩:=(h2 9 _ d9 rfl rfl).b_inv
    obtain ⟨a10,rfl,k10⟩:=(h2 10 _ d10 rfl rfl).i_inv
    obtain ⟨a11,rfl⟩:=(h2 11 _ d11 rfl rfl).b_inv
    exact ⟨⟨a0,a1,a2,a3,a4,a5,a6,a7,a8,a9,a10,a11⟩,rfl,⟨k0,k1,k2,k3,k4,k5,k6,k7,k8,trivial,k10,trivial⟩⟩
def Batch.Ok (x:Batch):Prop:=(-9223372036854775808≤x.source∧x.source≤9223372036854775807)∧(-9223372036854775808≤x.number∧x.number≤9223372036854775807)∧(-9223372036854775808≤x.format∧x.format≤9223372036854775807)∧(x.records.length≤maxLen∧∀ z,z∈x.records→Record.Ok z)
set_option maxRecDepth 100000 in
theorem of_Batch {r:List D} (h1:r.length=4) (h2:∀ (i:Nat) sh d,([.i .i64,.i .i64,.i .i64,.sl [.i .i64,.i .i64,.i .i64,.s,.s,.i .i64,.i .i64,.i .i64,.i .i64,.b,.i .i64,.b]]:List Sh)[i]?=some sh→r[i]?=some d→DFits sh d):∃ x:Batch,r=Batch.row x∧Batch.Ok x:=by
  match r,h1 with
  | [d0,d1,d2,d3],_ =>
    obtain ⟨a0,rfl,k0⟩:=(h2 0 _ d0 rfl rfl).i_inv
    obtain ⟨a1,rfl,k1⟩:=(h2 1 _ d1 rfl rfl).i_inv
    obtain ⟨a2,rfl,k2⟩:=(h2 2 _ d2 rfl rfl).i_inv
    obtain ⟨a3,rfl,k3⟩:=DFits.sl_of (h2 3 _ d3 rfl rfl) (fun r a b=>of_Record a b)
    exact ⟨⟨a0,a1,a2,a3⟩,rfl,⟨k0,k1,k2,k3⟩⟩
def Billinglaw12Change.Ok (x:Billinglaw12Change):Prop:=(-9223372036854775808≤x.at_∧x.at_≤9223372036854775807)∧True
theorem u8_inv {d:D} (h:DFits (.i .u8) d):∃ x:UInt8,d=cU8 x:=by
  obtain ⟨x,e,_⟩:=ofB8 [d] rfl (fun i sh d' hi hd=>by
    match i with
    | 0=>simp only [List.getElem?_cons_zero,Option.some.injEq] at hi hd; subst hi hd; exact h
    | _+1=>simp at hd)
  exact ⟨x,by unfold rB8 at e; injection e⟩
set_option maxRecDepth 100000 in
theorem of_Billinglaw12Change {r:List D} (h1:r.length=2) (h2:∀ (i:Nat) sh d,([.i .i64,.i .u8]:List Sh)[i]?=some sh→r[i]?=some d→DFits sh d):∃ x:Billinglaw12Change,r=Billinglaw12Change.row x∧Billinglaw12Change.Ok x:=by
  match r,h1 with
  | [d0,d1],_ =>
    obtain ⟨a0,rfl,k0⟩:=(h2 0 _ d0 rfl rfl).i_inv
    obtain ⟨a1,rfl⟩:=u8_inv (h2 1 _ d1 rfl rfl)
    exact ⟨⟨a0,a1⟩,rfl,⟨k0,trivial⟩⟩
theorem shape31:Go.Abs.shape Tryz.prog 5 31=some ([.i .i64,.i .i64,.i .i64,.sl [.i .i64,.i .i64,.i .i64,.s,.s,.i .i64,.i .i64,.i .i64,.i .i64,.b,.i .i64,.b]]:List Sh):=by kernel_rfl
theorem shape39:Go.Abs.shape Tryz.prog 3 39=some ([.i .i64,.i .u8]:List Sh):=by kernel_rfl
set_option maxRecDepth 100000 in
theorem lifted_BatchBack (os:Os) (started:os.Started) (H:Type) (enc:TypeId×Value→H) :
    ReturnsInHanded {} Tryz.checked os 4 .any (fun w args=>(Rows.batchBackSpec.pre enc Tryz.prog Tryz.f4 [] false w args∧laidMetH Tryz.prog Rows.batchBackRow.laid w)∧sizedMet enc Tryz.prog Tryz.f4 (OpenSpec.ofChange Rows.batchBackSpec) false w args) (Rows.batchBackSpec.post enc Tryz.prog Tryz.f4 false true false false):=by
  refine returnsInHanded_and_shaped (C:=Tryz.checked) (X:=fun w _=>laidMetH Tryz.prog Rows.batchBackRow.laid w) (fun _ _ _ hh h=>h.of_heap hh) own started (by kernel_rfl) Tryz.func4
    (ChangeSpec.witness_shaped (enc:=enc) (C:=Tryz.checked) (os:=os) (X:=fun w _=>laidMetH Tryz.prog Rows.batchBackRow.laid w) false (World.laidAll Tryz.prog os Rows.batchBackRow.laid) #[(.agg #[.int .i64 0,.int .i64 0,.int .i64 0,.slice none 0 0]),(.agg #[.int .i64 0,.int .u8 0])] 8 (World.laidAll_os _ _ _)
      (World.shaped_of_ZipB (by kernel_rfl) (by kernel_rfl)) (by kernel_rfl) (by kernel_rfl) (by kernel_rfl)
      (by rw [MakeChecks.laidMetH_plain _ _ _ (by kernel_rfl)]; exact laidMet_laidAll _ (by kernel_rfl) (by kernel_rfl))) ?_
  intro W base args ds gs before hval0 hW hcnd _ hLaid hShape _
  have hglob:=globs_of_laid (show laidMetH Tryz.prog laidL W from hLaid) hShape
  have hval:∀ (j:Nat) t v,Tryz.f4.params[j]?=some t→args[j]?=some v→Value.okWide Tryz.prog W .any base t v:=hval0
  have hW':=hW
  obtain ⟨p,q,hA0,hV,rfl,hfz,hnd⟩:=hW
  have hA:DataW.TrodAll enc Tryz.prog W 0 (fun _=>true) true Tryz.f4.params.toList args.toList ds p:=hA0
  have hA1:=hA
  rw [Tryz.params4] at hA hval
  obtain ⟨v0,vs0,d0,ds0,p0,q0,hargs,rfl,rfl,h0,r0⟩:=trodAll_cons hA
  obtain ⟨v1,vs1,d1,ds1,p1,q1,rfl,rfl,rfl,h1,r1⟩:=trodAll_cons r0
  obtain ⟨rfl,rfl,rfl⟩:=trodAll_nil r1
  obtain rfl:args=#[v0,v1]:=by cases args; simp_all
  obtain ⟨rfl,rfl⟩:=trodVars_none hV
  obtain ⟨y0,f0,g0,e0⟩:=top_agg shape31 Tryz.underlying31 (hval 0 31 v0 rfl rfl) h0
  obtain ⟨x0,rfl,k0⟩:=of_Batch f0 g0
  obtain ⟨y1,f1,g1,e1⟩:=top_agg shape39 Tryz.underlying39 (hval 1 39 v1 rfl rfl) h1
  obtain ⟨x1,rfl,k1⟩:=of_Billinglaw12Change f1 g1
  clear hA0 hval0
  simp only [List.append_nil] at hW'
  have hlaw:=back_true x0 x1
  refine (c_f_w12_BatchBack hlaw (limW W) W #[v0,v1] hglob ⟨rfl,fun i x v hx hv=>?_⟩).mono fun e W' ⟨v,r,lim',he,hq,hr,hev,hb,hl⟩=>?_
  · match i with
    | 0=>simp at hx hv; subst hx; subst hv; exact e0
    | 1=>simp at hx hv; subst hx; subst hv; exact e1
    | n+2=>simp at hx
  subst he; subst hq; cases hr
  have hA2:DataW.TrodAll enc Tryz.prog W 0 (fun _=>true) true [31,39] [v0,v1] [d0,d1] (p0++p1):=by simpa using hA1
  have hlt:∀ p∈(p0++p1),p.block < W.heap.size:=fun p hp=>hW'.lt p (by simpa using hp)
  exact ⟨_,rfl,post_of_below (pa:=(p0++p1)) (pv:=[]) hW' (fun _ _ _=>trodAll_mk1 (shut_bool Tryz.underlying4 true)) (fun sp hsp=>trodAll_stays laidOut hb sp (by kernel_rfl) hA2 hlt (fun p hp=>hsp p (by simpa using hp))) (fun _ _=>rfl) (by simp)
    hb (ok_one (by kernel_rfl) rfl (okWide_bool_mk Tryz.underlying4 true))⟩
theorem batchBack_holds:Rows.BatchBackSaid :=
  OpenClaim.holds_of_wide 4 Tryz.f4 rfl rfl rfl rfl rfl rfl rfl ⟨rfl,rfl,rfl,rfl,rfl⟩ rfl rfl rfl rfl rfl (by kernel_rfl) Tryz.func4 (by kernel_rfl)
    (of_decide_eq_true (by kernel_rfl)) (by unfold Func.isWrapper; first | (rw [if_pos (by decide +kernel)]; kernel_rfl) | (rw [if_neg (by decide +kernel)]; exact ⟨rfl,rfl⟩))
    (fun os started H enc _=>lifted_BatchBack os started H enc)
theorem batchBack_card:Rows.BatchBackCardSaid :=
  Claim7.holds_tied_plain_at .later [] [.data,.data,.data,.data,.pinned] true (true, "b6b7613ed9d08a0c93ce654e8c7f613a04c9643c5564ade4e0dcd0caa64a6944") false batchBack_holds (fun _ h=>by cases h) (by kernel_rfl) (fun _ h=>by cases h) batchBack_row_tie rfl ⟨rfl,rfl⟩ (by kernel_rfl) rfl
    (fun f fn hf hfn=>by
      obtain rfl:f=4:=Option.some.inj ((show Tryz.prog.funcNamed "billing/billinglaw12.BatchBack" = some 4 by kernel_rfl).symm.trans hf) |>.symm
      obtain rfl:fn=Tryz.f4:=(Option.some.inj (Tryz.func4.symm.trans hfn)).symm
      exact ⟨by kernel_rfl,fun j t ht=>by
        rw [Tryz.params4] at ht
        have hm:t∈[31,39]:=by simpa using Array.mem_of_getElem? ht
        have hall:([31,39].all fun u=>!Tryz.prog.wantsStandIn u)=true:=by kernel_rfl
        exact (show Tryz.prog.wantsStandIn t=false by simpa using List.all_eq_true.1 hall t hm)⟩)
    (by kernel_rfl)
end Go.Proofs.YthoengcicaicoaaGreatDoor
