/- BatchValid: a batch that is read is valid, and its totals are those of its records, as are those of its file: written again and read, it is the same (at most 3000 bytes); for every input, with no condition. -/
import Derived.Test.YthoengcicaicoaaGreatDoorY4
set_option linter.unusedSimpArgs false
set_option linter.unusedVariables false
namespace Go.Proofs.YthoengcicaicoaaGreatDoor
open Go.RowKit Go.ChangeShapes Go.WideShapes Go.ChangeAt Go.Abs

theorem shape22:Go.Abs.shape Tryz.prog 3 22=some ([.sl [.i .u8]]:List Sh):=by kernel_rfl
set_option maxRecDepth 100000 in
theorem lifted_BatchValid (os:Os) (started:os.Started) (H:Type) (enc:TypeId×Value→H) :
    ReturnsInHanded {} Tryz.checked os 5 .any (fun w args=>(Rows.batchValidSpec.pre enc Tryz.prog Tryz.f5 [] false w args∧laidMetH Tryz.prog Rows.batchValidRow.laid w)∧sizedMet enc Tryz.prog Tryz.f5 (OpenSpec.ofChange Rows.batchValidSpec) false w args) (Rows.batchValidSpec.post enc Tryz.prog Tryz.f5 false true false false):=by
  refine returnsInHanded_and_shaped (C:=Tryz.checked) (X:=fun w _=>laidMetH Tryz.prog Rows.batchValidRow.laid w) (fun _ _ _ hh h=>h.of_heap hh) own started (by kernel_rfl) Tryz.func5
    (ChangeSpec.witness_shaped (enc:=enc) (C:=Tryz.checked) (os:=os) (X:=fun w _=>laidMetH Tryz.prog Rows.batchValidRow.laid w) false (World.laidAll Tryz.prog os Rows.batchValidRow.laid) #[.slice none 0 0] 8 (World.laidAll_os _ _ _)
      (World.shaped_of_ZipB (by kernel_rfl) (by kernel_rfl)) (by kernel_rfl) (by kernel_rfl) (by kernel_rfl)
      (by rw [MakeChecks.laidMetH_plain _ _ _ (by kernel_rfl)]; exact laidMet_laidAll _ (by kernel_rfl) (by kernel_rfl))) ?_
  intro W base args ds gs before hval0 hW hcnd _ hLaid hShape _
  have hglob:=globs_of_laid (show laidMetH Tryz.prog laidL W from hLaid) hShape
  have hval:∀ (j:Nat) t v,Tryz.f5.params[j]?=some t→args[j]?=some v→Value.okWide Tryz.prog W .any base t v:=hval0
  have hW':=hW
  obtain ⟨p,q,hA0,hV,rfl,hfz,hnd⟩:=hW
  have hA:DataW.TrodAll enc Tryz.prog W 0 (fun _=>true) true Tryz.f5.params.toList args.toList ds p:=hA0
  have hA1:=hA
  rw [Tryz.params5] at hA hval
  obtain ⟨v0,vs0,d0,ds0,p0,q0,hargs,rfl,rfl,h0,r0⟩:=trodAll_cons hA
  obtain ⟨rfl,rfl,rfl⟩:=trodAll_nil r0
  obtain rfl:args=#[v0]:=by cases args; simp_all
  obtain ⟨rfl,rfl⟩:=trodVars_none hV
  obtain ⟨y0,f0,e0⟩:=top_slice shape22 Tryz.underlying22 (hval 0 22 v0 rfl rfl) h0
  obtain ⟨x0,rfl,k0⟩:=DFits.sl_of (row:=rB8) (p:=fun _=>True) f0 ofB8
  clear hA0 hval0
  simp only [List.append_nil] at hW'
  have hlaw:=valid_true x0
  refine (c_f_w12_BatchValid hlaw (limW W) W #[v0] hglob ⟨rfl,fun i x v hx hv=>?_⟩).mono fun e W' ⟨v,r,lim',he,hq,hr,hev,hb,hl⟩=>?_
  · match i with
    | 0=>simp at hx hv; subst hx; subst hv; exact e0
    | n+1=>simp at hx
  subst he; subst hq; cases hr
  have hA2:DataW.TrodAll enc Tryz.prog W 0 (fun _=>true) true [22] [v0] [d0] (p0):=by simpa using hA1
  have hlt:∀ p∈(p0),p.block < W.heap.size:=fun p hp=>hW'.lt p (by simpa using hp)
  exact ⟨_,rfl,post_of_below (pa:=(p0)) (pv:=[]) hW' (fun _ _ _=>trodAll_mk1 (shut_bool Tryz.underlying4 true)) (fun sp hsp=>trodAll_stays laidOut hb sp (by kernel_rfl) hA2 hlt (fun p hp=>hsp p (by simpa using hp))) (fun _ _=>rfl) (by simp)
    hb (ok_one (by kernel_rfl) rfl (okWide_bool_mk Tryz.underlying4 true))⟩
theorem batchValid_holds:Rows.BatchValidSaid :=
  OpenClaim.holds_of_wide 5 Tryz.f5 rfl rfl rfl rfl rfl rfl rfl ⟨rfl,rfl,rfl,rfl,rfl⟩ rfl rfl rfl rfl rfl (by kernel_rfl) Tryz.func5 (by kernel_rfl)
    (of_decide_eq_true (by kernel_rfl)) (by unfold Func.isWrapper; first | (rw [if_pos (by decide +kernel)]; kernel_rfl) | (rw [if_neg (by decide +kernel)]; exact ⟨rfl,rfl⟩))
    (fun os started H enc _=>lifted_BatchValid os started H enc)
theorem batchValid_card:Rows.BatchValidCardSaid :=
  Claim7.holds_tied_plain_at .later [] [.data,.data,.data,.data,.pinned] true (true, "b6b7613ed9d08a0c93ce654e8c7f613a04c9643c5564ade4e0dcd0caa64a6944") false batchValid_holds (fun _ h=>by cases h) (by kernel_rfl) (fun _ h=>by cases h) batchValid_row_tie rfl ⟨rfl,rfl⟩ (by kernel_rfl) rfl
    (fun f fn hf hfn=>by
      obtain rfl:f=5:=Option.some.inj ((show Tryz.prog.funcNamed "billing/billinglaw12.BatchValid" = some 5 by kernel_rfl).symm.trans hf) |>.symm
      obtain rfl:fn=Tryz.f5:=(Option.some.inj (Tryz.func5.symm.trans hfn)).symm
      exact ⟨by kernel_rfl,fun j t ht=>by
        rw [Tryz.params5] at ht
        have hm:t∈[22]:=by simpa using Array.mem_of_getElem? ht
        have hall:([22].all fun u=>!Tryz.prog.wantsStandIn u)=true:=by kernel_rfl
        exact (show Tryz.prog.wantsStandIn t=false by simpa using List.all_eq_true.1 hall t hm)⟩)
    (by kernel_rfl)
end Go.Proofs.YthoengcicaicoaaGreatDoor
