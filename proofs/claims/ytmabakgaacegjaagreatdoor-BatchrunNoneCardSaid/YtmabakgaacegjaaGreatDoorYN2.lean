/- Our own texts of this seat. -/
import Derived.Test.YtmabakgaacegjaaGreatDoorYN1
import Derived.Test.YtmabakgaacegjaaGreatDoorCards
import Derived.Test.YtmabakgaacegjaaGreatDoorTie
import Derived.Lay
import Derived.LaidSub
import Derived.LaidLaws
import Derived.Lib.LaidTab
import Derived.ProofKit
import Derived.Handy
import Derived.HandedShaped
import Derived.Shelf.Vars
set_option linter.unusedSimpArgs false
set_option linter.unusedVariables false
set_option maxRecDepth 100000
set_option maxHeartbeats 1000000
namespace Go.Proofs.YtmabakgaacegjaaGreatDoor
open Go.RowKit Go.ChangeShapes Go.WideShapes Go.ChangeAt Go.Abs
theorem own:ownKnob Tryz.prog.godebug=none:=by kernel_rfl
theorem laidOut:laidOutB Tryz.prog=true:=by kernel_rfl
section
variable {H:Type} {enc:uE×uB->H}
theorem cl {a:Assume} {C:Checked} {os:Os} {f:FuncId} {fn:Func} {s:ChangeSpec} {conds:O PathCond} {apart fresh handsOn again:Bool} {X:uC->uD uB->Prop}
  (hX:∀ (w w':uC) (args:uD uB),w.heap=w'.heap->X w args->X w' args)
  (own:ownKnob C.prog.godebug=none) (started:os.Started) (u5:C.prog.inits.idxOf? f=none) (nW:C.prog.funcs[f]?=some fn)
  (witness:∃ (w:uC) (tape:Tape) (i:Input),w.os=os/\(w.forCall tape i).Shaped C.prog/\i.vars=[]/\Input.okWide C.prog (w.forCall tape i) .any w.heap.size f i /\
   ((s.pre enc C.prog fn conds apart (w.forCall tape i).memory i.args/\X (w.forCall tape i).memory i.args)/\sizedMet enc C.prog fn (OpenSpec.ofChange s) apart (w.forCall tape i).memory i.args)/\a.holds C.prog (lone (Frame.enter C.prog f i.args .normal) [] (w.forCall tape i)))
  (qn:∀ (W:uC) (base:Nat) (args:uD uB) (ds gs:O (DataW H)) (before:O MemPlace),
   (∀ (j:Nat) t v,fn.params[j]?=some t->args[j]?=some v->Value.okWide C.prog W .any base t v) ->
   DataW.Whole enc C.prog fn.params.toList s.vars apart W args.toList ds gs before ->
   conds.all (PathCond.test C.prog ⟨fn.params.toList,ds,s.plain.varTypes C.prog,gs⟩)=true ->
   (DataW.weightsEach C.prog (fn.params.toList++s.plain.varTypes C.prog) (ds++gs)).all (·<=reachBytes)=true->X W args ->
   W.ShapedOpen C.prog ->
   a.holds C.prog (lone (Frame.enter C.prog f args .normal) [] W) ->
   Calls C.prog f args W λe W'=>∃ v,e=.returned v/\s.post enc C.prog fn apart fresh handsOn again W args v W') :
  ReturnsInHanded a C os f .any (λw args=>(s.pre enc C.prog fn conds apart w args/\X w args)/\sizedMet enc C.prog fn (OpenSpec.ofChange s) apart w args) (s.post enc C.prog fn apart fresh handsOn again):=by
 refine returnsInHanded_of_calls own started u5 witness ?_
 intro w tape i _ Bk _ iE rP u6
 obtain ⟨_,_,_,wO,zg,_,_,_,_,nq⟩:=iE
 have e:wO=fn:=Option.some.inj (zg.symm.trans nW)
 subst e
 obtain ⟨⟨⟨ds,gs,before,hw,hc⟩,hx⟩,hz⟩:=rP
 have xF:=DataW.Whole.of_heap (w':=w.forCall tape i) (by rfl) hw
 refine (qn (w.forCall tape i) w.heap.size i.args ds gs before nq xF hc (hz.weights hw) (hX _ _ _ (by rfl) hx) Bk u6).mono λe W' ⟨v,he,hp⟩=>?_
 subst he
 exact ChangeSpec.post_blind hp
end
def qo:O (String×DataW Unit):=[("math/bits.deBruijn32tab",Rows.laid_math_bits_deBruijn32tab),("math/bits.deBruijn64tab",Rows.laid_math_bits_deBruijn64tab),("internal/strconv.uint64pow10",Rows.laid_internal_strconv_uint64pow10),("unicode/utf8.acceptRanges",Rows.laid_unicode_utf8_acceptRanges),("unicode/utf8.first",Rows.laid_unicode_utf8_first)]
theorem iy {W:uC} (h:laidMetH Tryz.prog qo W) (hs:W.ShapedOpen Tryz.prog):aO W.heap.size W:=by
 rw[MakeChecks.laidMetH_plain _ _ _ (by kernel_rfl)] at h
 have h1:=laidMet.filter (λx=>x.1 == "internal/strconv.uint64pow10") h
 have h2:qo.filter (λx=>x.1 == "internal/strconv.uint64pow10")=[("internal/strconv.uint64pow10",Go.Lib.tabData .u64 Go.Lib.pow10Tab)]:=by kernel_rfl
 rw[h2] at h1
 have hn:Tryz.prog.globalNamed "internal/strconv.uint64pow10" = some 1:=by kernel_rfl
 have h3:=Go.Lib.tabIs_of_head (rest:=[]) hn (t:=303) (by kernel_rfl) Tryz.underlying303 Tryz.underlying78 (by kernel_rfl) (by kernel_rfl) h1
 obtain ⟨m,hm⟩:=cell_of_shapedOpen_int (P:=Tryz.prog) (g:=0) (t:=3) (zero:=#[.int .i64 0]) hs (zaw (by kernel_rfl)) (by kernel_rfl) rfl (by kernel_rfl) (by kernel_rfl) Tryz.underlying3
 unfold Go.Lib.TabIs World.var? at h3
 rw[hn] at h3
 simp only[zat] at h3
 split at h3
 ·rename_i cs ty fr hb
  simp only[Option.some.injEq] at h3
  subst h3
  refine ⟨λx hx=>?_,λk hk=>?_⟩
  ·simp only[GL,List.mem_singleton] at hx
   subst hx
   exact ⟨(zaz.1 hb).1,ty,fr,hb⟩
  ·simp only[GI,List.mem_singleton] at hk
   subst hk
   exact ⟨World.block_lt_of_cell? W _ hm,m,hm⟩
 ·cases h3
end Go.Proofs.YtmabakgaacegjaaGreatDoor
