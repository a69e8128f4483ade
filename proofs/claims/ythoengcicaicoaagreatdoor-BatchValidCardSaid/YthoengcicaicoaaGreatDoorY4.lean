/- Our own texts C1 C2 C3 LS of this seat in one. -/
import Derived.Test.YthoengcicaicoaaGreatDoorY3
import Derived.Deep.Slices
import Derived.ChangeArms
import Derived.ProofKit
import Derived.Below
import Derived.ChangeSame
import Derived.Test.YthoengcicaicoaaGreatDoorCards
import Derived.Test.YthoengcicaicoaaGreatDoorTie
import Derived.Lay
import Derived.LaidSub
import Derived.LaidLaws
import Derived.Lib.LaidTab
import Derived.Handy
import Derived.HandedShaped
import Derived.Shelf.Vars
set_option linter.unusedSimpArgs false
set_option linter.unusedVariables false
set_option linter.unusedSectionVars false
namespace Go.Abs
open Go.RowKit Go.ChangeShapes Go.WideShapes Go.Deep
inductive Sh where
 | i (k:IntKind)
 | b
 | s
 | sl (row:List Sh)
inductive DFits:Sh→D→Prop where
 | i (k:IntKind) (n:Int) (h:(Lit.int k n).wf=true):DFits (.i k) (.ex (.int k n))
 | b (x:Bool):DFits .b (.ex (.bool x))
 | s (l:List UInt8) (h:l.length≤maxLen):DFits .s (.ex (.string ⟨l.toArray⟩))
 | sl (row:List Sh) (rows:List (List D)) (hn:rows.length≤maxLen) (h1:∀ r,r∈rows→r.length=row.length)
   (h:∀ r,r∈rows→∀ (i:Nat) sh d,row[i]?=some sh→r[i]?=some d→DFits sh d):DFits (.sl row) (.sl row.length rows)
def shapeFs (P:Program) (rec:TypeId→Option (List Sh)):List Field→Nat→Option (List Sh)
 | [],_=>some []
 | f :: fs,off=>match rec f.type with
  | some r=>if Nat.beq f.offset off && Nat.beq r.length (P.cellsOf f.type) then (shapeFs P rec fs (off+r.length)).map (r++·) else none
  | none=>none
def shape (P:Program):Nat→TypeId→Option (List Sh)
 | 0,_=>none
 | n+1,t=>match P.underlying t with
  | some (.int k)=>some [.i k]
  | some .bool=>some [.b]
  | some .string=>some [.s]
  | some (.slice e)=>match shape P n e with
   | some r=>if Nat.beq r.length (P.cellsOf e) && Nat.blt 0 r.length then some [.sl r] else none
   | none=>none
  | some (.struct fs)=>match shapeFs P (shape P n) fs.toList 0 with
   | some r=>if Nat.beq r.length (P.cellsOf t) then some r else none
   | none=>none
  | _=>none
def Opens (lim:Nat→Nat) (w:World) (shs:List Sh) (cs:List Value):Prop :=
 ∃ ds:List D,ds.length=shs.length∧cs.length=shs.length∧∀ (i:Nat) sh d c,shs[i]?=some sh→ds[i]?=some d→cs[i]?=some c→DFits sh d∧DRep lim w d c∧c.oneCell'=true
theorem Opens.one {lim:Nat→Nat} {w:World} {sh:Sh} {d:D} {c:Value} (h1:DFits sh d) (h2:DRep lim w d c) (h3:c.oneCell'=true):Opens lim w [sh] [c]:=by
 refine ⟨[d],rfl,rfl,fun i sh' d' c' ha hb hc=>?_⟩
 cases i with
 | zero=>simp at ha hb hc; subst ha; subst hb; subst hc; exact ⟨h1,h2,h3⟩
 | succ i=>simp at ha
theorem Opens.nil {lim:Nat→Nat} {w:World}:Opens lim w [] []:=⟨[],rfl,rfl,fun i _ _ _ h=>by simp at h⟩
theorem Opens.append {lim:Nat→Nat} {w:World} {s1 s2:List Sh} {c1 c2:List Value} (h:Opens lim w s1 c1) (k:Opens lim w s2 c2):Opens lim w (s1++s2) (c1++c2):=by
 obtain ⟨d1,a1,b1,e1⟩:=h
 obtain ⟨d2,a2,b2,e2⟩:=k
 refine ⟨d1++d2,by simp [a1,a2],by simp [b1,b2],fun i sh d c ha hb hc=>?_⟩
 by_cases hi:i < s1.length
 ·rw [List.getElem?_append_left hi] at ha
  rw [List.getElem?_append_left (by omega)] at hb hc
  exact e1 i sh d c ha hb hc
 ·rw [List.getElem?_append_right (by omega)] at ha hb hc
  rw [a1] at hb
  rw [b1] at hc
  exact e2 _ sh d c ha hb hc
section opening
variable {H:Type} {enc:TypeId×Value→H} {P:Program} {w:World} {held:Bool} {lim:Nat→Nat}
theorem opens_fields {rec:TypeId→Option (List Sh)} (cs:List Value):∀ (fs:List Field) (off:Nat) (shs:List Sh),shapeFs P rec fs off=some shs→cs.length=off+shs.length →
  (∀ (i:Nat) f,fs[i]?=some f→∀ r,rec f.type=some r→r.length=P.cellsOf f.type→Opens lim w r ((cs.drop f.offset).take (P.cellsOf f.type)))→Opens lim w shs (cs.drop off)
 | [],off,shs,h,hl,_=>by
  simp [shapeFs] at h; subst h
  rw [List.drop_of_length_le (by simp at hl; omega)]
  exact .nil
 | f :: fs,off,shs,h,hl,hf=>by
  unfold shapeFs at h
  split at h
  ·rename_i r hr
   split at h
   ·rename_i hc
    rw [Bool.and_eq_true] at hc
    replace hc:=And.intro (Nat.eq_of_beq_eq_true hc.1) (Nat.eq_of_beq_eq_true hc.2)
    obtain ⟨rest,hrest,rfl⟩:=Option.map_eq_some_iff.1 h
    simp only [List.length_append] at hl
    have h1:=hf 0 f rfl r hr hc.2
    have h2:=opens_fields cs fs (off+r.length) rest hrest (by omega) fun i g hg=>hf (i+1) g (by simpa using hg)
    have e:cs.drop off=(cs.drop f.offset).take (P.cellsOf f.type)++cs.drop (off+r.length):=by
     rw [hc.1,←hc.2,←List.drop_drop,List.take_append_drop]
    rw [e]
    exact h1.append h2
   ·cases h
  ·cases h
theorem opens_shape (hlim:∀ b off u,w.cell? ⟨b,off,none⟩=some u→off < lim b):∀ (n:Nat) (t:TypeId) (shs:List Sh),shape P n t=some shs→∀ fuel cs x,DataW.trod enc P w 0 (fun _=>true) held fuel t cs=some x→Opens lim w shs cs
 | 0,_,_,h=>by simp [shape] at h
 | n+1,t,shs,h=>by
  intro fuel cs x ht
  unfold shape at h
  split at h
  ·rename_i k hu
   cases h
   obtain ⟨m,rfl,_,hw⟩:=DataW.trod_int hu ht
   exact .one (.i k m hw) (.ex _) rfl
  ·rename_i hu
   cases h
   obtain ⟨b,rfl,_⟩:=DataW.trod_bool hu ht
   exact .one (.b b) (.ex _) rfl
  ·rename_i hu
   cases h
   obtain ⟨⟨a⟩,rfl,_,hs⟩:=DataW.trod_string hu ht
   exact .one (.s a.toList (by simpa [ByteArray.size] using hs)) (.ex _) rfl
  ·rename_i e hu
   split at h
   ·rename_i r hr
    split at h
    ·rename_i hc
     cases h
     rw [Bool.and_eq_true] at hc
     obtain ⟨hc1,hc2⟩:=And.intro (Nat.eq_of_beq_eq_true hc.1) (blt_lt hc.2)
     rcases open_slice hu ht with ⟨rfl,_⟩ | ⟨a,len,cap,m,n',D0,Pl,rfl,hb,hl,hm,hmm,hx,hi⟩
     ·exact .one (.sl r [] (Nat.zero_le _) (fun _ h=>by cases h) (fun _ h=>by cases h)) (.nil _ _) rfl
     ·simp only [if_true] at hmm
      subst hmm
      obtain ⟨F,hF⟩:=choose_lt (n:=m) (p:=fun i (ds:List D)=>ds.length=r.length∧∀ (j:Nat) sh d,r[j]?=some sh→ds[j]?=some d→∃ c,w.cell? (a.add (i*r.length+j))=some c∧DFits sh d∧DRep lim w d c∧c.oneCell'=true) (fun i hi'=>by
       obtain ⟨cs',h1,h2⟩:=hi i hi'
       obtain ⟨ds,k1,k2,k3⟩:=opens_shape hlim n e r hr n' cs' _ h2
       obtain ⟨_,h3,h4⟩:=World.cells?_some h1
       refine ⟨ds,k1,fun j sh d hj hd=>?_⟩
       have hjl:j < r.length:=(List.getElem?_eq_some_iff.1 hj).1
       have hc':cs'[j]?=some (cs'[j]'(by omega)):=List.getElem?_eq_getElem (by omega)
       refine ⟨cs'[j]'(by omega),?_,k3 j sh d _ hj hd hc'⟩
       rw [←hc',←h4 j (by omega),←hc1,Go.Deep.add_add])
      have hfit:DFits (.sl r) (.sl r.length ((List.range len).map F)):=by
       refine .sl r _ (by simp; omega) (fun row hrow=>?_) fun row hrow i sh d hs hd=>?_
       ·obtain ⟨i,hi2,rfl⟩:=List.mem_map.1 hrow
        exact (hF i (by have:=List.mem_range.1 hi2; omega)).1
       ·obtain ⟨i',hi2,rfl⟩:=List.mem_map.1 hrow
        obtain ⟨c,_,hh,_⟩:=(hF i' (by have:=List.mem_range.1 hi2; omega)).2 i sh d hs hd
        exact hh
      refine .one hfit ?_ rfl
      rcases Nat.eq_zero_or_pos m with h0 | h0
      ·subst h0
       have:len=0:=by omega
       subst this
       exact .nil _ _
      ·have hspot:a.spot=none:=by
        obtain ⟨cs',h1,h2⟩:=hi 0 h0
        obtain ⟨_,h3,h4⟩:=World.cells?_some h1
        have h5:=h4 0 (by omega)
        have h6:cs'[0]?=some (cs'[0]'(by omega)):=List.getElem?_eq_getElem (by omega)
        rw [h6] at h5
        unfold World.cell? at h5
        split at h5
        ·split at h5
         ·cases h5
         ·rename_i hsp
          simpa [Addr.add] using hsp
        ·cases h5
       obtain ⟨b,off,sp⟩:=a
       simp only at hspot
       subst hspot
       have hcell:∀ i j,i < m→j < r.length→∀ sh d,r[j]?=some sh→(F i)[j]?=some d→∃ c,w.cell? ⟨b,off+(i*r.length+j),none⟩=some c∧DFits sh d∧DRep lim w d c∧c.oneCell'=true:=fun i j hi' hj sh d hs hd=>by
        obtain ⟨c,h1,h2⟩:=(hF i hi').2 j sh d hs hd
        rw [Addr.add_lit] at h1
        exact ⟨c,h1,h2⟩
       have hlen:((List.range len).map F).length=len:=by simp
       have key:=DRep.sl (lim:=lim) (w:=w) r.length ((List.range len).map F) b off m (by rw [hlen]; exact hl) (fun row hrow=>by
        obtain ⟨i,hi2,rfl⟩:=List.mem_map.1 hrow
        exact (hF i (by have:=List.mem_range.1 hi2; omega)).1) (fun k hk=>by
        rw [hlen] at hk
        have hdiv:k / r.length < len:=Nat.div_lt_of_lt_mul (by rw [Nat.mul_comm]; exact hk)
        have hmod:k % r.length < r.length:=Nat.mod_lt _ hc2
        obtain ⟨c,h1,h2,h3,h4⟩:=hcell (k / r.length) (k % r.length) (by omega) hmod _ _ (List.getElem?_eq_getElem hmod) (List.getElem?_eq_getElem (by rw [(hF _ (by omega)).1]; exact hmod))
        have e:k / r.length*r.length+k % r.length=k:=by rw [Nat.mul_comm]; exact Nat.div_add_mod k r.length
        rw [e] at h1
        exact ⟨hlim _ _ _ h1,c,h1,h4⟩) (fun i j row c u h1 h2 h3=>by
        rw [List.getElem?_map] at h1
        obtain ⟨i',hi2,rfl⟩:=Option.map_eq_some_iff.1 h1
        have hil:i < len:=by have:=(List.getElem?_eq_some_iff.1 hi2).1; simpa using this
        have:i'=i:=by rw [List.getElem?_range hil] at hi2; cases hi2; rfl
        subst this
        have hjl:j < r.length:=by have:=(List.getElem?_eq_some_iff.1 h2).1; rw [(hF _ (by omega)).1] at this; exact this
        obtain ⟨c',k1,k2,k3,k4⟩:=hcell i' j (by omega) hjl _ _ (List.getElem?_eq_getElem hjl) h2
        rw [h3] at k1
        cases k1
        exact k3)
       rw [hlen] at key
       exact key
    ·cases h
   ·cases h
  ·rename_i fs hu
   split at h
   ·rename_i r hr
    split at h
    ·rename_i hc
     cases h
     have hc':=Nat.eq_of_beq_eq_true hc
     obtain ⟨ys,n',_,hy,hlen,hyl,hf⟩:=DataW.trod_struct hu ht
     have:=opens_fields (lim:=lim) (w:=w) (P:=P) cs fs.toList 0 _ hr (by omega) fun i f hi r' hr' hl'=>by
      have h1:=hf i f (by simpa using hi)
      have hys:ys[i]?=some (ys[i]'(by have:=(List.getElem?_eq_some_iff.1 hi).1; simp at this; omega)):=List.getElem?_eq_getElem _
      exact opens_shape hlim n f.type r' hr' n' _ _ (h1.trans hys)
     simpa using this
    ·cases h
   ·cases h
  ·cases h
end opening
end Go.Abs
namespace Go.Abs
open Go.RowKit Go.ChangeShapes Go.WideShapes Go.Deep Go.ChangeAt
def limW (w:World) (b:Nat):Nat:=match w.heap[b]? with
 | some (.cells c _ _)=>c.size
 | _=>0
theorem limW_lt (w:World) (b off:Nat) (u:Value) (h:w.cell? ⟨b,off,none⟩=some u):off < limW w b:=by
 unfold World.cell? at h
 unfold limW
 split at h
 ·rename_i c e k hb
  simp only at hb
  rw [hb]
  simp only [Option.isSome_none,Bool.false_eq_true,if_false] at h
  exact (Array.getElem?_eq_some_iff.1 h).1
 ·cases h
theorem Opens.top {lim:Nat→Nat} {w:World} {sh:Sh} {c:Value} (h:Opens lim w [sh] [c]):∃ d,DFits sh d∧DRep lim w d c:=by
 obtain ⟨ds,h1,_,h3⟩:=h
 match ds,h1 with
 | [d],_=>exact ⟨d,(h3 0 sh d c rfl rfl rfl).1,(h3 0 sh d c rfl rfl rfl).2.1⟩
section top
variable {H:Type} {enc:TypeId×Value→H} {P:Program} {w:World} {held:Bool} {r:Reach} {b0:Nat} {t:TypeId} {v:Value} {d:DataW H} {ps:List MemPlace}
theorem top_slice {n:Nat} {e:TypeId} {row:List Sh} (hs:shape P n t=some [.sl row]) (ht:P.underlying t=some (.slice e)) (hv:Value.okWide P w r b0 t v) (h:DataW.Trod enc P w 0 (fun _=>true) held t v d ps):∃ x,DFits (.sl row) x∧DRep (limW w) w x v:=by
 obtain ⟨a,l,c,rfl⟩:=okWide_slice ht hv
 obtain ⟨fuel,hf⟩:=h
 exact (opens_shape (limW_lt w) n t _ hs fuel _ _ hf).top
end top
theorem rows_of {α:Type} {row:α→List D} {p:α→Prop}:∀ {rows:List (List D)},(∀ r,r∈rows→∃ x,p x∧r=row x)→∃ l:List α,rows=l.map row∧∀ x,x∈l→p x
 | [],_=>⟨[],rfl,fun x h=>by cases h⟩
 | r :: rows,h=>by
  obtain ⟨x,hx,rfl⟩:=h r List.mem_cons_self
  obtain ⟨l,rfl,hl⟩:=rows_of (rows:=rows) (row:=row) (p:=p) fun r' hr=>h r' (List.mem_cons_of_mem _ hr)
  exact ⟨x :: l,rfl,fun y hy=>by rcases List.mem_cons.1 hy with rfl | hy; exact hx; exact hl y hy⟩
theorem DFits.sl_inv {row:List Sh} {d:D} (h:DFits (.sl row) d):∃ rows,d=.sl row.length rows∧rows.length≤maxLen∧∀ r,r∈rows→r.length=row.length∧∀ (i:Nat) sh d,row[i]?=some sh→r[i]?=some d→DFits sh d:=by
 cases h with
 | sl _ rows hn h1 h=>exact ⟨rows,rfl,hn,fun r hr=>⟨h1 r hr,h r hr⟩⟩
section
variable {H:Type} {enc:TypeId×Value→H} {P:Program}
theorem post_of_below {f:Func} {s:ChangeSpec} {apart fresh handsOn again:Bool} {W W':World} {args:Array Value} {v:Value} {ds gs:List (DataW H)} {before pa pv:List MemPlace}
  (hW:DataW.Whole enc P f.params.toList s.vars apart W args.toList ds gs before)
  (hres:∀ (b:Nat) (sp:Nat→Bool) (hd:Bool),DataW.TrodAll enc P W' b sp hd f.resultTypes.toList (v.resultList f.resultTypes.size) (s.fn H (ds++gs)).results [])
  (hargs:∀ sp:Nat→Bool,(∀ p∈before,sp p.block=true)→DataW.TrodAll enc P W' 0 sp true f.params.toList args.toList (s.fn H (ds++gs)).args pa)
  (hvars:∀ sp:Nat→Bool,(∀ p∈before,sp p.block=true)→DataW.TrodVars enc P W' sp s.vars (s.fn H (ds++gs)).vars pv)
  (hps:before=pa++pv) (hb:Below W.heap.size W W')
  (hok:∀ (j:Nat) (t:TypeId) (r:Value),f.resultTypes[j]?=some t→(v.resultList f.resultTypes.size)[j]?=some r→Value.okWide P W' .any 0 t r) :
  s.post enc P f apart fresh handsOn again W args v W':=by
 have hlt:∀ p∈before,p.block < W.heap.size:=fun p hp=>hW.lt p hp
 have hold:∀ p∈before,(fun b=>decide (b < W.heap.size)) p.block=true:=fun p hp=>by simpa using hlt p hp
 refine ⟨ds,gs,before,[],pa,pv,hW,hres _ _ _,hargs _ hold,hvars _ hold,World.keptBut_mono (fun p hp=>⟨hp,?_⟩) (hb.frame (·∈before)),fun _=>?_⟩
 ·rw [hps,List.mem_append] at hp
  exact Or.inr hp
 ·obtain ⟨_,_,_,_,_,hz,hn⟩:=hW
  refine ⟨hok,_,_,([]++pa)++pv,⟨[]++pa,pv,trodAll_append (hargs _ (fun _ _=>rfl)) (hres _ _ _),hvars _ (fun _ _=>rfl),rfl,?_,?_⟩,?_⟩
  ·intro b off hp
   have hin:MemPlace.cell b off∈before:=by rw [hps]; simpa using hp
   rw [hb.frozen (hlt _ hin)]
   exact hz b off hin
  ·intro ha
   have:=hn ha
   rw [hps] at this
   simpa using this
  ·intro p hp _
   rw [hps]
   simpa using hp
end
theorem trodAll_stays {H:Type} {enc:TypeId×Value→H} {P:Program} (hl:laidOutB P=true) {W W':World} (hb:Below W.heap.size W W') (sp:Nat→Bool):∀ {ts:List TypeId} {vs:List Value} {ds:List (DataW H)} {ps:List MemPlace},
  (ts.all fun t=>P.readableRec t && decide (t < P.types.size))=true→DataW.TrodAll enc P W 0 (fun _=>true) true ts vs ds ps→(∀ x∈ps,x.block < W.heap.size)→(∀ x∈ps,sp x.block=true)→DataW.TrodAll enc P W' 0 sp true ts vs ds ps
 | [],[],[],_,_,h,_,_=>h
 | t :: ts,v :: vs,d :: ds,ps,hr,h,hlt,hsp=>by
  obtain ⟨p,q,h1,h2,rfl⟩:=h
  simp only [List.all_cons,Bool.and_eq_true,decide_eq_true_eq] at hr
  refine ⟨p,q,?_,?_,rfl⟩
  ·exact WideElems.Trod_stays hl hr.1.1 hr.1.2 h1 (fun x hx=>hb.same (hlt x (List.mem_append_left _ hx))) (fun x hx=>hsp x (List.mem_append_left _ hx))
  ·exact trodAll_stays hl hb sp (by simpa using hr.2) h2 (fun x hx=>hlt x (List.mem_append_right _ hx)) (fun x hx=>hsp x (List.mem_append_right _ hx))
theorem rows_of' {α:Type} {row:α→List D} {p:α→Prop} {rows:List (List D)} (h:∀ r,r∈rows→∃ x,r=row x∧p x):∃ l:List α,rows=l.map row∧∀ x,x∈l→p x :=
 rows_of fun r hr=>let ⟨x,h1,h2⟩:=h r hr; ⟨x,h2,h1⟩
theorem DFits.sl_of {sh:List Sh} {d:D} {α:Type} {row:α→List D} {p:α→Prop} (h:DFits (.sl sh) d)
  (hr:∀ r:List D,r.length=sh.length→(∀ (i:Nat) h d,sh[i]?=some h→r[i]?=some d→DFits h d)→∃ x,r=row x∧p x) :
  ∃ l:List α,d=.sl sh.length (l.map row)∧l.length≤maxLen∧∀ z,z∈l→p z:=by
 obtain ⟨rows,rfl,hn,h2⟩:=h.sl_inv
 obtain ⟨l,rfl,hl⟩:=rows_of' (row:=row) (p:=p) fun r hrm=>hr r (h2 r hrm).1 (h2 r hrm).2
 exact ⟨l,rfl,by simpa using hn,hl⟩
theorem ofB8 (r:List D) (h1:r.length=1) (h2:∀ (i:Nat) sh d,([.i .u8]:List Sh)[i]?=some sh→r[i]?=some d→DFits sh d):∃ x:UInt8,r=rB8 x∧True:=by
 match r,h1 with
 | [d],_ =>
  have h:=h2 0 _ d rfl rfl
  cases h with
  | i _ n hw =>
   simp [Lit.wf,IntKind.min,IntKind.max,IntKind.signed,IntKind.bits] at hw
   refine ⟨UInt8.ofNat n.toNat,?_,trivial⟩
   have:((UInt8.ofNat n.toNat).toNat:Int)=n:=by simp [UInt8.toNat_ofNat']; omega
   unfold rB8
   rw [this]
section top
variable {H:Type} {enc:TypeId×Value→H} {P:Program} {w:World} {held:Bool} {r:Reach} {b0:Nat} {t:TypeId} {v:Value} {d:DataW H} {ps:List MemPlace}
end top
end Go.Abs
namespace Go.Proofs.YthoengcicaicoaaGreatDoor
open Go.RowKit Go.ChangeShapes Go.WideShapes Go.ChangeAt Go.Abs
theorem own:ownKnob Tryz.prog.godebug=none:=by kernel_rfl
theorem laidOut:laidOutB Tryz.prog=true:=by kernel_rfl
section
variable {H:Type} {enc:TypeId×Value→H}
theorem returnsInHanded_and_shaped {a:Assume} {C:Checked} {os:Os} {f:FuncId} {fn:Func} {s:ChangeSpec} {conds:List PathCond} {apart fresh handsOn again:Bool} {X:World→Array Value→Prop}
  (hX:∀ (w w':World) (args:Array Value),w.heap=w'.heap→X w args→X w' args)
  (own:ownKnob C.prog.godebug=none) (started:os.Started) (noInit:C.prog.inits.idxOf? f=none) (hfn:C.prog.funcs[f]?=some fn)
  (witness:∃ (w:World) (tape:Tape) (i:Input),w.os=os∧(w.forCall tape i).Shaped C.prog∧i.vars=[]∧Input.okWide C.prog (w.forCall tape i) .any w.heap.size f i ∧
   ((s.pre enc C.prog fn conds apart (w.forCall tape i).memory i.args∧X (w.forCall tape i).memory i.args)∧sizedMet enc C.prog fn (OpenSpec.ofChange s) apart (w.forCall tape i).memory i.args)∧a.holds C.prog (lone (Frame.enter C.prog f i.args .normal) [] (w.forCall tape i)))
  (contract:∀ (W:World) (base:Nat) (args:Array Value) (ds gs:List (DataW H)) (before:List MemPlace),
   (∀ (j:Nat) t v,fn.params[j]?=some t→args[j]?=some v→Value.okWide C.prog W .any base t v) →
   DataW.Whole enc C.prog fn.params.toList s.vars apart W args.toList ds gs before →
   conds.all (PathCond.test C.prog ⟨fn.params.toList,ds,s.plain.varTypes C.prog,gs⟩)=true →
   (DataW.weightsEach C.prog (fn.params.toList++s.plain.varTypes C.prog) (ds++gs)).all (·≤reachBytes)=true→X W args →
   W.ShapedOpen C.prog →
   a.holds C.prog (lone (Frame.enter C.prog f args .normal) [] W) →
   Calls C.prog f args W fun e W'=>∃ v,e=.returned v∧s.post enc C.prog fn apart fresh handsOn again W args v W') :
  ReturnsInHanded a C os f .any (fun w args=>(s.pre enc C.prog fn conds apart w args∧X w args)∧sizedMet enc C.prog fn (OpenSpec.ofChange s) apart w args) (s.post enc C.prog fn apart fresh handsOn again):=by
 refine returnsInHanded_of_calls own started noInit witness ?_
 intro w tape i _ hsh _ hok hpre hholds
 obtain ⟨_,_,_,fn',hfn',_,_,_,_,hval⟩:=hok
 have e:fn'=fn:=Option.some.inj (hfn'.symm.trans hfn)
 subst e
 obtain ⟨⟨⟨ds,gs,before,hw,hc⟩,hx⟩,hz⟩:=hpre
 have hw':=DataW.Whole.of_heap (w':=w.forCall tape i) (by rfl) hw
 refine (contract (w.forCall tape i) w.heap.size i.args ds gs before hval hw' hc (hz.weights hw) (hX _ _ _ (by rfl) hx) hsh hholds).mono fun e W' ⟨v,he,hp⟩=>?_
 subst he
 exact ChangeSpec.post_blind hp
end
def laidL:List (String×DataW Unit):=[("math/bits.deBruijn32tab",Rows.laid_math_bits_deBruijn32tab),("math/bits.deBruijn64tab",Rows.laid_math_bits_deBruijn64tab),("internal/strconv.uint64pow10",Rows.laid_internal_strconv_uint64pow10),("unicode/utf8.acceptRanges",Rows.laid_unicode_utf8_acceptRanges),("unicode/utf8.first",Rows.laid_unicode_utf8_first)]
theorem globs_of_laid {W:World} (h:laidMetH Tryz.prog laidL W) (hs:W.ShapedOpen Tryz.prog):Globs W.heap.size W:=by
 rw [MakeChecks.laidMetH_plain _ _ _ (by kernel_rfl)] at h
 have h1:=laidMet.filter (fun x=>x.1 == "internal/strconv.uint64pow10") h
 have h2:laidL.filter (fun x=>x.1 == "internal/strconv.uint64pow10")=[("internal/strconv.uint64pow10",Go.Lib.tabData .u64 Go.Lib.pow10Tab)]:=by kernel_rfl
 rw [h2] at h1
 have hn:Tryz.prog.globalNamed "internal/strconv.uint64pow10" = some 1:=by kernel_rfl
 have h3:=Go.Lib.tabIs_of_head (rest:=[]) hn (t:=182) (by kernel_rfl) Tryz.underlying182 Tryz.underlying122 (by kernel_rfl) (by kernel_rfl) h1
 obtain ⟨m,hm⟩:=cell_of_shapedOpen_int (P:=Tryz.prog) (g:=0) (t:=3) (zero:=#[.int .i64 0]) hs (of_decide_eq_true (by kernel_rfl)) (by kernel_rfl) rfl (by kernel_rfl) (by kernel_rfl) Tryz.underlying3
 unfold Go.Lib.TabIs World.var? at h3
 rw [hn] at h3
 simp only [Option.bind_some] at h3
 split at h3
 ·rename_i cs ty fr hb
  simp only [Option.some.injEq] at h3
  subst h3
  refine ⟨fun x hx=>?_,fun k hk=>?_⟩
  ·simp only [GL,List.mem_singleton] at hx
   subst hx
   exact ⟨(Array.getElem?_eq_some_iff.1 hb).1,ty,fr,hb⟩
  ·simp only [GI,List.mem_singleton] at hk
   subst hk
   exact ⟨World.block_lt_of_cell? W _ hm,m,hm⟩
 ·cases h3
end Go.Proofs.YthoengcicaicoaaGreatDoor
