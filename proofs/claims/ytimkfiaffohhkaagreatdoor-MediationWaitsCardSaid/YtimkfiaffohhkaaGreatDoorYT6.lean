/- Our own texts of this seat. -/
import Derived.Test.YtimkfiaffohhkaaGreatDoorYT5
import Derived.Deep.Slices
import Derived.ChangeArms
import Derived.ProofKit
import Derived.Below
import Derived.ChangeSame
set_option linter.unusedSimpArgs false
set_option linter.unusedVariables false
set_option linter.unusedSectionVars false
set_option maxRecDepth 100000
set_option maxHeartbeats 1000000
namespace Go.Abs
open Go.RowKit Go.ChangeShapes Go.WideShapes Go.Deep
inductive Sh where
 | i (k:IntKind)
 | b
 | s
 | sl (row:List Sh)
inductive bM:Sh->D->Prop where
 | i (k:IntKind) (n:Int) (h:(Lit.int k n).wf=true):bM (.i k) (.ex (.int k n))
 | b (x:Bool):bM .b (.ex (.bool x))
 | s (l:List UInt8) (h:l.length<=maxLen):bM .s (.ex (.string ⟨l.toArray⟩))
 | sl (row:List Sh) (rows:List (List D)) (hn:rows.length<=maxLen) (h1:∀ r,r∈rows->r.length=row.length)
   (h:∀ r,r∈rows->∀ (i:Nat) sh d,row[i]?=some sh->r[i]?=some d->bM sh d):bM (.sl row) (.sl row.length rows)
def Ci (P:Program) (rec:TypeId->Option (List Sh)):List Field->Nat->Option (List Sh)
 | [],_=>some []
 | f::fs,off=>match rec f.type with
  | some r=>if Nat.beq f.offset off && Nat.beq r.length (P.cellsOf f.type) then (Ci P rec fs (off+r.length)).map (r++·) else none
  | none=>none
def shape (P:Program):Nat->TypeId->Option (List Sh)
 | 0,_=>none
 | n+1,t=>match P.underlying t with
  | some (.int k)=>some [.i k]
  | some .bool=>some [.b]
  | some .string=>some [.s]
  | some (.slice e)=>match shape P n e with
   | some r=>if Nat.beq r.length (P.cellsOf e) && Nat.blt 0 r.length then some [.sl r] else none
   | none=>none
  | some (.struct fs)=>match Ci P (shape P n) fs.toList 0 with
   | some r=>if Nat.beq r.length (P.cellsOf t) then some r else none
   | none=>none
  | _=>none
def wu (lim:Nat->Nat) (w:World) (GB:List Sh) (cs:List Value):Prop :=
 ∃ ds:List D,ds.length=GB.length/\cs.length=GB.length/\∀ (i:Nat) sh d c,GB[i]?=some sh->ds[i]?=some d->cs[i]?=some c->bM sh d/\dA lim w d c/\c.oneCell'=true
theorem wu.one {lim:Nat->Nat} {w:World} {sh:Sh} {d:D} {c:Value} (h1:bM sh d) (h2:dA lim w d c) (h3:c.oneCell'=true):wu lim w [sh] [c]:=by
 refine ⟨[d],rfl,rfl,λi sh' d' c' ha hb hc=>?_⟩;cases i with
 | zero=>simp at ha hb hc;subst ha;subst hb;subst hc;exact ⟨h1,h2,h3⟩
 | succ i=>simp at ha
theorem wu.nil {lim:Nat->Nat} {w:World}:wu lim w [] []:=⟨[],rfl,rfl,λi _ _ _ h=>by simp at h⟩
theorem wu.append {lim:Nat->Nat} {w:World} {s1 s2:List Sh} {c1 c2:List Value} (h:wu lim w s1 c1) (k:wu lim w s2 c2):wu lim w (s1++s2) (c1++c2):=by
 obtain ⟨d1,a1,b1,e1⟩:=h;obtain ⟨d2,a2,b2,e2⟩:=k;refine ⟨d1++d2,by simp [a1,a2],by simp [b1,b2],λi sh d c ha hb hc=>?_⟩;by_cases hi:i<s1.length
 ·rw [zao hi] at ha;rw [zao (by omega)] at hb hc;exact e1 i sh d c ha hb hc
 ·rw [zaw (by omega)] at ha hb hc;rw [a1] at hb;rw [b1] at hc;exact e2 _ sh d c ha hb hc
section opening
variable {H:Type} {enc:TypeId×Value->H} {P:Program} {w:World} {held:Bool} {lim:Nat->Nat}
theorem Cj {rec:TypeId->Option (List Sh)} (cs:List Value):∀ (fs:List Field) (off:Nat) (GB:List Sh),Ci P rec fs off=some GB->cs.length=off+GB.length ->
  (∀ (i:Nat) f,fs[i]?=some f->∀ r,rec f.type=some r->r.length=P.cellsOf f.type->wu lim w r ((cs.drop f.offset).take (P.cellsOf f.type)))->wu lim w GB (cs.drop off)
 | [],off,GB,h,hl,_=>by
  simp [Ci] at h;subst h;rw [zds (by simp at hl;omega)];exact .nil
 | f::fs,off,GB,h,hl,hf=>by
  unfold Ci at h;split at h
  ·rename_i r hr;split at h
   ·rename_i hc;rw [zaq] at hc;replace hc:=And.intro (zav hc.1) (zav hc.2);obtain ⟨rest,BQ,rfl⟩:=zco.1 h;simp only [zak] at hl;have h1:=hf 0 f rfl r hr hc.2;have h2:=Cj cs fs (off+r.length) rest BQ (by omega) λi g hg=>hf (i+1) g (by simpa using hg)
    have e:cs.drop off=(cs.drop f.offset).take (P.cellsOf f.type)++cs.drop (off+r.length):=by
     rw [hc.1,←hc.2,←List.drop_drop,zff]
    rw [e];exact h1.append h2
   ·cases h
  ·cases h
theorem u7 (Ao:∀ b off u,w.cell? ⟨b,off,none⟩=some u->off<lim b):∀ (n:Nat) (t:TypeId) (GB:List Sh),shape P n t=some GB->∀ fuel cs x,DataW.trod enc P w 0 (λ_=>true) held fuel t cs=some x->wu lim w GB cs
 | 0,_,_,h=>by simp [shape] at h
 | n+1,t,GB,h=>by
  intro fuel cs x ht;unfold shape at h;split at h
  ·rename_i k hu;cases h;obtain ⟨m,rfl,_,hw⟩:=DataW.trod_int hu ht;exact .one (.i k m hw) (.ex _) rfl
  ·rename_i hu;cases h;obtain ⟨b,rfl,_⟩:=DataW.trod_bool hu ht;exact .one (.b b) (.ex _) rfl
  ·rename_i hu;cases h;obtain ⟨⟨a⟩,rfl,_,hs⟩:=DataW.trod_string hu ht;exact .one (.s a.toList (by simpa [ByteArray.size] using hs)) (.ex _) rfl
  ·rename_i e hu;split at h
   ·rename_i r hr;split at h
    ·rename_i hc;cases h;rw [zaq] at hc;obtain ⟨hc1,VO⟩:=And.intro (zav hc.1) (jj hc.2);rcases open_slice hu ht with ⟨rfl,_⟩|⟨a,len,cap,m,n',D0,Pl,rfl,hb,hl,hm,hmm,hx,hi⟩
     ·exact .one (.sl r [] (zfs _) (λ_ h=>by cases h) (λ_ h=>by cases h)) (.nil _ _) rfl
     ·simp only [zbt] at hmm;subst hmm;obtain ⟨F,hF⟩:=choose_lt (n:=m) (p:=λi (ds:List D)=>ds.length=r.length/\∀ (j:Nat) sh d,r[j]?=some sh->ds[j]?=some d->∃ c,w.cell? (a.add (i*r.length+j))=some c/\bM sh d/\dA lim w d c/\c.oneCell'=true) (λi hi'=>by
       obtain ⟨DR,h1,h2⟩:=hi i hi';obtain ⟨ds,k1,k2,k3⟩:=u7 Ao n e r hr n' DR _ h2;obtain ⟨_,h3,h4⟩:=World.cells?_some h1;refine ⟨ds,k1,λj sh d hj hd=>?_⟩;have GH:j<r.length:=(zad.1 hj).1;have sF:DR[j]?=some (DR[j]'(by omega)):=zaf (by omega);refine ⟨DR[j]'(by omega),?_,k3 j sh d _ hj hd sF⟩;rw [←sF,←h4 j (by omega),←hc1,Go.Deep.add_add])
      have Ba:bM (.sl r) (.sl r.length ((List.range len).map F)):=by
       refine .sl r _ (by simp;omega) (λrow rX=>?_) λrow rX i sh d hs hd=>?_
       ·obtain ⟨i,QF,rfl⟩:=zdb.1 rX;exact (hF i (by have:=List.mem_range.1 QF;omega)).1
       ·obtain ⟨i',QF,rfl⟩:=zdb.1 rX;obtain ⟨c,_,hh,_⟩:=(hF i' (by have:=List.mem_range.1 QF;omega)).2 i sh d hs hd;exact hh
      refine .one Ba ?_ rfl;rcases zev m with h0|h0
      ·subst h0;have:len=0:=by omega
       subst this;exact .nil _ _
      ·have VX:a.spot=none:=by
        obtain ⟨DR,h1,h2⟩:=hi 0 h0;obtain ⟨_,h3,h4⟩:=World.cells?_some h1;have h5:=h4 0 (by omega);have h6:DR[0]?=some (DR[0]'(by omega)):=zaf (by omega);rw [h6] at h5;unfold World.cell? at h5;split at h5
        ·split at h5
         ·cases h5
         ·rename_i QI;simpa [Addr.add] using QI
        ·cases h5
       obtain ⟨b,off,sp⟩:=a;simp only at VX;subst VX;have fg:∀ i j,i<m->j<r.length->∀ sh d,r[j]?=some sh->(F i)[j]?=some d->∃ c,w.cell? ⟨b,off+(i*r.length+j),none⟩=some c/\bM sh d/\dA lim w d c/\c.oneCell'=true:=λi j hi' hj sh d hs hd=>by
        obtain ⟨c,h1,h2⟩:=(hF i hi').2 j sh d hs hd;rw [Addr.add_lit] at h1;exact ⟨c,h1,h2⟩
       have hlen:((List.range len).map F).length=len:=by simp
       have key:=dA.sl (lim:=lim) (w:=w) r.length ((List.range len).map F) b off m (by rw [hlen];exact hl) (λrow rX=>by
        obtain ⟨i,QF,rfl⟩:=zdb.1 rX;exact (hF i (by have:=List.mem_range.1 QF;omega)).1) (λk hk=>by
        rw [hlen] at hk;have hdiv:k / r.length<len:=zdw (by rw [zdp];exact hk);have yc:k % r.length<r.length:=zem _ VO;obtain ⟨c,h1,h2,h3,h4⟩:=fg (k / r.length) (k % r.length) (by omega) yc _ _ (zaf yc) (zaf (by rw [(hF _ (by omega)).1];exact yc));have e:k / r.length*r.length+k % r.length=k:=by rw [zdp];exact zew k r.length
        rw [e] at h1;exact ⟨Ao _ _ _ h1,c,h1,h4⟩) (λi j row c u h1 h2 h3=>by
        rw [zbe] at h1;obtain ⟨i',QF,rfl⟩:=zco.1 h1;have oM:i<len:=by have:=(zad.1 QF).1;simpa using this
        have:i'=i:=by rw [List.getElem?_range oM] at QF;cases QF;rfl
        subst this;have GH:j<r.length:=by have:=(zad.1 h2).1;rw [(hF _ (by omega)).1] at this;exact this
        obtain ⟨c',k1,k2,k3,k4⟩:=fg i' j (by omega) GH _ _ (zaf GH) h2;rw [h3] at k1;cases k1;exact k3)
       rw [hlen] at key;exact key
    ·cases h
   ·cases h
  ·rename_i fs hu;split at h
   ·rename_i r hr;split at h
    ·rename_i hc;cases h;have sF:=zav hc;obtain ⟨ys,n',_,hy,hlen,vQ,hf⟩:=DataW.trod_struct hu ht;have:=Cj (lim:=lim) (w:=w) (P:=P) cs fs.toList 0 _ hr (by omega) λi f hi r' Rz Tz=>by
      have h1:=hf i f (by simpa using hi);have hys:ys[i]?=some (ys[i]'(by have:=(zad.1 hi).1;simp at this;omega)):=zaf _;exact u7 Ao n f.type r' Rz n' _ _ (h1.trans hys)
     simpa using this
    ·cases h
   ·cases h
  ·cases h
end opening
end Go.Abs
namespace Go.Abs
open Go.RowKit Go.ChangeShapes Go.WideShapes Go.Deep Go.ChangeAt
def Mh (w:World) (b:Nat):Nat:=match w.heap[b]? with
 | some (.cells c _ _)=>c.size
 | _=>0
theorem Pb (w:World) (b off:Nat) (u:Value) (h:w.cell? ⟨b,off,none⟩=some u):off<Mh w b:=by
 unfold World.cell? at h;unfold Mh;split at h
 ·rename_i c e k hb;simp only at hb;rw [hb];simp only [Option.isSome_none,zay,zbs] at h;exact (zau.1 h).1
 ·cases h
theorem wu.top {lim:Nat->Nat} {w:World} {sh:Sh} {c:Value} (h:wu lim w [sh] [c]):∃ d,bM sh d/\dA lim w d c:=by
 obtain ⟨ds,h1,_,h3⟩:=h
 match ds,h1 with
 | [d],_=>exact ⟨d,(h3 0 sh d c rfl rfl rfl).1,(h3 0 sh d c rfl rfl rfl).2.1⟩
section top
variable {H:Type} {enc:TypeId×Value->H} {P:Program} {w:World} {held:Bool} {r:Reach} {b0:Nat} {t:TypeId} {v:Value} {d:DataW H} {ps:List MemPlace}
theorem Dh {n:Nat} {e:TypeId} {row:List Sh} (hs:shape P n t=some [.sl row]) (ht:P.underlying t=some (.slice e)) (hv:Value.okWide P w r b0 t v) (h:DataW.Trod enc P w 0 (λ_=>true) held t v d ps):∃ x,bM (.sl row) x/\dA (Mh w) w x v:=by
 obtain ⟨a,l,c,rfl⟩:=okWide_slice ht hv;obtain ⟨fuel,hf⟩:=h;exact (u7 (Pb w) n t _ hs fuel _ _ hf).top
end top
theorem Pc {α:Type} {row:α->List D} {p:α->Prop}:∀ {rows:List (List D)},(∀ r,r∈rows->∃ x,p x/\r=row x)->∃ l:List α,rows=l.map row/\∀ x,x∈l->p x
 | [],_=>⟨[],rfl,λx h=>by cases h⟩
 | r::rows,h=>by
  obtain ⟨x,hx,rfl⟩:=h r zah;obtain ⟨l,rfl,hl⟩:=Pc (rows:=rows) (row:=row) (p:=p) λr' hr=>h r' (zag _ hr)
  exact ⟨x::l,rfl,λy hy=>by rcases zan.1 hy with rfl|hy;exact hx;exact hl y hy⟩
theorem bM.YK {row:List Sh} {d:D} (h:bM (.sl row) d):∃ rows,d=.sl row.length rows/\rows.length<=maxLen/\∀ r,r∈rows->r.length=row.length/\∀ (i:Nat) sh d,row[i]?=some sh->r[i]?=some d->bM sh d:=by
 cases h with
 | sl _ rows hn h1 h=>exact ⟨rows,rfl,hn,λr hr=>⟨h1 r hr,h r hr⟩⟩
theorem bM.bm {d:D} (h:bM (.i .i64) d):∃ n:Int,d=.ex (.int .i64 n)/\-9223372036854775808<=n/\n<=9223372036854775807:=by
 cases h with
 | i _ n hw=>simp only [Lit.wf,zaq,zaj] at hw;exact ⟨n,rfl,hw⟩
theorem bM.xF {d:D} (h:bM .b d):∃ x:Bool,d=.ex (.bool x):=by cases h with|b x=>exact ⟨x,rfl⟩
section
variable {H:Type} {enc:TypeId×Value->H} {P:Program}
theorem rV {f:Func} {s:ChangeSpec} {apart fresh handsOn again:Bool} {W W':World} {args:Array Value} {v:Value} {ds gs:List (DataW H)} {before pa pv:List MemPlace}
  (hW:DataW.Whole enc P f.params.toList s.vars apart W args.toList ds gs before)
  (Ul:∀ (b:Nat) (sp:Nat->Bool) (hd:Bool),DataW.TrodAll enc P W' b sp hd f.resultTypes.toList (v.resultList f.resultTypes.size) (s.fn H (ds++gs)).results [])
  (Dz:∀ sp:Nat->Bool,(∀ p∈before,sp p.block=true)->DataW.TrodAll enc P W' 0 sp true f.params.toList args.toList (s.fn H (ds++gs)).args pa)
  (VY:∀ sp:Nat->Bool,(∀ p∈before,sp p.block=true)->DataW.TrodVars enc P W' sp s.vars (s.fn H (ds++gs)).vars pv)
  (hps:before=pa++pv) (hb:Below W.heap.size W W')
  (tO:∀ (j:Nat) (t:TypeId) (r:Value),f.resultTypes[j]?=some t->(v.resultList f.resultTypes.size)[j]?=some r->Value.okWide P W' .any 0 t r) :
  s.post enc P f apart fresh handsOn again W args v W':=by
 have cJ:∀ p∈before,p.block<W.heap.size:=λp hp=>hW.lt p hp
 have hold:∀ p∈before,(λb=>decide (b<W.heap.size)) p.block=true:=λp hp=>by simpa using cJ p hp
 refine ⟨ds,gs,before,[],pa,pv,hW,Ul _ _ _,Dz _ hold,VY _ hold,World.keptBut_mono (λp hp=>⟨hp,?_⟩) (hb.frame (·∈before)),λ_=>?_⟩
 ·rw [hps,zbb] at hp;exact Or.inr hp
 ·obtain ⟨_,_,_,_,_,hz,hn⟩:=hW;refine ⟨tO,_,_,([]++pa)++pv,⟨[]++pa,pv,trodAll_append (Dz _ (λ_ _=>rfl)) (Ul _ _ _),VY _ (λ_ _=>rfl),rfl,?_,?_⟩,?_⟩
  ·intro b off hp;have Dr:MemPlace.cell b off∈before:=by rw [hps];simpa using hp
   rw [hb.frozen (cJ _ Dr)];exact hz b off Dr
  ·intro ha;have:=hn ha;rw [hps] at this;simpa using this
  ·intro p hp _;rw [hps];simpa using hp
end
theorem pq {H:Type} {enc:TypeId×Value->H} {P:Program} (hl:laidOutB P=true) {W W':World} (hb:Below W.heap.size W W') (sp:Nat->Bool):∀ {ts:List TypeId} {vs:List Value} {ds:List (DataW H)} {ps:List MemPlace},
  (ts.all λt=>P.readableRec t && decide (t<P.types.size))=true->DataW.TrodAll enc P W 0 (λ_=>true) true ts vs ds ps->(∀ x∈ps,x.block<W.heap.size)->(∀ x∈ps,sp x.block=true)->DataW.TrodAll enc P W' 0 sp true ts vs ds ps
 | [],[],[],_,_,h,_,_=>h
 | t::ts,v::vs,d::ds,ps,hr,h,cJ,QI=>by
  obtain ⟨p,q,h1,h2,rfl⟩:=h;simp only [zei,zaq,zaj] at hr;refine ⟨p,q,?_,?_,rfl⟩
  ·exact WideElems.Trod_stays hl hr.1.1 hr.1.2 h1 (λx hx=>hb.same (cJ x (zck _ hx))) (λx hx=>QI x (zck _ hx))
  ·exact pq hl hb sp (by simpa using hr.2) h2 (λx hx=>cJ x (zeh _ hx)) (λx hx=>QI x (zeh _ hx))
theorem bM.jV {d:D} (h:bM .s d):∃ l:List UInt8,d=.ex (.string ⟨l.toArray⟩)/\l.length<=maxLen:=by cases h with|s l h=>exact ⟨l,rfl,h⟩
theorem Tw {α:Type} {row:α->List D} {p:α->Prop} {rows:List (List D)} (h:∀ r,r∈rows->∃ x,r=row x/\p x):∃ l:List α,rows=l.map row/\∀ x,x∈l->p x :=
 Pc λr hr=>let ⟨x,h1,h2⟩:=h r hr;⟨x,h2,h1⟩
theorem bM.fq {sh:List Sh} {d:D} {α:Type} {row:α->List D} {p:α->Prop} (h:bM (.sl sh) d)
  (hr:∀ r:List D,r.length=sh.length->(∀ (i:Nat) h d,sh[i]?=some h->r[i]?=some d->bM h d)->∃ x,r=row x/\p x) :
  ∃ l:List α,d=.sl sh.length (l.map row)/\l.length<=maxLen/\∀ z,z∈l->p z:=by
 obtain ⟨rows,rfl,hn,h2⟩:=h.YK;obtain ⟨l,rfl,hl⟩:=Tw (row:=row) (p:=p) λr hrm=>hr r (h2 r hrm).1 (h2 r hrm).2
 exact ⟨l,rfl,by simpa using hn,hl⟩
section top
variable {H:Type} {enc:TypeId×Value->H} {P:Program} {w:World} {held:Bool} {r:Reach} {b0:Nat} {t:TypeId} {v:Value} {d:DataW H} {ps:List MemPlace}
theorem zt {n:Nat} {GB:List Sh} {fs:Array Field} (hs:shape P n t=some GB) (ht:P.underlying t=some (.struct fs)) (hv:Value.okWide P w r b0 t v) (h:DataW.Trod enc P w 0 (λ_=>true) held t v d ps) :
  ∃ x:List D,x.length=GB.length/\(∀ (i:Nat) sh d,GB[i]?=some sh->x[i]?=some d->bM sh d)/\dA (Mh w) w (.agg x) v:=by
 obtain ⟨cs,rfl,_⟩:=okWide_struct ht hv;obtain ⟨fuel,hf⟩:=h;obtain ⟨ds,h1,h2,h3⟩:=u7 (Pb w) n t _ hs fuel _ _ hf;have Hl:cs.size=GB.length:=by simpa [Value.cells] using h2
 refine ⟨ds,h1,λi sh d hi hd=>?_,.agg ds cs (by omega) (λi u hu=>?_) λi c u hc hu=>?_⟩
 ·have oM:i<cs.size:=by have:=(zad.1 hi).1;omega
  exact (h3 i sh d cs[i] hi hd (by simp [Value.cells,oM])).1
 ·have oM:i<GB.length:=by have:=(zau.1 hu).1;omega
  exact (h3 i GB[i] (ds[i]'(by omega)) u (zaf oM) (zaf (by omega)) (by simpa [Value.cells] using hu)).2.2
 ·have oM:i<GB.length:=by have:=(zau.1 hu).1;omega
  exact (h3 i GB[i] c u (zaf oM) hc (by simpa [Value.cells] using hu)).2.1
end top
end Go.Abs
namespace Go.Proofs.YtimkfiaffohhkaaGreatDoor
open Go.RowKit Go.Abs
theorem Mi (bV:List Event) (m:ag) (x:bY):kT bV m x=some true:=by
 unfold kT;obtain ⟨c1,h1,q1⟩:=S9 bV;obtain ⟨c2,h2,q2⟩:=NH m;obtain ⟨c3,h3,q3⟩:=Ih x.batch.records;rw [h1,h2,h3,Cg];simp only [zac,dR];cases c1 with
 | false=>rfl
 | true =>
  cases c2 with
  | false=>rfl
  | true =>
   cases c3 with
   | false=>rfl
   | true =>
    obtain ⟨hl,_,hv⟩:=q1 rfl;obtain ⟨hs,hg⟩:=q2 rfl;obtain ⟨hn,hr⟩:=q3 rfl;simp only [zbu,zcb,zbt,zeb,zay,zbs];obtain ⟨b,w⟩:=x;simp only at hn hr ⊢;have hm:=hs.YI hg;have hA:=hm.smA (b:=b) (by omega) hr;rw [JS bV (by omega) m b w hm (by omega) hr,zac];by_cases he:(mz m.aw b w).2.2.2=0
    ·by_cases hmax:b.number=999999999
     ·rw [zaa (by simp [hmax])]
     ·have g':=Ij bV hl hv hg hA he;have ft:=Ik bV hl hv hg hA he;have e0:(oG bV m b w).2=0:=by unfold oG;rw [zaa he]
      obtain ⟨hc,hnx,ha⟩:=O9 he;obtain ⟨k1,k2,k3,k4,k5⟩:=zo hc;obtain ⟨_,_,_,_,kp⟩:=zp w b.records m.aw.seen 0 hA.AY.can k5;have e1:(oG bV m b w).1.aw=(wm m.aw b w).1:=by unfold oG;rw [zaa he,ha]
      rw [zab (by simp [e0,hmax])];generalize oG bV m b w=n at g' ft e0 e1;obtain ⟨n,e⟩:=n;simp only at g' ft e0 e1 ⊢;have a1:=hs.u;have a2:=hs.s;have a3:=hs.o;have a4:=hs.r;have a5:=hs.e;have a6:=hs.h;have f2:=ft.len;have f5:=ft.seen;have f6:=ft.aK;have s':xS n:=g'.YJ (by omega) (by omega) (by omega) (by omega) (by omega) (by omega);have uE:U5 n:=g'.YI s' (by omega) (by omega) (by omega);have Tu:n.aw.seen=(dP w m.aw.seen 0 b.records).1:=by rw [e1];rfl
      have YL:n.aw.aK=m.aw.aK++[(⟨b.source,b.number,b.format,(b.records.length:Int)⟩:Head)]:=by rw [e1];rfl
      have hnx':jd b.source 1 n.aw.aK=b.number+1:=by rw [YL,AX,zaa rfl]
      have a20:mz n.aw b w=(noS,[],[],20):=by
       unfold mz;rw [zaa hc,zab (by rw [hnx'];omega)]
      have r20:oG bV n b w=(noM,20):=by unfold oG;rw [a20];simp
      rw [JS bV (by omega) n b w uE (by omega) hr,r20,zac,zab (by simp),af ⟨by omega,by omega⟩];have VO:yK (⟨b.source,b.number+1,b.format,b.records⟩:Batch)=0:=Ny (s:=0) (l:=[]) b _ rfl rfl rfl ⟨by simp only;omega,by simp only;omega⟩ hc;have e3:mz n.aw (⟨b.source,b.number+1,b.format,b.records⟩:Batch) w=wm n.aw (⟨b.source,b.number+1,b.format,b.records⟩:Batch) w:=by
       unfold mz;rw [zaa VO,zaa hnx'.symm]
      have hdp:dP w n.aw.seen 0 b.records=(n.aw.seen,[],UM w 0 b.records):=S3 w b.records n.aw.seen 0 (by rw [Tu];exact kp);have y0:(wm n.aw (⟨b.source,b.number+1,b.format,b.records⟩:Batch) w).2.2.2=0:=rfl;have y1:(wm n.aw (⟨b.source,b.number+1,b.format,b.records⟩:Batch) w).2.1=[]:=by
       show (eX n.aw.open_ (dP w n.aw.seen 0 b.records).2.1).1=[];rw [hdp];rfl
      have y2:(wm n.aw (⟨b.source,b.number+1,b.format,b.records⟩:Batch) w).2.2.1=UM w 0 b.records:=by
       show (dP w n.aw.seen 0 b.records).2.2=_;rw [hdp]
      have y3:(wm n.aw (⟨b.source,b.number+1,b.format,b.records⟩:Batch) w).1.open_=n.aw.open_:=by
       show (eX n.aw.open_ (dP w n.aw.seen 0 b.records).2.1).2=_;rw [hdp];rfl
      have hfe:oG bV n (⟨b.source,b.number+1,b.format,b.records⟩:Batch) w=(⟨(wm n.aw (⟨b.source,b.number+1,b.format,b.records⟩:Batch) w).1,n.usages,n.aB,n.ba++UM w 0 b.records⟩,0):=by
       unfold oG;rw [e3,zaa y0,y1,y2];rfl
      rw [JS bV (by omega) n (⟨b.source,b.number+1,b.format,b.records⟩:Batch) w uE (by simp only;omega) hr,hfe,zac];simp only;rw [y3,Gt _ (by omega),SD _ (by omega),SD _ (by omega)];simp only [bH,zee,Bool.and_self,zbt,zac];rw [af (λ_=>⟨by omega,by omega⟩)];simp [OM]
    ·have e0:oG bV m b w=(noM,(mz m.aw b w).2.2.2):=by unfold oG;rw [zab he]
     rw [e0,zaa (by simp [he])]
end Go.Proofs.YtimkfiaffohhkaaGreatDoor
