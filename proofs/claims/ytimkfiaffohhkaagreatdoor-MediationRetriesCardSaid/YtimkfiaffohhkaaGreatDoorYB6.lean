/- Our own texts of this seat. -/
import Derived.Test.YtimkfiaffohhkaaGreatDoorYB5
import Derived.Deep.Slices
import Derived.ChangeArms
import Derived.ProofKit
import Derived.Below
import Derived.ChangeSame
set_option linter.unusedSimpArgs false
set_option linter.unusedVariables false
set_option linter.unusedSectionVars false
set_option maxRecDepth 100000
set_option maxHeartbeats 1000000
namespace Go.Abs
open Go.RowKit Go.ChangeShapes Go.WideShapes Go.Deep
inductive Sh where
 | i (k:IntKind)
 | b
 | s
 | sl (row:List Sh)
inductive ft:Sh->D->Prop where
 | i (k:IntKind) (n:Int) (h:(Lit.int k n).wf=true):ft (.i k) (.ex (.int k n))
 | b (x:Bool):ft .b (.ex (.bool x))
 | s (l:List UInt8) (h:l.length<=maxLen):ft .s (.ex (.string ⟨l.toArray⟩))
 | sl (row:List Sh) (rows:List (List D)) (hn:rows.length<=maxLen) (h1:∀ r,r∈rows->r.length=row.length)
   (h:∀ r,r∈rows->∀ (i:Nat) sh d,row[i]?=some sh->r[i]?=some d->ft sh d):ft (.sl row) (.sl row.length rows)
def B3 (P:Program) (rec:TypeId->Option (List Sh)):List Field->Nat->Option (List Sh)
 | [],_=>some []
 | f::fs,off=>match rec f.type with
  | some r=>if Nat.beq f.offset off && Nat.beq r.length (P.cellsOf f.type) then (B3 P rec fs (off+r.length)).map (r++·) else none
  | none=>none
def shape (P:Program):Nat->TypeId->Option (List Sh)
 | 0,_=>none
 | n+1,t=>match P.underlying t with
  | some (.int k)=>some [.i k]
  | some .bool=>some [.b]
  | some .string=>some [.s]
  | some (.slice e)=>match shape P n e with
   | some r=>if Nat.beq r.length (P.cellsOf e) && Nat.blt 0 r.length then some [.sl r] else none
   | none=>none
  | some (.struct fs)=>match B3 P (shape P n) fs.toList 0 with
   | some r=>if Nat.beq r.length (P.cellsOf t) then some r else none
   | none=>none
  | _=>none
def wo (lim:Nat->Nat) (w:World) (F7:List Sh) (cs:List Value):Prop :=
 ∃ ds:List D,ds.length=F7.length/\cs.length=F7.length/\∀ (i:Nat) sh d c,F7[i]?=some sh->ds[i]?=some d->cs[i]?=some c->ft sh d/\dK lim w d c/\c.oneCell'=true
theorem wo.one {lim:Nat->Nat} {w:World} {sh:Sh} {d:D} {c:Value} (h1:ft sh d) (h2:dK lim w d c) (h3:c.oneCell'=true):wo lim w [sh] [c]:=by
 refine ⟨[d],rfl,rfl,λi sh' d' c' ha hb hc=>?_⟩;cases i with
 | zero=>simp at ha hb hc;subst ha;subst hb;subst hc;exact ⟨h1,h2,h3⟩
 | succ i=>simp at ha
theorem wo.nil {lim:Nat->Nat} {w:World}:wo lim w [] []:=⟨[],rfl,rfl,λi _ _ _ h=>by simp at h⟩
theorem wo.append {lim:Nat->Nat} {w:World} {s1 s2:List Sh} {c1 c2:List Value} (h:wo lim w s1 c1) (k:wo lim w s2 c2):wo lim w (s1++s2) (c1++c2):=by
 obtain ⟨d1,a1,b1,e1⟩:=h;obtain ⟨d2,a2,b2,e2⟩:=k;refine ⟨d1++d2,by simp [a1,a2],by simp [b1,b2],λi sh d c ha hb hc=>?_⟩;by_cases hi:i<s1.length
 ·rw [zak hi] at ha;rw [zak (by omega)] at hb hc;exact e1 i sh d c ha hb hc
 ·rw [zat (by omega)] at ha hb hc;rw [a1] at hb;rw [b1] at hc;exact e2 _ sh d c ha hb hc
section opening
variable {H:Type} {enc:TypeId×Value->H} {P:Program} {w:World} {held:Bool} {lim:Nat->Nat}
theorem B4 {rec:TypeId->Option (List Sh)} (cs:List Value):∀ (fs:List Field) (off:Nat) (F7:List Sh),B3 P rec fs off=some F7->cs.length=off+F7.length ->
  (∀ (i:Nat) f,fs[i]?=some f->∀ r,rec f.type=some r->r.length=P.cellsOf f.type->wo lim w r ((cs.drop f.offset).take (P.cellsOf f.type)))->wo lim w F7 (cs.drop off)
 | [],off,F7,h,hl,_=>by
  simp [B3] at h;subst h;rw [zdv (by simp at hl;omega)];exact .nil
 | f::fs,off,F7,h,hl,hf=>by
  unfold B3 at h;split at h
  ·rename_i r hr;split at h
   ·rename_i hc;rw [zar] at hc;replace hc:=And.intro (zas hc.1) (zas hc.2);obtain ⟨rest,DC,rfl⟩:=zcd.1 h;simp only [zai] at hl;have h1:=hf 0 f rfl r hr hc.2;have h2:=B4 cs fs (off+r.length) rest DC (by omega) λi g hg=>hf (i+1) g (by simpa using hg)
    have e:cs.drop off=(cs.drop f.offset).take (P.cellsOf f.type)++cs.drop (off+r.length):=by
     rw [hc.1,←hc.2,←List.drop_drop,zfm]
    rw [e];exact h1.append h2
   ·cases h
  ·cases h
theorem u0 (Aa:∀ b off u,w.cell? ⟨b,off,none⟩=some u->off<lim b):∀ (n:Nat) (t:TypeId) (F7:List Sh),shape P n t=some F7->∀ fuel cs x,DataW.trod enc P w 0 (λ_=>true) held fuel t cs=some x->wo lim w F7 cs
 | 0,_,_,h=>by simp [shape] at h
 | n+1,t,F7,h=>by
  intro fuel cs x ht;unfold shape at h;split at h
  ·rename_i k hu;cases h;obtain ⟨m,rfl,_,hw⟩:=DataW.trod_int hu ht;exact .one (.i k m hw) (.ex _) rfl
  ·rename_i hu;cases h;obtain ⟨b,rfl,_⟩:=DataW.trod_bool hu ht;exact .one (.b b) (.ex _) rfl
  ·rename_i hu;cases h;obtain ⟨⟨a⟩,rfl,_,hs⟩:=DataW.trod_string hu ht;exact .one (.s a.toList (by simpa [ByteArray.size] using hs)) (.ex _) rfl
  ·rename_i e hu;split at h
   ·rename_i r hr;split at h
    ·rename_i hc;cases h;rw [zar] at hc;obtain ⟨hc1,W9⟩:=And.intro (zas hc.1) (iR hc.2);rcases open_slice hu ht with ⟨rfl,_⟩|⟨a,len,cap,m,n',D0,Pl,rfl,hb,hl,hm,Zi,hx,hi⟩
     ·exact .one (.sl r [] (zfg _) (λ_ h=>by cases h) (λ_ h=>by cases h)) (.nil _ _) rfl
     ·simp only [zcf] at Zi;subst Zi;obtain ⟨F,hF⟩:=choose_lt (n:=m) (p:=λi (ds:List D)=>ds.length=r.length/\∀ (j:Nat) sh d,r[j]?=some sh->ds[j]?=some d->∃ c,w.cell? (a.add (i*r.length+j))=some c/\ft sh d/\dK lim w d c/\c.oneCell'=true) (λi hi'=>by
       obtain ⟨DK,h1,h2⟩:=hi i hi';obtain ⟨ds,k1,k2,k3⟩:=u0 Aa n e r hr n' DK _ h2;obtain ⟨_,h3,h4⟩:=World.cells?_some h1;refine ⟨ds,k1,λj sh d hj hd=>?_⟩;have Gd:j<r.length:=(zad.1 hj).1;have sH:DK[j]?=some (DK[j]'(by omega)):=zaf (by omega);refine ⟨DK[j]'(by omega),?_,k3 j sh d _ hj hd sH⟩;rw [←sH,←h4 j (by omega),←hc1,Go.Deep.add_add])
      have AY:ft (.sl r) (.sl r.length ((List.range len).map F)):=by
       refine .sl r _ (by simp;omega) (λrow rm=>?_) λrow rm i sh d hs hd=>?_
       ·obtain ⟨i,Pc,rfl⟩:=zdh.1 rm;exact (hF i (by have:=List.mem_range.1 Pc;omega)).1
       ·obtain ⟨i',Pc,rfl⟩:=zdh.1 rm;obtain ⟨c,_,hh,_⟩:=(hF i' (by have:=List.mem_range.1 Pc;omega)).2 i sh d hs hd;exact hh
      refine .one AY ?_ rfl;rcases zek m with h0|h0
      ·subst h0;have:len=0:=by omega
       subst this;exact .nil _ _
      ·have TX:a.spot=none:=by
        obtain ⟨DK,h1,h2⟩:=hi 0 h0;obtain ⟨_,h3,h4⟩:=World.cells?_some h1;have h5:=h4 0 (by omega);have h6:DK[0]?=some (DK[0]'(by omega)):=zaf (by omega);rw [h6] at h5;unfold World.cell? at h5;split at h5
        ·split at h5
         ·cases h5
         ·rename_i TO;simpa [Addr.add] using TO
        ·cases h5
       obtain ⟨b,off,sp⟩:=a;simp only at TX;subst TX;have fc:∀ i j,i<m->j<r.length->∀ sh d,r[j]?=some sh->(F i)[j]?=some d->∃ c,w.cell? ⟨b,off+(i*r.length+j),none⟩=some c/\ft sh d/\dK lim w d c/\c.oneCell'=true:=λi j hi' hj sh d hs hd=>by
        obtain ⟨c,h1,h2⟩:=(hF i hi').2 j sh d hs hd;rw [Addr.add_lit] at h1;exact ⟨c,h1,h2⟩
       have hlen:((List.range len).map F).length=len:=by simp
       have key:=dK.sl (lim:=lim) (w:=w) r.length ((List.range len).map F) b off m (by rw [hlen];exact hl) (λrow rm=>by
        obtain ⟨i,Pc,rfl⟩:=zdh.1 rm;exact (hF i (by have:=List.mem_range.1 Pc;omega)).1) (λk hk=>by
        rw [hlen] at hk;have hdiv:k / r.length<len:=zdk (by rw [zdc];exact hk);have xK:k % r.length<r.length:=zec _ W9;obtain ⟨c,h1,h2,h3,h4⟩:=fc (k / r.length) (k % r.length) (by omega) xK _ _ (zaf xK) (zaf (by rw [(hF _ (by omega)).1];exact xK));have e:k / r.length*r.length+k % r.length=k:=by rw [zdc];exact zel k r.length
        rw [e] at h1;exact ⟨Aa _ _ _ h1,c,h1,h4⟩) (λi j row c u h1 h2 h3=>by
        rw [zba] at h1;obtain ⟨i',Pc,rfl⟩:=zcd.1 h1;have nQ:i<len:=by have:=(zad.1 Pc).1;simpa using this
        have:i'=i:=by rw [List.getElem?_range nQ] at Pc;cases Pc;rfl
        subst this;have Gd:j<r.length:=by have:=(zad.1 h2).1;rw [(hF _ (by omega)).1] at this;exact this
        obtain ⟨c',k1,k2,k3,k4⟩:=fc i' j (by omega) Gd _ _ (zaf Gd) h2;rw [h3] at k1;cases k1;exact k3)
       rw [hlen] at key;exact key
    ·cases h
   ·cases h
  ·rename_i fs hu;split at h
   ·rename_i r hr;split at h
    ·rename_i hc;cases h;have sH:=zas hc;obtain ⟨ys,n',_,hy,hlen,vN,hf⟩:=DataW.trod_struct hu ht;have:=B4 (lim:=lim) (w:=w) (P:=P) cs fs.toList 0 _ hr (by omega) λi f hi r' UW Rv=>by
      have h1:=hf i f (by simpa using hi);have Zq:ys[i]?=some (ys[i]'(by have:=(zad.1 hi).1;simp at this;omega)):=zaf _;exact u0 Aa n f.type r' UW n' _ _ (h1.trans Zq)
     simpa using this
    ·cases h
   ·cases h
  ·cases h
end opening
end Go.Abs
namespace Go.Abs
open Go.RowKit Go.ChangeShapes Go.WideShapes Go.Deep Go.ChangeAt
def OZ (w:World) (b:Nat):Nat:=match w.heap[b]? with
 | some (.cells c _ _)=>c.size
 | _=>0
theorem NL (w:World) (b off:Nat) (u:Value) (h:w.cell? ⟨b,off,none⟩=some u):off<OZ w b:=by
 unfold World.cell? at h;unfold OZ;split at h
 ·rename_i c e k hb;simp only at hb;rw [hb];simp only [Option.isSome_none,zbf,zbw] at h;exact (zau.1 h).1
 ·cases h
theorem wo.top {lim:Nat->Nat} {w:World} {sh:Sh} {c:Value} (h:wo lim w [sh] [c]):∃ d,ft sh d/\dK lim w d c:=by
 obtain ⟨ds,h1,_,h3⟩:=h
 match ds,h1 with
 | [d],_=>exact ⟨d,(h3 0 sh d c rfl rfl rfl).1,(h3 0 sh d c rfl rfl rfl).2.1⟩
section top
variable {H:Type} {enc:TypeId×Value->H} {P:Program} {w:World} {held:Bool} {r:Reach} {b0:Nat} {t:TypeId} {v:Value} {d:DataW H} {ps:List MemPlace}
theorem O0 {n:Nat} {e:TypeId} {row:List Sh} (hs:shape P n t=some [.sl row]) (ht:P.underlying t=some (.slice e)) (hv:Value.okWide P w r b0 t v) (h:DataW.Trod enc P w 0 (λ_=>true) held t v d ps):∃ x,ft (.sl row) x/\dK (OZ w) w x v:=by
 obtain ⟨a,l,c,rfl⟩:=okWide_slice ht hv;obtain ⟨fuel,hf⟩:=h;exact (u0 (NL w) n t _ hs fuel _ _ hf).top
theorem SY (ht:P.underlying t=some (.int .i64)) (hv:Value.okWide P w r b0 t v) (h:DataW.Trod enc P w 0 (λ_=>true) held t v d ps):∃ m:Int,dK (OZ w) w (.ex (.int .i64 m)) v/\-9223372036854775808<=m/\m<=9223372036854775807:=by
 obtain ⟨m,rfl⟩:=okWide_int ht hv;obtain ⟨fuel,hf⟩:=h;obtain ⟨m',h1,_,hw⟩:=DataW.trod_int ht hf;have:m'=m:=by simpa [Value.cells] using h1.symm
 subst this;refine ⟨m',.ex _,?_⟩;simp only [Lit.wf,zar,zah] at hw;exact hw
end top
theorem NM {α:Type} {row:α->List D} {p:α->Prop}:∀ {rows:List (List D)},(∀ r,r∈rows->∃ x,p x/\r=row x)->∃ l:List α,rows=l.map row/\∀ x,x∈l->p x
 | [],_=>⟨[],rfl,λx h=>by cases h⟩
 | r::rows,h=>by
  obtain ⟨x,hx,rfl⟩:=h r zao;obtain ⟨l,rfl,hl⟩:=NM (rows:=rows) (row:=row) (p:=p) λr' hr=>h r' (zal _ hr)
  exact ⟨x::l,rfl,λy hy=>by rcases zav.1 hy with rfl|hy;exact hx;exact hl y hy⟩
theorem ft.WM {row:List Sh} {d:D} (h:ft (.sl row) d):∃ rows,d=.sl row.length rows/\rows.length<=maxLen/\∀ r,r∈rows->r.length=row.length/\∀ (i:Nat) sh d,row[i]?=some sh->r[i]?=some d->ft sh d:=by
 cases h with
 | sl _ rows hn h1 h=>exact ⟨rows,rfl,hn,λr hr=>⟨h1 r hr,h r hr⟩⟩
theorem ft.ir {d:D} (h:ft (.i .i64) d):∃ n:Int,d=.ex (.int .i64 n)/\-9223372036854775808<=n/\n<=9223372036854775807:=by
 cases h with
 | i _ n hw=>simp only [Lit.wf,zar,zah] at hw;exact ⟨n,rfl,hw⟩
theorem ft.Rq {d:D} (h:ft .b d):∃ x:Bool,d=.ex (.bool x):=by cases h with|b x=>exact ⟨x,rfl⟩
section
variable {H:Type} {enc:TypeId×Value->H} {P:Program}
theorem GV {f:Func} {s:ChangeSpec} {apart fresh handsOn again:Bool} {W W':World} {args:Array Value} {v:Value} {ds gs:List (DataW H)} {before pa pv:List MemPlace}
  (hW:DataW.Whole enc P f.params.toList s.vars apart W args.toList ds gs before)
  (R9:∀ (b:Nat) (sp:Nat->Bool) (hd:Bool),DataW.TrodAll enc P W' b sp hd f.resultTypes.toList (v.resultList f.resultTypes.size) (s.fn H (ds++gs)).results [])
  (J5:∀ sp:Nat->Bool,(∀ p∈before,sp p.block=true)->DataW.TrodAll enc P W' 0 sp true f.params.toList args.toList (s.fn H (ds++gs)).args pa)
  (TY:∀ sp:Nat->Bool,(∀ p∈before,sp p.block=true)->DataW.TrodVars enc P W' sp s.vars (s.fn H (ds++gs)).vars pv)
  (Zv:before=pa++pv) (hb:Below W.heap.size W W')
  (ze:∀ (j:Nat) (t:TypeId) (r:Value),f.resultTypes[j]?=some t->(v.resultList f.resultTypes.size)[j]?=some r->Value.okWide P W' .any 0 t r) :
  s.post enc P f apart fresh handsOn again W args v W':=by
 have cZ:∀ p∈before,p.block<W.heap.size:=λp hp=>hW.lt p hp
 have hold:∀ p∈before,(λb=>decide (b<W.heap.size)) p.block=true:=λp hp=>by simpa using cZ p hp
 refine ⟨ds,gs,before,[],pa,pv,hW,R9 _ _ _,J5 _ hold,TY _ hold,World.keptBut_mono (λp hp=>⟨hp,?_⟩) (hb.frame (·∈before)),λ_=>?_⟩
 ·rw [Zv,zbi] at hp;exact Or.inr hp
 ·obtain ⟨_,_,_,_,_,hz,hn⟩:=hW;refine ⟨ze,_,_,([]++pa)++pv,⟨[]++pa,pv,trodAll_append (J5 _ (λ_ _=>rfl)) (R9 _ _ _),TY _ (λ_ _=>rfl),rfl,?_,?_⟩,?_⟩
  ·intro b off hp;have Dj:MemPlace.cell b off∈before:=by rw [Zv];simpa using hp
   rw [hb.frozen (cZ _ Dj)];exact hz b off Dj
  ·intro ha;have:=hn ha;rw [Zv] at this;simpa using this
  ·intro p hp _;rw [Zv];simpa using hp
end
theorem zX {H:Type} {enc:TypeId×Value->H} {P:Program} (hl:laidOutB P=true) {W W':World} (hb:Below W.heap.size W W') (sp:Nat->Bool):∀ {ts:List TypeId} {vs:List Value} {ds:List (DataW H)} {ps:List MemPlace},
  (ts.all λt=>P.readableRec t && decide (t<P.types.size))=true->DataW.TrodAll enc P W 0 (λ_=>true) true ts vs ds ps->(∀ x∈ps,x.block<W.heap.size)->(∀ x∈ps,sp x.block=true)->DataW.TrodAll enc P W' 0 sp true ts vs ds ps
 | [],[],[],_,_,h,_,_=>h
 | t::ts,v::vs,d::ds,ps,hr,h,cZ,TO=>by
  obtain ⟨p,q,h1,h2,rfl⟩:=h;simp only [zej,zar,zah] at hr;refine ⟨p,q,?_,?_,rfl⟩
  ·exact WideElems.Trod_stays hl hr.1.1 hr.1.2 h1 (λx hx=>hb.same (cZ x (zeu _ hx))) (λx hx=>TO x (zeu _ hx))
  ·exact zX hl hb sp (by simpa using hr.2) h2 (λx hx=>cZ x (zes _ hx)) (λx hx=>TO x (zes _ hx))
theorem ft.C8 {d:D} (h:ft .s d):∃ l:List UInt8,d=.ex (.string ⟨l.toArray⟩)/\l.length<=maxLen:=by cases h with|s l h=>exact ⟨l,rfl,h⟩
theorem Rr {α:Type} {row:α->List D} {p:α->Prop} {rows:List (List D)} (h:∀ r,r∈rows->∃ x,r=row x/\p x):∃ l:List α,rows=l.map row/\∀ x,x∈l->p x :=
 NM λr hr=>let ⟨x,h1,h2⟩:=h r hr;⟨x,h2,h1⟩
theorem ft.zY {sh:List Sh} {d:D} {α:Type} {row:α->List D} {p:α->Prop} (h:ft (.sl sh) d)
  (hr:∀ r:List D,r.length=sh.length->(∀ (i:Nat) h d,sh[i]?=some h->r[i]?=some d->ft h d)->∃ x,r=row x/\p x) :
  ∃ l:List α,d=.sl sh.length (l.map row)/\l.length<=maxLen/\∀ z,z∈l->p z:=by
 obtain ⟨rows,rfl,hn,h2⟩:=h.WM;obtain ⟨l,rfl,hl⟩:=Rr (row:=row) (p:=p) λr hrm=>hr r (h2 r hrm).1 (h2 r hrm).2
 exact ⟨l,rfl,by simpa using hn,hl⟩
section top
variable {H:Type} {enc:TypeId×Value->H} {P:Program} {w:World} {held:Bool} {r:Reach} {b0:Nat} {t:TypeId} {v:Value} {d:DataW H} {ps:List MemPlace}
theorem SZ {n:Nat} {F7:List Sh} {fs:Array Field} (hs:shape P n t=some F7) (ht:P.underlying t=some (.struct fs)) (hv:Value.okWide P w r b0 t v) (h:DataW.Trod enc P w 0 (λ_=>true) held t v d ps) :
  ∃ x:List D,x.length=F7.length/\(∀ (i:Nat) sh d,F7[i]?=some sh->x[i]?=some d->ft sh d)/\dK (OZ w) w (.agg x) v:=by
 obtain ⟨cs,rfl,_⟩:=okWide_struct ht hv;obtain ⟨fuel,hf⟩:=h;obtain ⟨ds,h1,h2,h3⟩:=u0 (NL w) n t _ hs fuel _ _ hf;have T5:cs.size=F7.length:=by simpa [Value.cells] using h2
 refine ⟨ds,h1,λi sh d hi hd=>?_,.agg ds cs (by omega) (λi u hu=>?_) λi c u hc hu=>?_⟩
 ·have nQ:i<cs.size:=by have:=(zad.1 hi).1;omega
  exact (h3 i sh d cs[i] hi hd (by simp [Value.cells,nQ])).1
 ·have nQ:i<F7.length:=by have:=(zau.1 hu).1;omega
  exact (h3 i F7[i] (ds[i]'(by omega)) u (zaf nQ) (zaf (by omega)) (by simpa [Value.cells] using hu)).2.2
 ·have nQ:i<F7.length:=by have:=(zau.1 hu).1;omega
  exact (h3 i F7[i] c u (zaf nQ) hc (by simpa [Value.cells] using hu)).2.1
end top
end Go.Abs
