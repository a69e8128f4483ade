/- Our own texts G3 G4 G5 G9 G10 G11 G12 G13 G14 G15 G16 G17 G18 G19 G20 G21 G22 G23 G24 G25 G26 G27 LTys of this seat in one. -/
import Derived.Test.YtpnegjippkneoaaGreatDoorYP0
import Derived.Laws.MakeOwn
import Derived.Laws.CopyRow
import Derived.ChangeKeysEq
import Derived.Lib.AppendZerosOnto
import Derived.WalkKit
import Derived.Lib.Walk
import Derived.Shelf.RegionOpenPlain
import Derived.Lib.Overlaps
import Derived.Lib.SliceRun
import Derived.Lib.JoinLaws
import Derived.Test.YtpnegjippkneoaaGreatDoorRows
set_option linter.unusedSimpArgs false
set_option linter.unusedVariables false
set_option linter.unusedSectionVars false
namespace Go.Abs
open Go.RowKit
section rep
variable {g:Ghost} {base:Nat} {w:World} {st:St}
theorem vc_or (h:Inv g base w st) {t e sz n:Nat} {rows:List (List D)} {v:Value} (htl:st.tails[t]?=some ⟨e,sz,n,some rows⟩) (hv:EVRep g w st (.vc t n) v) :
  v=g.tk t∨(n=0∧rows=[]∧∃ A,v=.slice A 0 0):=by
 cases hv with
 | vc _ _ _ ht hf hh =>
  rcases (hh _ rows htl rfl).2 rfl with h1 | ⟨h1,h3⟩
  ·exact .inl h1
  ·obtain ⟨xs,_,_,k⟩:=h.own t e sz n rows htl
   exact .inr ⟨h1,List.eq_nil_of_length_eq_zero (by rw [k.len]; exact h1),h3⟩
theorem vc_val (h:Inv g base w st) {t e sz n:Nat} {rows:List (List D)} {v:Value} (htl:st.tails[t]?=some ⟨e,sz,n,some rows⟩) (hv:v=g.tk t) :
  v=g.tk t∧∃ xs,w.ownsRow base e sz v n xs∧(∀ b,v.ownBlock=some b→g.lim b=0)∧RowsRep g.lim w sz n rows xs:=by
 subst hv
 exact ⟨rfl,h.own t e sz n rows htl⟩
theorem vc_emp {t e sz:Nat} {rows:List (List D)} {v:Value} (hlt:t < st.tails.length) (htl:st.tails[t]?=some ⟨e,sz,0,some rows⟩) (hv:∃ A,v=.slice A 0 0):EVRep g w st (.vc t 0) v :=
 .vc t 0 _ hlt (by obtain ⟨A,rfl⟩:=hv; exact ⟨_,_,_,rfl⟩) fun x rows' hx ho=>by rw [htl] at hx; cases hx; exact ⟨Nat.le_refl _,fun _=>.inr ⟨rfl,hv⟩⟩
theorem own_form {w:World} {base e sz n:Nat} {v:Value} {xs:List Value} (h:w.ownsRow base e sz v n xs):(∃ A c,v=.slice A n c)∧(n≠0→∃ b c,v=.slice (some ⟨b,0,none⟩) n c):=by
 rcases h.2 with ⟨rfl,rfl⟩ | ⟨b,cap,cur,rfl,_⟩
 ·exact ⟨⟨_,_,rfl⟩,fun h0=>absurd rfl h0⟩
 ·exact ⟨⟨_,_,rfl⟩,fun _=>⟨_,_,rfl⟩⟩
theorem RowsRep.get {lim:Nat→Nat} {sz n:Nat} {rows:List (List D)} {xs:List Value} (h:RowsRep lim w sz n rows xs) (hx:xs.length=n*sz) {i j:Nat} {row:List D} {c:D} (hi:rows[i]?=some row) (hj:row[j]?=some c) :
  ∃ u,xs[i*sz+j]?=some u∧DRep lim w c u∧u.oneCell'=true:=by
 have hl:=h.row row (List.mem_of_getElem? hi)
 have hlt:i*sz+j < xs.length:=by
  rw [hx,←h.len]
  exact idx_lt (List.getElem?_eq_some_iff.1 hi).1 (by rw [←hl]; exact (List.getElem?_eq_some_iff.1 hj).1)
 exact ⟨_,List.getElem?_eq_getElem hlt,h.rep _ c _ (flat_get h.row hi hj) (List.getElem?_eq_getElem hlt)⟩
theorem own_store {P:Program} {e sz n:Nat} {b cap:Nat} {xs:List Value} (h:w.ownsRow base e sz (.slice (some ⟨b,0,none⟩) n cap) n xs) (off:Nat) (new:List Value) (hfit:off+new.length≤n*sz) (h1:∀ v∈new,v.oneCell'=true) :
  ∃ w',(storeCells ⟨b,off,none⟩ new 0).run P w=.ok () w'∧w'.ownsRow base e sz (.slice (some ⟨b,0,none⟩) n cap) n (xs.take off++new++xs.drop (off+new.length))∧w.grownBy w' (some b)∧w'.heap.size=w.heap.size:=by
 rcases h.2 with ⟨h',_⟩ | ⟨g',cap',cur,h',hb,hg,hnc,hcm,hcs,htake⟩
 ·cases h'
 ·cases h'
  have hle:n*sz≤cap*sz:=Nat.mul_le_mul_right _ hnc
  have hst:=run_storeCells_at P b off e new 0 cur w hg (by simp; omega) h1
  simp only [Nat.add_zero] at hst
  refine ⟨_,hst,⟨?_,.inr ⟨b,cap,_,rfl,hb,setRow_heap w b cur _ e (0,0) hg,hnc,hcm,?_,?_⟩⟩,⟨rfl,rfl,rfl,by simp,fun k _ hk=>setRow_other w b k _ (fun e=>hk (by rw [e]))⟩,by simp⟩
  ·have:=h.1
   simp; omega
  ·simp; omega
  ·have hx:=h.1
   apply List.ext_getElem?
   intro j
   simp only [List.toList_toArray]
   rw [List.getElem?_take]
   have hcur:∀ j,j < n*sz→cur.toList[j]?=xs[j]?:=fun j hj=>by rw [←htake,List.getElem?_take,if_pos hj]
   by_cases hj:j < n*sz
   ·rw [if_pos hj]
    by_cases h1:j < off
    ·rw [List.append_assoc,List.append_assoc,List.getElem?_append_left (by simp; omega),List.getElem?_append_left (by simp; omega),List.getElem?_take,List.getElem?_take,if_pos h1,if_pos h1]
     exact hcur j hj
    ·by_cases h2:j < off+new.length
     ·have key:∀ l r:List Value,l.length=off→(l++new++r)[j]?=new[j-off]?:=fun l r hl=>by
       rw [List.append_assoc,List.getElem?_append_right (by omega),hl,List.getElem?_append_left (by omega)]
      rw [key _ _ (by simp; omega),key _ _ (by simp; omega)]
     ·have key:∀ l r:List Value,l.length=off→(l++new++r)[j]?=r[j-(off+new.length)]?:=fun l r hl=>by
       rw [List.getElem?_append_right (by simp; omega)]; congr 1; simp; omega
      rw [key _ _ (by simp; omega),key _ _ (by simp; omega),List.getElem?_drop,List.getElem?_drop]
      have e3:off+new.length+(j-(off+new.length))=j:=by omega
      rw [e3]
      exact hcur j hj
   ·rw [if_neg hj]
    rw [List.getElem?_eq_none]
    simp; omega
theorem rows_store {lim:Nat→Nat} {sz n:Nat} {rows:List (List D)} {xs us:List Value} (h:RowsRep lim w sz n rows xs) (hx:xs.length=n*sz) {i off:Nat} {row new:List D} (hi:rows[i]?=some row) (hoff:off+new.length≤sz)
  (hu:us.length=new.length) (hrep:∀ (j:Nat) c u,new[j]?=some c→us[j]?=some u→DRep lim w c u∧u.oneCell'=true) :
  RowsRep lim w sz n (rows.set i (row.take off++new++row.drop (off+new.length))) (xs.take (i*sz+off)++us++xs.drop (i*sz+off+us.length)):=by
 have hrl:=h.row row (List.mem_of_getElem? hi)
 have hin:i < rows.length:=(List.getElem?_eq_some_iff.1 hi).1
 have hnl:(row.take off++new++row.drop (off+new.length)).length=sz:=by simp; omega
 have hrows:∀ r,r∈rows.set i (row.take off++new++row.drop (off+new.length))→r.length=sz:=fun r hr=>by
  rcases List.mem_or_eq_of_mem_set hr with h1 | h1
  ·exact h.row r h1
  ·rw [h1]; exact hnl
 refine ⟨by simpa using h.len,hrows,fun j c u hc hu'=>?_⟩
 have hfl:=flat_len hrows
 have hjl:j < n*sz:=by rw [←h.len]; have:=(List.getElem?_eq_some_iff.1 hc).1; rw [hfl] at this; simpa using this
 have hsz:0 < sz:=by
  rcases Nat.eq_zero_or_pos sz with h0 | h0
  ·subst h0; omega
  ·exact h0
 have hdm:j=(j / sz)*sz+j % sz:=by rw [Nat.mul_comm]; exact (Nat.div_add_mod j sz).symm
 have hq:j / sz < rows.length:=by rw [h.len]; exact Nat.div_lt_of_lt_mul (by rw [Nat.mul_comm]; exact hjl)
 have hm:j % sz < sz:=Nat.mod_lt _ hsz
 have hlt:i*sz+off+us.length≤n*sz:=by
  have:(i+1)*sz≤n*sz:=Nat.mul_le_mul_right _ (by rw [←h.len]; omega)
  rw [Nat.add_mul] at this
  omega
 by_cases hqi:j / sz=i
 ·-- in the row that is written
  have hget:(rows.set i (row.take off++new++row.drop (off+new.length)))[j / sz]?=some (row.take off++new++row.drop (off+new.length)):=by rw [hqi,List.getElem?_set,if_pos rfl,if_pos hin]
  have hcc:=flat_get hrows hget (List.getElem?_eq_getElem (show j % sz < _ by rw [hnl]; exact hm))
  rw [←hdm,hc] at hcc
  have hcell:(row.take off++new++row.drop (off+new.length))[j % sz]?=some c:=by cases hcc; exact List.getElem?_eq_getElem _
  rw [hqi] at hdm
  by_cases h1:j % sz < off
  ·rw [List.append_assoc,List.getElem?_append_left (by simp; omega),List.getElem?_take,if_pos h1] at hcell
   rw [List.append_assoc,List.getElem?_append_left (by simp; omega),List.getElem?_take,if_pos (by omega)] at hu'
   obtain ⟨u2,a1,a2⟩:=h.get hx hi hcell
   rw [←hdm,hu'] at a1
   cases a1
   exact a2
  ·by_cases h2:j % sz < off+new.length
   ·rw [List.append_assoc,List.getElem?_append_right (by simp; omega),List.getElem?_append_left (by simp; omega)] at hcell
    rw [List.append_assoc,List.getElem?_append_right (by simp; omega),List.getElem?_append_left (by simp; omega)] at hu'
    have e1:(List.take off row).length=off:=by simp; omega
    have e2:(List.take (i*sz+off) xs).length=i*sz+off:=by simp; omega
    rw [e1] at hcell
    rw [e2] at hu'
    have e3:j-(i*sz+off)=j % sz-off:=by omega
    rw [e3] at hu'
    exact hrep _ c u hcell hu'
   ·rw [List.getElem?_append_right (by simp; omega)] at hcell hu'
    have e1:(List.take off row++new).length=off+new.length:=by simp; omega
    have e2:(List.take (i*sz+off) xs++us).length=i*sz+off+us.length:=by simp; omega
    rw [e1,List.getElem?_drop] at hcell
    rw [e2,List.getElem?_drop] at hu'
    have e3:off+new.length+(j % sz-(off+new.length))=j % sz:=by omega
    have e4:i*sz+off+us.length+(j-(i*sz+off+us.length))=j:=by omega
    rw [e3] at hcell
    rw [e4] at hu'
    obtain ⟨u2,a1,a2⟩:=h.get hx hi hcell
    rw [←hdm,hu'] at a1
    cases a1
    exact a2
 ·have hget:(rows.set i (row.take off++new++row.drop (off+new.length)))[j / sz]?=some rows[j / sz]:=by rw [List.getElem?_set,if_neg (Ne.symm hqi)]; exact List.getElem?_eq_getElem hq
  have hrl2:=h.row rows[j / sz] (List.getElem_mem hq)
  have hcc:=flat_get hrows hget (List.getElem?_eq_getElem (show j % sz < _ by rw [hrl2]; exact hm))
  rw [←hdm,hc] at hcc
  have hcell:rows[j / sz][j % sz]?=some c:=by cases hcc; exact List.getElem?_eq_getElem _
  have hux:xs[j]?=some u:=by
   by_cases h1:j < i*sz+off
   ·rw [List.append_assoc,List.getElem?_append_left (by simp; omega),List.getElem?_take,if_pos h1] at hu'
    exact hu'
   ·have:¬ j < i*sz+off+us.length:=by
     intro h2
     apply hqi
     have h3:j < (i+1)*sz:=by rw [Nat.add_mul]; omega
     have h4:i*sz≤j:=by omega
     exact Nat.le_antisymm (Nat.le_of_lt_succ (Nat.div_lt_of_lt_mul (by rw [Nat.mul_comm]; exact h3))) ((Nat.le_div_iff_mul_le hsz).2 h4)
    rw [List.getElem?_append_right (by simp; omega)] at hu'
    have e2:(List.take (i*sz+off) xs++us).length=i*sz+off+us.length:=by simp; omega
    rw [e2,List.getElem?_drop] at hu'
    have e4:i*sz+off+us.length+(j-(i*sz+off+us.length))=j:=by omega
    rw [e4] at hu'
    exact hu'
  obtain ⟨u2,a1,a2⟩:=h.get hx (List.getElem?_eq_getElem hq) hcell
  rw [←hdm,hux] at a1
  cases a1
  exact a2
end rep
section rules
variable {P:Program} {f:Ctx} {N:Nat} {S:Start} {Q:EV→St→Prop} {k:List Item} {todo:List Item} {base:Nat} {env:Env} {st:St} {ops rest:List Oper}
 {d:Option Tmp} {ty:TypeId} {pos:String} {after:Array Edge} {gd:Option (Nat×Bool)} {t t2 e:TypeId} {x y z:Operand}
theorem ARun.lenV {α:Type} {tk:Nat} {e sz n:Nat} {l:List α} {row:α→List D} (htl:st.tails[tk]?=some ⟨e,sz,n,some (l.map row)⟩) (h:n=l.length→ARun P f N S Q todo env st):ARun P f N S Q todo env st:=by
 intro g w tmps hinv
 obtain ⟨xs,_,_,h3⟩:=hinv.own tk e sz n _ htl
 exact h (by have:=h3.len; simpa using this.symm) g w tmps hinv
theorem Inv.freeze {g:Ghost} {w:World} {tk e sz n:Nat} {rows:List (List D)} (h:Inv g base w st) (htl:st.tails[tk]?=some ⟨e,sz,n,some rows⟩) :
  ∃ g',g'.tk tk=g.tk tk∧Inv g' base w (st.setTail tk ⟨e,sz,n,none⟩)∧Step base g w st g' w (st.setTail tk ⟨e,sz,n,none⟩)∧DRep g'.lim w (.sl sz rows) (g.tk tk):=by
 obtain ⟨xs,h1,h2,h3⟩:=h.own tk e sz n rows htl
 obtain ⟨g',k1,k2,k3,k4⟩:=h.turn (x':=⟨e,sz,n,none⟩) (v':=g.tk tk) (w':=w) htl h1 (.inl ⟨rfl,rfl,⟨rfl,rfl,rfl,Nat.le_refl _,fun _ _ _=>rfl⟩⟩) (fun hh=>by cases hh) (fun rows _ rows' hh=>by cases hh) (fun rows hh=>by cases hh)
 refine ⟨g',k1,k3,k4,own_sl h1 h3.len h3.row (fun b hb=>by rw [k2 b hb,pub_none rfl]; exact Nat.le_refl _) fun j u c hu hc=>?_⟩
 exact ⟨(h3.rep j c u hc hu).1.mono k4.sevo.evo,(h3.rep j c u hc hu).2⟩
theorem ARun.freeze {i tk e sz n:Nat} {rows:List (List D)} (hl:lookup i env=some (.vc tk n)) (htl:st.tails[tk]?=some ⟨e,sz,n,some rows⟩)
  (h:ARun P f N S Q todo ((i,.tsl sz rows tk) :: env) (st.setTail tk ⟨e,sz,n,none⟩)):ARun P f N S Q todo env st:=by
 intro g w tmps hinv hh he hN
 obtain ⟨g',h1,h2,h3,h4⟩:=hinv.freeze htl
 refine h g' w tmps h2 (hh.step h3) (fun j y hy=>?_) hN
 unfold lookup at hy
 have he':=he.mono h3.sevo
 cases hb:Nat.beq j i with
 | true =>
  rw [hb] at hy
  cases hy
  have:=Nat.eq_of_beq_eq_true hb
  subst this
  obtain ⟨v,m1,m2⟩:=he j _ hl
  have hlen:tk < st.tails.length:=(List.getElem?_eq_some_iff.1 htl).1
  obtain ⟨xs,o1,_,o3⟩:=hinv.own tk e sz n rows htl
  rcases vc_or hinv htl m2 with hv | ⟨n0,r0,A,hv⟩
  ·subst hv
   exact ⟨_,m1,.tsl sz rows tk _ e n h4 (by simp [St.setTail,List.getElem?_set,hlen]) (Nat.le_of_eq o3.len) (fun _=>.inl h1.symm)⟩
  ·subst n0; subst r0; subst hv
   exact ⟨_,m1,.tsl sz [] tk _ e 0 (.nil sz _) (by simp [St.setTail,List.getElem?_set,hlen]) (Nat.le_refl _) (fun _=>.inr ⟨rfl,_,rfl⟩)⟩
 | false =>
  rw [hb] at hy
  exact he' j y hy
theorem ARun.tokV {i:Nat} {e sz:Nat} (hx:lookup i env=some (.d (.ex (.slice none 0 0)))) (h:ARun P f N S Q todo ((i,.vc st.tails.length 0) :: env) (st.tok ⟨e,sz,0,some []⟩)):ARun P f N S Q todo env st:=by
 intro g w tmps hinv hh he hN
 obtain ⟨g',h1,_,_,h2,h3⟩:=hinv.newTail ⟨e,sz,0,some []⟩ (World.ownsRow_nil w S.base _ _) (.inl ⟨rfl,rfl⟩) (fun rows hr=>by cases hr; exact ⟨rfl,by simp,by simp⟩)
 refine h g' w tmps h2 (hh.step h3) (fun j y hy=>?_) hN
 unfold lookup at hy
 cases hb:Nat.beq j i with
 | true =>
  rw [hb] at hy
  cases hy
  have:=Nat.eq_of_beq_eq_true hb
  subst this
  obtain ⟨v,m1,m2⟩:=he j _ hx
  have hv:=m2.ex_inv
  subst hv
  refine ⟨_,m1,.vc _ _ _ (by simp [St.tok]) ⟨_,_,_,rfl⟩ fun x rows hx ho=>?_⟩
  have:x=⟨e,sz,0,some []⟩:=by simpa [St.tok,eq_comm] using hx
  subst this
  exact ⟨Nat.le_refl _,fun _=>.inl h1.symm⟩
 | false =>
  rw [hb] at hy
  exact (he.mono h3.sevo) j y hy
section sl
variable {α:Type} {sz:Nat} {row:α→List D} {l:List α} {ev:EV} {inf:TypeInfo} {tk n:Nat}
theorem q_lenV (ht:P.underlying t=some (.slice e)) (hx:evo env x=some (.vc tk n)) {e':Nat} (htl:st.tails[tk]?=some ⟨e',sz,n,some (l.map row)⟩) :
  OpQ P env st ⟨d,.call ⟨.builtin .len,#[x],#[t]⟩,ty,pos,after,gd⟩ (.d (cI (l.length:Int))):=fun g base w tmps hinv he=>by
 rcases vc_or hinv htl (evo_rep he hx) with hvk | ⟨n0,r0,A,hv⟩
 ·obtain ⟨_,xs,h2,_,h4⟩:=vc_val hinv htl hvk
  obtain ⟨⟨A,c,hv⟩,_⟩:=own_form h2
  have hn:n=l.length:=by have:=h4.len; simpa using this.symm
  rw [←hn]
  exact ⟨_,.d _ _ (.ex _),fun w' _=>len_run ht hv w'⟩
 ·have hl:l=[]:=by simpa using r0
  subst hl
  exact ⟨_,.d _ _ (.ex _),fun w' _=>len_run ht hv w'⟩
theorem q_idxV [Inhabited α] {kk:IntKind} {i:Int} {e':Nat} (ht:P.underlying t=some (.slice e)) (hi:P.info? e=some inf) (hsz:inf.size=sz) (hx:evo env x=some (.vc tk n)) (htl:st.tails[tk]?=some ⟨e',sz,n,some (l.map row)⟩) (hy:evo env y=some (.d (.ex (.int kk i)))) (h:0≤i∧i < l.length) :
  OpQ P env st ⟨d,.indexAddr t x y,ty,pos,after,gd⟩ (.vp tk n i.toNat 0):=fun g base w tmps hinv he=>by
 have hvk0:Act.eval ⟨tmps,[]⟩ x=g.tk tk:=by
  rcases vc_or hinv htl (evo_rep he hx) with hvk | ⟨n0,r0,A,hv⟩
  ·exact hvk
  ·have hl:l=[]:=by simpa using r0
   rw [hl] at h; simp at h; omega
 obtain ⟨hvk,xs,h2,_,h4⟩:=vc_val hinv htl hvk0
 have hn:n=l.length:=by have:=h4.len; simpa using this.symm
 obtain ⟨b,c,hv⟩:=(own_form h2).2 (by omega)
 have hlen:tk < st.tails.length:=(List.getElem?_eq_some_iff.1 htl).1
 subst hsz
 refine ⟨.pointer (some ⟨b,i.toNat*inf.size,none⟩),.vp _ _ _ _ _ hlen ⟨_,_,rfl⟩ fun x rows hx ho=>?_,fun w' _=>?_⟩
 ·rw [htl] at hx
  cases hx
  exact ⟨Nat.le_refl _,fun _=>⟨b,n,c,by rw [←hvk,hv],rfl⟩⟩
 ·have:=index_run (d:=d) (ty:=ty) (pos:=pos) (after:=after) (gd:=gd) ht hi hv (evo_rep he hy).ex_inv h.1 (by omega) w'
  rw [Addr.add_lit,Nat.zero_add] at this
  exact this
theorem q_fieldVp {s:TypeId} {f off:Nat} {i o:Nat} (hf:fieldOff P s f=some off) (hx:evo env x=some (.vp tk n i o)) :
  OpQ P env st ⟨d,.fieldAddr s x f,ty,pos,after,gd⟩ (.vp tk n i (o+off)):=fun g base w tmps hinv he=>by
 have h:=evo_rep he hx
 generalize hv:Act.eval ⟨tmps,[]⟩ x=v at h
 cases h with
 | vp _ _ _ _ _ ht hf' hh =>
  obtain ⟨b,o',rfl⟩:=hf'
  refine ⟨.pointer (some ⟨b,o'+off,none⟩),.vp _ _ _ _ _ ht ⟨_,_,rfl⟩ fun x rows hx ho=>?_,fun w' _=>by simp [execOp,hv,fieldPlace_run hf,Addr.add_lit]⟩
  obtain ⟨h1,h2⟩:=hh x rows hx ho
  refine ⟨h1,fun e=>?_⟩
  obtain ⟨b2,m,c,a1,a2⟩:=h2 e
  cases a2
  exact ⟨b,m,c,a1,by rw [Nat.add_assoc]⟩
theorem vp_cells {g:Ghost} {w:World} {i o e':Nat} {v:Value} {r:List D} {rows:List (List D)} (hinv:Inv g base w st) (htl:st.tails[tk]?=some ⟨e',sz,n,some rows⟩) (hv:EVRep g w st (.vp tk n i o) v) (hr:rows[i]?=some r) :
  ∃ b c xs,g.tk tk=.slice (some ⟨b,0,none⟩) n c∧v=.pointer (some ⟨b,i*sz+o,none⟩)∧w.ownsRow base e' sz (.slice (some ⟨b,0,none⟩) n c) n xs∧g.lim b=0∧RowsRep g.lim w sz n rows xs∧b < w.heap.size ∧
   ∀ j cc,r[j]?=some cc→∃ u,w.cell? ⟨b,i*sz+j,none⟩=some u∧xs[i*sz+j]?=some u∧DRep g.lim w cc u∧u.oneCell'=true:=by
 cases hv with
 | vp _ _ _ _ _ ht hf' hh =>
  obtain ⟨b,m,c,a1,a2⟩:=(hh _ rows htl rfl).2 rfl
  obtain ⟨xs,h1,h2,h3⟩:=hinv.own tk e' sz n rows htl
  rw [a1] at h1 h2
  have hm:m=n:=by
   rcases h1.2 with ⟨hh,_⟩ | ⟨_,_,_,hh,_⟩
   ·cases hh
   ·cases hh; rfl
  subst hm
  refine ⟨b,c,xs,a1,a2,h1,h2 b rfl,h3,(h1.lt b rfl).2,fun j cc hj=>?_⟩
  obtain ⟨u,k1,k2⟩:=h3.get h1.1 hr hj
  have:=h1.cells (g:=b) rfl _ u k1
  rw [Addr.add_lit,Nat.zero_add] at this
  exact ⟨u,this,k1,k2⟩
theorem q_loadVp [Inhabited α] {i o e':Nat} {c:D} (h1:(P.underlying t).map oneB=some true) (hx:evo env x=some (.vp tk n i o)) (htl:st.tails[tk]?=some ⟨e',sz,n,some (l.map row)⟩) (hi:i < l.length) (hc:(row (nth l i))[o]?=some c) :
  OpQ P env st ⟨d,.load t x,ty,pos,after,gd⟩ (.d c):=fun g base w tmps hinv he=>by
 obtain ⟨b,cp,xs,a1,a2,a3,a4,a5,a6,a7⟩:=vp_cells hinv htl (evo_rep he hx) (mapnth hi)
 obtain ⟨u,k1,k2,k3,k4⟩:=a7 o c hc
 refine ⟨u,.d _ _ k3,fun w' hb=>?_⟩
 have:=(hb.cell (p:=⟨b,i*sz+o,none⟩) a6).trans k1
 simp [execOp,a2,Instr.loadAt,Instr.sureAddr,loadVar,isAgg_of h1,this]
theorem q_loadVpA [Inhabited α] {i o e' m:Nat} {cs:List D} (h1:(P.underlying t).map oneB=some false) (hs:(P.info? t).map (·.size)=some m) (hx:evo env x=some (.vp tk n i o)) (htl:st.tails[tk]?=some ⟨e',sz,n,some (l.map row)⟩) (hi:i < l.length)
  (hm:o+m≤sz) (hc:((row (nth l i)).drop o).take m=cs):OpQ P env st ⟨d,.load t x,ty,pos,after,gd⟩ (.d (.agg cs)):=fun g base w tmps hinv he=>by
 obtain ⟨b,cp,xs,a1,a2,a3,a4,a5,a6,a7⟩:=vp_cells hinv htl (evo_rep he hx) (mapnth hi)
 have hrl:(row (nth l i)).length=sz:=a5.row _ (List.mem_of_getElem? (mapnth hi))
 have hl:cs.length=m:=by rw [←hc]; simp; omega
 let us:List Value:=(xs.drop (i*sz+o)).take m
 have hus:∀ j u,us[j]?=some u→j < m∧xs[i*sz+(o+j)]?=some u:=fun j u hu=>by
  simp only [us,List.getElem?_take,List.getElem?_drop] at hu
  split at hu
  ·rename_i hj
   exact ⟨hj,by rw [←hu]; congr 1; omega⟩
  ·cases hu
 have hcell:∀ j,j < m→∃ cc u,cs[j]?=some cc∧us[j]?=some u∧w.cell? ⟨b,i*sz+o+j,none⟩=some u∧DRep g.lim w cc u∧u.oneCell'=true:=fun j hj=>by
  have e1:(row (nth l i))[o+j]?=some ((row (nth l i))[o+j]'(by omega)):=List.getElem?_eq_getElem _
  obtain ⟨u,k1,k2,k3,k4⟩:=a7 (o+j) _ e1
  refine ⟨_,u,by rw [show cs[j]?=(((row (nth l i)).drop o).take m)[j]? from by rw [hc],List.getElem?_take,if_pos hj,List.getElem?_drop]; exact e1,?_,by rw [Nat.add_assoc]; exact k1,k3,k4⟩
  simp only [us,List.getElem?_take,List.getElem?_drop]
  rw [if_pos hj,←k2]; congr 1; omega
 have hul:us.length=m:=by
  have h1:=a3.1
  have hin:i < n:=by have:=a5.len; simp at this; omega
  have h2:(i+1)*sz≤n*sz:=Nat.mul_le_mul_right _ hin
  rw [Nat.add_mul] at h2
  simp [us]; omega
 refine ⟨.agg us.toArray,.d _ _ (.agg _ _ (by simp [hul,hl]) (fun j u hu=>?_) (fun j cc u hcc hu=>?_)),fun w' hb=>?_⟩
 ·obtain ⟨hj,_⟩:=hus j u (by simpa using hu)
  obtain ⟨cc,u',b1,b2,b3,b4,b5⟩:=hcell j hj
  have:us[j]?=some u:=by simpa using hu
  rw [b2] at this; cases this; exact b5
 ·obtain ⟨hj,_⟩:=hus j u (by simpa using hu)
  obtain ⟨cc',u',b1,b2,b3,b4,b5⟩:=hcell j hj
  have:us[j]?=some u:=by simpa using hu
  rw [b2] at this; cases this
  rw [b1] at hcc; cases hcc
  exact b4
 ·obtain ⟨inf,hinf,hsz'⟩:∃ inf,P.info? t=some inf∧inf.size=m:=by
   cases hh:P.info? t with
   | none=>rw [hh] at hs; cases hs
   | some inf=>rw [hh] at hs; exact ⟨inf,rfl,by simpa using hs⟩
  have hload:=loadCells_run (P:=P) (w:=w') (b:=b) (off:=i*sz+o) hul (fun j u hu=>by
   obtain ⟨hj,_⟩:=hus j u hu
   obtain ⟨cc,u',b1,b2,b3,b4,b5⟩:=hcell j hj
   rw [b2] at hu; cases hu
   exact (hb.cell (p:=⟨b,i*sz+o+j,none⟩) a6).trans b3)
  simp [execOp,a2,Instr.loadAt,Instr.sureAddr,loadVar,isAgg_yes h1,sizeOf,typeInfo,hinf,hsz',hload]
theorem u_storeV [Inhabited α] {i o e' m:Nat} {new:List D} {a:α} (hx:evo env x=some (.vp tk n i o)) (htl:st.tails[tk]?=some ⟨e',sz,n,some (l.map row)⟩) (hi:i < l.length) (hy:evo env y=some ev) (hc:cellsD ev=some new)
  (hs:(P.info? t).map (·.size)=some m) (hm:new.length=m) (hof:o+m≤sz) (ha:(row (nth l i)).take o++new++(row (nth l i)).drop (o+new.length)=row a) :
  OpU P base env st ⟨d,.store t x y,ty,pos,after,gd⟩ (st.setTail tk ⟨e',sz,n,some ((l.set i a).map row)⟩):=by
 intro g w tmps hinv he
 obtain ⟨b,cp,xs,a1,a2,a3,a4,a5,a6,a7⟩:=vp_cells hinv htl (evo_rep he hx) (mapnth hi)
 have hcr:=cellsD_rep hc (evo_rep he hy)
 generalize hu:Act.eval ⟨tmps,[]⟩ y=u at hcr
 have hul:u.cells.toList.length=new.length:=by simpa using hcr.1
 have hin:i < n:=by have:=a5.len; simp at this; omega
 have h2:(i+1)*sz≤n*sz:=Nat.mul_le_mul_right _ hin
 rw [Nat.add_mul] at h2
 have hone:∀ v∈u.cells.toList,v.oneCell'=true:=fun v hv=>by
  obtain ⟨j,hj⟩:=List.mem_iff_getElem?.1 hv
  have hjl:=(List.getElem?_eq_some_iff.1 hj).1
  exact (hcr.2 j new[j] v (List.getElem?_eq_getElem (by omega)) (by simpa using hj)).2
 obtain ⟨w',k1,k2,k3,k4⟩:=own_store (P:=P) a3 (i*sz+o) u.cells.toList (by omega) hone
 have hrows:=rows_store (us:=u.cells.toList) (new:=new) (off:=o) a5 a3.1 (mapnth hi) (by omega) hul (fun j c v hcc hv=>hcr.2 j c v hcc (by simpa using hv))
 rw [ha] at hrows
 have hset:(l.map row).set i (row a)=(l.set i a).map row:=by rw [List.map_set]
 rw [hset] at hrows
 obtain ⟨g',q1,q2,q3,q4⟩:=hinv.turn (x':=⟨e',sz,n,some ((l.set i a).map row)⟩) (v':=g.tk tk) (w':=w') htl (by rw [a1]; exact k2) (.inl ⟨rfl,k4,by rw [a1]; exact k3⟩) (fun hh=>by cases hh) (fun rows _ rows' _=>⟨rfl,Nat.le_refl _,fun _=>rfl⟩) (fun rows hh=>by cases hh; exact hrows)
 refine ⟨g',w',?_,q3,q4⟩
 obtain ⟨inf,hinf,hsz'⟩:∃ inf,P.info? t=some inf∧inf.size=m:=by
  cases hh:P.info? t with
  | none=>rw [hh] at hs; cases hs
  | some inf=>rw [hh] at hs; exact ⟨inf,rfl,by simpa using hs⟩
 have hcz:u.cells.size=m:=by have:=hcr.1; omega
 simp [execOp,hu,a2,Instr.storeAt,Instr.sureAddr,storeVar,sizeOf,typeInfo,hinf,hsz',hcz,k1]
end sl
end rules
section rules
variable {P:Program} {f:Ctx} {N:Nat} {S:Start} {Q:EV→St→Prop} {k:List Item} {todo:List Item} {base:Nat} {env:Env} {st:St} {ops rest:List Oper}
 {d:Option Tmp} {ty:TypeId} {pos:String} {after:Array Edge} {gd:Option (Nat×Bool)} {t t2 e:TypeId} {x y z:Operand}
section sl
variable {α:Type} {sz:Nat} {row:α→List D} {l:List α} {ev:EV} {inf:TypeInfo} {tk n:Nat}
theorem append_valV' {l':List α} {zv:Value} {d2:TypeDesc} {g:Ghost} {w:World} {v u:Value} {news:List Value} (ht:P.underlying t=some (.slice e)) (ht2:P.underlying t2=some d2) (hn2:d2=.string∨∃ e2,d2=.slice e2)
  (hi:P.info? e=some inf) (hz:inf.zero=some zv) (hsize:inf.size=sz) (hzs:zv.cells.size=sz) (hb:inf.bytes≤100000) (hinv:Inv g base w st) (hv:v=g.tk tk) (htl:st.tails[tk]?=some ⟨e,sz,n,some (l.map row)⟩)
  (hn:l.length+l'.length≤1000000000) (hsr:SrcRep P g.lim w sz u (l'.map row) news) :
  ∃ v' g' w',(Builtin.append_ #[t,t2] ty #[v,u]).run P w=.ok v' w'∧EVRep g' w' (st.setTail tk ⟨e,sz,(l++l').length,some ((l++l').map row)⟩) (.vc tk (l++l').length) v' ∧
   Inv g' base w' (st.setTail tk ⟨e,sz,(l++l').length,some ((l++l').map row)⟩)∧Step base g w st g' w' (st.setTail tk ⟨e,sz,(l++l').length,some ((l++l').map row)⟩):=by
 obtain ⟨hvk,xs,hown,hlim,hrr⟩:=vc_val hinv htl hv
 have hnl:n=l.length:=by have:=hrr.len; simpa using this.symm
 have hm:(l'.map row).length=l'.length:=by simp
 obtain ⟨v',w',hrun,hown',hm0,hc⟩:=run_append3 (P:=P) (ty:=ty) w ht ht2 hn2 hi hz hsize hzs hown hsr.src (by simp only [maxLen]; rw [hm]; omega) (by rw [hm,hnl]; exact big_le hn hb) hinv.base
 rw [hm] at hown' hm0
 have e1:(l++l').length=n+l'.length:=by rw [List.length_append,hnl]
 rw [e1]
 rw [hvk] at hc hm0
 have hrows:RowsRep g.lim w sz (n+l'.length) ((l++l').map row) (xs++news):=by
  refine ⟨by simp [hnl],fun r hr=>?_,fun j c u hcc hu=>?_⟩
  ·rw [List.map_append] at hr
   rcases List.mem_append.1 hr with h | h
   ·exact hrr.row r h
   ·exact hsr.rows r h
  ·rw [List.map_append,List.flatten_append] at hcc
   have hfl:=flat_len hrr.row
   have hxl:=hown.1
   rw [hrr.len] at hfl
   by_cases hj:j < xs.length
   ·rw [List.getElem?_append_left hj] at hu
    rw [List.getElem?_append_left (by omega)] at hcc
    exact hrr.rep j c u hcc hu
   ·rw [List.getElem?_append_right (by omega)] at hu
    rw [List.getElem?_append_right (by omega)] at hcc
    have e2:((l.map row).flatten).length=xs.length:=by omega
    rw [e2] at hcc
    exact hsr.rep _ u c hu hcc
 obtain ⟨g',q1,q2,q3,q4⟩:=hinv.turn (x':=⟨e,sz,n+l'.length,some ((l++l').map row)⟩) htl hown' hc (fun hh=>by cases hh) (fun rows _ rows' _=>⟨rfl,Nat.le_add_right _ _,fun e=>hm0 (by simp only at e; omega)⟩) (fun rows hh=>by cases hh; exact hrows)
 refine ⟨v',g',w',hrun,?_,q3,q4⟩
 have hlen:tk < st.tails.length:=(List.getElem?_eq_some_iff.1 htl).1
 obtain ⟨⟨A,c,hv⟩,_⟩:=own_form hown'
 refine .vc _ _ _ (by simpa [St.setTail] using hlen) ⟨A,_,c,hv⟩ fun y rows hy ho=>?_
 have:y=⟨e,sz,n+l'.length,some ((l++l').map row)⟩:=by
  have:(⟨e,sz,n+l'.length,some ((l++l').map row)⟩:Tail)=y:=by simpa [St.setTail,List.getElem?_set,hlen] using hy
  exact this.symm
 subst this
 exact ⟨Nat.le_refl _,fun _=>.inl q1.symm⟩
theorem append_valV {l':List α} {zv:Value} {d2:TypeDesc} {g:Ghost} {w:World} {v u:Value} {news:List Value} (ht:P.underlying t=some (.slice e)) (ht2:P.underlying t2=some d2) (hn2:d2=.string∨∃ e2,d2=.slice e2)
  (hi:P.info? e=some inf) (hz:inf.zero=some zv) (hsize:inf.size=sz) (hzs:zv.cells.size=sz) (hb:inf.bytes≤100000) (hinv:Inv g base w st) (hv:EVRep g w st (.vc tk n) v) (htl:st.tails[tk]?=some ⟨e,sz,n,some (l.map row)⟩)
  (hn:l.length+l'.length≤1000000000) (hsr:SrcRep P g.lim w sz u (l'.map row) news) :
  ∃ v' g' w',(Builtin.append_ #[t,t2] ty #[v,u]).run P w=.ok v' w'∧EVRep g' w' (st.setTail tk ⟨e,sz,(l++l').length,some ((l++l').map row)⟩) (.vc tk (l++l').length) v' ∧
   Inv g' base w' (st.setTail tk ⟨e,sz,(l++l').length,some ((l++l').map row)⟩)∧Step base g w st g' w' (st.setTail tk ⟨e,sz,(l++l').length,some ((l++l').map row)⟩):=by
 rcases vc_or hinv htl hv with hvk | ⟨n0,r0,A,hA⟩
 ·exact append_valV' ht ht2 hn2 hi hz hsize hzs hb hinv hvk htl hn hsr
 ·subst n0
  have hl:l=[]:=by simpa using r0
  subst hl
  have hlen:tk < st.tails.length:=(List.getElem?_eq_some_iff.1 htl).1
  have hm:(l'.map row).length=l'.length:=by simp
  obtain ⟨q1,q2⟩:=append_emp (P:=P) (ty:=ty) ht ht2 hn2 hi hz hsize hsr.src (by simp at hn ⊢; omega) (by rw [hm]; exact big_le (by simpa using hn) hb) A
  by_cases h0:l'.length=0
  ·have hl':l'=[]:=List.eq_nil_of_length_eq_zero h0
   subst hl'
   have hsame:st.setTail tk ⟨e,sz,([]++[]:List α).length,some (([]++[]:List α).map row)⟩=st:=by
    have h3:st.tails[tk]=⟨e,sz,0,some (([]:List α).map row)⟩:=(List.getElem?_eq_some_iff.1 htl).2
    unfold St.setTail
    show (⟨st.objs,st.tails.set tk ⟨e,sz,0,some (([]:List α).map row)⟩⟩:St)=st
    rw [←h3,List.set_getElem_self]
   rw [hsame]
   exact ⟨v,g,w,by rw [hA]; exact q1 rfl,vc_emp hlen htl ⟨A,hA⟩,hinv,.refl _ _ _ _⟩
  ·obtain ⟨v',w',hrun,hown',_,hc⟩:=run_append3 (P:=P) (ty:=ty) w ht ht2 hn2 hi hz hsize hzs (World.ownsRow_nil w base e sz) hsr.src (by simp only [maxLen]; rw [hm]; simp at hn; omega) (by rw [hm]; exact big_le (by simpa using hn) hb) hinv.base
   rw [hm] at hown'
   have hc':v'.ownBlock=some w.heap.size∧Below w.heap.size w w':=by
    rcases hc with ⟨h1,_⟩ | h
    ·exfalso
     rcases hown'.2 with ⟨_,h2⟩ | ⟨gb,cap,cur,h2,_⟩
     ·exact h0 (by omega)
     ·rw [h2] at h1; cases h1
    ·exact h
   have e1:([]++l':List α).length=0+l'.length:=by simp
   rw [e1]
   have hrows:RowsRep g.lim w sz (0+l'.length) (([]++l':List α).map row) ([]++news):=by
    refine ⟨by simp,fun r hr=>hsr.rows r (by simpa using hr),fun j c u hcc hu=>?_⟩
    exact hsr.rep j u c (by simpa using hu) (by simpa using hcc)
   obtain ⟨g',q1',q2',q3,q4⟩:=hinv.turn (x':=⟨e,sz,0+l'.length,some (([]++l':List α).map row)⟩) htl hown' (.inr hc') (fun hh=>by cases hh) (fun rows _ rows' _=>⟨rfl,Nat.zero_le _,fun e=>absurd e (by simp only; omega)⟩) (fun rows hh=>by cases hh; exact hrows)
   refine ⟨v',g',w',by rw [hA,q2 (by rw [hm]; exact h0)]; exact hrun,?_,q3,q4⟩
   obtain ⟨⟨A',c,hv'⟩,_⟩:=own_form hown'
   refine .vc _ _ _ (by simpa [St.setTail] using hlen) ⟨A',_,c,hv'⟩ fun y rows hy ho=>?_
   have:y=⟨e,sz,0+l'.length,some (([]++l':List α).map row)⟩:=by
    have:(⟨e,sz,0+l'.length,some (([]++l':List α).map row)⟩:Tail)=y:=by simpa [St.setTail,List.getElem?_set,hlen] using hy
    exact this.symm
   subst this
   exact ⟨Nat.le_refl _,fun _=>.inl q1'.symm⟩
theorem append_coreV {l':List α} {zv:Value} {d2:TypeDesc} (ht:P.underlying t=some (.slice e)) (ht2:P.underlying t2=some d2) (hn2:d2=.string∨∃ e2,d2=.slice e2)
  (hi:P.info? e=some inf) (hz:inf.zero=some zv) (hsize:inf.size=sz) (hzs:zv.cells.size=sz) (hb:inf.bytes≤100000) (hx:evo env x=some (.vc tk n)) (htl:st.tails[tk]?=some ⟨e,sz,n,some (l.map row)⟩)
  (hn:l.length+l'.length≤1000000000)
  (hsrc:∀ (g:Ghost) (w:World) (tmps:Array Value),Inv g base w st→EnvRep g w st env tmps→∃ news,SrcRep P g.lim w sz (Act.eval ⟨tmps,[]⟩ y) (l'.map row) news) :
  OpV P base env st ⟨d,.call ⟨.builtin .append,#[x,y],#[t,t2]⟩,ty,pos,after,gd⟩ (.vc tk (l++l').length) (st.setTail tk ⟨e,sz,(l++l').length,some ((l++l').map row)⟩):=by
 intro g w tmps hinv he
 obtain ⟨news,hsr⟩:=hsrc g w tmps hinv he
 obtain ⟨v',g',w',hrun,h1,h2,h3⟩:=append_valV (ty:=ty) ht ht2 hn2 hi hz hsize hzs hb hinv (evo_rep he hx) htl hn hsr
 exact ⟨v',g',w',by simp [execOp,resolve,invoke,builtin,hrun],h1,h2,h3⟩
theorem v_appendV {l':List α} {zv:Value} {w:EV} (ht:P.underlying t=some (.slice e)) (hi:P.info? e=some inf) (hz:inf.zero=some zv) (hsize:inf.size=sz) (hzs:zv.cells.size=sz) (hb:inf.bytes≤100000)
  (hx:evo env x=some (.vc tk n)) (htl:st.tails[tk]?=some ⟨e,sz,n,some (l.map row)⟩) (hy:evo env y=some w) (hs:asSl w=some (sz,l'.map row)) (hn:l.length+l'.length≤1000000000) :
  OpV P base env st ⟨d,.call ⟨.builtin .append,#[x,y],#[t,t]⟩,ty,pos,after,gd⟩ (.vc tk (l++l').length) (st.setTail tk ⟨e,sz,(l++l').length,some ((l++l').map row)⟩) :=
 append_coreV ht ht (.inr ⟨e,rfl⟩) hi hz hsize hzs hb hx htl hn fun g w tmps _ he=>srcRep_sl (asSl_rep hs (evo_rep he hy))
theorem v_build0V (row:α→List D) (ht:P.underlying t=some (.slice e)) (hi:P.info? e=some inf) (hsz:inf.size=sz) :
  OpV P base env st ⟨d,.buildSlice t 0 #[],ty,pos,after,gd⟩ (.vc st.tails.length ([]:List α).length) (st.tok ⟨e,sz,([]:List α).length,some (([]:List α).map row)⟩):=by
 intro g w tmps hinv he
 obtain ⟨g',h1,_,_,h2,h3⟩:=hinv.newTail ⟨e,sz,0,some []⟩ (v:=.slice (some ⟨w.heap.size,0,none⟩) 0 0) (xs:=[]) ⟨by simp,.inr ⟨w.heap.size,0,#[],rfl,hinv.base,heap_alloc_new w _,Nat.le_refl _,by simp [maxLen],by simp,by simp⟩⟩
  (.inr ⟨rfl,(Below.refl _ w).alloc (Nat.le_refl _) _⟩) (fun rows hh=>by cases hh; exact ⟨rfl,by simp,by simp⟩)
 refine ⟨.slice (some ⟨w.heap.size,0,none⟩) 0 0,g',_,?_,.vc _ _ _ (by simp [St.tok]) ⟨_,_,_,rfl⟩ fun y rows hy ho=>?_,h2,h3⟩
 ·simp [execOp,Instr.buildSlice,run_underlying ht,size_of hi,newRow,Instr.fill]
  rw [show Array.map (fun _=>(default:Value)) (Array.range 0)=#[] from by simp [Array.range_zero']]
 ·have:y=⟨e,sz,0,some []⟩:=by simpa [St.tok,eq_comm] using hy
  subst this
  exact ⟨Nat.le_refl _,fun _=>.inl h1.symm⟩
end sl
end rules
section rules
variable {P:Program} {f:Ctx} {N:Nat} {S:Start} {Q:EV→St→Prop} {k:List Item} {todo:List Item} {base:Nat} {env:Env} {st:St} {ops rest:List Oper}
 {d:Option Tmp} {ty:TypeId} {pos:String} {after:Array Edge} {gd:Option (Nat×Bool)} {t t2 e:TypeId} {x y z u:Operand}
section sl
variable {α:Type} {sz:Nat} {row:α→List D} {l:List α} {ev:EV} {inf:TypeInfo}
end sl
section arr
variable {α:Type} {c1:α→D} {l:List α} {o:Nat} {T:TypeId}
end arr
end rules
section norm
variable {P:Program} {f:Ctx} {N:Nat} {S:Start} {Q:EV→St→Prop} {k:List Item} {todo:List Item} {env:Env} {st:St} {ops rest:List Oper}
theorem ARun.freezeL {α:Type} {l:List α} {row:α→List D} {i tk e sz n:Nat} (hl:lookup i env=some (.vc tk n)) (htl:st.tails[tk]?=some ⟨e,sz,n,some (l.map row)⟩)
  (h:ARun P f N S Q todo ((i,.tsl sz (l.map row) tk) :: env) (st.setTail tk ⟨e,sz,l.length,none⟩)):ARun P f N S Q todo env st :=
 .lenV htl fun hn=>.freeze hl htl (by rw [hn]; exact h)
theorem AOps.freezeL {α:Type} {l:List α} {row:α→List D} {i tk e sz n:Nat} (hl:lookup i env=some (.vc tk n)) (htl:st.tails[tk]?=some ⟨e,sz,n,some (l.map row)⟩)
  (h:AOps P f N S Q ops rest k ((i,.tsl sz (l.map row) tk) :: env) (st.setTail tk ⟨e,sz,l.length,none⟩)):AOps P f N S Q ops rest k env st :=
 fun j hj=>.freezeL hl htl (h j hj)
theorem ARun.normV {α:Type} {l:List α} {row:α→List D} {tk e sz n:Nat} (E:Nat→Env) (T:Nat→St) (htl:st.tails[tk]?=some ⟨e,sz,n,some (l.map row)⟩) (hE:SubEnv env (E n)) (hT:st=T n)
  (h:ARun P f N S Q todo (E l.length) (T l.length)):ARun P f N S Q todo env st :=
 .lenV htl fun hn=>.sub hE (by rw [hT,hn]; exact h)
end norm
theorem EVle.tupE {es xs:List EV} (h:EVlesE es xs):EVle (.tup es) (.tup xs):=by
 intro g w st v hv
 obtain ⟨h1,h2⟩:=h.get
 cases hv with
 | tup _ vs hs hc =>
  refine .tup _ vs (by rw [hs,h1]) fun i d u hd hu=>?_
  obtain ⟨e,he,hle⟩:=h2 i d hd
  exact hle _ _ _ _ (hc i e u he hu)
theorem okMap {n m:Nat} {κ α:Type} {ke:κ→Value} {val:α→D} {l:List (κ×α)}:okObj n m (.map (mEnc ke val l))=true:=by
 unfold okObj mEnc
 rw [List.all_eq_true]
 intro p hp
 obtain ⟨q,_,rfl⟩:=List.mem_map.1 hp
 rfl
theorem renMap {ρ τ:Nat→Nat} {κ α:Type} {ke:κ→Value} {val:α→D} {l:List (κ×α)}:AObj.ren ρ τ (.map (mEnc ke val l))=.map (mEnc ke val l):=by
 simp [AObj.ren,mEnc,EV.ren]
theorem renArr {ρ τ:Nat→Nat} {T:TypeId} {α:Type} {l:List α} {c1:α→D}:AObj.ren ρ τ (.row T (l.map fun b=>EV.d (c1 b)))=.row T (l.map fun b=>EV.d (c1 b)):=by
 have h:∀ l:List α,EV.ren.rens ρ τ (l.map fun b=>EV.d (c1 b))=l.map fun b=>EV.d (c1 b):=by
  intro l
  induction l with
  | nil=>rfl
  | cons x l ih=>rw [List.map_cons,EV.ren.rens,ih]; rfl
 rw [AObj.ren,h]
section v
variable {P:Program} {base:Nat} {env:Env} {st:St} {d:Option Tmp} {ty:TypeId} {pos:String} {after:Array Edge} {gd:Option (Nat×Bool)} {t t2:TypeId} {x y:Operand}
end v
section drawn
variable {P:Program} {f:Ctx} {N:Nat} {S:Start} {Q:EV→St→Prop} {k:List Item}
def OpE (P:Program) (base:Nat) (l:List Oper) (env:Env) (st:St) (o:Oper) (x:EV) (st':St):Prop :=
 (st'=st∧OpAny P l env st o x)∨(o.guard=none∧OpV P base env st o x st')∨(o.guard=none∧x=.d .any∧OpU P base env st o st')
theorem drawn_mainF {l:List Oper} {p:Nat} {env:Env} {xs:List EV} (F:(Nat→Bool)→St→Prop) (hp:p≤l.length) (hxp:xs.length=p)
  (hC1:∀ i j t,i < p→j < p→i≠j→dstAt l i=some t→dstAt l j≠some t)
  (hC2:∀ (i:Nat) o,i < p→l[i]?=some o→∀ t∈slots l o,∀ j,j < p→j≠i→dstAt l j=some t→(j < i∧((masks l []).getD i 0).testBit j=true)∨(i < j∧((masks l []).getD j 0).testBit i=true))
  (hord:∀ i,p≤i→i < l.length→∀ j,j < i→((masks l []).getD i 0).testBit j=true)
  (hacyc:∀ (i:Nat) o,l[i]?=some o→∀ e∈o.after,Region.binds .any e=true→e.on < i)
  (hstep:∀ (L:Nat→Bool) (st:St) (i:Nat) (o:Oper),i < p→l[i]?=some o→L i=false→(∀ j,((masks l []).getD i 0).testBit j=true→L j=true)→(∀ a,L a=true→∀ b,((masks l []).getD a 0).testBit b=true→L b=true)→F L st →
   dstOk N o.dst=true∧∃ x st',xs[i]?=some x∧OpE P S.base l (renv l o (putAll env ((l.take p).take i) (xs.take i))) st o x st'∧F (fun j=>j==i || L j) st')
  (hsuf:∀ (L:Nat→Bool) (st:St),(∀ i,i < p→L i=true)→F L st→AOps P f N S Q l (l.drop p) k (putAll env (l.take p) xs) st) :
  ∀ (cnt fuel t:Nat) (listed:Array Bool) (g:Ghost) (w:World) (tmps:Array Value) (st:St),F (fun i=>listed.getD i false) st→listed.size=l.length→Closed l listed→(∀ i,p≤i→i < l.length→listed.getD i true=false) →
   (((List.range p).filter fun i=>!listed.getD i true).length=cnt)→cnt+(l.length-p)≤fuel→Inv g S.base w st→Hist S g w st→tmps.size=N →
   (∀ (s:Tmp),(∀ (j:Nat) x,j < p→listed.getD j false=true→dstAt l j=some s→xs[j]?=some x→∃ v,tmps[s]?=some v∧EVRep g w st x v) ∧
    ((∀ j,j < p→listed.getD j false=true→dstAt l j≠some s)→∀ y,lookup s env=some y→∃ v,tmps[s]?=some v∧EVRep g w st y v)) →
   FWP P f (RPost S Q) (.inRegion l.toArray (Region.linearise.go .any l.toArray fuel t listed []) :: k) tmps w:=by
 have hxl:xs.length=(l.take p).length:=by simp; omega
 have hxl':=hxp
 intro cnt
 induction cnt with
 | zero =>
  intro fuel t listed g w tmps st hF hs hcl hsu hcnt hfuel hinv hh hN hJ
  have hall:∀ i,i < p→listed.getD i true=true:=by
   intro i hi
   have h0:=List.eq_nil_of_length_eq_zero hcnt
   have hn:i ∉ (List.range p).filter fun i=>!listed.getD i true:=by rw [h0]; simp
   rw [List.mem_filter,List.mem_range] at hn
   cases hb:listed.getD i true with
   | true=>rfl
   | false=>exact absurd ⟨hi,by simp [hb]⟩ hn
  have hgo:=go_suffix hord hacyc fuel t p listed (Nat.le_refl _) hp (by omega) hs (fun i hi=>by
   by_cases h:i < p
   ·rw [hall i h]; simp [h]
   ·rw [hsu i (by omega) hi]; simp [h])
  rw [hgo]
  have hdl:(l.drop p).length=l.length-p:=by simp
  rw [←hdl]
  have hallF:∀ i,i < p→listed.getD i false=true:=fun i hi=>by
   have:=hall i hi
   have hlt:i < listed.size:=by omega
   simpa [Array.getD_eq_getD_getElem?,hlt] using this
  refine hsuf _ st hallF hF p (fun j=>by rw [List.getElem?_drop]) g w tmps hinv hh (fun s y hy=>?_) hN
  rcases lookup_putAll hxl hy with ⟨j,o,h1,h2,h3⟩ | ⟨h1,h2⟩
  ·have hj:j < p:=by have:=(List.getElem?_eq_some_iff.1 h2).1; omega
   have ho:l[j]?=some o:=by rw [List.getElem?_take] at h1; rw [if_pos hj] at h1; exact h1
   exact (hJ s).1 j y hj (hallF j hj) (by simp [dstAt,ho,h3]) h2
  ·refine (hJ s).2 (fun j hj _ hd=>?_) y h2
   cases ho:l[j]? with
   | none=>simp [dstAt,ho] at hd
   | some o=>exact h1 j o (by rw [List.getElem?_take,if_pos hj]; exact ho) (by simpa [dstAt,ho] using hd)
 | succ cnt ih =>
  intro fuel t listed g w tmps st hF hs hcl hsu hcnt hfuel hinv hh hN hJ
  obtain ⟨fuel,rfl⟩:∃ n,fuel=n+1:=⟨fuel-1,by omega⟩
  -- an operation of the beginning that has not come up
  have hex:∃ i,i < p∧listed.getD i true=false:=by
   have:(List.range p).filter (fun i=>!listed.getD i true)≠[]:=fun h=>by rw [h] at hcnt; simp at hcnt
   obtain ⟨i,hi⟩:=List.exists_mem_of_ne_nil _ this
   rw [List.mem_filter,List.mem_range] at hi
   exact ⟨i,hi.1,by simpa using hi.2⟩
  have hDF:∀ i,i < l.length→listed.getD i false=listed.getD i true:=fun i hi=>by
   have hlt:i < listed.size:=by omega
   simp [Array.getD_eq_getD_getElem?,hlt]
  have hrd:((List.range l.toArray.size).filter fun i=>!listed.getD i true && ((l.toArray[i]?).map (·.after.all fun e=>!Region.binds .any e || listed.getD e.on false)).getD false)=Region.ready .any l.toArray listed:=rfl
  -- the least such is ready
  have hne:Region.ready .any l.toArray listed≠[]:=by
   have hmin:∀ n i,i≤n→i < p→listed.getD i true=false→∃ i,i < p∧listed.getD i true=false∧∀ j,j < i→listed.getD j true=true:=by
    intro n
    induction n with
    | zero=>intro i hi hp' h; exact ⟨i,hp',h,fun j hj=>by omega⟩
    | succ n ihn =>
     intro i hi hp' h
     by_cases hh':∃ j,j < i∧listed.getD j true=false
     ·obtain ⟨j,hj,hjl⟩:=hh'
      exact ihn j (by omega) (by omega) hjl
     ·refine ⟨i,hp',h,fun j hj=>?_⟩
      cases hb:listed.getD j true with
      | true=>rfl
      | false=>exact absurd ⟨j,hj,hb⟩ hh'
   obtain ⟨i0,h0,h1⟩:=hex
   obtain ⟨i,hip,hiu,hbel⟩:=hmin i0 i0 (Nat.le_refl _) h0 h1
   have hil:i < l.length:=by omega
   have:i∈Region.ready .any l.toArray listed:=by
    rw [mem_ready]
    refine ⟨hiu,l[i],by simp [hil],fun e he hb=>?_⟩
    have hlt:=hacyc i l[i] (List.getElem?_eq_getElem hil) e he hb
    rw [hDF _ (by omega)]
    exact hbel _ hlt
   intro hnil
   rw [hnil] at this
   cases this
  simp only [Region.linearise.go,hrd]
  have hlen:0 < (Region.ready .any l.toArray listed).length:=List.length_pos_iff.2 hne
  have hmod:=Nat.mod_lt t hlen
  generalize hi:(Region.ready .any l.toArray listed)[t % (Region.ready .any l.toArray listed).length]=i
  have hsome:(Region.ready .any l.toArray listed)[t % (Region.ready .any l.toArray listed).length]?=some i:=by rw [List.getElem?_eq_getElem hmod,hi]
  rw [hsome]
  simp only []
  rw [linearise_go_acc]
  have him:i∈Region.ready .any l.toArray listed:=List.mem_of_getElem? hsome
  obtain ⟨hiu,o,ho,hall⟩:=mem_ready.1 him
  have ho':l[i]?=some o:=by simpa using ho
  have hil:=(List.getElem?_eq_some_iff.1 ho').1
  have hmask:=ready_mask hcl ho' (fun e he hb=>hall e he hb)
  have hip:i < p:=by
   rcases Nat.lt_or_ge i p with h | h
   ·exact h
   ·obtain ⟨i0,h0,h1⟩:=hex
    have:=hmask i0 (hord i h hil i0 (by omega))
    rw [hDF i0 (by omega),h1] at this
    cases this
  obtain ⟨hd,x,st',hx,hop,hF'⟩:=hstep _ st i o hip ho' (by show listed.getD i false=false; rw [hDF i hil,hiu]) hmask (fun a ha b hb=>by
   have hgm:=masks_good hcl l [] (by simp) (by simp)
   have hmj:(masks l [])[a]?=some ((masks l []).getD a 0):=by
    cases hm:(masks l [])[a]? with
    | none=>rw [List.getD_eq_getElem?_getD,hm] at hb; simp at hb
    | some m=>rw [List.getD_eq_getElem?_getD,hm]; rfl
   exact hgm a _ hmj ha b hb) hF
  have hFn:(fun j=>(listed.setIfInBounds i true).getD j false)=fun j=>j==i || listed.getD j false:=by
   funext j
   by_cases hji:j=i
   ·subst hji; simp [Array.getD_eq_getD_getElem?,hs,hil]
   ·rw [getD_set_ne false (Ne.symm hji)]; simp [hji]
  have hgm:=masks_good hcl l [] (by simp) (by simp)
  -- what the operation looks at
  have he:EnvRep g w st (renv l o (putAll env ((l.take p).take i) (xs.take i))) tmps:=by
   intro s y hy
   obtain ⟨hsl,hy'⟩:=renvOf_get hy
   rcases lookup_putAll (by simp [hxl]) hy' with ⟨j,o',h1,h2,h3⟩ | ⟨h1,h2⟩
   ·have hji:j < i:=by have:=(List.getElem?_eq_some_iff.1 h2).1; simp at this; omega
    have hoj:l[j]?=some o':=by
     rw [List.getElem?_take,if_pos hji,List.getElem?_take,if_pos (by omega)] at h1; exact h1
    have hdj:dstAt l j=some s:=by simp [dstAt,hoj,h3]
    rcases hC2 i o hip ho' s hsl j (by omega) (by omega) hdj with ⟨_,hb⟩ | ⟨hlt,_⟩
    ·exact (hJ s).1 j y (by omega) (hmask j hb) hdj (by rw [List.getElem?_take,if_pos hji] at h2; exact h2)
    ·omega
   ·refine (hJ s).2 (fun j hj hlj hdj=>?_) y h2
    by_cases hji:j=i
    ·subst hji
     rw [hDF j hil,hiu] at hlj
     cases hlj
    ·rcases hC2 i o hip ho' s hsl j hj hji hdj with ⟨hlt,_⟩ | ⟨hlt,hb⟩
     ·cases hoj:l[j]? with
      | none=>simp [dstAt,hoj] at hdj
      | some o'=>exact h1 j o' (by rw [List.getElem?_take,if_pos hlt,List.getElem?_take,if_pos hj]; exact hoj) (by simpa [dstAt,hoj] using hdj)
     ·have hjl:j < l.length:=by omega
      have hmj:(masks l [])[j]?=some ((masks l []).getD j 0):=by
       cases hm:(masks l [])[j]? with
       | none=>rw [List.getD_eq_getElem?_getD,hm] at hb; simp at hb
       | some m=>rw [List.getD_eq_getElem?_getD,hm]; rfl
      have:=hgm j _ hmj hlj i hb
      rw [hDF i hil,hiu] at this
      cases this
  -- what remains behind it
  have hcnt':((List.range p).filter fun j=>!(listed.setIfInBounds i true).getD j true).length=cnt:=by
   have hset:∀ j,(listed.setIfInBounds i true).getD j true=(listed.getD j true || decide (j=i)):=by
    intro j
    by_cases hji:j=i
    ·subst hji; simp [Array.getD_eq_getD_getElem?,hs,hil]
    ·rw [getD_set_ne true (Ne.symm hji)]; simp [hji]
   have hfil:((List.range p).filter fun j=>!(listed.setIfInBounds i true).getD j true)=((List.range p).filter fun j=>!listed.getD j true).filter fun j=>!decide (j=i):=by
    rw [List.filter_filter]
    refine List.filter_congr fun j _=>?_
    rw [hset j]
    cases listed.getD j true <;> simp
   rw [hfil]
   have hnd:((List.range p).filter fun j=>!listed.getD j true).Nodup:=List.nodup_range.filter _
   have hmem:i∈(List.range p).filter fun j=>!listed.getD j true:=by rw [List.mem_filter,List.mem_range]; exact ⟨hip,by simp [hiu]⟩
   have hcount:∀ (L:List Nat),L.Nodup→i∈L→(L.filter fun j=>!decide (j=i)).length+1=L.length:=by
    intro L
    induction L with
    | nil=>intro _ h; cases h
    | cons a L ihL =>
     intro hn hm
     rw [List.nodup_cons] at hn
     by_cases ha:a=i
     ·subst ha
      have:(L.filter fun j=>!decide (j=a))=L:=by
       rw [List.filter_eq_self]
       intro b hb
       have:b≠a:=fun e=>hn.1 (e▸hb)
       simp [this]
      rw [List.filter_cons]
      simp [this]
     ·have hm':i∈L:=by
       rcases List.mem_cons.1 hm with h | h
       ·exact absurd h.symm ha
       ·exact h
      rw [List.filter_cons]
      simp only [ha,decide_false,Bool.not_false,if_true,List.length_cons]
      rw [ihL hn.2 hm']
   have:=hcount _ hnd hmem
   omega
  have hcl':Closed l (listed.setIfInBounds i true):=by
   intro j oj hoj hlj e he' hb
   by_cases hji:j=i
   ·subst hji
    rw [ho'] at hoj
    cases hoj
    exact getD_set_true (hall e he' hb)
   ·rw [getD_set_ne false (Ne.symm hji)] at hlj
    exact getD_set_true (hcl j oj hoj hlj e he' hb)
  have hsu':∀ j,p≤j→j < l.length→(listed.setIfInBounds i true).getD j true=false:=fun j hj hjl=>by rw [getD_set_ne true (by omega)]; exact hsu j hj hjl
  -- the step
  have next:∀ (g':Ghost) (w':World) (v:Value),EVRep g' w' st' x v→Inv g' S.base w' st'→Step S.base g w st g' w' st' →
    FWP P f (RPost S Q) (.inRegion l.toArray (Region.linearise.go .any l.toArray fuel (t / (Region.ready .any l.toArray listed).length) (listed.setIfInBounds i true) []) :: k) (Act.put ⟨tmps,[]⟩ o.dst v).tmps w':=by
   intro g' w' v hxr hinv' hst
   refine ih fuel _ _ _ w' _ st' (by rw [hFn]; exact hF') (by simpa using hs) hcl' hsu' hcnt' (by omega) hinv' (hh.step hst) (by rw [size_put]; exact hN) fun s=>⟨fun j y hj hlj hdj hy=>?_,fun hno y hy=>?_⟩
   ·by_cases hji:j=i
    ·subst hji
     have hods:o.dst=some s:=by simpa [dstAt,ho'] using hdj
     rw [hx] at hy
     cases hy
     rw [hods]
     have hsz:s < tmps.size:=by
      rw [hods] at hd
      have hd':s+1≤N:=Nat.le_of_ble_eq_true hd
      rw [hN]
      exact hd'
     exact ⟨v,by simp [Act.put,hsz],hxr⟩
    ·rw [getD_set_ne false (Ne.symm hji)] at hlj
     obtain ⟨u,h1,h2⟩:=(hJ s).1 j y hj hlj hdj hy
     have hne':o.dst≠some s:=fun e=>hC1 j i s hj hip hji hdj (by simp [dstAt,ho',e])
     refine ⟨u,?_,h2.mono hst.sevo⟩
     cases hod:o.dst with
     | none=>exact h1
     | some d =>
      have:d≠s:=fun e=>hne' (by rw [hod,e])
      simp [Act.put,Array.getElem?_setIfInBounds,this,h1]
   ·have hne':o.dst≠some s:=fun e=>hno i hip (by simp [Array.getD_eq_getD_getElem?,hs,hil]) (by simp [dstAt,ho',e])
    obtain ⟨u,h1,h2⟩:=(hJ s).2 (fun j hj hlj=>hno j hj (by
     by_cases hji:j=i
     ·subst hji; simp [Array.getD_eq_getD_getElem?,hs,hil]
     ·rw [getD_set_ne false (Ne.symm hji)]; exact hlj)) y hy
    refine ⟨u,?_,h2.mono hst.sevo⟩
    cases hod:o.dst with
    | none=>exact h1
    | some d =>
     have:d≠s:=fun e=>hne' (by rw [hod,e])
     simp [Act.put,Array.getElem?_setIfInBounds,this,h1]
  have hoA:l.toArray[i]?=some o:=ho
  show FWP P f (RPost S Q) (.inRegion l.toArray (i :: _) :: k) tmps w
  have nextG:st'=st→∀ (lim':Nat→Nat) (w':World) (v:Value),Good g w st x lim' w' v →
    FWP P f (RPost S Q) (.inRegion l.toArray (Region.linearise.go .any l.toArray fuel (t / (Region.ready .any l.toArray listed).length) (listed.setIfInBounds i true) []) :: k) (Act.put ⟨tmps,[]⟩ o.dst v).tmps w':=by
   rintro rfl lim' w' v ⟨hxr,hb,hl⟩
   obtain ⟨hinv',hst⟩:=hinv.grow (g':={ g with lim:=lim' }) hb hl rfl rfl
   exact next _ w' v hxr hinv' hst
  rcases hop with ⟨hse,hop⟩ | ⟨hg,hop⟩ | ⟨hg,rfl,hop⟩
  ·rcases hop with ⟨hg,hop⟩ | ⟨j,want,tt,c,b,y,env',hg,hj,hlk,hgc,rfl,hE,hop⟩
   ·have hw:Region.wanted o (yielded l.toArray tmps)=true:=by simp [Region.wanted,hg]
    rcases hop g S.base w tmps hinv he with ⟨v,lim',w',hr,hgood⟩ | ⟨f',args,hr,hc⟩
    ·exact FWP.value hoA hw hr (nextG hse lim' w' v hgood)
    ·exact FWP.call hoA hw hr (hc.mono fun e w' ⟨v,lim',h1,h2⟩=>⟨v,h1,nextG hse lim' w' v h2⟩)
   ·obtain ⟨u,hu,hur⟩:=he tt c hlk
    have hw:Region.wanted o (yielded l.toArray tmps)=b:=by
     rw [←gcond_rep hgc hur]
     have hj':((l.toArray)[j]?).bind (·.dst)=some tt:=by simpa using hj
     simp only [Region.wanted,hg,yielded,hj',Option.bind_some,hu]
     cases u <;> rfl
    cases b with
    | false=>exact FWP.unwanted hoA hw (nextG hse g.lim w undef ⟨.gd _ _ _ (fun _=>rfl) (fun h=>by cases h),.refl _ _,fun _ _=>rfl⟩)
    | true =>
     have wrap:∀ lim' w' v,Good g w st y lim' w' v→Good g w st (.gd true y) lim' w' v:=fun lim' w' v ⟨a,b,c⟩=>⟨.gd _ _ _ (fun h=>by cases h) (fun _=>a),b,c⟩
     rcases hop rfl g S.base w tmps hinv (he.gd hE rfl) with ⟨v,lim',w',hr,hgood⟩ | ⟨f',args,hr,hc⟩
     ·exact FWP.value hoA hw hr (nextG hse lim' w' v (wrap _ _ _ hgood))
     ·exact FWP.call hoA hw hr (hc.mono fun e w' ⟨v,lim',h1,h2⟩=>⟨v,h1,nextG hse lim' w' v (wrap _ _ _ h2)⟩)
  ·have hw:Region.wanted o (yielded l.toArray tmps)=true:=by simp [Region.wanted,hg]
   obtain ⟨v,g',w',hr,hxr,hinv',hst⟩:=hop g w tmps hinv he
   exact FWP.value hoA hw hr (next g' w' v hxr hinv' hst)
  ·have hw:Region.wanted o (yielded l.toArray tmps)=true:=by simp [Region.wanted,hg]
   obtain ⟨g',w',hr,hinv',hst⟩:=hop g w tmps hinv he
   exact FWP.skip hoA hw hr (next g' w' undef (.d _ _ (.any _)) hinv' hst)
theorem ARun.drawnF {id:Nat} {l:List Oper} {env:Env} {st:St} (p:Nat) (xs:List EV) (F:(Nat→Bool)→St→Prop) (hm:P.follows .mixedOrders=true) (hB:drawB l p=true) (hxp:xs.length=p) (hF0:F (fun _=>false) st)
  (hstep:∀ (L:Nat→Bool) (st:St) (i:Nat) (o:Oper),i < p→l[i]?=some o→L i=false→(∀ j,((masks l []).getD i 0).testBit j=true→L j=true)→(∀ a,L a=true→∀ b,((masks l []).getD a 0).testBit b=true→L b=true)→F L st →
   dstOk N o.dst=true∧∃ x st',xs[i]?=some x∧OpE P S.base l (renv l o (putAll env ((l.take p).take i) (xs.take i))) st o x st'∧F (fun j=>j==i || L j) st')
  (hsuf:∀ (L:Nat→Bool) (st:St),(∀ i,i < p→L i=true)→F L st→AOps P f N S Q l (l.drop p) k (putAll env (l.take p) xs) st):ARun P f N S Q (.code (.region id l.toArray true) :: k) env st:=by
 simp only [drawB,Bool.and_eq_true] at hB
 obtain ⟨⟨⟨⟨hB1,hB2⟩,hB3⟩,hB4⟩,hB5⟩:=hB
 have hp:p≤l.length:=by simpa using hB5
 intro g w tmps hinv hh he hn
 refine FWP.regionDraw fun t=>?_
 have hsch:Region.schedule (P.follows .mixedOrders) l.toArray t=Region.linearise .any l.toArray t:=by simp [Region.schedule,hm]
 rw [hsch]
 have hb:Below w.heap.size w { w with drawn:=w.drawn+1 }:=(Below.refl _ w).drew
 obtain ⟨hinv',hst⟩:=hinv.grow (g':=g) hb (fun _ _=>rfl) rfl rfl
 unfold Region.linearise
 refine drawn_mainF (p:=p) (xs:=xs) F hp hxp ?_ ?_ ?_ ?_ hstep hsuf p _ t _ g _ tmps st (by
  have:(fun i=>(Array.replicate l.toArray.size false).getD i false)=fun _=>false:=by
   funext i; simp [Array.getD_eq_getD_getElem?,Array.getElem?_replicate]; split <;> rfl
  rw [this]; exact hF0) (by simp) ?_ ?_ ?_ ?_ hinv' (hh.step hst) hn fun s=>⟨fun j x hj hlj=>?_,fun _ y hy=>?_⟩
 ·intro i j t hi hj hij hdi hdj
  have:=allBelow_get (allBelow_get hB2 hi) hj
  simp [hij,hdi,hdj] at this
 ·intro i o hi ho t ht j hj hji hdj
  have h1:=allBelow_get hB1 hi
  rw [ho] at h1
  simp only [List.all_eq_true] at h1
  have h2:=allBelow_get (h1 t ht) hj
  simp only [hdj,bne_self_eq_false,Bool.or_false,Bool.or_eq_true,Bool.and_eq_true,decide_eq_true_eq,beq_iff_eq] at h2
  rcases h2 with (h2 | h2) | h2
  ·exact absurd h2.symm hji
  ·exact .inl h2
  ·exact .inr h2
 ·intro i hi hil j hj
  have h1:=allBelow_get hB3 hil
  simp only [Bool.or_eq_true,decide_eq_true_eq] at h1
  rcases h1 with h1 | h1
  ·omega
  ·exact allBelow_get h1 hj
 ·intro i o ho e he' hb'
  have hil:=(List.getElem?_eq_some_iff.1 ho).1
  have h1:=allBelow_get hB4 hil
  rw [ho] at h1
  simp only [List.all_eq_true] at h1
  have:=h1 e (by simpa using he')
  simpa [hb'] using this
 ·intro i o ho hli
  simp [Array.getD_eq_getD_getElem?,Array.getElem?_replicate] at hli
  split at hli <;> simp_all
 ·intro i hi hil
  simp [Array.getD_eq_getD_getElem?,Array.getElem?_replicate,hil]
 ·have:((List.range p).filter fun i=>!(Array.replicate l.toArray.size false).getD i true)=List.range p:=by
   rw [List.filter_eq_self]
   intro i hi
   have hi':=List.mem_range.1 hi
   have:i < l.length:=by omega
   simp [Array.getD_eq_getD_getElem?,Array.getElem?_replicate,this]
  rw [this]; simp
 ·simp; omega
 ·simp [Array.getD_eq_getD_getElem?,Array.getElem?_replicate] at hlj
  split at hlj <;> simp_all
 ·exact (he.mono hst.sevo) s y hy
end drawn
structure KeyF (P:Program) (key:TypeId) (κ:Type) [BEq κ] [LawfulBEq κ] where
 ke:κ→Value
 find:∀ {α:Type} (k:κ) (l:List (κ×α)) (ms:List MapEntry) (w:World),ms.map (·.key)=l.map (fun p=>ke p.1) →
  (Instr.findKey key (ke k) ms).run P w=.ok ((afind l k).bind fun j=>(ms[j]?).map fun m=>(j,m.val)) w
 bits:∀ a,Instr.sameBits 10000 (ke a) (ke a)=true
 check:∀ a b w,(Instr.checkKey b 10000 key (ke a)).run P w=.ok () w
def KeyKind.toF {P:Program} {key:TypeId} {κ:Type} [BEq κ] [LawfulBEq κ] (K:KeyKind P key κ):KeyF P key κ where
 ke:=K.ke
 find k l ms w h:=findKey_run K k h w
 bits:=K.bits
 check:=K.check
def intKF {P:Program} {key:TypeId} (h:P.underlying key=some (.int .i64)):KeyF P key Int:=(intKeys h).toF
theorem exKey {lim:Nat→Nat} {w:World} {u v:Value} (h:DRep lim w (.ex u) v):v=u:=by cases h; rfl
def askKF {P:Program} {key:TypeId} {κ:Type} [BEq κ] [LawfulBEq κ] (ke:κ→Value) {kd:TypeDesc} (hu:P.underlying key=some kd)
  (hnow:∀ a b,Instr.sameNow kd (ke a) (ke b)=none) (heq:∀ a b w,(Op.equal key (ke a) (ke b)).run P w=.ok (a==b) w)
  (hbits:∀ a,Instr.sameBits 10000 (ke a) (ke a)=true) (hcheck:∀ a b w,(Instr.checkKey b 10000 key (ke a)).run P w=.ok () w):KeyF P key κ where
 ke:=ke
 find:=by
  intro α k l ms w h
  have ask:∀ (l:List (κ×α)) (ms:List MapEntry) (i:Nat),ms.map (·.key)=l.map (fun p=>ke p.1) →
    (Instr.findAsking key (ke k) ms i).run P w=.ok ((afind l k).bind fun j=>(ms[j]?).map fun m=>(i+j,m.val)) w:=by
   intro l
   induction l with
   | nil =>
    intro ms i h
    have:ms=[]:=by simpa using h
    subst this
    simp [Instr.findAsking,afind]
   | cons p l ih =>
    intro ms i h
    cases ms with
    | nil=>simp at h
    | cons m ms =>
     simp only [List.map_cons,List.cons.injEq] at h
     have h2:=ih ms (i+1) h.2
     unfold Instr.findAsking
     rw [h.1]
     simp only [Sem.run_bind,heq,Result.andThen_ok]
     by_cases hk:k==p.1
     ·simp [hk,afind,List.findIdx?_cons]
     ·have hkf:(k==p.1)=false:=by simpa using hk
      simp only [hkf,Bool.false_eq_true,if_false,h2]
      unfold afind
      rw [List.findIdx?_cons,hkf]
      simp only [Bool.false_eq_true,if_false]
      cases List.findIdx? (fun p=>k==p.1) l with
      | none=>rfl
      | some j =>
       simp only [Option.bind_some,Option.map_some,List.getElem?_cons_succ]
       congr 2
       funext m
       congr 1
       omega
  have hf:∀ (ms:List MapEntry) (l:List (κ×α)),ms.map (·.key)=l.map (fun p=>ke p.1)→Instr.findNow kd (ke k) ms 0=none∨ms=[]:=by
   intro ms l h
   cases ms with
   | nil=>exact .inr rfl
   | cons m ms =>
    cases l with
    | nil=>simp at h
    | cons p l =>
     simp only [List.map_cons,List.cons.injEq] at h
     left
     unfold Instr.findNow
     rw [h.1,hnow]
  rcases hf ms l h with h0 | h0
  ·simp only [Instr.findKey,Sem.run_bind,run_underlying hu,Result.andThen_ok,h0]
   have:=ask l ms 0 h
   simpa using this
  ·subst h0
   have:l=[]:=by simpa using h.symm
   subst this
   simp [Instr.findKey,run_underlying hu,Instr.findNow,afind]
 bits:=hbits
 check:=hcheck
def encE {κ:Type} (ke:κ→Value) (l:List (κ×EV)):List (Value×EV):=l.map fun p=>(ke p.1,p.2)
def valE {κ α:Type} (val:α→D) (l:List (κ×α)):List (κ×EV):=l.map fun p=>(p.1,.d (val p.2))
theorem mEnc_eq {κ α:Type} {ke:κ→Value} {val:α→D} {l:List (κ×α)}:mEnc ke val l=encE ke (valE val l):=by
 simp [mEnc,encE,valE]
section alist
variable {κ α β:Type} [BEq κ] [LawfulBEq κ]
theorem afind_map (f:α→β) (l:List (κ×α)) (k:κ):afind (l.map fun p=>(p.1,f p.2)) k=afind l k:=by
 unfold afind; rw [List.findIdx?_map]; rfl
theorem alook_map (f:α→β) (l:List (κ×α)) (k:κ):alook (l.map fun p=>(p.1,f p.2)) k=(alook l k).map f:=by
 rw [alook_afind,alook_afind,afind_map]
 cases afind l k with
 | none=>rfl
 | some j=>simp only [Option.bind_some,List.getElem?_map]; cases l[j]? <;> rfl
theorem aset_map (f:α→β) (l:List (κ×α)) (k:κ) (a:α):aset (l.map fun p=>(p.1,f p.2)) k (f a)=(aset l k a).map fun p=>(p.1,f p.2):=by
 unfold aset
 rw [afind_map]
 cases afind l k with
 | none=>simp
 | some j=>simp [List.map_set]
end alist
section inv
variable {P:Program} {base:Nat} {g:Ghost} {w:World} {st:St}
theorem Inv.setMap (hinv:Inv g base w st) {o:Nat} {es es':List (Value×EV)} (ho:st.objs[o]?=some (.map es)) {ms':Array MapEntry} {clock':Nat} (k1:ms'.size=es'.length)
  (k2:∀ (i:Nat) k x (m:MapEntry),es'[i]?=some (k,x)→ms'[i]?=some m→m.key=k∧EVRep g w st x m.val)
  (k3:∀ (i:Nat) (m:MapEntry),ms'[i]?=some m→m.born < clock') (k4:∀ (i j:Nat) (m m':MapEntry),ms'[i]?=some m→ms'[j]?=some m'→m.born=m'.born→i=j) :
  Inv g base { w with heap:=w.heap.setIfInBounds (g.ob o) (.map ms' clock') } (st.set o (.map es'))∧Step base g w st g { w with heap:=w.heap.setIfInBounds (g.ob o) (.map ms' clock') } (st.set o (.map es')):=by
 obtain ⟨hbase,ms,clock,hb,hl,hrep,hborn,hdist⟩:=hinv.map o _ ho
 have hblk:g.ob o < w.heap.size:=(Array.getElem?_eq_some_iff.1 hb).1
 have hset:∀ ob:Obj,({ w with heap:=w.heap.setIfInBounds (g.ob o) ob }:World).heap.size=w.heap.size:=fun ob=>by simp
 have hoth:∀ ob:Obj,∀ b,b≠g.ob o→({ w with heap:=w.heap.setIfInBounds (g.ob o) ob }:World).heap[b]?=w.heap[b]?:=fun ob b hb'=>by simp [Array.getElem?_setIfInBounds,Ne.symm hb']
 have hsame:∀ ob:Obj,({ w with heap:=w.heap.setIfInBounds (g.ob o) ob }:World).heap[g.ob o]?=some ob:=fun ob=>by simp [hblk]
 have hnoc:∀ off,w.cell? ⟨g.ob o,off,none⟩=none:=fun off=>by simp [World.cell?,hb]
 have hevo:Evo g.lim w g.lim { w with heap:=w.heap.setIfInBounds (g.ob o) (.map ms' clock') }:=by
  refine ⟨by rw [hset]; exact Nat.le_refl _,fun _ _=>Nat.le_refl _,fun b off hb' ho'=>?_⟩
  by_cases hbo:b=g.ob o
  ·subst hbo
   rw [hnoc]
   simp [World.cell?,hblk]
  ·exact World.cell?_of_block (w:=w) (a:=⟨b,off,none⟩) (hoth _ b hbo)
 have hlive:st.live o:=⟨_,ho,by simp⟩
 have hlo:o < st.objs.length:=(List.getElem?_eq_some_iff.1 ho).1
 have hs:SEvo g w st g { w with heap:=w.heap.setIfInBounds (g.ob o) (.map ms' clock') } (st.set o (.map es')) :=
  ⟨hevo,fun _ _=>rfl,by simp [St.set],fun t e sz n ht=>⟨n,ht,Nat.le_refl _,fun _=>rfl⟩,Nat.le_refl _,own_same fun _ _ _ _ h _=>⟨h,rfl⟩⟩
 have hother:∀ o' y,o'≠o→(st.set o (.map es')).objs[o']?=some y→st.objs[o']?=some y:=by
  intro o' y hne hy'
  simpa [St.set,List.getElem?_set,Ne.symm hne] using hy'
 have hrw:∀ o' y,(st.set o (.map es')).objs[o']?=some (.raw y)→base≤g.ob o'∧g.lim (g.ob o')=0∧(w.heap.setIfInBounds (g.ob o) (.map ms' clock'))[g.ob o']?=some y:=by
  intro o' y hx'
  have hne:o'≠o:=by
   rintro rfl
   simp [St.set,hlo] at hx'
  have hy':=hother o' _ hne hx'
  obtain ⟨h1,h2,h3⟩:=hinv.raw o' y hy'
  have hne':=hinv.ne o' o hne ⟨_,hy',by simp⟩ hlive
  exact ⟨h1,h2,by rw [hoth _ _ hne']; exact h3⟩
 refine ⟨⟨by rw [hset]; exact hinv.base,?_,?_,hrw,?_,?_,hinv.tailNe,?_,hinv.glob.below ⟨rfl,rfl,rfl,by rw [hset]; exact Nat.le_refl _,fun b hb'=>hoth _ b (by omega)⟩,?_⟩,⟨hs,⟨rfl,rfl,rfl,by rw [hset]; exact Nat.le_refl _,fun b hb'=>hoth _ b (by omega)⟩,fun _ _=>rfl,
   fun b _ hn=>⟨hoth _ b (fun e=>hn (.inl ⟨o,hlive,e.symm⟩)),rfl⟩,fun b _ hw=>hw.elim (fun ⟨o',a1,a2⟩=>.inl ⟨o',live_set hlive a1,a2⟩) .inr⟩⟩
 ·intro o' ty' cs hx'
  have hne:o'≠o:=by
   rintro rfl
   simp [St.set,hlo] at hx'
  have hy':=hother o' _ hne hx'
  obtain ⟨h1,h2,vs,h3,h4,h5⟩:=hinv.row o' ty' cs hy'
  have hne':=hinv.ne o' o hne ⟨_,hy',by simp⟩ hlive
  exact ⟨h1,h2,vs,by rw [hoth _ _ hne']; exact h3,h4,fun i c u hc hu=>⟨(h5 i c u hc hu).1.mono hs,(h5 i c u hc hu).2⟩⟩
 ·intro o' es2 hx'
  by_cases hne:o'=o
  ·subst hne
   have hes:es'=es2:=by simpa [St.set,hlo] using hx'
   subst hes
   exact ⟨hbase,ms',clock',hsame _,k1,fun i kk yy m hm1 hm2=>⟨(k2 i kk yy m hm1 hm2).1,(k2 i kk yy m hm1 hm2).2.mono hs⟩,k3,k4⟩
  ·have hy':=hother o' _ hne hx'
   obtain ⟨h1,ms2,c2,h3,h4,h5,h6⟩:=hinv.map o' es2 hy'
   have hne':=hinv.ne o' o hne ⟨_,hy',by simp⟩ hlive
   exact ⟨h1,ms2,c2,by rw [hoth _ _ hne']; exact h3,h4,fun i kk yy m a b=>⟨(h5 i kk yy m a b).1,(h5 i kk yy m a b).2.mono hs⟩,h6⟩
 ·exact fun o1 o2 hne h1 h2=>hinv.ne o1 o2 hne (live_set hlive h1) (live_set hlive h2)
 ·intro t' e' sz' n' ht'
  obtain ⟨xs,h1,h2⟩:=hinv.tail t' e' sz' n' ht'
  exact ⟨xs,ownsRow_keep h1 fun b hb'=>hoth _ b fun e=>hinv.tailObj t' _ o ht' hlive (by rw [hb',e]),h2⟩
 ·exact fun t' x' o' ht' hl'=>hinv.tailObj t' x' o' ht' (live_set hlive hl')
 ·intro t' e' sz' n' rows ht'
  obtain ⟨xs,h1,h2,h3⟩:=hinv.own t' e' sz' n' rows ht'
  exact ⟨xs,ownsRow_keep h1 fun b hb'=>hoth _ b fun e=>hinv.tailObj t' _ o ht' hlive (by rw [hb',e]),h2,h3.mono hevo⟩
end inv
section rules
variable {P:Program} {base:Nat} {env:Env} {st:St} {d:Option Tmp} {ty:TypeId} {pos:String} {after:Array Edge} {gd:Option (Nat×Bool)} {t t2 e key:TypeId} {x y z:Operand}
 {κ α:Type} [BEq κ] [LawfulBEq κ]
theorem encE_keys {g:Ghost} {w:World} {st:St} {l:List (κ×EV)} {ke:κ→Value} {ms:Array MapEntry} (hl:ms.size=(encE ke l).length)
  (h:∀ (i:Nat) k x (m:MapEntry),(encE ke l)[i]?=some (k,x)→ms[i]?=some m→m.key=k∧EVRep g w st x m.val):ms.toList.map (·.key)=l.map fun p=>ke p.1:=by
 apply List.ext_getElem?
 intro i
 rw [List.getElem?_map,List.getElem?_map]
 have hlen:ms.size=l.length:=by simpa [encE] using hl
 by_cases hi:i < l.length
 ·have h1:ms[i]?=some (ms[i]'(by omega)):=Array.getElem?_eq_getElem (by omega)
  have h2:l[i]?=some l[i]:=List.getElem?_eq_getElem hi
  have h3:=(h i (ke l[i].1) l[i].2 _ (by simp [encE,h2]) h1).1
  rw [h2,Array.getElem?_toList,h1]
  simp [h3]
 ·rw [List.getElem?_eq_none (by simp; omega),List.getElem?_eq_none (by omega)]; rfl
theorem lookup_core (K:KeyF P key κ) {o:Nat} {l:List (κ×EV)} {k:κ} {dk:D} {inf:TypeInfo} {zv:Value} {c:Bool} (ht:P.underlying t=some (.map key e)) (hi:P.info? e=some inf) (hz:inf.zero=some zv)
  (hx:evo env x=some (.mp o)) (ho:st.objs[o]?=some (.map (encE K.ke l))) (hy:evo env y=some (.d dk)) (hk:∀ lim w v,DRep lim w dk v→v=K.ke k)
  {g:Ghost} {w:World} {tmps:Array Value} (hinv:Inv g base w st) (he:EnvRep g w st env tmps) :
  ∃ v,(match alook l k with | some x=>EVRep g w st x v | none=>v=zv) ∧
   ∀ w',Below w.heap.size w w'→(execOp (Act.eval ⟨tmps,[]⟩) ⟨d,.lookup t x y c,ty,pos,after,gd⟩).run P w'=.ok (.value (if c=true then .tuple #[v,.bool (alook l k).isSome] else v)) w':=by
 have hxr:=evo_rep he hx
 generalize hv:Act.eval ⟨tmps,[]⟩ x=v at hxr
 have hyv:Act.eval ⟨tmps,[]⟩ y=K.ke k:=by
  have:=evo_rep he hy
  cases this with | d _ _ h=>exact hk _ _ _ h
 cases hxr with
 | mp _ hlt =>
  obtain ⟨_,ms,clock,hb,hl,hrep,_⟩:=hinv.map o _ ho
  have hkeys:=encE_keys hl hrep
  have hblk:g.ob o < w.heap.size:=(Array.getElem?_eq_some_iff.1 hb).1
  rw [alook_afind]
  cases hf:afind l k with
  | none =>
   refine ⟨zv,rfl,fun w' hb'=>?_⟩
   have hb2:w'.heap[g.ob o]?=some (.map ms clock):=(hb'.block _ hblk).trans hb
   have hfk:=K.find k l ms.toList w' hkeys
   rw [hf] at hfk
   simp [execOp,hv,hyv,Instr.lookup,run_underlying ht,getObj,Sem.run,hb2,K.check,hfk,zero_run hi hz]
  | some j =>
   have hj:=afind_lt hf
   have hlen:ms.size=l.length:=by simpa [encE] using hl
   have h1:ms[j]?=some (ms[j]'(by omega)):=Array.getElem?_eq_getElem (by omega)
   have h2:l[j]?=some l[j]:=List.getElem?_eq_getElem hj
   have h3:=(hrep j (K.ke l[j].1) l[j].2 _ (by simp [encE,h2]) h1).2
   simp only [Option.bind_some,h2,Option.map_some,Option.isSome_some]
   refine ⟨(ms[j]'(by omega)).val,h3,fun w' hb'=>?_⟩
   have hb2:w'.heap[g.ob o]?=some (.map ms clock):=(hb'.block _ hblk).trans hb
   have hfk:=K.find k l ms.toList w' hkeys
   rw [hf] at hfk
   have h1':ms.toList[j]?=some (ms[j]'(by omega)):=by rw [Array.getElem?_toList]; exact h1
   simp only [Option.bind_some,h1',Option.map_some] at hfk
   simp [execOp,hv,hyv,Instr.lookup,run_underlying ht,getObj,Sem.run,hb2,K.check,hfk]
theorem pair_rep {g:Ghost} {w:World} {st:St} {u:Value} {b:Bool} {c:D} (h:EVRep g w st (.d c) u):EVRep g w st (.d (.tup [c,.ex (.bool b)])) (.tuple #[u,.bool b]):=by
 have h':DRep g.lim w c u:=by cases h with | d _ _ h=>exact h
 refine .d _ _ (.tup _ _ rfl ?_)
 intro i c' u' hc hu
 match i with
 | 0=>simp at hc hu; subst hc; subst hu; exact h'
 | 1=>simp at hc hu; subst hc; subst hu; exact .ex _
 | n+2=>simp at hc
theorem alook_valE {val:α→D} {l:List (κ×α)} {k:κ}:alook (valE val l) k=(alook l k).map fun a=>.d (val a):=alook_map (fun a=>EV.d (val a)) l k
theorem q_lookupD (K:KeyF P key κ) {o:Nat} {l:List (κ×α)} {val:α→D} {k:κ} {dk:D} {inf:TypeInfo} {zv:Value} {a0:α} (ht:P.underlying t=some (.map key e)) (hi:P.info? e=some inf) (hz:inf.zero=some zv) (hz0:DLe (cv zv) (val a0))
  (hx:evo env x=some (.mp o)) (ho:st.objs[o]?=some (.map (mEnc K.ke val l))) (hy:evo env y=some (.d dk)) (hk:∀ lim w v,DRep lim w dk v→v=K.ke k) :
  OpQ P env st ⟨d,.lookup t x y false,ty,pos,after,gd⟩ (.d (val ((alook l k).getD a0))):=by
 intro g base w tmps hinv he
 rw [mEnc_eq] at ho
 obtain ⟨v,h1,h2⟩:=lookup_core (c:=false) (d:=d) (ty:=ty) (pos:=pos) (after:=after) (gd:=gd) K ht hi hz hx ho hy hk hinv he
 rw [alook_valE] at h1
 refine ⟨v,?_,fun w' hb=>by simpa using h2 w' hb⟩
 cases hl:alook l k with
 | none=>rw [hl] at h1; simp only [Option.map_none] at h1; subst h1; exact .d _ _ (hz0 _ _ _ (cv_rep g.lim w v))
 | some a=>rw [hl] at h1; exact h1
theorem q_lookupOkD (K:KeyF P key κ) {o:Nat} {l:List (κ×α)} {val:α→D} {k:κ} {dk:D} {inf:TypeInfo} {zv:Value} {a0:α} (ht:P.underlying t=some (.map key e)) (hi:P.info? e=some inf) (hz:inf.zero=some zv) (hz0:DLe (cv zv) (val a0))
  (hx:evo env x=some (.mp o)) (ho:st.objs[o]?=some (.map (mEnc K.ke val l))) (hy:evo env y=some (.d dk)) (hk:∀ lim w v,DRep lim w dk v→v=K.ke k) :
  OpQ P env st ⟨d,.lookup t x y true,ty,pos,after,gd⟩ (.d (.tup [val ((alook l k).getD a0),.ex (.bool (alook l k).isSome)])):=by
 intro g base w tmps hinv he
 rw [mEnc_eq] at ho
 obtain ⟨v,h1,h2⟩:=lookup_core (c:=true) (d:=d) (ty:=ty) (pos:=pos) (after:=after) (gd:=gd) K ht hi hz hx ho hy hk hinv he
 rw [alook_valE] at h1 h2
 refine ⟨_,?_,h2⟩
 rw [if_pos rfl]
 cases hl:alook l k with
 | none=>rw [hl] at h1; simp only [Option.map_none] at h1; subst h1; exact pair_rep (.d _ _ (hz0 _ _ _ (cv_rep g.lim w v)))
 | some a=>rw [hl] at h1; exact pair_rep h1
theorem update_core (K:KeyF P key κ) {o:Nat} {l:List (κ×EV)} {k:κ} {dk:D} {ev:EV} (ht:P.underlying t=some (.map key e)) (hx:evo env x=some (.mp o)) (ho:st.objs[o]?=some (.map (encE K.ke l)))
  (hy:evo env y=some (.d dk)) (hk:∀ lim w v,DRep lim w dk v→v=K.ke k) {g:Ghost} {w:World} {tmps:Array Value} (hinv:Inv g base w st) (he:EnvRep g w st env tmps) (hz:EVRep g w st ev (Act.eval ⟨tmps,[]⟩ z)) :
  ∃ w',(Instr.mapUpdate t (Act.eval ⟨tmps,[]⟩ x) (Act.eval ⟨tmps,[]⟩ y) (Act.eval ⟨tmps,[]⟩ z)).run P w=.ok () w'∧Inv g base w' (st.set o (.map (encE K.ke (aset l k ev))))∧Step base g w st g w' (st.set o (.map (encE K.ke (aset l k ev)))):=by
 have hxr:=evo_rep he hx
 generalize hv:Act.eval ⟨tmps,[]⟩ x=v at hxr
 have hyv:Act.eval ⟨tmps,[]⟩ y=K.ke k:=by
  have:=evo_rep he hy
  cases this with | d _ _ h=>exact hk _ _ _ h
 generalize hu:Act.eval ⟨tmps,[]⟩ z=u at hz
 cases hxr with
 | mp _ hlt =>
  obtain ⟨hbase,ms,clock,hb,hl,hrep,hborn,hdist⟩:=hinv.map o _ ho
  have hkeys:=encE_keys hl hrep
  have hblk:g.ob o < w.heap.size:=(Array.getElem?_eq_some_iff.1 hb).1
  have hlen:ms.size=l.length:=by simpa [encE] using hl
  have hfk:=K.find k l ms.toList w hkeys
  have fin:∀ (ms':Array MapEntry) (clock':Nat),ms'.size=(aset l k ev).length →
    (∀ (i:Nat) (p:κ×EV) (m:MapEntry),(aset l k ev)[i]?=some p→ms'[i]?=some m→m.key=K.ke p.1∧EVRep g w st p.2 m.val) →
    (∀ (i:Nat) (m:MapEntry),ms'[i]?=some m→m.born < clock')→(∀ (i j:Nat) (m m':MapEntry),ms'[i]?=some m→ms'[j]?=some m'→m.born=m'.born→i=j) →
    (Instr.mapUpdate t (.map (some (g.ob o))) (K.ke k) u).run P w=.ok () { w with heap:=w.heap.setIfInBounds (g.ob o) (.map ms' clock') } →
    ∃ w',(Instr.mapUpdate t (.map (some (g.ob o))) (Act.eval ⟨tmps,[]⟩ y) u).run P w=.ok () w'∧Inv g base w' (st.set o (.map (encE K.ke (aset l k ev))))∧Step base g w st g w' (st.set o (.map (encE K.ke (aset l k ev)))):=by
   intro ms' clock' k1 k2 k3 k4 k5
   obtain ⟨q1,q2⟩:=hinv.setMap (es':=encE K.ke (aset l k ev)) ho (ms':=ms') (clock':=clock') (by simpa [encE] using k1) (fun i kk yy m hm1 hm2=>by
    simp only [encE,List.getElem?_map] at hm1
    cases hp:(aset l k ev)[i]? with
    | none=>rw [hp] at hm1; cases hm1
    | some p=>rw [hp] at hm1; cases hm1; exact k2 i p m hp hm2) k3 k4
   exact ⟨_,by rw [hyv]; exact k5,q1,q2⟩
  cases hf:afind l k with
  | none =>
   rw [hf] at hfk
   simp only [Option.bind_none] at hfk
   have haset:aset l k ev=l++[(k,ev)]:=by unfold aset; rw [hf]
   refine fin (ms.push ⟨K.ke k,u,clock⟩) (clock+1) (by simp [haset,hlen]) ?_ ?_ ?_ ?_
   ·intro i p m hp hm
    rw [haset] at hp
    by_cases hi:i < l.length
    ·rw [List.getElem?_append_left hi] at hp
     rw [Array.getElem?_push_lt (by omega)] at hm
     exact hrep i (K.ke p.1) p.2 m (by simp [encE,hp]) (by rw [Array.getElem?_eq_getElem (by omega)]; exact hm)
    ·have hi':i=l.length:=by
      have:=(List.getElem?_eq_some_iff.1 hp).1
      simp at this
      omega
     subst hi'
     simp at hp
     subst hp
     rw [←hlen] at hm
     simp at hm
     subst hm
     exact ⟨rfl,hz⟩
   ·intro i m hm
    by_cases hi:i < ms.size
    ·rw [Array.getElem?_push_lt hi] at hm
     have:=hborn i m (by rw [Array.getElem?_eq_getElem hi]; exact hm)
     omega
    ·have hlt':=(Array.getElem?_eq_some_iff.1 hm).1
     simp at hlt'
     have:i=ms.size:=by omega
     subst this
     simp at hm
     subst hm
     exact Nat.lt_succ_self _
   ·intro i j m m' hm hm' hbb
    have get:∀ (i:Nat) m,(ms.push ⟨K.ke k,u,clock⟩)[i]?=some m→(i < ms.size∧ms[i]?=some m)∨(i=ms.size∧m.born=clock):=by
     intro i m hm
     by_cases hi:i < ms.size
     ·rw [Array.getElem?_push_lt hi] at hm
      exact .inl ⟨hi,by rw [Array.getElem?_eq_getElem hi]; exact hm⟩
     ·have hlt':=(Array.getElem?_eq_some_iff.1 hm).1
      simp at hlt'
      have:i=ms.size:=by omega
      subst this
      simp at hm
      subst hm
      exact .inr ⟨rfl,rfl⟩
    rcases get i m hm with ⟨h1,h2⟩ | ⟨h1,h2⟩ <;> rcases get j m' hm' with ⟨h3,h4⟩ | ⟨h3,h4⟩
    ·exact hdist i j m m' h2 h4 hbb
    ·have:=hborn i m h2; omega
    ·have:=hborn j m' h4; omega
    ·omega
   ·simp [Instr.mapUpdate,run_underlying ht,getObj,setObj,Sem.run,hb,K.check,hfk]
  | some j =>
   have hj:=afind_lt hf
   have haset:aset l k ev=l.set j (k,ev):=by unfold aset; rw [hf]
   have hlj:(k==l[j].1)=true:=by
    unfold afind at hf
    rw [List.findIdx?_eq_some_iff_getElem] at hf
    exact hf.2.1
   have hkj:k=l[j].1:=eq_of_beq hlj
   have h1:ms[j]?=some (ms[j]'(by omega)):=Array.getElem?_eq_getElem (by omega)
   have h1':ms.toList[j]?=some (ms[j]'(by omega)):=by rw [Array.getElem?_toList]; exact h1
   rw [hf] at hfk
   simp only [Option.bind_some,h1',Option.map_some] at hfk
   have hkey:(ms[j]'(by omega)).key=K.ke k:=by
    have:=(hrep j (K.ke l[j].1) l[j].2 _ (by simp [encE,List.getElem?_eq_getElem hj]) h1).1
    rw [this,hkj]
   have hmod:∀ (i:Nat) m,(ms.modify j fun e=>{ e with key:=K.ke k,val:=u })[i]?=some m→(i=j∧m={ (ms[j]'(by omega)) with key:=K.ke k,val:=u })∨(i≠j∧ms[i]?=some m):=by
    intro i m hm
    rw [Array.getElem?_modify] at hm
    by_cases hij:j=i
    ·subst hij
     rw [if_pos rfl,h1] at hm
     cases hm
     exact .inl ⟨rfl,rfl⟩
    ·rw [if_neg hij] at hm
     exact .inr ⟨Ne.symm hij,hm⟩
   refine fin (ms.modify j fun e=>{ e with key:=K.ke k,val:=u }) clock (by simp [haset,hlen]) ?_ ?_ ?_ ?_
   ·intro i p m hp hm
    rw [haset,List.getElem?_set] at hp
    rcases hmod i m hm with ⟨rfl,rfl⟩ | ⟨hne,hm'⟩
    ·rw [if_pos rfl] at hp
     simp [hj] at hp
     subst hp
     exact ⟨rfl,hz⟩
    ·rw [if_neg (Ne.symm hne)] at hp
     exact hrep i (K.ke p.1) p.2 m (by simp [encE,hp]) hm'
   ·intro i m hm
    rcases hmod i m hm with ⟨rfl,rfl⟩ | ⟨hne,hm'⟩
    ·exact hborn _ (ms[i]'(by omega)) h1
    ·exact hborn _ _ hm'
   ·intro i i' m m' hm hm' hbb
    rcases hmod i m hm with ⟨rfl,rfl⟩ | ⟨hne,h2⟩ <;> rcases hmod i' m' hm' with ⟨rfl,rfl⟩ | ⟨hne',h2'⟩
    ·rfl
    ·exact hdist _ _ (ms[i]'(by omega)) _ h1 h2' hbb
    ·exact hdist _ _ _ (ms[i']'(by omega)) h2 h1 hbb
    ·exact hdist _ _ _ _ h2 h2' hbb
   ·have hbits:Instr.sameBits 10000 (K.ke k) (K.ke k)=true:=K.bits k
    simp [Instr.mapUpdate,run_underlying ht,getObj,setObj,Sem.run,hb,K.check,hfk,Instr.keyThatStays,h1,hkey,hbits]
theorem u_mapUpdateD (K:KeyF P key κ) {o:Nat} {l:List (κ×α)} {val:α→D} {k:κ} {dk:D} {a:α} {ev:EV} (ht:P.underlying t=some (.map key e)) (hx:evo env x=some (.mp o)) (ho:st.objs[o]?=some (.map (mEnc K.ke val l)))
  (hy:evo env y=some (.d dk)) (hk:∀ lim w v,DRep lim w dk v→v=K.ke k) (hz:evo env z=some ev) (hle:EVle ev (.d (val a))) :
  OpU P base env st ⟨d,.mapUpdate t x y z,ty,pos,after,gd⟩ (st.set o (.map (mEnc K.ke val (aset l k a)))):=by
 intro g w tmps hinv he
 rw [mEnc_eq] at ho
 obtain ⟨w',h1,h2,h3⟩:=update_core (z:=z) K ht hx ho hy hk hinv he (hle _ _ _ _ (evo_rep he hz))
 have hs:encE K.ke (aset (valE val l) k (.d (val a)))=mEnc K.ke val (aset l k a):=by
  rw [mEnc_eq]; unfold valE; rw [aset_map (fun a=>EV.d (val a))]
 rw [hs] at h2 h3
 exact ⟨g,w',by simp [execOp,h1],h2,h3⟩
end rules
section lit
variable {P:Program} {f:Ctx} {N:Nat} {S:Start} {Q:EV→St→Prop} {k:List Item} {κ:Type} [BEq κ] [LawfulBEq κ] {key:TypeId}
theorem ARun.split {todo:List Item} {env:Env} {st:St} (b:Bool) (ht:b=true→ARun P f N S Q todo env st) (hf:b=false→ARun P f N S Q todo env st):ARun P f N S Q todo env st:=by
 cases hb:b with
 | true=>exact ht hb
 | false=>exact hf hb
def MStep (P:Program) (N:Nat) (l:List Oper) (m:Nat) (t:TypeId) (K:KeyF P key κ) (ins:List (Nat×κ×EV)) (st0:St) (i:Nat) (o:Oper) (env:Env) (x:EV):Prop :=
  dstOk N o.dst=true ∧
  (((Nat.beq i m || ins.any fun e=>Nat.beq e.1 i)=false∧∀ st,(st=st0∨∃ es,st=st0.add (.map es))→OpAny P l env st o x) ∨
   (i=m∧o.guard=none∧x=.mp st0.objs.length∧∃ t,o.op=.makeMap t none) ∨
   (∃ kk v dk a b c,(i,kk,v)∈ins∧x=.d .any∧o.guard=none∧o.op=.insert t a b c∧evo env a=some (.mp st0.objs.length)∧evo env b=some (.d dk)∧(∀ lim w v,DRep lim w dk v→v=K.ke kk)∧evo env c=some v ∧
      ((masks l []).getD i 0).testBit m=true))
def MChain (P:Program) (N:Nat) (l:List Oper) (m:Nat) (t:TypeId) (K:KeyF P key κ) (ins:List (Nat×κ×EV)) (st0:St):Nat→List Oper→List EV→Env→Prop
 | _,[],[],_=>True
 | i,o :: os,x :: xs,env=>MStep P N l m t K ins st0 i o (renv l o env) x∧MChain P N l m t K ins st0 (i+1) os xs (env.put o.dst x)
 | _,_,_,_=>False
def MOps (P:Program) (f:Ctx) (N:Nat) (S:Start) (Q:EV→St→Prop) (l:List Oper) (p m:Nat) (t:TypeId) (K:KeyF P key κ) (ins:List (Nat×κ×EV)) (i:Nat) (os:List Oper) (k:List Item) (env:Env) (st:St):Prop :=
 ∃ xs,MChain P N l m t K ins st i os xs env∧∀ es,es.Perm (ins.map (·.2))→AOps P f N S Q l (l.drop p) k (putAll env os xs) (st.add (.map (encE K.ke es)))
variable {l:List Oper} {p m:Nat} {t:TypeId} {K:KeyF P key κ} {ins:List (Nat×κ×EV)} {i:Nat} {os:List Oper} {env:Env} {st:St} {d:Option Tmp} {op:Op} {ty:TypeId} {pos:String} {after:Array Edge} {x:EV}
theorem MOps.g (h:∀ s,(s=st∨∃ es,s=st.add (.map es))→OpG P (renv l ⟨d,op,ty,pos,after,none⟩ env) s ⟨d,op,ty,pos,after,none⟩ x) (hb:(Nat.beq i m || ins.any fun e=>Nat.beq e.1 i)=false) (hd:dstOk N d=true)
  (hk:MOps P f N S Q l p m t K ins (i+1) os k (env.put d x) st):MOps P f N S Q l p m t K ins i (⟨d,op,ty,pos,after,none⟩ :: os) k env st:=by
 obtain ⟨xs,h1,h2⟩:=hk
 exact ⟨x :: xs,⟨⟨hd,.inl ⟨hb,fun s hs=>.inl ⟨rfl,h s hs⟩⟩⟩,h1⟩,h2⟩
theorem MOps.q (h:∀ s,(s=st∨∃ es,s=st.add (.map es))→OpQ P (renv l ⟨d,op,ty,pos,after,none⟩ env) s ⟨d,op,ty,pos,after,none⟩ x) (hb:(Nat.beq i m || ins.any fun e=>Nat.beq e.1 i)=false) (hd:dstOk N d=true)
  (hk:MOps P f N S Q l p m t K ins (i+1) os k (env.put d x) st):MOps P f N S Q l p m t K ins i (⟨d,op,ty,pos,after,none⟩ :: os) k env st:=.g (fun s hs=>(h s hs).g) hb hd hk
end lit
theorem aggKey {lim:Nat→Nat} {w:World} {ds:List D} {vs:List Value} {v:Value} (h:DRep lim w (.agg ds) v) (he:exs ds=some vs):v=.agg vs.toArray:=by
 have hm:=exs_map he
 subst hm
 cases h with
 | agg _ us hs ho hc =>
  congr 1
  apply Array.ext'
  apply List.ext_getElem?
  intro i
  simp only [List.length_map] at hs
  by_cases hi:i < vs.length
  ·have h1:us[i]?=some (us[i]'(by omega)):=Array.getElem?_eq_getElem (by omega)
   have h2:=hc i (.ex vs[i]) _ (by simp [hi]) h1
   rw [Array.getElem?_toList,h1,drep_ex h2]
   simp [hi]
  ·rw [List.getElem?_eq_none (by simp; omega),List.getElem?_eq_none (by simpa using hi)]
section keys
variable {P:Program}
theorem sameBits_one {k:FK} {v:Value} (h:fkFits k v=true) (n:Nat):Instr.sameBits n v v=true:=by
 cases v <;> cases k <;> simp [fkFits] at h <;> simp [Instr.sameBits] <;> (rw [beq_toListBytes]; simp)
theorem sameBits_flat:∀ {ks:List FK} {vs:List Value},fitAll ks vs=true→∀ n,(vs.zip vs).all (fun p=>Instr.sameBits n p.1 p.2)=true
 | [],[],_,n=>rfl
 | k :: ks,v :: vs,h,n=>by
  simp only [fitAll,Bool.and_eq_true] at h
  simp only [List.zip_cons_cons,List.all_cons,sameBits_one h.1,sameBits_flat h.2,Bool.and_self]
 | [],_ :: _,h,_=>by cases h
 | _ :: _,[],h,_=>by cases h
theorem checkKey_one {t:TypeId} {k:FK} (h:fkOf (P.underlying t)=some k) {v:Value} (hv:fkFits k v=true) (b:Bool) (n:Nat) (w:World):(Instr.checkKey b (n+1) t v).run P w=.ok () w:=by
 cases hd:P.underlying t with
 | none=>rw [hd] at h; cases h
 | some dsc =>
  rw [hd] at h
  cases dsc <;> simp only [fkOf,Option.some.injEq,reduceCtorEq] at h <;> subst h <;> cases v <;> simp [fkFits] at hv <;> simp [Instr.checkKey,run_underlying hd]
theorem checkFields (b:Bool) (n:Nat) (w:World) (X:Array Value):∀ (fs:List Field) (k:Nat) (ks:List FK) (vs:List Value),flatFrom P k fs=some ks→fitAll ks vs=true→(∀ (j:Nat) v,vs[j]?=some v→X[k+j]?=some v) →
  (forIn fs PUnit.unit (fun f _=>do
   if f.name ≠ "_" then do
    Instr.checkKey b (n+1) f.type (←part f.type X f.offset)
    pure (.yield PUnit.unit)
   else pure (.yield PUnit.unit)):Sem PUnit).run P w=.ok PUnit.unit w
 | [],k,ks,vs,h,hv,hX=>by simp
 | f :: fs,k,ks,vs,h,hv,hX=>by
  unfold flatFrom at h
  split at h
  ·rename_i kk ks' h1 h2 h3 h4
   simp only [Option.some.injEq] at h
   subst h
   match vs with
   | []=>cases hv
   | v :: vs =>
    simp only [fitAll,Bool.and_eq_true] at hv
    have ho:=Nat.eq_of_beq_eq_true h1
    have hname:f.name ≠ "_" := of_decide_eq_true h2
    have px:=part_one h3 (cs:=X) (off:=f.offset) (hX 0 v rfl |> fun h=>by rw [ho]; simpa using h) w
    have pc:=checkKey_one h3 hv.1 b n w
    have ih:=checkFields b n w X fs (k+1) ks' vs h4 hv.2 (fun j v hv=>by have:=hX (j+1) v (by simpa using hv); rwa [show k+1+j=k+(j+1) by omega])
    rw [List.forIn_cons]
    simp only [if_pos hname,Sem.run_bind,px,pc,Result.andThen_ok,Sem.run_pure]
    exact ih
  ·cases h
def stKF {κ:Type} [BEq κ] [LawfulBEq κ] {key:TypeId} {fs:Array Field} {ks:List FK} (vals:κ→List Value) (hu:P.underlying key=some (.struct fs)) (hk:flatKinds P key=some ks) (hf:∀ a,fitAll ks (vals a)=true)
  (he:∀ a b,eqVs (vals a) (vals b)=(a==b)):KeyF P key κ :=
 askKF (fun a=>.agg (vals a).toArray) hu (fun _ _=>rfl) (fun a b w=>by
   have:=(eq_flat (P:=P) hk (hf a) (hf b) w .eql (.const (.bool true)) (.const (.bool true))).2
   rw [he a b] at this
   exact this)
  (fun a=>by
   have:=sameBits_flat (hf a) 9999
   show Instr.sameBits (9999+1) _ _=true
   simp only [Instr.sameBits]
   simpa using this)
  (fun a b w=>by
   have hfl:flatFrom P 0 fs.toList=some ks:=by
    unfold flatKinds at hk
    rw [hu] at hk
    simp only at hk
    split at hk
    ·cases hk
    ·exact hk
   have:=checkFields (P:=P) b 9998 w (vals a).toArray fs.toList 0 ks (vals a) hfl (hf a) (fun j v hv=>by simpa using hv)
   show (Instr.checkKey b (9999+1) key _).run P w=.ok () w
   unfold Instr.checkKey
   simp only [Sem.run_bind,run_underlying hu,Result.andThen_ok]
   rw [←Array.forIn_toList,show (9999:Nat)=9998+1 from rfl,this]
   rfl)
end keys
structure Sched (l:List Oper) (p:Nat) (σ:List Nat):Prop where
 nodup:σ.Nodup
 mem:∀ i,i∈σ↔i < p
 mask:∀ pre i post,σ=pre++i :: post→∀ j,((masks l []).getD i 0).testBit j=true→j∈pre
theorem lin_main {l:List Oper} {p:Nat} (hp:p≤l.length)
  (hord:∀ i,p≤i→i < l.length→∀ j,j < i→((masks l []).getD i 0).testBit j=true)
  (hacyc:∀ (i:Nat) o,l[i]?=some o→∀ e∈o.after,Region.binds .any e=true→e.on < i) :
  ∀ (cnt fuel t:Nat) (listed:Array Bool),listed.size=l.length→Closed l listed→(∀ i,p≤i→i < l.length→listed.getD i true=false) →
   (((List.range p).filter fun i=>!listed.getD i true).length=cnt)→cnt+(l.length-p)≤fuel →
   ∃ σ:List Nat,Region.linearise.go .any l.toArray fuel t listed []=σ++List.range' p (l.length-p)∧σ.Nodup∧(∀ i,i∈σ↔i < p∧listed.getD i true=false) ∧
    ∀ pre i post,σ=pre++i :: post→∀ j,((masks l []).getD i 0).testBit j=true→j∈pre∨listed.getD j false=true:=by
 intro cnt
 induction cnt with
 | zero =>
  intro fuel t listed hs hcl hsu hcnt hfuel
  have hall:∀ i,i < p→listed.getD i true=true:=by
   intro i hi
   have h0:=List.eq_nil_of_length_eq_zero hcnt
   have hn:i ∉ (List.range p).filter fun i=>!listed.getD i true:=by rw [h0]; simp
   rw [List.mem_filter,List.mem_range] at hn
   cases hb:listed.getD i true with
   | true=>rfl
   | false=>exact absurd ⟨hi,by simp [hb]⟩ hn
  have hgo:=go_suffix hord hacyc fuel t p listed (Nat.le_refl _) hp (by omega) hs (fun i hi=>by
   by_cases h:i < p
   ·rw [hall i h]; simp [h]
   ·rw [hsu i (by omega) hi]; simp [h])
  refine ⟨[],by rw [hgo]; rfl,List.nodup_nil,fun i=>⟨fun h=>(by cases h),fun h=>?_⟩,fun pre i post h=>by simp at h⟩
  rw [hall i h.1] at h; cases h.2
 | succ cnt ih =>
  intro fuel t listed hs hcl hsu hcnt hfuel
  obtain ⟨fuel,rfl⟩:∃ n,fuel=n+1:=⟨fuel-1,by omega⟩
  -- an operation of the beginning that has not come up
  have hex:∃ i,i < p∧listed.getD i true=false:=by
   have:(List.range p).filter (fun i=>!listed.getD i true)≠[]:=fun h=>by rw [h] at hcnt; simp at hcnt
   obtain ⟨i,hi⟩:=List.exists_mem_of_ne_nil _ this
   rw [List.mem_filter,List.mem_range] at hi
   exact ⟨i,hi.1,by simpa using hi.2⟩
  have hDF:∀ i,i < l.length→listed.getD i false=listed.getD i true:=fun i hi=>by
   have hlt:i < listed.size:=by omega
   simp [Array.getD_eq_getD_getElem?,hlt]
  have hrd:((List.range l.toArray.size).filter fun i=>!listed.getD i true && ((l.toArray[i]?).map (·.after.all fun e=>!Region.binds .any e || listed.getD e.on false)).getD false)=Region.ready .any l.toArray listed:=rfl
  -- the least such is ready
  have hne:Region.ready .any l.toArray listed≠[]:=by
   have hmin:∀ n i,i≤n→i < p→listed.getD i true=false→∃ i,i < p∧listed.getD i true=false∧∀ j,j < i→listed.getD j true=true:=by
    intro n
    induction n with
    | zero=>intro i hi hp' h; exact ⟨i,hp',h,fun j hj=>by omega⟩
    | succ n ihn =>
     intro i hi hp' h
     by_cases hh':∃ j,j < i∧listed.getD j true=false
     ·obtain ⟨j,hj,hjl⟩:=hh'
      exact ihn j (by omega) (by omega) hjl
     ·refine ⟨i,hp',h,fun j hj=>?_⟩
      cases hb:listed.getD j true with
      | true=>rfl
      | false=>exact absurd ⟨j,hj,hb⟩ hh'
   obtain ⟨i0,h0,h1⟩:=hex
   obtain ⟨i,hip,hiu,hbel⟩:=hmin i0 i0 (Nat.le_refl _) h0 h1
   have hil:i < l.length:=by omega
   have:i∈Region.ready .any l.toArray listed:=by
    rw [mem_ready]
    refine ⟨hiu,l[i],by simp [hil],fun e he hb=>?_⟩
    have hlt:=hacyc i l[i] (List.getElem?_eq_getElem hil) e he hb
    rw [hDF _ (by omega)]
    exact hbel _ hlt
   intro hnil
   rw [hnil] at this
   cases this
  simp only [Region.linearise.go,hrd]
  have hlen:0 < (Region.ready .any l.toArray listed).length:=List.length_pos_iff.2 hne
  have hmod:=Nat.mod_lt t hlen
  generalize hi:(Region.ready .any l.toArray listed)[t % (Region.ready .any l.toArray listed).length]=i
  have hsome:(Region.ready .any l.toArray listed)[t % (Region.ready .any l.toArray listed).length]?=some i:=by rw [List.getElem?_eq_getElem hmod,hi]
  rw [hsome]
  simp only []
  rw [linearise_go_acc]
  have him:i∈Region.ready .any l.toArray listed:=List.mem_of_getElem? hsome
  obtain ⟨hiu,o,ho,hall⟩:=mem_ready.1 him
  have ho':l[i]?=some o:=by simpa using ho
  have hil:=(List.getElem?_eq_some_iff.1 ho').1
  have hmask:=ready_mask hcl ho' (fun e he hb=>hall e he hb)
  have hip:i < p:=by
   rcases Nat.lt_or_ge i p with h | h
   ·exact h
   ·obtain ⟨i0,h0,h1⟩:=hex
    have:=hmask i0 (hord i h hil i0 (by omega))
    rw [hDF i0 (by omega),h1] at this
    cases this
  -- what remains behind it
  have hcnt':((List.range p).filter fun j=>!(listed.setIfInBounds i true).getD j true).length=cnt:=by
   have hset:∀ j,(listed.setIfInBounds i true).getD j true=(listed.getD j true || decide (j=i)):=by
    intro j
    by_cases hji:j=i
    ·subst hji; simp [Array.getD_eq_getD_getElem?,hs,hil]
    ·rw [getD_set_ne true (Ne.symm hji)]; simp [hji]
   have hfil:((List.range p).filter fun j=>!(listed.setIfInBounds i true).getD j true)=((List.range p).filter fun j=>!listed.getD j true).filter fun j=>!decide (j=i):=by
    rw [List.filter_filter]
    refine List.filter_congr fun j _=>?_
    rw [hset j]
    cases listed.getD j true <;> simp
   rw [hfil]
   have hnd:((List.range p).filter fun j=>!listed.getD j true).Nodup:=List.nodup_range.filter _
   have hmem:i∈(List.range p).filter fun j=>!listed.getD j true:=by rw [List.mem_filter,List.mem_range]; exact ⟨hip,by simp [hiu]⟩
   have hcount:∀ (L:List Nat),L.Nodup→i∈L→(L.filter fun j=>!decide (j=i)).length+1=L.length:=by
    intro L
    induction L with
    | nil=>intro _ h; cases h
    | cons a L ihL =>
     intro hn hm
     rw [List.nodup_cons] at hn
     by_cases ha:a=i
     ·subst ha
      have:(L.filter fun j=>!decide (j=a))=L:=by
       rw [List.filter_eq_self]
       intro b hb
       have:b≠a:=fun e=>hn.1 (e▸hb)
       simp [this]
      rw [List.filter_cons]
      simp [this]
     ·have hm':i∈L:=by
       rcases List.mem_cons.1 hm with h | h
       ·exact absurd h.symm ha
       ·exact h
      rw [List.filter_cons]
      simp only [ha,decide_false,Bool.not_false,if_true,List.length_cons]
      rw [ihL hn.2 hm']
   have:=hcount _ hnd hmem
   omega
  have hcl':Closed l (listed.setIfInBounds i true):=by
   intro j oj hoj hlj e he' hb
   by_cases hji:j=i
   ·subst hji
    rw [ho'] at hoj
    cases hoj
    exact getD_set_true (hall e he' hb)
   ·rw [getD_set_ne false (Ne.symm hji)] at hlj
    exact getD_set_true (hcl j oj hoj hlj e he' hb)
  have hsu':∀ j,p≤j→j < l.length→(listed.setIfInBounds i true).getD j true=false:=fun j hj hjl=>by rw [getD_set_ne true (by omega)]; exact hsu j hj hjl
  obtain ⟨σ,h1,h2,h3,h4⟩:=ih fuel (t / (Region.ready .any l.toArray listed).length) _ (by simpa using hs) hcl' hsu' hcnt' (by omega)
  have hset:∀ j,(listed.setIfInBounds i true).getD j true=(listed.getD j true || decide (j=i)):=by
   intro j
   by_cases hji:j=i
   ·subst hji; simp [Array.getD_eq_getD_getElem?,hs,hil]
   ·rw [getD_set_ne true (Ne.symm hji)]; simp [hji]
  refine ⟨i :: σ,?_,?_,?_,?_⟩
  ·rw [h1]; rfl
  ·rw [List.nodup_cons]
   refine ⟨fun hm=>?_,h2⟩
   have:=((h3 i).1 hm).2
   rw [hset] at this
   simp at this
  ·intro j
   rw [List.mem_cons,h3,hset]
   constructor
   ·rintro (rfl | ⟨a,b⟩)
    ·exact ⟨hip,hiu⟩
    ·refine ⟨a,?_⟩
     cases hj:listed.getD j true with
     | false=>rfl
     | true=>rw [hj] at b; simp at b
   ·rintro ⟨a,b⟩
    by_cases hji:j=i
    ·exact .inl hji
    ·exact .inr ⟨a,by simp [b,hji]⟩
  ·intro pre i' post he j hj
   cases pre with
   | nil =>
    simp only [List.nil_append,List.cons.injEq] at he
    rw [←he.1] at hj
    exact .inr (hmask j hj)
   | cons a pre =>
    simp only [List.cons_append,List.cons.injEq] at he
    rcases h4 pre i' post he.2 j hj with h | h
    ·exact .inl (List.mem_cons_of_mem _ h)
    ·by_cases hji:j=i
     ·left; rw [hji,he.1]; exact List.mem_cons_self
     ·rw [getD_set_ne false (Ne.symm hji)] at h
      exact .inr h
section run
variable {P:Program} {f:Ctx} {N:Nat} {S:Start} {Q:EV→St→Prop} {k:List Item}
theorem ARun.orders {id:Nat} {l:List Oper} {env:Env} {st:St} (p:Nat) (hm:P.follows .mixedOrders=true) (hB:drawB l p=true)
  (h:∀ σ,Sched l p σ→ARun P f N S Q (.inRegion l.toArray (σ++List.range' p (l.length-p)) :: k) env st):ARun P f N S Q (.code (.region id l.toArray true) :: k) env st:=by
 simp only [drawB,Bool.and_eq_true] at hB
 obtain ⟨⟨⟨⟨hB1,hB2⟩,hB3⟩,hB4⟩,hB5⟩:=hB
 have hp:p≤l.length:=by simpa using hB5
 intro g w tmps hinv hh he hn
 refine FWP.regionDraw fun t=>?_
 have hsch:Region.schedule (P.follows .mixedOrders) l.toArray t=Region.linearise .any l.toArray t:=by simp [Region.schedule,hm]
 rw [hsch]
 have hb:Below w.heap.size w { w with drawn:=w.drawn+1 }:=(Below.refl _ w).drew
 obtain ⟨hinv',hst⟩:=hinv.grow (g':=g) hb (fun _ _=>rfl) rfl rfl
 unfold Region.linearise
 obtain ⟨σ,h1,h2,h3,h4⟩:=lin_main (l:=l) (p:=p) hp (fun i hi hil j hj=>by
   have h1:=allBelow_get hB3 hil
   simp only [Bool.or_eq_true,decide_eq_true_eq] at h1
   rcases h1 with h1 | h1
   ·omega
   ·exact allBelow_get h1 hj) (fun i o ho e he' hb'=>by
   have hil:=(List.getElem?_eq_some_iff.1 ho).1
   have h1:=allBelow_get hB4 hil
   rw [ho] at h1
   simp only [List.all_eq_true] at h1
   have:=h1 e (by simpa using he')
   simpa [hb'] using this) p l.toArray.size t (Array.replicate l.toArray.size false) (by simp) (fun i o ho hli=>by
   simp [Array.getD_eq_getD_getElem?,Array.getElem?_replicate] at hli
   split at hli <;> simp_all) (fun i hi hil=>by simp [Array.getD_eq_getD_getElem?,Array.getElem?_replicate,hil]) (by
   have:((List.range p).filter fun i=>!(Array.replicate l.toArray.size false).getD i true)=List.range p:=by
    rw [List.filter_eq_self]
    intro i hi
    have hi':=List.mem_range.1 hi
    have:i < l.length:=by omega
    simp [Array.getD_eq_getD_getElem?,Array.getElem?_replicate,this]
   rw [this]; simp) (by simp; omega)
 rw [h1]
 refine h σ ⟨h2,fun i=>?_,fun pre i post he j hj=>?_⟩ g _ tmps hinv' (hh.step hst) (he.mono hst.sevo) hn
 ·rw [h3]
  constructor
  ·exact fun h=>h.1
  ·intro hi
   have:i < l.length:=by omega
   exact ⟨hi,by simp [Array.getD_eq_getD_getElem?,Array.getElem?_replicate,this]⟩
 ·rcases h4 pre i post he j hj with h | h
  ·exact h
  ·simp [Array.getD_eq_getD_getElem?,Array.getElem?_replicate] at h
   split at h <;> simp_all
def OpC (P:Program) (base:Nat) (env:Env) (st:St) (o:Oper) (x:EV) (st':St):Prop :=
 ∀ g w tmps,Inv g base w st→EnvRep g w st env tmps→∃ f' args,(execOp (Act.eval ⟨tmps,[]⟩) o).run P w=.ok (.enter f' args) w ∧
  Calls P f' args w fun e w'=>∃ v g',e=.returned v∧EVRep g' w' st' x v∧Inv g' base w' st'∧Step base g w st g' w' st'
def OpF (P:Program) (base:Nat) (l:List Oper) (env:Env) (st:St) (o:Oper) (x:EV) (st':St):Prop:=OpE P base l env st o x st'∨(o.guard=none∧OpC P base env st o x st')
theorem ARun.runσ {l:List Oper} {p:Nat} {σ:List Nat} {env:Env} {st:St} (hs:Sched l p σ) (hp:p≤l.length) (xs:List EV) (F:List Nat→St→Prop)
  (hC1:∀ i j t,i < p→j < p→i≠j→dstAt l i=some t→dstAt l j≠some t)
  (hC2:∀ (i:Nat) o,i < p→l[i]?=some o→∀ t∈slots l o,∀ j,j < p→j≠i→dstAt l j=some t→(j < i∧((masks l []).getD i 0).testBit j=true)∨(i < j∧((masks l []).getD j 0).testBit i=true))
  (hxp:xs.length=p) (hF0:F [] st)
  (hstep:∀ pre i post st o,σ=pre++i :: post→l[i]?=some o→F pre st→dstOk N o.dst=true∧∃ x st',xs[i]?=some x∧OpF P S.base l (renv l o (putAll env ((l.take p).take i) (xs.take i))) st o x st'∧F (pre++[i]) st')
  (hsuf:∀ st,F σ st→AOps P f N S Q l (l.drop p) k (putAll env (l.take p) xs) st):ARun P f N S Q (.inRegion l.toArray (σ++List.range' p (l.length-p)) :: k) env st:=by
 have hxl:xs.length=(l.take p).length:=by simp; omega
 suffices key:∀ (post pre:List Nat) (st:St) (g:Ghost) (w:World) (tmps:Array Value),σ=pre++post→F pre st→Inv g S.base w st→Hist S g w st→tmps.size=N →
   (∀ (s:Tmp),(∀ (j:Nat) x,j∈pre→dstAt l j=some s→xs[j]?=some x→∃ v,tmps[s]?=some v∧EVRep g w st x v) ∧
    ((∀ j,j∈pre→dstAt l j≠some s)→∀ y,lookup s env=some y→∃ v,tmps[s]?=some v∧EVRep g w st y v)) →
   FWP P f (RPost S Q) (.inRegion l.toArray (post++List.range' p (l.length-p)) :: k) tmps w by
  intro g w tmps hinv hh he hN
  exact key σ [] st g w tmps rfl hF0 hinv hh hN fun s=>⟨fun j x hj=>by (cases hj),fun _ y hy=>he s y hy⟩
 intro post
 induction post with
 | nil =>
  intro pre st g w tmps hσ hF hinv hh hN hJ
  rw [List.append_nil] at hσ
  subst hσ
  have hdl:(l.drop p).length=l.length-p:=by simp
  rw [List.nil_append,←hdl]
  refine hsuf st hF p (fun j=>by rw [List.getElem?_drop]) g w tmps hinv hh (fun s y hy=>?_) hN
  rcases lookup_putAll hxl hy with ⟨j,o,h1,h2,h3⟩ | ⟨h1,h2⟩
  ·have hj:j < p:=by have:=(List.getElem?_eq_some_iff.1 h2).1; omega
   have ho:l[j]?=some o:=by rw [List.getElem?_take] at h1; rw [if_pos hj] at h1; exact h1
   exact (hJ s).1 j y ((hs.mem j).2 hj) (by simp [dstAt,ho,h3]) h2
  ·refine (hJ s).2 (fun j hj hd=>?_) y h2
   have hj':=(hs.mem j).1 hj
   cases ho:l[j]? with
   | none=>simp [dstAt,ho] at hd
   | some o=>exact h1 j o (by rw [List.getElem?_take,if_pos hj']; exact ho) (by simpa [dstAt,ho] using hd)
 | cons i post ih =>
  intro pre st g w tmps hσ hF hinv hh hN hJ
  have hi:i < p:=(hs.mem i).1 (by rw [hσ]; simp)
  have hil:i < l.length:=by omega
  obtain ⟨o,ho'⟩:∃ o,l[i]?=some o:=⟨_,List.getElem?_eq_getElem hil⟩
  have hmask:=hs.mask pre i post hσ
  have hipre:i ∉ pre:=by
   have:=hs.nodup
   rw [hσ,List.nodup_append] at this
   exact fun hm=>this.2.2 i hm i List.mem_cons_self rfl
  have hprelt:∀ j,j∈pre→j < p:=fun j hj=>(hs.mem j).1 (by rw [hσ]; simp [hj])
  obtain ⟨hd,x,st',hx,hop,hF'⟩:=hstep pre i post st o hσ ho' hF
  -- what the operation looks at
  have he:EnvRep g w st (renv l o (putAll env ((l.take p).take i) (xs.take i))) tmps:=by
   intro s y hy
   obtain ⟨hsl,hy'⟩:=renvOf_get hy
   rcases lookup_putAll (by simp [hxl]) hy' with ⟨j,o',h1,h2,h3⟩ | ⟨h1,h2⟩
   ·have hji:j < i:=by have:=(List.getElem?_eq_some_iff.1 h2).1; simp at this; omega
    have hoj:l[j]?=some o':=by
     rw [List.getElem?_take,if_pos hji,List.getElem?_take,if_pos (by omega)] at h1; exact h1
    have hdj:dstAt l j=some s:=by simp [dstAt,hoj,h3]
    rcases hC2 i o hi ho' s hsl j (by omega) (by omega) hdj with ⟨_,hb⟩ | ⟨hlt,_⟩
    ·exact (hJ s).1 j y (hmask j hb) hdj (by rw [List.getElem?_take,if_pos hji] at h2; exact h2)
    ·omega
   ·refine (hJ s).2 (fun j hj hdj=>?_) y h2
    have hji:j≠i:=fun e=>hipre (e▸hj)
    rcases hC2 i o hi ho' s hsl j (hprelt j hj) hji hdj with ⟨hlt,_⟩ | ⟨hlt,hb⟩
    ·cases hoj:l[j]? with
     | none=>simp [dstAt,hoj] at hdj
     | some o'=>exact h1 j o' (by rw [List.getElem?_take,if_pos hlt,List.getElem?_take,if_pos (hprelt j hj)]; exact hoj) (by simpa [dstAt,hoj] using hdj)
    ·-- j came ahead of i,though it must come behind it
     obtain ⟨a,b,hab⟩:=List.append_of_mem hj
     have:=hs.mask a j (b++i :: post) (by rw [hσ,hab]; simp) i hb
     exact absurd (by rw [hab]; simp [this]:i∈pre) hipre
  have next:∀ (g':Ghost) (w':World) (v:Value),EVRep g' w' st' x v→Inv g' S.base w' st'→Step S.base g w st g' w' st' →
    FWP P f (RPost S Q) (.inRegion l.toArray (post++List.range' p (l.length-p)) :: k) (Act.put ⟨tmps,[]⟩ o.dst v).tmps w':=by
   intro g' w' v hxr hinv' hst
   refine ih (pre++[i]) st' g' w' _ (by rw [hσ]; simp) hF' hinv' (hh.step hst) (by rw [size_put]; exact hN) fun s=>⟨fun j y hj hdj hy=>?_,fun hno y hy=>?_⟩
   ·by_cases hji:j=i
    ·subst hji
     have hods:o.dst=some s:=by simpa [dstAt,ho'] using hdj
     rw [hx] at hy
     cases hy
     rw [hods]
     have hsz:s < tmps.size:=by
      rw [hods] at hd
      have hd':s+1≤N:=Nat.le_of_ble_eq_true hd
      rw [hN]
      exact hd'
     exact ⟨v,by simp [Act.put,hsz],hxr⟩
    ·have hj':j∈pre:=by
      rcases List.mem_append.1 hj with h | h
      ·exact h
      ·exact absurd (List.mem_singleton.1 h) hji
     obtain ⟨u,h1,h2⟩:=(hJ s).1 j y hj' hdj hy
     have hne':o.dst≠some s:=fun e=>hC1 j i s (hprelt j hj') hi hji hdj (by simp [dstAt,ho',e])
     refine ⟨u,?_,h2.mono hst.sevo⟩
     cases hod:o.dst with
     | none=>exact h1
     | some d =>
      have:d≠s:=fun e=>hne' (by rw [hod,e])
      simp [Act.put,Array.getElem?_setIfInBounds,this,h1]
   ·have hne':o.dst≠some s:=fun e=>hno i (by simp) (by simp [dstAt,ho',e])
    obtain ⟨u,h1,h2⟩:=(hJ s).2 (fun j hj=>hno j (by simp [hj])) y hy
    refine ⟨u,?_,h2.mono hst.sevo⟩
    cases hod:o.dst with
    | none=>exact h1
    | some d =>
     have:d≠s:=fun e=>hne' (by rw [hod,e])
     simp [Act.put,Array.getElem?_setIfInBounds,this,h1]
  have hoA:l.toArray[i]?=some o:=by simpa using ho'
  show FWP P f (RPost S Q) (.inRegion l.toArray (i :: _) :: k) tmps w
  have nextG:st'=st→∀ (lim':Nat→Nat) (w':World) (v:Value),Good g w st x lim' w' v →
    FWP P f (RPost S Q) (.inRegion l.toArray (post++List.range' p (l.length-p)) :: k) (Act.put ⟨tmps,[]⟩ o.dst v).tmps w':=by
   rintro rfl lim' w' v ⟨hxr,hb,hl⟩
   obtain ⟨hinv',hst⟩:=hinv.grow (g':={ g with lim:=lim' }) hb hl rfl rfl
   exact next _ w' v hxr hinv' hst
  rcases hop with (⟨hse,hop⟩ | ⟨hg,hop⟩ | ⟨hg,rfl,hop⟩) | ⟨hg,hop⟩
  ·rcases hop with ⟨hg,hop⟩ | ⟨j,want,tt,c,b,y,env',hg,hj,hlk,hgc,rfl,hE,hop⟩
   ·have hw:Region.wanted o (yielded l.toArray tmps)=true:=by simp [Region.wanted,hg]
    rcases hop g S.base w tmps hinv he with ⟨v,lim',w',hr,hgood⟩ | ⟨f',args,hr,hc⟩
    ·exact FWP.value hoA hw hr (nextG hse lim' w' v hgood)
    ·exact FWP.call hoA hw hr (hc.mono fun e w' ⟨v,lim',h1,h2⟩=>⟨v,h1,nextG hse lim' w' v h2⟩)
   ·obtain ⟨u,hu,hur⟩:=he tt c hlk
    have hw:Region.wanted o (yielded l.toArray tmps)=b:=by
     rw [←gcond_rep hgc hur]
     have hj':((l.toArray)[j]?).bind (·.dst)=some tt:=by simpa using hj
     simp only [Region.wanted,hg,yielded,hj',Option.bind_some,hu]
     cases u <;> rfl
    cases b with
    | false=>exact FWP.unwanted hoA hw (nextG hse g.lim w undef ⟨.gd _ _ _ (fun _=>rfl) (fun h=>by cases h),.refl _ _,fun _ _=>rfl⟩)
    | true =>
     have wrap:∀ lim' w' v,Good g w st y lim' w' v→Good g w st (.gd true y) lim' w' v:=fun lim' w' v ⟨a,b,c⟩=>⟨.gd _ _ _ (fun h=>by cases h) (fun _=>a),b,c⟩
     rcases hop rfl g S.base w tmps hinv (he.gd hE rfl) with ⟨v,lim',w',hr,hgood⟩ | ⟨f',args,hr,hc⟩
     ·exact FWP.value hoA hw hr (nextG hse lim' w' v (wrap _ _ _ hgood))
     ·exact FWP.call hoA hw hr (hc.mono fun e w' ⟨v,lim',h1,h2⟩=>⟨v,h1,nextG hse lim' w' v (wrap _ _ _ h2)⟩)
  ·have hw:Region.wanted o (yielded l.toArray tmps)=true:=by simp [Region.wanted,hg]
   obtain ⟨v,g',w',hr,hxr,hinv',hst⟩:=hop g w tmps hinv he
   exact FWP.value hoA hw hr (next g' w' v hxr hinv' hst)
  ·have hw:Region.wanted o (yielded l.toArray tmps)=true:=by simp [Region.wanted,hg]
   obtain ⟨g',w',hr,hinv',hst⟩:=hop g w tmps hinv he
   exact FWP.skip hoA hw hr (next g' w' undef (.d _ _ (.any _)) hinv' hst)
  ·have hw:Region.wanted o (yielded l.toArray tmps)=true:=by simp [Region.wanted,hg]
   obtain ⟨f',args,hr,hc⟩:=hop g w tmps hinv he
   exact FWP.call hoA hw hr (hc.mono fun e w' ⟨v,g',h1,hxr,hinv',hst⟩=>⟨v,h1,next g' w' v hxr hinv' hst⟩)
def AllL:List St→(St→Prop)→Prop
 | [],_=>True
 | s :: r,p=>p s∧AllL r p
theorem AllL.get {p:St→Prop}:∀ {ss:List St} {i:Nat} {s:St},AllL ss p→ss[i]?=some s→p s
 | s :: r,0,s',h,hs=>by simp at hs; subst hs; exact h.1
 | s :: r,i+1,s',h,hs=>AllL.get h.2 (by simpa using hs)
 | [],i,s',h,hs=>by simp at hs
def mayB (l:List Oper) (E:List Nat) (i m:Nat):Bool:=E.zipIdx.all fun e=>(!((masks l []).getD i 0).testBit e.1 || decide (e.2 < m)) && (!((masks l []).getD e.1 0).testBit i || decide (m≤e.2))
def boundB (l:List Oper) (E:List Nat) (i lo hi:Nat):Bool:=(List.range (E.length+1)).all fun m=>!mayB l E i m || (decide (lo≤m) && decide (m≤hi))
def EStep (P:Program) (N base:Nat) (l:List Oper) (E:List Nat) (sts:List St) (i:Nat) (o:Oper) (env:Env) (x:EV):Prop :=
  dstOk N o.dst=true ∧
  ((∃ lo hi,(!E.any fun e=>Nat.beq e i)=true∧boundB l E i lo hi=true∧AllL ((sts.take (hi+1)).drop lo) fun s=>OpAny P l env s o x) ∨
   (∃ m s s',E[m]?=some i∧sts[m]?=some s∧sts[m+1]?=some s'∧o.guard=none∧(OpV P base env s o x s'∨(x=.d .any∧OpU P base env s o s')∨OpC P base env s o x s')))
def EChain (P:Program) (N base:Nat) (l:List Oper) (E:List Nat) (sts:List St):Nat→List Oper→List EV→Env→Prop
 | _,[],[],_=>True
 | i,o :: os,x :: xs,env=>EStep P N base l E sts i o (renv l o env) x∧EChain P N base l E sts (i+1) os xs (env.put o.dst x)
 | _,_,_,_=>False
theorem EChain.length {base:Nat} {l:List Oper} {E:List Nat} {sts:List St}:∀ {i:Nat} {os:List Oper} {xs:List EV} {env:Env},EChain P N base l E sts i os xs env→xs.length=os.length
 | _,[],[],_,_=>rfl
 | _,o :: os,x :: xs,env,h=>by simp [EChain.length h.2]
 | _,[],x :: xs,_,h=>h.elim
 | _,o :: os,[],_,h=>h.elim
theorem EChain.get {base:Nat} {l:List Oper} {E:List Nat} {sts:List St}:∀ {i:Nat} {os:List Oper} {xs:List EV} {env:Env} {j:Nat} {o:Oper},EChain P N base l E sts i os xs env→os[j]?=some o →
  ∃ x,xs[j]?=some x∧EStep P N base l E sts (i+j) o (renv l o (putAll env (os.take j) (xs.take j))) x
 | i,o' :: os,x :: xs,env,0,o,h,ho=>by
  simp at ho; subst ho
  exact ⟨x,rfl,by simpa [putAll] using h.1⟩
 | i,o' :: os,x :: xs,env,j+1,o,h,ho=>by
  obtain ⟨y,h1,h2⟩:=EChain.get (j:=j) h.2 (by simpa using ho)
  exact ⟨y,by simpa using h1,by simpa [putAll,Nat.add_assoc,Nat.add_comm 1 j] using h2⟩
 | i,[],xs,env,j,o,h,ho=>by simp at ho
 | i,o' :: os,[],_,_,_,h,_=>h.elim
theorem ARun.effσ {l:List Oper} {p:Nat} {σ:List Nat} {env:Env} {st stF:St} (hB:drawB l p=true) (hs:Sched l p σ) (E:List Nat) (sts:List St) (hE:σ.filter (fun i=>E.any fun e=>Nat.beq e i)=E) {xs:List EV}
  (h0:sts[0]?=some st) (hF:sts[E.length]?=some stF) (hch:EChain P N S.base l E sts 0 (l.take p) xs env) (hsuf:AOps P f N S Q l (l.drop p) k (putAll env (l.take p) xs) stF) :
  ARun P f N S Q (.inRegion l.toArray (σ++List.range' p (l.length-p)) :: k) env st:=by
 simp only [drawB,Bool.and_eq_true] at hB
 obtain ⟨⟨⟨⟨hB1,hB2⟩,hB3⟩,hB4⟩,hB5⟩:=hB
 have hp:p≤l.length:=by simpa using hB5
 have hxp:xs.length=p:=by rw [hch.length]; simp; omega
 refine ARun.runσ hs hp xs (fun pre s=>sts[(pre.filter fun i=>E.any fun e=>Nat.beq e i).length]?=some s) ?_ ?_ hxp h0 ?_ ?_
 ·intro i j t hi hj hij hdi hdj
  have:=allBelow_get (allBelow_get hB2 hi) hj
  simp [hij,hdi,hdj] at this
 ·intro i o hi ho t ht j hj hji hdj
  have h1:=allBelow_get hB1 hi
  rw [ho] at h1
  simp only [List.all_eq_true] at h1
  have h2:=allBelow_get (h1 t ht) hj
  simp only [hdj,bne_self_eq_false,Bool.or_false,Bool.or_eq_true,Bool.and_eq_true,decide_eq_true_eq,beq_iff_eq] at h2
  rcases h2 with (h2 | h2) | h2
  ·exact absurd h2.symm hji
  ·exact .inl h2
  ·exact .inr h2
 ·intro pre i post s o hσ ho hFs
  have hi:i < p:=(hs.mem i).1 (by rw [hσ]; simp)
  obtain ⟨x,hx,hst⟩:=hch.get (j:=i) (o:=o) (by rw [List.getElem?_take,if_pos hi]; exact ho)
  rw [Nat.zero_add] at hst
  obtain ⟨hd,hst⟩:=hst
  refine ⟨hd,x,?_⟩
  -- how far the turning operations have come
  have hsplit:E=(pre.filter fun i=>E.any fun e=>Nat.beq e i)++((i :: post).filter fun i=>E.any fun e=>Nat.beq e i):=by
   have:=hE
   rw [hσ,List.filter_append] at this
   exact this.symm
  generalize hm:(pre.filter fun i=>E.any fun e=>Nat.beq e i).length=m at hFs
  have hmE:m≤E.length:=by rw [hsplit,List.length_append,hm]; omega
  rcases hst with ⟨lo,hi',hne,hb,hall⟩ | ⟨m',s0,s1,hEm,hs0,hs1,hg,hop⟩
  ·have hnoE:(E.any fun e=>Nat.beq e i)=false:=by simpa using hne
   have hmay:mayB l E i m=true:=by
    unfold mayB
    rw [List.all_eq_true]
    rintro ⟨e,j⟩ hej
    have hEj:E[j]?=some e:=by
     have:=List.mem_zipIdx_iff_getElem?.1 hej
     simpa using this
    have hinE:(E.any fun e'=>Nat.beq e' e)=true:=List.any_eq_true.2 ⟨e,List.mem_of_getElem? hEj,Nat.beq_refl e⟩
    simp only [Bool.and_eq_true,Bool.or_eq_true,Bool.not_eq_true',decide_eq_true_eq]
    have hnodE:E.Nodup:=by rw [←hE]; exact hs.nodup.filter _
    constructor
    ·cases hbit:((masks l []).getD i 0).testBit e with
     | false=>exact .inl rfl
     | true =>
      right
      have hin:=hs.mask pre i post hσ e hbit
      have hin2:e∈pre.filter fun i=>E.any fun e=>Nat.beq e i:=List.mem_filter.2 ⟨hin,hinE⟩
      obtain ⟨a,ha,hae⟩:=List.mem_iff_getElem.1 hin2
      have:E[a]?=some e:=by rw [hsplit,List.getElem?_append_left ha,List.getElem?_eq_getElem ha,hae]
      have haj:a=j:=by
       have h1:=(List.getElem?_eq_some_iff.1 this)
       have h2:=(List.getElem?_eq_some_iff.1 hEj)
       exact (List.getElem_inj hnodE).1 (h1.2.trans h2.2.symm)
      omega
    ·cases hbit:((masks l []).getD e 0).testBit i with
     | false=>exact .inl rfl
     | true =>
      right
      -- e comes behind i
      rcases Nat.lt_or_ge j m with hjm | hjm
      ·have h1:(pre.filter fun i=>E.any fun e=>Nat.beq e i)[j]?=some e:=by
        rw [hsplit,List.getElem?_append_left (by omega)] at hEj
        exact hEj
       have hin:e∈pre:=(List.mem_filter.1 (List.mem_of_getElem? h1)).1
       obtain ⟨a,b,hab⟩:=List.append_of_mem hin
       have:=hs.mask a e (b++i :: post) (by rw [hσ,hab]; simp) i hbit
       have hipre:i ∉ pre:=by
        have:=hs.nodup
        rw [hσ,List.nodup_append] at this
        exact fun hm=>this.2.2 i hm i List.mem_cons_self rfl
       exact absurd (by rw [hab]; simp [this]:i∈pre) hipre
      ·exact hjm
   have hbd:=List.all_eq_true.1 hb m (List.mem_range.2 (by omega))
   rw [hmay] at hbd
   simp only [Bool.not_true,Bool.false_or,Bool.and_eq_true,decide_eq_true_eq] at hbd
   refine ⟨s,hx,.inl (.inl ⟨rfl,hall.get (i:=m-lo) ?_⟩),?_⟩
   ·rw [List.getElem?_drop,List.getElem?_take,if_pos (by omega),show lo+(m-lo)=m by omega]
    exact hFs
   ·rw [List.filter_append,List.filter_cons,hnoE]
    simp only [Bool.false_eq_true,if_false,List.filter_nil,List.append_nil]
    rw [hm]; exact hFs
  ·have hinE:(E.any fun e'=>Nat.beq e' i)=true:=List.any_eq_true.2 ⟨i,List.mem_of_getElem? hEm,Nat.beq_refl i⟩
   have hnodE:E.Nodup:=by rw [←hE]; exact hs.nodup.filter _
   have hEm2:E[m]?=some i:=by
    rw [hsplit,List.getElem?_append_right (by omega),hm,Nat.sub_self,List.filter_cons,hinE]
    rfl
   have hmm:m=m':=by
    have h1:=(List.getElem?_eq_some_iff.1 hEm2)
    have h2:=(List.getElem?_eq_some_iff.1 hEm)
    exact (List.getElem_inj hnodE).1 (h1.2.trans h2.2.symm)
   subst hmm
   rw [hFs] at hs0
   cases hs0
   refine ⟨s1,hx,?_,?_⟩
   ·rcases hop with h | ⟨h1,h2⟩ | h
    ·exact .inl (.inr (.inl ⟨hg,h⟩))
    ·exact .inl (.inr (.inr ⟨hg,h1,h2⟩))
    ·exact .inr ⟨hg,h⟩
   ·rw [List.filter_append,List.filter_cons,hinE]
    simp only [if_true,List.filter_nil,List.length_append,List.length_singleton,hm]
    exact hs1
 ·intro s hFs
  rw [hE,hF] at hFs
  cases hFs
  exact hsuf
theorem filter_one {σ:List Nat} (hn:σ.Nodup) {e:Nat} (he:e∈σ):σ.filter (fun i=>i==e)=[e]:=by
 induction σ with
 | nil=>cases he
 | cons c r ih =>
  rw [List.nodup_cons] at hn
  by_cases hc:c=e
  ·subst hc
   have:r.filter (fun i=>i==c)=[]:=List.filter_eq_nil_iff.2 fun i hi h=>hn.1 (by rw [beq_iff_eq] at h; exact h▸hi)
   rw [List.filter_cons,beq_self_eq_true,if_pos rfl,this]
  ·rw [List.filter_cons]
   have:(c==e)=false:=by simpa using hc
   rw [this]
   simpa using ih hn.2 ((List.mem_cons.1 he).resolve_left (Ne.symm hc))
theorem filter_two {σ:List Nat} (hn:σ.Nodup) {a b:Nat} (hab:a≠b) (ha:a∈σ) (hb:b∈σ) (q:Nat→Bool) (hq:∀ i,q i=(i==a || i==b)):σ.filter q=[a,b]∨σ.filter q=[b,a]:=by
 induction σ with
 | nil=>cases ha
 | cons c r ih =>
  rw [List.nodup_cons] at hn
  by_cases hca:c=a
  ·subst hca
   left
   have hbr:b∈r:=(List.mem_cons.1 hb).resolve_left (Ne.symm hab)
   rw [List.filter_cons,hq,beq_self_eq_true,Bool.true_or,if_pos rfl]
   congr 1
   have:r.filter q=r.filter fun i=>i==b:=List.filter_congr fun i hi=>by
    have:i≠c:=fun e=>hn.1 (e▸hi)
    rw [hq]; simp [this]
   rw [this]
   exact filter_one hn.2 hbr
  ·by_cases hcb:c=b
   ·subst hcb
    right
    have har:a∈r:=(List.mem_cons.1 ha).resolve_left (Ne.symm hca)
    rw [List.filter_cons,hq,beq_self_eq_true,Bool.or_true,if_pos rfl]
    congr 1
    have:r.filter q=r.filter fun i=>i==a:=List.filter_congr fun i hi=>by
     have:i≠c:=fun e=>hn.1 (e▸hi)
     rw [hq]; simp [this]
    rw [this]
    exact filter_one hn.2 har
   ·have har:a∈r:=(List.mem_cons.1 ha).resolve_left (Ne.symm hca)
    have hbr:b∈r:=(List.mem_cons.1 hb).resolve_left (Ne.symm hcb)
    have:=ih hn.2 har hbr
    rw [List.filter_cons,hq]
    simpa [hca,hcb] using this
theorem Sched.two {l:List Oper} {p:Nat} {σ:List Nat} (hs:Sched l p σ) {a b:Nat} (hab:a≠b) (ha:a < p) (hb:b < p) :
  σ.filter (fun i=>[a,b].any fun e=>Nat.beq e i)=[a,b]∨σ.filter (fun i=>[b,a].any fun e=>Nat.beq e i)=[b,a]:=by
 have q1:∀ i,([a,b].any fun e=>Nat.beq e i)=(i==a || i==b):=fun i=>by
  simp only [List.any_cons,List.any_nil,Bool.or_false]
  rw [Bool.eq_iff_iff]
  simp only [Bool.or_eq_true,Nat.beq_eq,beq_iff_eq]
  exact ⟨fun h=>h.elim (fun h=>.inl h.symm) (fun h=>.inr h.symm),fun h=>h.elim (fun h=>.inl h.symm) (fun h=>.inr h.symm)⟩
 have q2:∀ i,([b,a].any fun e=>Nat.beq e i)=(i==a || i==b):=fun i=>by
  simp only [List.any_cons,List.any_nil,Bool.or_false]
  rw [Bool.eq_iff_iff]
  simp only [Bool.or_eq_true,Nat.beq_eq,beq_iff_eq]
  exact ⟨fun h=>h.elim (fun h=>.inr h.symm) (fun h=>.inl h.symm),fun h=>h.elim (fun h=>.inr h.symm) (fun h=>.inl h.symm)⟩
 rcases filter_two hs.nodup hab ((hs.mem a).2 ha) ((hs.mem b).2 hb) _ q1 with h | h
 ·exact .inl h
 ·right
  have:(fun i=>[b,a].any fun e=>Nat.beq e i)=fun i=>[a,b].any fun e=>Nat.beq e i:=by
   funext i; rw [q1,q2]
  rw [this]; exact h
theorem Sched.two' {l:List Oper} {p:Nat} {σ:List Nat} (hs:Sched l p σ) {a b:Nat} (ha:a < p) (hb:b < p) (hm:((masks l []).getD b 0).testBit a=true) :
  σ.filter (fun i=>[a,b].any fun e=>Nat.beq e i)=[a,b]:=by
 have hab:a≠b:=by
  rintro rfl
  obtain ⟨x,y,hxy⟩:=List.append_of_mem ((hs.mem a).2 ha)
  have h1:=hs.mask x a y hxy a hm
  have:=hs.nodup
  rw [hxy,List.nodup_append] at this
  exact this.2.2 a h1 a List.mem_cons_self rfl
 rcases hs.two hab ha hb with h | h
 ·exact h
 ·exfalso
  obtain ⟨x,y,hxy⟩:=List.append_of_mem ((hs.mem b).2 hb)
  have h1:=hs.mask x b y hxy a hm
  rw [hxy,List.filter_append] at h
  have q:([b,a].any fun e=>Nat.beq e b)=true:=by simp
  rw [List.filter_cons,q] at h
  have h2:a∈x.filter fun i=>[b,a].any fun e=>Nat.beq e i:=List.mem_filter.2 ⟨h1,by simp⟩
  obtain ⟨u,v,huv⟩:=List.append_of_mem h2
  have hl:=congrArg List.length h
  have hbx:b ∉ x:=by
   have:=hs.nodup
   rw [hxy,List.nodup_append] at this
   exact fun hm=>this.2.2 b hm b List.mem_cons_self rfl
  cases hx:x.filter fun i=>[b,a].any fun e=>Nat.beq e i with
  | nil=>rw [hx] at h2; cases h2
  | cons c r =>
   rw [hx] at h
   simp only [List.cons_append,List.cons.injEq] at h
   have:b∈x.filter fun i=>[b,a].any fun e=>Nat.beq e i:=by rw [hx,h.1]; exact List.mem_cons_self
   exact hbx (List.mem_filter.1 this).1
def XOps (P:Program) (f:Ctx) (N:Nat) (S:Start) (Q:EV→St→Prop) (l:List Oper) (p:Nat) (E:List Nat) (sts:List St) (i:Nat) (os:List Oper) (k:List Item) (env:Env):Prop :=
 ∃ xs stF,sts[E.length]?=some stF∧EChain P N S.base l E sts i os xs env∧AOps P f N S Q l (l.drop p) k (putAll env os xs) stF
variable {l:List Oper} {p:Nat} {E:List Nat} {sts:List St} {i:Nat} {os:List Oper} {env:Env} {st:St} {d:Option Tmp} {op:Op} {ty:TypeId} {pos:String} {after:Array Edge} {x:EV}
theorem XOps.nil {stF:St} (hF:sts[E.length]?=some stF) (h:AOps P f N S Q l (l.drop p) k env stF):XOps P f N S Q l p E sts i [] k env:=⟨[],stF,hF,trivial,h⟩
def GAll (P:Program) (l:List Oper) (env:Env) (o:Oper) (x:EV):List St→Prop
 | []=>True
 | s :: r=>OpG P (renv l o env) s o x∧GAll P l env o x r
theorem GAll.all {o:Oper} {P:Program} {l:List Oper} {env:Env} {x:EV} (hg:o.guard=none):∀ {ss:List St},GAll P l env o x ss→AllL ss fun s=>OpAny P l (renv l o env) s o x
 | [],_=>trivial
 | s :: r,h=>⟨.inl ⟨hg,h.1⟩,GAll.all hg h.2⟩
theorem XOps.g (lo hi:Nat) (h:GAll P l env ⟨d,op,ty,pos,after,none⟩ x ((sts.take (hi+1)).drop lo)) (hne:(!E.any fun e=>Nat.beq e i)=true) (hb:boundB l E i lo hi=true) (hd:dstOk N d=true)
  (hk:XOps P f N S Q l p E sts (i+1) os k (env.put d x)):XOps P f N S Q l p E sts i (⟨d,op,ty,pos,after,none⟩ :: os) k env:=by
 obtain ⟨xs,stF,h0,h1,h2⟩:=hk
 exact ⟨x :: xs,stF,h0,⟨⟨hd,.inl ⟨lo,hi,hne,hb,h.all rfl⟩⟩,h1⟩,h2⟩
theorem XOps.v {s s':St} (m:Nat) (h:OpV P S.base (renv l ⟨d,op,ty,pos,after,none⟩ env) s ⟨d,op,ty,pos,after,none⟩ x s') (hE:E[m]?=some i) (h1:sts[m]?=some s) (h2:sts[m+1]?=some s') (hd:dstOk N d=true)
  (hk:XOps P f N S Q l p E sts (i+1) os k (env.put d x)):XOps P f N S Q l p E sts i (⟨d,op,ty,pos,after,none⟩ :: os) k env:=by
 obtain ⟨xs,stF,h0,h3,h4⟩:=hk
 exact ⟨x :: xs,stF,h0,⟨⟨hd,.inr ⟨m,s,s',hE,h1,h2,rfl,.inl h⟩⟩,h3⟩,h4⟩
theorem XOps.u {s s':St} (m:Nat) (h:OpU P S.base (renv l ⟨d,op,ty,pos,after,none⟩ env) s ⟨d,op,ty,pos,after,none⟩ s') (hE:E[m]?=some i) (h1:sts[m]?=some s) (h2:sts[m+1]?=some s') (hd:dstOk N d=true)
  (hk:XOps P f N S Q l p E sts (i+1) os k (env.put d (.d .any))):XOps P f N S Q l p E sts i (⟨d,op,ty,pos,after,none⟩ :: os) k env:=by
 obtain ⟨xs,stF,h0,h3,h4⟩:=hk
 exact ⟨.d .any :: xs,stF,h0,⟨⟨hd,.inr ⟨m,s,s',hE,h1,h2,rfl,.inr (.inl ⟨rfl,h⟩)⟩⟩,h3⟩,h4⟩
theorem XOps.c {s s':St} (m:Nat) (h:OpC P S.base (renv l ⟨d,op,ty,pos,after,none⟩ env) s ⟨d,op,ty,pos,after,none⟩ x s') (hE:E[m]?=some i) (h1:sts[m]?=some s) (h2:sts[m+1]?=some s') (hd:dstOk N d=true)
  (hk:XOps P f N S Q l p E sts (i+1) os k (env.put d x)):XOps P f N S Q l p E sts i (⟨d,op,ty,pos,after,none⟩ :: os) k env:=by
 obtain ⟨xs,stF,h0,h3,h4⟩:=hk
 exact ⟨x :: xs,stF,h0,⟨⟨hd,.inr ⟨m,s,s',hE,h1,h2,rfl,.inr (.inr h)⟩⟩,h3⟩,h4⟩
theorem ARun.eff {σ:List Nat} {env:Env} {st:St} (hB:drawB l p=true) (hs:Sched l p σ) (hE:σ.filter (fun i=>E.any fun e=>Nat.beq e i)=E) (h0:sts[0]?=some st) (h:XOps P f N S Q l p E sts 0 (l.take p) k env) :
  ARun P f N S Q (.inRegion l.toArray (σ++List.range' p (l.length-p)) :: k) env st:=by
 obtain ⟨xs,stF,h1,h2,h3⟩:=h
 exact .effσ hB hs E sts hE h0 h1 h2 h3
theorem ARun.orders2 {id:Nat} {l:List Oper} {env:Env} {st:St} (p a b:Nat) (sts:List St) (hm:P.follows .mixedOrders=true) (hB:drawB l p=true) (ha:a < p) (hb:b < p) (hab:((masks l []).getD b 0).testBit a=true) (h0:sts[0]?=some st)
  (h:XOps P f N S Q l p [a,b] sts 0 (l.take p) k env):ARun P f N S Q (.code (.region id l.toArray true) :: k) env st :=
 .orders p hm hB fun _ hσ=>.eff hB hσ (hσ.two' ha hb hab) h0 h
end run
section rules
variable {P:Program} {f:Ctx} {N:Nat} {S:Start} {Q:EV→St→Prop} {k:List Item} {todo:List Item} {base:Nat} {env:Env} {st:St} {ops rest:List Oper}
 {d:Option Tmp} {ty:TypeId} {pos:String} {after:Array Edge} {gd:Option (Nat×Bool)} {t t2 e:TypeId} {x y z:Operand}
section sl
variable {α:Type} {sz:Nat} {row:α→List D} {l:List α} {ev:EV} {inf:TypeInfo} {tk tk2 n n2:Nat}
theorem v_append0P {l':List α} {zv:Value} {e0:EV} {w2:EV} (ht:P.underlying t=some (.slice e)) (hi:P.info? e=some inf) (hz:inf.zero=some zv) (hsize:inf.size=sz) (hzs:zv.cells.size=sz) (hb:inf.bytes≤100000)
  (hx:evo env x=some e0) (h0:e0=.d (.e0 sz)∨e0=.d nilD) (htl:st.tails[tk]?=some ⟨e,sz,0,some (([]:List α).map row)⟩) (hy:evo env y=some w2) (hs:asSl w2=some (sz,l'.map row)) (hn:l'.length≤1000000000) :
  OpV P base env st ⟨d,.call ⟨.builtin .append,#[x,y],#[t,t]⟩,ty,pos,after,gd⟩ (.vc tk ([]++l').length) (st.setTail tk ⟨e,sz,([]++l').length,some (([]++l').map row)⟩):=by
 intro g w tmps hinv he
 have hdx:DRep g.lim w (.e0 sz) (Act.eval ⟨tmps,[]⟩ x):=by
  rcases h0 with rfl | rfl
  ·cases evo_rep he hx with | d _ _ h=>exact h
  ·rw [(evo_rep he hx).ex_inv]; exact .e0 sz none (.inl rfl)
 have hlen:tk < st.tails.length:=(List.getElem?_eq_some_iff.1 htl).1
 have hrep:EVRep g w st (.vc tk 0) (Act.eval ⟨tmps,[]⟩ x):=by
  generalize hv:Act.eval ⟨tmps,[]⟩ x=v at hdx
  cases hdx with | e0 _ A hA=>exact vc_emp hlen htl ⟨A,rfl⟩
 obtain ⟨news,hsr⟩:=srcRep_sl (P:=P) (asSl_rep hs (evo_rep he hy))
 obtain ⟨v',g',w',hrun,k1,k2,k3⟩:=append_valV (ty:=ty) (l:=([]:List α)) ht ht (.inr ⟨e,rfl⟩) hi hz hsize hzs hb hinv hrep htl (by simpa using hn) hsr
 exact ⟨v',g',w',by simp [execOp,resolve,invoke,builtin,hrun],k1,k2,k3⟩
end sl
theorem ARun.tokP {e sz:Nat} (h:ARun P f N S Q todo env (st.tok ⟨e,sz,0,some []⟩)):ARun P f N S Q todo env st:=by
 intro g w tmps hinv hh he hN
 obtain ⟨g',h1,_,_,h2,h3⟩:=hinv.newTail ⟨e,sz,0,some []⟩ (World.ownsRow_nil w S.base _ _) (.inl ⟨rfl,rfl⟩) (fun rows hr=>by cases hr; exact ⟨rfl,by simp,by simp⟩)
 exact h g' w tmps h2 (hh.step h3) (he.mono h3.sevo) hN
end rules
def codeN (L:Nat→Bool):List Nat→Nat
 | []=>0
 | e :: r=>(if L e then 1 else 0)+2*codeN L r
theorem codeN_bit (L:Nat→Bool):∀ (E:List Nat) (j e:Nat),E[j]?=some e→(codeN L E).testBit j=L e
 | e :: r,0,e',h=>by
  simp at h; subst h
  unfold codeN
  cases hL:L e <;> simp [Nat.testBit_zero] <;> omega
 | e :: r,j+1,e',h=>by
  have ih:=codeN_bit L r j e' (by simpa using h)
  unfold codeN
  rw [Nat.testBit_succ]
  have:((if L e then 1 else 0)+2*codeN L r) / 2=codeN L r:=by cases L e <;> simp <;> omega
  rw [this]; exact ih
theorem codeN_lt (L:Nat→Bool):∀ E:List Nat,codeN L E < 2 ^ E.length
 | []=>by simp [codeN]
 | e :: r=>by
  have:=codeN_lt L r
  unfold codeN
  rw [List.length_cons,Nat.pow_succ]
  cases L e <;> simp <;> omega
theorem codeN_same {L L':Nat→Bool}:∀ {E:List Nat},(∀ e∈E,L' e=L e)→codeN L' E=codeN L E
 | [],_=>rfl
 | e :: r,h=>by
  unfold codeN
  rw [h e List.mem_cons_self,codeN_same fun x hx=>h x (List.mem_cons_of_mem _ hx)]
theorem codeN_add {L:Nat→Bool} {i:Nat} (hi:L i=false):∀ {E:List Nat} {m:Nat},E.Nodup→E[m]?=some i→codeN (fun j=>j==i || L j) E=codeN L E+2 ^ m
 | e :: r,0,hn,h=>by
  simp at h; subst h
  rw [List.nodup_cons] at hn
  unfold codeN
  rw [codeN_same (L:=L) (E:=r) fun x hx=>by
   have:x≠e:=fun hh=>hn.1 (hh▸hx)
   simp [this]]
  simp [hi]; omega
 | e :: r,m+1,hn,h=>by
  rw [List.nodup_cons] at hn
  have h':r[m]?=some i:=by simpa using h
  have ih:=codeN_add hi hn.2 h'
  have hne:e≠i:=fun hh=>hn.1 (hh▸List.mem_of_getElem? h')
  unfold codeN
  rw [ih,Nat.pow_succ]
  have:(e==i)=false:=by simpa using hne
  simp only [this,Bool.false_or]
  omega
def mayN (l:List Oper) (E:List Nat) (i n:Nat):Bool :=
 E.zipIdx.all fun e=>(!((masks l []).getD i 0).testBit e.1 || n.testBit e.2) && (!(((masks l []).getD e.1 0).testBit i || Nat.beq e.1 i) || !n.testBit e.2) && (!n.testBit e.2 || E.zipIdx.all fun e'=>!((masks l []).getD e.1 0).testBit e'.1 || n.testBit e'.2)
def boundN (l:List Oper) (E:List Nat) (i:Nat) (ns:List Nat):Bool:=(List.range (2 ^ E.length)).all fun n=>!mayN l E i n || ns.any fun k=>Nat.beq k n
section run
variable {P:Program} {f:Ctx} {N:Nat} {S:Start} {Q:EV→St→Prop} {k:List Item}
def AllN (sts:List St):List Nat→(St→Prop)→Prop
 | [],_=>True
 | n :: r,p=>(∃ s,sts[n]?=some s∧p s)∧AllN sts r p
theorem AllN.get {sts:List St} {p:St→Prop}:∀ {ns:List Nat} {n:Nat},AllN sts ns p→n∈ns→∃ s,sts[n]?=some s∧p s
 | a :: r,n,h,hn=>by
  rcases List.mem_cons.1 hn with e | e
  ·rw [e]; exact h.1
  ·exact AllN.get h.2 e
def All2 (sts:List St) (d:Nat):List Nat→(St→St→Prop)→Prop
 | [],_=>True
 | n :: r,p=>(∃ s s',sts[n]?=some s∧sts[n+d]?=some s'∧p s s')∧All2 sts d r p
theorem All2.get {sts:List St} {d:Nat} {p:St→St→Prop}:∀ {ns:List Nat} {n:Nat},All2 sts d ns p→n∈ns→∃ s s',sts[n]?=some s∧sts[n+d]?=some s'∧p s s'
 | a :: r,n,h,hn=>by
  rcases List.mem_cons.1 hn with e | e
  ·rw [e]; exact h.1
  ·exact All2.get h.2 e
def NStep (P:Program) (N base:Nat) (l:List Oper) (E:List Nat) (sts:List St) (i:Nat) (o:Oper) (env:Env) (x:EV):Prop :=
  dstOk N o.dst=true∧∃ ns,boundN l E i ns=true ∧
  (((!E.any fun e=>Nat.beq e i)=true∧((∀ s,OpAny P l env s o x)∨AllN sts ns fun s=>OpAny P l env s o x)) ∨
   (∃ m,E[m]?=some i∧o.guard=none∧All2 sts (2 ^ m) ns fun s s'=>OpV P base env s o x s'∨x=.d .any∧OpU P base env s o s'))
def NChain (P:Program) (N base:Nat) (l:List Oper) (E:List Nat) (sts:List St):Nat→List Oper→List EV→Env→Prop
 | _,[],[],_=>True
 | i,o :: os,x :: xs,env=>NStep P N base l E sts i o (renv l o env) x∧NChain P N base l E sts (i+1) os xs (env.put o.dst x)
 | _,_,_,_=>False
theorem NChain.length {base:Nat} {l:List Oper} {E:List Nat} {sts:List St}:∀ {i:Nat} {os:List Oper} {xs:List EV} {env:Env},NChain P N base l E sts i os xs env→xs.length=os.length
 | _,[],[],_,_=>rfl
 | _,o :: os,x :: xs,env,h=>by simp [NChain.length h.2]
 | _,[],x :: xs,_,h=>h.elim
 | _,o :: os,[],_,h=>h.elim
theorem NChain.get {base:Nat} {l:List Oper} {E:List Nat} {sts:List St}:∀ {i:Nat} {os:List Oper} {xs:List EV} {env:Env} {j:Nat} {o:Oper},NChain P N base l E sts i os xs env→os[j]?=some o →
  ∃ x,xs[j]?=some x∧NStep P N base l E sts (i+j) o (renv l o (putAll env (os.take j) (xs.take j))) x
 | i,o' :: os,x :: xs,env,0,o,h,ho=>by
  simp at ho; subst ho
  exact ⟨x,rfl,by simpa [putAll] using h.1⟩
 | i,o' :: os,x :: xs,env,j+1,o,h,ho=>by
  obtain ⟨y,h1,h2⟩:=NChain.get (j:=j) h.2 (by simpa using ho)
  exact ⟨y,by simpa using h1,by simpa [putAll,Nat.add_assoc,Nat.add_comm 1 j] using h2⟩
 | i,[],xs,env,j,o,h,ho=>by simp at ho
 | i,o' :: os,[],_,_,_,h,_=>h.elim
theorem ARun.effN {id:Nat} {l:List Oper} {p:Nat} {env:Env} {st stF:St} (hm:P.follows .mixedOrders=true) (hB:drawB l p=true) (E:List Nat) (sts:List St) (hn:E.Nodup) (hp:∀ e∈E,e < p) {xs:List EV}
  (h0:sts[0]?=some st) (hF:sts[2 ^ E.length-1]?=some stF) (hch:NChain P N S.base l E sts 0 (l.take p) xs env) (hsuf:AOps P f N S Q l (l.drop p) k (putAll env (l.take p) xs) stF) :
  ARun P f N S Q (.code (.region id l.toArray true) :: k) env st:=by
 have hpl:p≤l.length:=by
  simp only [drawB,Bool.and_eq_true] at hB
  simpa using hB.2
 have hxp:xs.length=p:=by rw [hch.length]; simp; omega
 have hcode0:∀ E:List Nat,codeN (fun _=>false) E=0:=by
  intro E
  induction E with
  | nil=>rfl
  | cons e r ih=>unfold codeN; rw [ih]; rfl
 have hcode1:∀ (L:Nat→Bool) (E:List Nat),(∀ e∈E,L e=true)→codeN L E=2 ^ E.length-1:=by
  intro L E
  induction E with
  | nil=>intro _; rfl
  | cons e r ih =>
   intro h
   unfold codeN
   rw [h e List.mem_cons_self,ih fun x hx=>h x (List.mem_cons_of_mem _ hx),List.length_cons,Nat.pow_succ]
   have:=Nat.two_pow_pos r.length
   simp; omega
 refine ARun.drawnF p xs (fun L s=>sts[codeN L E]?=some s) hm hB hxp (by rw [hcode0]; exact h0) ?_ ?_
 ·intro L s i o hi ho hLi hmask hclosed hFs
  obtain ⟨x,hx,hst⟩:=hch.get (j:=i) (o:=o) (by rw [List.getElem?_take,if_pos hi]; exact ho)
  rw [Nat.zero_add] at hst
  obtain ⟨hd,ns,hb,hst⟩:=hst
  refine ⟨hd,x,?_⟩
  have hmay:mayN l E i (codeN L E)=true:=by
   unfold mayN
   rw [List.all_eq_true]
   rintro ⟨e,j⟩ hej
   have hEj:E[j]?=some e:=by
    have:=List.mem_zipIdx_iff_getElem?.1 hej
    simpa using this
   have hbit:=codeN_bit L E j e hEj
   simp only [Bool.and_eq_true,Bool.or_eq_true,Bool.not_eq_true',hbit]
   refine ⟨⟨?_,?_⟩,?_⟩
   ·cases hm1:((masks l []).getD i 0).testBit e with
    | false=>exact .inl rfl
    | true=>exact .inr (hmask e hm1)
   ·cases hm1:((masks l []).getD e 0).testBit i with
    | false =>
     cases hei:Nat.beq e i with
     | false=>exact .inl rfl
     | true=>exact .inr (Nat.eq_of_beq_eq_true hei▸hLi)
    | true =>
     right
     cases hLe:L e with
     | false=>rfl
     | true=>rw [hclosed e hLe i hm1] at hLi; cases hLi
   ·cases hLe:L e with
    | false=>exact .inl rfl
    | true =>
     right
     rw [List.all_eq_true]
     rintro ⟨e',j'⟩ hej'
     have hEj':E[j']?=some e':=by
      have:=List.mem_zipIdx_iff_getElem?.1 hej'
      simpa using this
     simp only [Bool.or_eq_true,Bool.not_eq_true',codeN_bit L E j' e' hEj']
     cases hm1:((masks l []).getD e 0).testBit e' with
     | false=>exact .inl rfl
     | true=>exact .inr (hclosed e hLe e' hm1)
  have hin:codeN L E∈ns:=by
   have:=List.all_eq_true.1 hb (codeN L E) (List.mem_range.2 (codeN_lt L E))
   rw [hmay] at this
   simp only [Bool.not_true,Bool.false_or] at this
   obtain ⟨a,ha,hab⟩:=List.any_eq_true.1 this
   rw [←Nat.eq_of_beq_eq_true hab]; exact ha
  rcases hst with ⟨hne,hop⟩ | ⟨m,hEm,hg,hop⟩
  ·have hnoE:(E.any fun e=>Nat.beq e i)=false:=by simpa using hne
   have hop':OpAny P l (renv l o (putAll env ((l.take p).take i) (xs.take i))) s o x:=by
    rcases hop with h | h
    ·exact h s
    ·obtain ⟨s0,h1,h2⟩:=h.get hin
     rw [hFs] at h1
     cases h1
     exact h2
   refine ⟨s,hx,.inl ⟨rfl,hop'⟩,?_⟩
   rw [codeN_same (L:=L) fun e he=>by
    have:e≠i:=fun hh=>by
     have:=List.any_eq_false.1 hnoE e he
     rw [hh,Nat.beq_refl] at this
     exact this rfl
    simp [this]]
   exact hFs
  ·obtain ⟨s0,s1,h1,h2,h3⟩:=hop.get hin
   rw [hFs] at h1
   cases h1
   refine ⟨s1,hx,?_,?_⟩
   ·rcases h3 with h | ⟨ha,hb'⟩
    ·exact .inr (.inl ⟨hg,h⟩)
    ·exact .inr (.inr ⟨hg,ha,hb'⟩)
   ·rw [codeN_add hLi hn hEm]; exact h2
 ·intro L s hL hFs
  rw [hcode1 L E fun e he=>hL e (hp e he),hF] at hFs
  cases hFs
  exact hsuf
def NOps (P:Program) (f:Ctx) (N:Nat) (S:Start) (Q:EV→St→Prop) (l:List Oper) (p:Nat) (E:List Nat) (sts:List St) (i:Nat) (os:List Oper) (k:List Item) (env:Env):Prop :=
 ∃ xs stF,sts[2 ^ E.length-1]?=some stF∧NChain P N S.base l E sts i os xs env∧AOps P f N S Q l (l.drop p) k (putAll env os xs) stF
variable {l:List Oper} {p:Nat} {E:List Nat} {sts:List St} {i:Nat} {os:List Oper} {env:Env} {st:St} {d:Option Tmp} {op:Op} {ty:TypeId} {pos:String} {after:Array Edge} {x:EV}
theorem NOps.nil {stF:St} (hF:sts[2 ^ E.length-1]?=some stF) (h:AOps P f N S Q l (l.drop p) k env stF):NOps P f N S Q l p E sts i [] k env:=⟨[],stF,hF,trivial,h⟩
theorem NOps.s (h:∀ s,OpQ P (renv l ⟨d,op,ty,pos,after,none⟩ env) s ⟨d,op,ty,pos,after,none⟩ x) (hne:(!E.any fun e=>Nat.beq e i)=true) (hd:dstOk N d=true)
  (hk:NOps P f N S Q l p E sts (i+1) os k (env.put d x)):NOps P f N S Q l p E sts i (⟨d,op,ty,pos,after,none⟩ :: os) k env:=by
 obtain ⟨xs,stF,h0,h1,h2⟩:=hk
 refine ⟨x :: xs,stF,h0,⟨⟨hd,List.range (2 ^ E.length),?_,.inl ⟨hne,.inl fun s=>.inl ⟨rfl,(h s).g⟩⟩⟩,h1⟩,h2⟩
 unfold boundN
 rw [List.all_eq_true]
 intro n hn
 simp only [Bool.or_eq_true]
 exact .inr (List.any_eq_true.2 ⟨n,hn,Nat.beq_refl n⟩)
theorem NOps.g (ns:List Nat) (h:AllN sts ns fun s=>OpG P (renv l ⟨d,op,ty,pos,after,none⟩ env) s ⟨d,op,ty,pos,after,none⟩ x) (hne:(!E.any fun e=>Nat.beq e i)=true) (hb:boundN l E i ns=true) (hd:dstOk N d=true)
  (hk:NOps P f N S Q l p E sts (i+1) os k (env.put d x)):NOps P f N S Q l p E sts i (⟨d,op,ty,pos,after,none⟩ :: os) k env:=by
 obtain ⟨xs,stF,h0,h1,h2⟩:=hk
 refine ⟨x :: xs,stF,h0,⟨⟨hd,ns,hb,.inl ⟨hne,.inr ?_⟩⟩,h1⟩,h2⟩
 have mk:∀ {ns:List Nat},(AllN sts ns fun s=>OpG P (renv l ⟨d,op,ty,pos,after,none⟩ env) s ⟨d,op,ty,pos,after,none⟩ x)→AllN sts ns fun s=>OpAny P l (renv l ⟨d,op,ty,pos,after,none⟩ env) s ⟨d,op,ty,pos,after,none⟩ x:=by
  intro ns
  induction ns with
  | nil=>exact fun _=>trivial
  | cons a r ih=>exact fun ⟨⟨s,a1,a2⟩,b⟩=>⟨⟨s,a1,.inl ⟨rfl,a2⟩⟩,ih b⟩
 exact mk h
theorem NOps.v (m:Nat) (ns:List Nat) (h:All2 sts (2 ^ m) ns fun s s'=>OpV P S.base (renv l ⟨d,op,ty,pos,after,none⟩ env) s ⟨d,op,ty,pos,after,none⟩ x s') (hE:E[m]?=some i) (hb:boundN l E i ns=true) (hd:dstOk N d=true)
  (hk:NOps P f N S Q l p E sts (i+1) os k (env.put d x)):NOps P f N S Q l p E sts i (⟨d,op,ty,pos,after,none⟩ :: os) k env:=by
 obtain ⟨xs,stF,h0,h3,h4⟩:=hk
 refine ⟨x :: xs,stF,h0,⟨⟨hd,ns,hb,.inr ⟨m,hE,rfl,?_⟩⟩,h3⟩,h4⟩
 have mk:∀ {ns:List Nat},(All2 sts (2 ^ m) ns fun s s'=>OpV P S.base (renv l ⟨d,op,ty,pos,after,none⟩ env) s ⟨d,op,ty,pos,after,none⟩ x s') →
   All2 sts (2 ^ m) ns fun s s'=>OpV P S.base (renv l ⟨d,op,ty,pos,after,none⟩ env) s ⟨d,op,ty,pos,after,none⟩ x s'∨x=.d .any∧OpU P S.base (renv l ⟨d,op,ty,pos,after,none⟩ env) s ⟨d,op,ty,pos,after,none⟩ s':=by
  intro ns
  induction ns with
  | nil=>exact fun _=>trivial
  | cons a r ih=>exact fun ⟨⟨s,s',a1,a2,a3⟩,b⟩=>⟨⟨s,s',a1,a2,.inl a3⟩,ih b⟩
 exact mk h
theorem ARun.parts {id:Nat} (p:Nat) (E:List Nat) (sts:List St) (hm:P.follows .mixedOrders=true) (hB:drawB l p=true) (hn:(E.all fun e=>decide (e < p))=true) (hd:E.Nodup) (h0:sts[0]?=some st)
  (h:NOps P f N S Q l p E sts 0 (l.take p) k env):ARun P f N S Q (.code (.region id l.toArray true) :: k) env st:=by
 obtain ⟨xs,stF,h1,h2,h3⟩:=h
 exact .effN hm hB E sts hd (fun e he=>by simpa using List.all_eq_true.1 hn e he) h0 h1 h2 h3
end run
def CRepE (g:Ghost) (w:World) (st:St) (cs:List EV) (vs:Array Value):Prop :=
 vs.size=cs.length∧∀ (i:Nat) c (u:Value),cs[i]?=some c→vs[i]?=some u→EVRep g w st c u∧u.oneCell'=true
theorem CRepE.lay {g:Ghost} {w:World} {st:St} {cs new:List EV} {vs us:Array Value} {off:Nat} (h:CRepE g w st cs vs) (hn:CRepE g w st new us) (hf:off+new.length≤cs.length):CRepE g w st (putCells cs off new) (lay vs us off):=by
 obtain ⟨h1,h2⟩:=lay_get vs us off (by rw [h.1,hn.1]; exact hf)
 refine ⟨by rw [h1,h.1]; simp [putCells]; omega,fun i c u hc hu=>?_⟩
 have hi:i < vs.size:=by rw [←h1]; exact (Array.getElem?_eq_some_iff.1 hu).1
 rw [h2 i hi] at hu
 unfold putCells at hc
 have hvs:=h.1
 have hus:=hn.1
 by_cases hA:i < off
 ·rw [if_neg (by omega)] at hu
  rw [List.append_assoc,List.getElem?_append_left (by simp; omega),List.getElem?_take,if_pos hA] at hc
  exact h.2 i c u hc hu
 ·by_cases hB:i < off+new.length
  ·rw [if_pos (by omega)] at hu
   rw [List.append_assoc,List.getElem?_append_right (by simp; omega),List.getElem?_append_left (by simp; omega)] at hc
   have e1:(cs.take off).length=off:=by simp; omega
   rw [e1] at hc
   exact hn.2 _ c u hc hu
  ·rw [if_neg (by omega)] at hu
   rw [List.getElem?_append_right (by simp; omega)] at hc
   have e1:(cs.take off++new).length=off+new.length:=by simp; omega
   rw [e1,List.getElem?_drop] at hc
   have e2:off+new.length+(i-(off+new.length))=i:=by omega
   rw [e2] at hc
   exact h.2 i c u hc hu
def layE (place:Nat→Option (Nat×Nat)) (env:Env):List EV→List (Nat×Operand)→Option (List EV)
 | cs,[]=>some cs
 | cs,(i,x) :: l=>match place i,evo env x with
  | some (off,size),some e=>match cellsE e with
   | some new=>match Nat.beq new.length size,Nat.ble (off+size) cs.length with
    | true,true=>layE place env (putCells cs off new) l
    | _,_=>none
   | none=>none
  | _,_=>none
theorem layE_rep {g:Ghost} {w:World} {st:St} {env:Env} {tmps:Array Value} (he:EnvRep g w st env tmps) {place:Nat→Option (Nat×Nat)}:∀ (l:List (Nat×Operand)) (cs:List EV) (vs:Array Value) (r:List EV),layE place env cs l=some r→CRepE g w st cs vs →
  ∃ us,Instr.fill place vs (l.map fun p=>(p.1,Act.eval ⟨tmps,[]⟩ p.2))=some us∧CRepE g w st r us∧r.length=cs.length
 | [],cs,vs,r,h,hc=>by simp [layE] at h; subst h; exact ⟨vs,rfl,hc,rfl⟩
 | (i,x) :: l,cs,vs,r,h,hc=>by
  unfold layE at h
  split at h
  ·rename_i off size e hp hx
   split at h
   ·rename_i new hn
    split at h
    ·rename_i hb1 hb2
     have h1:=Nat.eq_of_beq_eq_true hb1
     have h2:=Nat.le_of_ble_eq_true hb2
     have hcn:CRepE g w st new (Act.eval ⟨tmps,[]⟩ x).cells:=cellsE_rep hn (evo_rep he hx)
     have hlay:=hc.lay hcn (off:=off) (by omega)
     obtain ⟨us,k1,k2,k3⟩:=layE_rep he l _ _ r h hlay
     refine ⟨us,?_,k2,by rw [k3]; simp [putCells]; omega⟩
     have hs:=hcn.1
     have hvs:=hc.1
     simp only [List.map_cons,Instr.fill,hp]
     rw [if_neg (by simp; omega)]
     exact k1
    ·cases h
   ·cases h
  ·cases h
section rules
variable {P:Program} {base:Nat} {env:Env} {st:St} {d:Option Tmp} {ty:TypeId} {pos:String} {after:Array Edge} {gd:Option (Nat×Bool)} {t:TypeId}
theorem q_buildE0 {fs:Array Field} {inf:TypeInfo} {z:Value} {zs r:List EV} {l:List (Nat×Operand)} (ht:P.underlying t=some (.struct fs)) (hi:P.info? t=some inf) (hz:inf.zero=some z) (hzs:cellsE (.d (cv z))=some zs)
  (hfs:fs.toList.all (fun f=>(P.info? f.type).isSome)=true) (hl:layE (placeOf P fs) env zs l=some r):OpQ P env st ⟨d,.build t l.toArray,ty,pos,after,gd⟩ (.agg r):=by
 intro g base w tmps hinv he
 have hz':CRepE g w st zs z.cells:=cellsE_rep (g:=g) (w:=w) (st:=st) hzs (.d _ _ (cv_rep _ _ z))
 obtain ⟨us,h1,h2,h3⟩:=layE_rep he l zs z.cells r hl hz'
 refine ⟨.agg us,.agg r us h2.1 (fun i u hu=>?_) fun i c u hc hu=>(h2.2 i c u hc hu).1,fun w' hb=>?_⟩
 ·have hi':i < r.length:=by rw [←h2.1]; exact (Array.getElem?_eq_some_iff.1 hu).1
  exact (h2.2 i _ u (List.getElem?_eq_getElem hi') hu).2
 ·have hpl:(fs.mapM (fun f=>do pure (f.offset,←sizeOf f.type):Field→Sem (Nat×Nat))).run P w'=.ok (fs.toList.map fun f=>(f.offset,szOf P f.type)).toArray w':=by
   rw [←Array.toArray_toList (xs:=fs),List.mapM_toArray]
   simp only [Sem.run_map,mapM_places (P:=P) fs.toList (fun f hf=>List.all_eq_true.1 hfs f hf) w',Result.andThen_ok]
  have hplace:(fun i:Nat=>((fs.toList.map fun f=>(f.offset,szOf P f.type)).toArray)[i]?)=placeOf P fs:=by
   funext i
   simp [placeOf]
  simp only [execOp,Instr.build,Sem.run_bind,zero_run hi hz,Result.andThen_ok,run_underlying ht,hpl,List.map_toArray]
  rw [hplace]
  simp [h1]
theorem q_buildE {ps:List (Nat×Nat)} {inf:TypeInfo} {z:Value} {zs r:List EV} {l:List (Nat×Operand)} (hp:placesOf P t=some ps) (hi:P.info? t=some inf) (hz:inf.zero=some z) (hzs:cellsE (.d (cv z))=some zs)
  (hl:layE (fun i=>ps[i]?) env zs l=some r):OpQ P env st ⟨d,.build t l.toArray,ty,pos,after,gd⟩ (.agg r):=by
 unfold placesOf at hp
 split at hp
 ·rename_i fs hu
  split at hp
  ·rename_i hall
   cases hp
   refine q_buildE0 hu hi hz hzs hall ?_
   rw [←hl]
   congr 1
   funext i
   simp [placeOf]
  ·cases hp
 ·cases hp
end rules
section cell
variable {P:Program} {f:Ctx} {N:Nat} {S:Start} {Q:EV→St→Prop} {todo:List Item} {env:Env} {st:St}
theorem Inv.cellLe {g:Ghost} {base:Nat} {w:World} {o ci:Nat} {T:TypeId} {cs:List EV} {x y:EV} (h:Inv g base w st) (ho:st.objs[o]?=some (.row T cs)) (hc:cs[ci]?=some x) (hle:EVle x y) :
  Inv g base w (st.set o (.row T (cs.set ci y)))∧Step base g w st g w (st.set o (.row T (cs.set ci y))):=by
 obtain ⟨b1,b2,vs,b3,b4,b5⟩:=h.row o T cs ho
 exact h.setBlock (o:=o) (x:=.row T (cs.set ci y)) (w':=w) ⟨_,ho,by simp⟩ b2 rfl (fun _ _=>rfl) rfl rfl rfl
  (fun hsv ty' cs' hx'=>by
   cases hx'
   refine ⟨vs,b3,by simpa using b4,fun i c u hci hu=>?_⟩
   rw [List.getElem?_set] at hci
   split at hci
   ·rename_i hic
    subst hic
    split at hci
    ·cases hci
     have h0:=b5 ci _ u hc hu
     exact ⟨hle _ _ _ _ (h0.1.mono hsv),h0.2⟩
    ·cases hci
   ·have h0:=b5 i c u hci hu
    exact ⟨h0.1.mono hsv,h0.2⟩) (fun _ es hx'=>by cases hx')
theorem ARun.cellLe (o ci:Nat) {T:TypeId} {cs:List EV} {x y:EV} (ho:st.objs[o]?=some (.row T cs)) (hc:cs[ci]?=some x) (hle:EVle x y)
  (h:ARun P f N S Q todo env (st.set o (.row T (cs.set ci y)))):ARun P f N S Q todo env st:=by
 intro g w tmps hinv hh he hn
 obtain ⟨h1,h2⟩:=hinv.cellLe ho hc hle
 exact h g w tmps h1 (hh.step h2) (he.mono h2.sevo) hn
end cell
def exF {α β:Type} [Inhabited α] (c:α→β) (l:List α) (i:Nat):Nat→List β
 | 0=>[]
 | n+1=>c (nth l i) :: exF c l (i+1) n
theorem exF_len {α β:Type} [Inhabited α] (c:α→β) (l:List α):∀ (n i:Nat),(exF c l i n).length=n
 | 0,_=>rfl
 | n+1,i=>by simp [exF,exF_len c l n (i+1)]
theorem exF_get {α β:Type} [Inhabited α] (c:α→β) (l:List α):∀ (n i j:Nat),j < n→(exF c l i n)[j]?=some (c (nth l (i+j)))
 | 0,_,_,h=>absurd h (Nat.not_lt_zero _)
 | n+1,i,0,h=>rfl
 | n+1,i,j+1,h=>by
  simp only [exF,List.getElem?_cons_succ]
  rw [exF_get c l n (i+1) j (by omega)]
  congr 3; omega
def setN {α:Type} [Inhabited α] (l:List α) (n i:Nat) (a:α):List α:=(exF id l 0 n).set i a
theorem setN_len {α:Type} [Inhabited α] (l:List α) (n i:Nat) (a:α):(setN l n i a).length=n:=by simp [setN,exF_len]
theorem nth_setN {α:Type} [Inhabited α] {l:List α} {n i j:Nat} {a:α} (hj:j < n):nth (setN l n i a) j=if i=j then a else nth l j:=by
 have h:(setN l n i a)[j]?=some (if i=j then a else nth l j):=by
  unfold setN
  rw [List.getElem?_set,exF_len]
  by_cases hij:i=j
  ·subst hij; simp [hj]
  ·rw [if_neg hij,if_neg hij,exF_get _ _ _ _ _ hj]; simp
 unfold nth
 rw [List.getD_eq_getElem?_getD,h]; rfl
theorem exF_set {α β:Type} [Inhabited α] (c:α→β) (l:List α) {n i:Nat} (a:α):exF c (setN l n i a) 0 n=(exF c l 0 n).set i (c a):=by
 apply List.ext_getElem?
 intro j
 by_cases hj:j < n
 ·rw [exF_get _ _ _ _ _ hj,List.getElem?_set,exF_len]
  rw [Nat.zero_add,nth_setN hj]
  by_cases hij:i=j
  ·subst hij; simp [hj]
  ·rw [if_neg hij,if_neg hij,exF_get _ _ _ _ _ hj]; simp
 ·rw [List.getElem?_eq_none (by rw [exF_len]; omega),List.getElem?_eq_none (by simp [exF_len]; omega)]
section rules
variable {P:Program} {base:Nat} {env:Env} {st:St} {d:Option Tmp} {ty:TypeId} {pos:String} {after:Array Edge} {gd:Option (Nat×Bool)} {t e:TypeId} {x y:Operand}
 {α:Type} [Inhabited α] {c1:α→D} {l:List α} {o off n:Nat} {T:TypeId} {cs:List EV}
theorem q_idxK {kk:IntKind} {i:Int} (ht:P.underlying t=some (.array n e)) (hi:∃ inf,P.info? e=some inf∧inf.size=1) (hx:evo env x=some (.ref o off)) (hy:evo env y=some (.d (.ex (.int kk i)))) (h:0≤i∧i < (n:Int)) :
  OpQ P env st ⟨d,.indexAddr t x y,ty,pos,after,gd⟩ (.ref o (off+i.toNat)):=by
 have:=q_idxArr (st:=st) (d:=d) (ty:=ty) (pos:=pos) (after:=after) (gd:=gd) (m:=i.toNat) ht hi hx hy (by omega) (by omega)
 simpa using this
theorem q_loadK {i:Nat} (h1:(P.underlying t).map oneB=some true) (hx:evo env x=some (.ref o (off+i))) (ho:st.objs[o]?=some (.row T cs)) (hcs:(cs.drop off).take n=exF (fun b=>EV.d (c1 b)) l 0 n) (hi:i < n) :
  OpQ P env st ⟨d,.load t x,ty,pos,after,gd⟩ (.d (c1 (nth l i))):=by
 refine q_loadO h1 hx ho ?_
 have h2:((cs.drop off).take n)[i]?=some (EV.d (c1 (nth l i))):=by rw [hcs,exF_get _ _ _ _ _ hi,Nat.zero_add]
 rw [List.getElem?_take,if_pos hi,List.getElem?_drop] at h2
 exact h2
theorem u_storeK {i:Nat} {a:α} (hx:evo env x=some (.ref o (off+i))) (hy:evo env y=some (.d (c1 a))) (ho:st.objs[o]?=some (.row T cs)) (hcs:(cs.drop off).take n=exF (fun b=>EV.d (c1 b)) l 0 n) (hc:cellsE (.d (c1 a))=some [.d (c1 a)]) (hi:i < n)
  (hs:(P.info? t).map (·.size)=some 1):OpU P base env st ⟨d,.store t x y,ty,pos,after,gd⟩ (st.set o (.row T (cs.take off++exF (fun b=>EV.d (c1 b)) (setN l n i a) 0 n++cs.drop (off+n)))):=by
 have hlen:off+n≤cs.length:=by
  have h2:((cs.drop off).take n).length=n:=by rw [hcs,exF_len]
  rw [List.length_take,List.length_drop] at h2
  omega
 have:=u_store (base:=base) (d:=d) (ty:=ty) (pos:=pos) (after:=after) (gd:=gd) hx hy ho hc (by simp; omega) hs
 have e1:putCells cs (off+i) [.d (c1 a)]=cs.take off++exF (fun b=>EV.d (c1 b)) (setN l n i a) 0 n++cs.drop (off+n):=by
  rw [exF_set,←hcs]
  unfold putCells
  apply List.ext_getElem?
  intro j
  have hA:(cs.take off).length=off:=by simp; omega
  have hB:(((cs.drop off).take n).set i (EV.d (c1 a))).length=n:=by simp; omega
  by_cases h1:j < off
  ·rw [List.append_assoc,List.getElem?_append_left (by simp; omega),List.append_assoc,List.getElem?_append_left (by omega),List.getElem?_take,List.getElem?_take,if_pos (by omega),if_pos h1]
  ·by_cases h2:j < off+n
   ·have hR:∀ X:List EV,X.length=n→(cs.take off++X++cs.drop (off+n))[j]?=X[j-off]?:=fun X hX=>by
     rw [List.append_assoc,List.getElem?_append_right (by omega),hA,List.getElem?_append_left (by omega)]
    rw [hR _ hB,List.getElem?_set]
    by_cases h3:i=j-off
    ·rw [if_pos h3,if_pos (by simp; omega),List.append_assoc,List.getElem?_append_right (by simp; omega)]
     have:j-(cs.take (off+i)).length=0:=by simp; omega
     rw [this]; rfl
    ·rw [if_neg h3,List.getElem?_take,if_pos (by omega),List.getElem?_drop]
     have e0:off+(j-off)=j:=by omega
     rw [e0]
     by_cases h4:j < off+i
     ·rw [List.append_assoc,List.getElem?_append_left (by simp; omega),List.getElem?_take,if_pos h4]
     ·have hC:(cs.take (off+i)++[EV.d (c1 a)]).length=off+i+1:=by simp; omega
      rw [List.getElem?_append_right (by omega),List.getElem?_drop,hC]
      congr 1; simp; omega
   ·have hC:(cs.take (off+i)++[EV.d (c1 a)]).length=off+i+1:=by simp; omega
    have hD:(cs.take off++((cs.drop off).take n).set i (EV.d (c1 a))).length=off+n:=by rw [List.length_append,hA,hB]
    rw [List.getElem?_append_right (by omega),List.getElem?_append_right (by omega),List.getElem?_drop,List.getElem?_drop,hC,hD]
    congr 1; simp; omega
 rwa [e1] at this
end rules
def sizeB (P:Program) (t:TypeId) (n:Nat):Bool:=match P.info? t with
 | some i=>Nat.beq i.size n
 | none=>false
def flatFs (P:Program) (g:TypeId→Option (List FK)):Nat→List Field→Option (List FK)
 | _,[]=>some []
 | n,f :: fs=>match Nat.beq f.offset n,decide (f.name ≠ "_"),g f.type with
  | true,true,some k=>match sizeB P f.type k.length,flatFs P g (n+k.length) fs with
   | true,some ks=>some (k++ks)
   | _,_=>none
  | _,_,_=>none
def flatT (P:Program):Nat→TypeId→Option (List FK)
 | 0,_=>none
 | d+1,t=>match P.underlying t with
  | some (.struct fs)=>match P.stoodInHeld t with
   | true=>none
   | false=>flatFs P (flatT P d) 0 fs.toList
  | some (.array n e)=>match d,fkOf (P.underlying e),sizeB P e 1 with
   | d'+1,some k,true=>some (List.replicate n k)
   | _,_,_=>none
  | u=>match fkOf u with
   | some k=>some [k]
   | none=>none
def aggB:Option TypeDesc→Bool
 | some (.struct _)=>true
 | some (.array _ _)=>true
 | _=>false
def valT (P:Program) (t:TypeId) (xs:List Value):Value:=match aggB (P.underlying t) with
 | true=>.agg xs.toArray
 | false=>xs.headD undef
theorem fitAll_len:∀ {ks:List FK} {xs:List Value},fitAll ks xs=true→xs.length=ks.length
 | [],[],_=>rfl
 | [],_ :: _,h=>by cases h
 | _ :: _,[],h=>by cases h
 | k :: ks,x :: xs,h=>by simp only [fitAll,Bool.and_eq_true] at h; simp [fitAll_len h.2]
theorem fitAll_split:∀ (ks ls:List FK) (xs:List Value),fitAll (ks++ls) xs=true→fitAll ks (xs.take ks.length)=true∧fitAll ls (xs.drop ks.length)=true
 | [],ls,xs,h=>⟨by simp [fitAll],by simpa using h⟩
 | k :: ks,ls,[],h=>by cases h
 | k :: ks,ls,x :: xs,h=>by
  simp only [List.cons_append,fitAll,Bool.and_eq_true] at h
  obtain ⟨h1,h2⟩:=fitAll_split ks ls xs h.2
  exact ⟨by simp [fitAll,h.1,h1],by simpa using h2⟩
theorem eqVs_split:∀ (n:Nat) (xs ys:List Value),xs.length=ys.length→eqVs xs ys=(eqVs (xs.take n) (ys.take n) && eqVs (xs.drop n) (ys.drop n))
 | 0,xs,ys,_=>by simp [eqVs]
 | n+1,[],[],_=>by simp [eqVs]
 | n+1,[],_ :: _,h=>by cases h
 | n+1,_ :: _,[],h=>by cases h
 | n+1,x :: xs,y :: ys,h=>by
  simp only [List.take_succ_cons,List.drop_succ_cons,eqVs]
  rw [eqVs_split n xs ys (by simpa using h),Bool.and_assoc]
section eq
variable {P:Program}
theorem isAgg_b (t:TypeId) (w:World) (u:TypeDesc) (hu:P.underlying t=some u):(isAgg t).run P w=.ok (aggB (some u)) w:=by
 unfold isAgg
 simp only [Sem.run_bind,run_underlying hu,Result.andThen_ok]
 cases u <;> rfl
theorem sizeB_of {t:TypeId} {n:Nat} (h:sizeB P t n=true):∃ i,P.info? t=some i∧i.size=n:=by
 unfold sizeB at h
 split at h
 ·rename_i i hi; exact ⟨i,hi,Nat.eq_of_beq_eq_true h⟩
 ·cases h
theorem flatT_one {d:Nat} {t:TypeId} {ks:List FK} (h:flatT P d t=some ks) (ha:aggB (P.underlying t)=false):∃ k,fkOf (P.underlying t)=some k∧ks=[k]:=by
 cases d with
 | zero=>cases h
 | succ d =>
  unfold flatT at h
  split at h
  ·rename_i hu; rw [hu] at ha; cases ha
  ·rename_i hu; rw [hu] at ha; cases ha
  ·split at h
   ·rename_i k hk; cases h; exact ⟨k,hk,rfl⟩
   ·cases h
theorem part_flat {d:Nat} {t:TypeId} {ks:List FK} (h:flatT P d t=some ks) {X:Array Value} {off:Nat} {xs:List Value} (hl:xs.length=ks.length) (hs:sizeB P t ks.length=true)
  (hX:∀ (j:Nat) v,xs[j]?=some v→X[off+j]?=some v) (w:World):(part t X off).run P w=.ok (valT P t xs) w:=by
 obtain ⟨i,hi,hsz⟩:=sizeB_of hs
 cases ha:aggB (P.underlying t) with
 | false =>
  obtain ⟨k,hk,rfl⟩:=flatT_one h ha
  match xs,hl with
  | [v],_ =>
   have:=part_one hk (cs:=X) (off:=off) (v:=v) (by simpa using hX 0 v rfl) w
   simpa [valT,ha] using this
 | true =>
  cases hu:P.underlying t with
  | none=>rw [hu] at ha; cases ha
  | some u =>
   have hA:=isAgg_b (P:=P) t w u hu
   rw [hu] at ha
   rw [ha] at hA
   have hval:valT P t xs=.agg xs.toArray:=by unfold valT; rw [hu,ha]
   have hx:X.extract off (off+ks.length)=xs.toArray:=by
    apply Array.ext'
    apply List.ext_getElem?
    intro j
    by_cases hj:j < xs.length
    ·have h1:=hX j _ (List.getElem?_eq_getElem hj)
     have h2:=(Array.getElem?_eq_some_iff.1 h1).1
     rw [Array.getElem?_toList,Array.getElem?_extract]
     show _=xs[j]?
     rw [List.getElem?_eq_getElem hj,if_pos (by omega)]
     exact h1
    ·rw [Array.getElem?_toList,Array.getElem?_eq_none (by simp; omega),List.getElem?_eq_none (by simp; omega)]
   simp only [part,Sem.run_bind,hA,Result.andThen_ok,if_true,size_of hi,hsz,hx,hval,Sem.run_pure]
theorem eqFs_flat {d:Nat} (n:Nat) (w:World) (ih:∀ (t:TypeId) (ks:List FK) (xs ys:List Value),flatT P d t=some ks→fitAll ks xs=true→fitAll ks ys=true→(Op.equalIn (n+d) t (valT P t xs) (valT P t ys)).run P w=.ok (eqVs xs ys) w) :
  ∀ (fs:List Field) (k:Nat) (ks:List FK) (xs ys:List Value) (X Y:Array Value),flatFs P (flatT P d) k fs=some ks→fitAll ks xs=true→fitAll ks ys=true →
  (∀ (j:Nat) v,xs[j]?=some v→X[k+j]?=some v)→(∀ (j:Nat) v,ys[j]?=some v→Y[k+j]?=some v)→(Op.eqFields (n+d) X Y fs).run P w=.ok (eqVs xs ys) w
 | [],k,ks,xs,ys,X,Y,h,hx,hy,_,_=>by
  simp only [flatFs,Option.some.injEq] at h
  subst h
  match xs,ys with
  | [],[]=>rfl
  | _ :: _,_=>cases hx
  | [],_ :: _=>cases hy
 | f :: fs,k,ks,xs,ys,X,Y,h,hx,hy,hX,hY=>by
  unfold flatFs at h
  split at h
  ·rename_i kk h1 h2 h3
   split at h
   ·rename_i ks' h4 h5
    simp only [Option.some.injEq] at h
    subst h
    have ho:=Nat.eq_of_beq_eq_true h1
    have hname:f.name ≠ "_" := of_decide_eq_true h2
    obtain ⟨a1,a2⟩:=fitAll_split _ _ _ hx
    obtain ⟨b1,b2⟩:=fitAll_split _ _ _ hy
    have hlx:=fitAll_len hx
    have hly:=fitAll_len hy
    have px:=part_flat h3 (X:=X) (off:=f.offset) (fitAll_len a1) h4 (fun j v hv=>by
     rw [List.getElem?_take] at hv
     split at hv
     ·rw [ho]; exact hX j v hv
     ·cases hv) w
    have py:=part_flat h3 (X:=Y) (off:=f.offset) (fitAll_len b1) h4 (fun j v hv=>by
     rw [List.getElem?_take] at hv
     split at hv
     ·rw [ho]; exact hY j v hv
     ·cases hv) w
    have pe:=ih _ _ _ _ h3 a1 b1
    have rest:=eqFs_flat n w ih fs (k+kk.length) ks' _ _ X Y h5 a2 b2 (fun j v hv=>by rw [List.getElem?_drop] at hv; have:=hX _ v hv; rwa [show k+kk.length+j=k+(kk.length+j) by omega])
     (fun j v hv=>by rw [List.getElem?_drop] at hv; have:=hY _ v hv; rwa [show k+kk.length+j=k+(kk.length+j) by omega])
    rw [eqVs_split kk.length xs ys (by omega)]
    simp only [Op.eqFields,if_pos hname,Sem.run_bind,px,py,pe,Result.andThen_ok,Sem.run_ite]
    cases eqVs (xs.take kk.length) (ys.take kk.length)
    ·rfl
    ·simpa using rest
   ·cases h
  ·cases h
theorem eqIs_flat {e:TypeId} {k:FK} (hk:fkOf (P.underlying e)=some k) (hs:P.cellsOf e=1) (n:Nat) (w:World) (X Y:Array Value) :
  ∀ (m i:Nat) (xs ys:List Value),fitAll (List.replicate m k) xs=true→fitAll (List.replicate m k) ys=true →
  (∀ (j:Nat) v,xs[j]?=some v→X[i+j]?=some v)→(∀ (j:Nat) v,ys[j]?=some v→Y[i+j]?=some v) →
  (Op.eqItems (n+1) e (P.cellsOf e) X Y (List.range' i m)).run P w=.ok (eqVs xs ys) w
 | 0,i,xs,ys,hx,hy,_,_=>by
  match xs,ys with
  | [],[]=>rfl
  | _ :: _,_=>cases hx
  | [],_ :: _=>cases hy
 | m+1,i,[],ys,hx,_,_,_=>by cases hx
 | m+1,i,x :: xs,[],_,hy,_,_=>by cases hy
 | m+1,i,x :: xs,y :: ys,hx,hy,hX,hY=>by
  simp only [List.replicate_succ,fitAll,Bool.and_eq_true] at hx hy
  have px:=part_one hk (cs:=X) (off:=i) (by simpa using hX 0 x rfl) w
  have py:=part_one hk (cs:=Y) (off:=i) (by simpa using hY 0 y rfl) w
  have pe:=equalIn_one hk hx.1 hy.1 n w
  have ih:=eqIs_flat hk hs n w X Y m (i+1) xs ys hx.2 hy.2 (fun j v hv=>by have:=hX (j+1) v (by simpa using hv); rwa [show i+1+j=i+(j+1) by omega]) (fun j v hv=>by have:=hY (j+1) v (by simpa using hv); rwa [show i+1+j=i+(j+1) by omega])
  rw [hs] at ih ⊢
  simp only [List.range'_succ,Op.eqItems,Sem.run_bind,Nat.mul_one,px,py,pe,Result.andThen_ok,Sem.run_ite,eqVs]
  cases eqV x y
  ·rfl
  ·simpa using ih
theorem eqT_flat (n:Nat) (w:World):∀ (d:Nat) (t:TypeId) (ks:List FK) (xs ys:List Value),flatT P d t=some ks→fitAll ks xs=true→fitAll ks ys=true→(Op.equalIn (n+d) t (valT P t xs) (valT P t ys)).run P w=.ok (eqVs xs ys) w
 | 0,t,ks,xs,ys,h,_,_=>by cases h
 | d+1,t,ks,xs,ys,h,hx,hy=>by
  cases ha:aggB (P.underlying t) with
  | false =>
   obtain ⟨k,hk,rfl⟩:=flatT_one h ha
   match xs,ys,hx,hy with
   | [x],[y],hx,hy =>
    simp only [fitAll,Bool.and_true] at hx hy
    have:=equalIn_one hk hx hy (n+d) w
    simp only [valT,ha,eqVs,List.headD_cons,Bool.and_true]
    exact this
   | [],_,hx,_=>cases hx
   | _ :: _ :: _,_,hx,_=>simp [fitAll] at hx
   | [x],[],_,hy=>cases hy
   | [x],_ :: _ :: _,_,hy=>simp [fitAll] at hy
  | true =>
   have hvx:∀ zs,valT P t zs=.agg zs.toArray:=fun zs=>by unfold valT; rw [ha]
   rw [hvx,hvx]
   unfold flatT at h
   cases hu:P.underlying t with
   | none=>rw [hu] at ha; cases ha
   | some u =>
    rw [hu] at h ha
    cases u with
    | struct fs =>
     simp only at h
     split at h
     ·cases h
     ·rename_i hno
      have hfs:P.fieldsOf t=fs:=by simp [Program.fieldsOf,hu]
      rw [show n+(d+1)=(n+d)+1 by omega,run_equalIn_struct w (n+d) t _ _ (by rw [hfs]; exact hu) hno,hfs]
      exact eqFs_flat n w (eqT_flat n w d) fs.toList 0 ks xs ys _ _ h hx hy (fun j v hv=>by simpa using hv) (fun j v hv=>by simpa using hv)
    | array m e =>
     simp only at h
     split at h
     ·rename_i d' k hk hs
      cases h
      obtain ⟨i,hi,hsz⟩:=sizeB_of hs
      have hc:P.cellsOf e=1:=by simp [Program.cellsOf,hi,hsz]
      rw [show n+(d'+1+1)=(n+d'+1)+1 by omega,run_equalIn_array w (n+d'+1) _ _ hu hi,List.range_eq_range']
      exact eqIs_flat hk hc (n+d') w _ _ m 0 xs ys hx hy (fun j v hv=>by simpa using hv) (fun j v hv=>by simpa using hv)
     ·cases h
    | _=>cases ha
end eq
def flatG (P:Program) (t:TypeId):Option (List FK):=match P.eqGuardType P.depth t,aggB (P.underlying t) with
 | false,true=>flatT P 4 t
 | _,_=>none
section rules
variable {P:Program} {base:Nat} {env:Env} {st:St} {d:Option Tmp} {ty:TypeId} {pos:String} {after:Array Edge} {gd:Option (Nat×Bool)} {t t2:TypeId} {x y:Operand}
variable {ks:List FK} {cs ds:List D} {xs ys:List Value}
theorem eqG_flat (h:flatG P t=some ks) (hx:fitAll ks xs=true) (hy:fitAll ks ys=true) (w:World) (op:BinOp) (x y:Operand) :
  (eqGuard op t x y (.agg xs.toArray) (.agg ys.toArray)).run P w=.ok () w∧(Op.equalIn 10000 t (.agg xs.toArray) (.agg ys.toArray)).run P w=.ok (eqVs xs ys) w:=by
 unfold flatG at h
 split at h
 ·rename_i hg ha
  refine ⟨run_eqGuard_agg w op t x y _ _ hg,?_⟩
  have:=eqT_flat (P:=P) 9996 w 4 t ks xs ys h hx hy
  have hvx:∀ zs,valT P t zs=.agg zs.toArray:=fun zs=>by unfold valT; rw [ha]
  rw [hvx,hvx] at this
  exact this
 ·cases h
section steq
variable (hk:flatG P t=some ks) (hx:evo env x=some (.d (.agg cs))) (hy:evo env y=some (.d (.agg ds))) (h1:exs cs=some xs) (h2:exs ds=some ys) (h3:fitAll ks xs=true) (h4:fitAll ks ys=true)
include hk hx hy h1 h2 h3 h4
theorem q_gteql:OpQ P env st ⟨d,.binOp .eql t x y t2,ty,pos,after,gd⟩ (.d (.ex (.bool (eqVs xs ys)))):=q_ex fun g w tmps w' he=>by
 obtain ⟨k1,k2⟩:=eqG_flat hk h3 h4 w' .eql x y
 have e1:Act.eval ⟨tmps,[]⟩ x=.agg xs.toArray:=by cases evo_rep he hx with | d _ _ h=>exact agg_exact h1 h
 have e2:Act.eval ⟨tmps,[]⟩ y=.agg ys.toArray:=by cases evo_rep he hy with | d _ _ h=>exact agg_exact h2 h
 simp only [execOp,e1,e2,Sem.run_bind,k1,Result.andThen_ok,run_eql_struct,k2,Sem.run_pure]
theorem q_gtneq:OpQ P env st ⟨d,.binOp .neq t x y t2,ty,pos,after,gd⟩ (.d (.ex (.bool (!eqVs xs ys)))):=q_ex fun g w tmps w' he=>by
 obtain ⟨k1,k2⟩:=eqG_flat hk h3 h4 w' .neq x y
 have e1:Act.eval ⟨tmps,[]⟩ x=.agg xs.toArray:=by cases evo_rep he hx with | d _ _ h=>exact agg_exact h1 h
 have e2:Act.eval ⟨tmps,[]⟩ y=.agg ys.toArray:=by cases evo_rep he hy with | d _ _ h=>exact agg_exact h2 h
 simp only [execOp,e1,e2,Sem.run_bind,k1,Result.andThen_ok,run_neq_struct,k2,Sem.run_pure]
end steq
end rules
section rules
variable {P:Program} {base:Nat} {env:Env} {st:St} {d:Option Tmp} {ty:TypeId} {pos:String} {after:Array Edge} {gd:Option (Nat×Bool)} {t t2 e:TypeId} {x y z:Operand}
variable {α:Type} {c1:α→D} {l:List α} {o:Nat} {T:TypeId} {cs:List EV}
variable {l':List α}
end rules
section freezeCell
variable {P:Program} {f:Ctx} {N:Nat} {S:Start} {Q:EV→St→Prop} {todo:List Item} {env:Env} {st:St}
variable {ops rest:List Oper} {k:List Item}
theorem AOps.cellLe (o ci:Nat) {T:TypeId} {cs:List EV} {x y:EV} (ho:st.objs[o]?=some (.row T cs)) (hc:cs[ci]?=some x) (hle:EVle x y)
  (h:AOps P f N S Q ops rest k env (st.set o (.row T (cs.set ci y)))):AOps P f N S Q ops rest k env st :=
 fun j hj=>.cellLe o ci ho hc hle (h j hj)
end freezeCell
def memB (t:Nat):List Nat→Bool
 | []=>false
 | a :: l=>match Nat.beq t a with
  | true=>true
  | false=>memB t l
def lkp {β:Type} (t:Nat):List (Nat×β)→Option β
 | []=>none
 | (a,y) :: l=>match Nat.beq t a with
  | true=>some y
  | false=>lkp t l
def AllP:List Prop→Prop
 | []=>True
 | [p]=>p
 | p :: q :: l=>p∧AllP (q :: l)
theorem AllP.c {p:Prop} {l:List Prop} (h:AllP (p :: l)):p∧AllP l:=by
 cases l with
 | nil=>exact ⟨h,trivial⟩
 | cons q l=>exact h
def Al {α:Type} (p:α→Prop):List α→Prop
 | []=>True
 | a :: l=>p a∧Al p l
theorem memB_al {p:Nat→Prop} {t:Nat}:∀ {l:List Nat},Al p l→memB t l=true→p t
 | [],_,h=>by cases h
 | a :: l,⟨h1,h2⟩,h=>by
  unfold memB at h
  split at h
  ·rename_i hb; have:=Nat.eq_of_beq_eq_true hb; subst this; exact h1
  ·exact memB_al h2 h
theorem lkp_al {β:Type} {p:Nat×β→Prop} {t:Nat} {y:β}:∀ {l:List (Nat×β)},Al p l→lkp t l=some y→p (t,y)
 | [],_,h=>by cases h
 | (a,z) :: l,⟨h1,h2⟩,h=>by
  unfold lkp at h
  split at h
  ·rename_i hb; have:=Nat.eq_of_beq_eq_true hb; subst this; cases h; exact h1
  ·exact lkp_al h2 h
def forceL {α β:Type _}:List α→(List α→β)→β
 | [],k=>k []
 | a :: l,k=>forceL l fun l'=>k (a :: l')
theorem forceL_eq {α β:Type _}:∀ (l:List α) (k:List α→β),forceL l k=k l
 | [],_=>rfl
 | a :: l,k=>forceL_eq l fun l'=>k (a :: l')
def putK {β:Type _} (env:Env) (d:Option Tmp) (x:EV) (k:Env→β):β:=match d with
 | some d=>k ((d,x) :: env)
 | none=>k env
theorem putK_eq {β:Type _} (env:Env) (d:Option Tmp) (x:EV) (k:Env→β):putK env d x k=k (env.put d x):=by cases d <;> rfl
structure FT where
 one:List Nat
 agg:List (Nat×Nat)
 sz:List (Nat×Nat)
 fo:List (Nat×List (Nat×Nat))
 zr:List (Nat×List D)
def FT.Ok (P:Program) (T:FT):Prop :=
 Al (fun t=>(P.underlying t).map oneB=some true) T.one∧Al (fun x=>(P.underlying x.1).map oneB=some false∧(P.info? x.1).map (·.size)=some x.2) T.agg∧Al (fun x=>(P.info? x.1).map (·.size)=some x.2) T.sz ∧
 Al (fun x=>Al (fun y=>fieldOff P x.1 y.1=some y.2) x.2) T.fo∧Al (fun x=>∃ z,(P.info? x.1).bind (·.zero)=some z∧cellsE (.d (cv z))=some (x.2.map EV.d)) T.zr
def dOf:Option D→Option EV
 | some x=>some (.d x)
 | none=>none
def isU8:IntKind→Bool
 | .u8=>true
 | _=>false
def intB (op:BinOp) (a b:Int):Option Bool:=match op with
 | .lss=>some (decide (a < b))
 | .leq=>some (decide (a≤b))
 | .gtr=>some (decide (a > b))
 | .geq=>some (decide (a≥b))
 | .eql=>some (a==b)
 | .neq=>some (a != b)
 | _=>none
def strB (op:BinOp) (a b:List UInt8):Option Bool:=match op with
 | .eql=>some (a==b)
 | .neq=>some (a != b)
 | _=>none
def exB:Option Bool→Option D
 | some b=>some (.ex (.bool b))
 | none=>none
def binE (op:BinOp) (x y:D):Option D:=match x with
 | .ex (.int k a)=>match isU8 k with
  | true=>none
  | false=>match y with
   | .ex (.int k' b)=>match decide (k=k') with
    | true=>exB (intB op a b)
    | false=>none
   | _=>none
 | .ex (.string ⟨⟨a⟩⟩)=>match y with
  | .ex (.string ⟨⟨b⟩⟩)=>exB (strB op a b)
  | _=>none
 | _=>none
def loadE (n:Nat) (cs:List EV) (off:Nat):Option EV:=match Nat.ble (off+n) cs.length with
 | true=>match allD ((cs.drop off).take n) with
  | some ds=>some (.d (.agg ds))
  | none=>none
 | false=>none
def loadR (n:Nat) (cs:List D):Option EV:=match Nat.beq cs.length n with
 | true=>some (.d (.agg cs))
 | false=>match Nat.ble n cs.length with
  | true=>some (.d (.agg (cs.take n)))
  | false=>none
def rowOf (st:St) (o:Nat):Option (TypeId×List EV):=match st.objs[o]? with
 | some (.row ty cs)=>some (ty,cs)
 | _=>none
def qv (T:FT) (env:Env) (st:St):Op→Option EV
 | .move x=>evo env x
 | .assign x=>evo env x
 | .nilCheck x=>match evo env x with
  | some (.ref o f)=>some (.ref o f)
  | _=>none
 | .extract x i=>match evo env x with
  | some (.d (.tup cs))=>dOf cs[i]?
  | some (.tup cs)=>cs[i]?
  | _=>none
 | .binOp op t x y t2=>match evo env x with
  | some (.d a)=>match evo env y with
   | some (.d b)=>dOf (binE op a b)
   | _=>none
  | _=>none
 | .unOp .not t x=>match evo env x with
  | some (.d (.ex (.bool a)))=>some (.d (.ex (.bool (!a))))
  | _=>none
 | .fieldAddr s x f=>match lkp s T.fo with
  | some fs=>match lkp f fs with
   | some off=>match evo env x with
    | some (.ref o o0)=>some (.ref o (o0+off))
    | some (.d (.ro cs))=>some (.d (.ro (cs.drop off)))
    | some (.vp t k i o)=>some (.vp t k i (o+off))
    | _=>none
   | none=>none
  | none=>none
 | .load t x=>match evo env x with
  | some (.ref o off)=>match rowOf st o with
   | some (_,cs)=>match memB t T.one with
    | true=>cs[off]?
    | false=>match lkp t T.agg with
     | some n=>loadE n cs off
     | none=>none
   | none=>none
  | some (.d (.ro cs))=>match memB t T.one with
   | true=>match cs with
    | c :: _=>some (.d c)
    | []=>none
   | false=>match lkp t T.agg with
    | some n=>loadR n cs
    | none=>none
  | _=>none
 | _=>none
def pk (env:Env):Op→Option (EV×Prop)
 | .pick x y z=>match evo env x with
  | some (.d (.ex (.bool a)))=>match evo env y with
   | some (.gd c (.d (.ex (.bool v))))=>match evo env z with
    | some (.d (.ex (.bool false)))=>some (.d (.ex (.bool (a && v))),c=a)
    | _=>none
   | some (.d (.ex (.bool true)))=>match evo env z with
    | some (.gd c (.d (.ex (.bool v))))=>some (.d (.ex (.bool (a || v))),c=(!a))
    | _=>none
   | _=>none
  | _=>none
 | _=>none
section q
variable {P:Program} {T:FT} {env:Env} {st:St} {d:Option Tmp} {ty:TypeId} {pos:String} {after:Array Edge} {gd:Option (Nat×Bool)}
theorem binE_q {op:BinOp} {a b r:D} {x y:Operand} {t t2:TypeId} (hx:evo env x=some (.d a)) (hy:evo env y=some (.d b)) (h:binE op a b=some r):OpQ P env st ⟨d,.binOp op t x y t2,ty,pos,after,gd⟩ (.d r):=by
 unfold binE at h
 split at h
 ·split at h
  ·cases h
  ·split at h
   ·split at h
    ·rename_i hk
     have hk:=of_decide_eq_true hk
     subst hk
     unfold intB exB at h
     cases op <;> simp at h <;> subst h
     ·exact q_eql hx hy
     ·exact q_neq hx hy
     ·exact q_lss hx hy
     ·exact q_leq hx hy
     ·exact q_gtr hx hy
     ·exact q_geq hx hy
    ·cases h
   ·cases h
 ·split at h
  ·unfold strB exB at h
   cases op <;> simp at h <;> subst h
   ·exact q_seql hx hy
   ·exact q_sneq hx hy
  ·cases h
 ·cases h
theorem qv_sound (hT:T.Ok P) {op:Op} {x:EV} (h:qv T env st op=some x):OpQ P env st ⟨d,op,ty,pos,after,gd⟩ x:=by
 obtain ⟨h1,h2,h3,h4,h5⟩:=hT
 unfold qv at h
 split at h
 ·exact q_move h
 ·exact q_assign h
 ·split at h
  ·rename_i hx; cases h; exact q_nilRef hx
  ·cases h
 ·split at h
  ·rename_i hx
   unfold dOf at h
   split at h
   ·rename_i hc; cases h; exact q_extract hx hc
   ·cases h
  ·rename_i hx; exact q_extractE hx h
  ·cases h
 ·split at h
  ·rename_i a hx
   split at h
   ·rename_i b hy
    unfold dOf at h
    split at h
    ·rename_i r hr; cases h; exact binE_q hx hy hr
    ·cases h
   ·cases h
  ·cases h
 ·split at h
  ·rename_i hx; cases h; exact q_not hx
  ·cases h
 ·split at h
  ·rename_i fs hl
   split at h
   ·rename_i off hf
    have:=lkp_al (lkp_al h4 hl) hf
    split at h
    ·rename_i hx; cases h; exact q_fieldRef this hx
    ·rename_i hx; cases h; exact q_fieldRo this hx
    ·rename_i hx; cases h; exact q_fieldVp this hx
    ·cases h
   ·cases h
  ·cases h
 ·split at h
  ·rename_i o off hx
   split at h
   ·rename_i ty' cs hr
    unfold rowOf at hr
    split at hr
    ·rename_i ty2 cs2 ho
     cases hr
     split at h
     ·rename_i hm
      exact q_loadO (memB_al h1 hm) hx ho h
     ·split at h
      ·rename_i n hl
       unfold loadE at h
       split at h
       ·rename_i hn
        split at h
        ·rename_i ds hd
         cases h
         have:=lkp_al h2 hl
         exact q_loadOA this.1 this.2 hx ho (Nat.le_of_ble_eq_true hn) hd
        ·cases h
       ·cases h
      ·cases h
    ·cases hr
   ·cases h
  ·rename_i cs hx
   split at h
   ·rename_i hm
    split at h
    ·cases h; exact q_load (memB_al h1 hm) hx
    ·cases h
   ·split at h
    ·rename_i n hl
     have:=lkp_al h2 hl
     unfold loadR at h
     split at h
     ·rename_i hn; cases h; exact q_loadAll this.1 this.2 hx hn
     ·split at h
      ·rename_i hn; cases h; exact q_loadA this.1 this.2 (Nat.le_of_ble_eq_true hn) hx
      ·cases h
    ·cases h
  ·cases h
 ·cases h
theorem pk_sound {op:Op} {x:EV} {p:Prop} (h:pk env op=some (x,p)) (hp:p):OpQ P env st ⟨d,op,ty,pos,after,gd⟩ x:=by
 unfold pk at h
 split at h
 ·split at h
  ·rename_i a hx
   split at h
   ·rename_i c v hy
    split at h
    ·rename_i hz
     simp only [Option.some.injEq,Prod.mk.injEq] at h
     obtain ⟨rfl,rfl⟩:=h
     subst hp
     exact q_pickAndB hx hy hz
    ·cases h
   ·rename_i hy
    split at h
    ·rename_i c v hz
     simp only [Option.some.injEq,Prod.mk.injEq] at h
     obtain ⟨rfl,rfl⟩:=h
     subst hp
     exact q_pickOrB hx hy hz
    ·cases h
   ·cases h
  ·cases h
 ·cases h
end q
inductive Hint where
 | g (x:EV)
 | v (x:EV) (st:St)
 | u (st:St)
 | t (x:EV) (tk:Nat) (tl:Tail)
 | n (x:EV) (tl:Tail)
 | r (o:Nat)
 | p (n:Nat)
  | f (k:Nat) (x:EV)
 | w (k:Nat) (st:St)
def forced (n:Nat):List Hint→Option (EV×List Hint)
 | .f k x :: hs=>match Nat.beq k n with
  | true=>some (x,hs)
  | false=>none
 | _=>none
def forcedU (n:Nat):List Hint→Option (St×List Hint)
 | .w k s :: hs=>match Nat.beq k n with
  | true=>some (s,hs)
  | false=>none
 | _=>none
inductive Cf where
 | run (k:List Item)
 | ops (l rest:List Oper) (k:List Item)
 | draw (l:List Oper) (p:Nat) (os:List Oper) (k:List Item)
@[reducible] def CRun (P:Program) (f:Ctx) (N:Nat) (S:Start) (Q:EV→St→Prop):Cf→Env→St→Prop
 | .run k=>ARun P f N S Q k
 | .ops l r k=>AOps P f N S Q l r k
 | .draw l p os k=>DOps P f N S Q l p os k
structure Out where
 cf:Cf
 env:Env
 st:St
 ps:List Prop
def gdE {β:Type _} (b:Bool) (env:Env):List Tmp→List Prop→(Env→List Prop→β)→β
 | [],ps,k=>k [] ps
 | t :: ts,ps,k=>match lookup t env with
  | some (.gd c y)=>gdE b env ts ((c=b) :: ps) fun e ps=>k ((t,y) :: e) ps
  | some x=>gdE b env ts ps fun e ps=>k ((t,x) :: e) ps
  | none=>gdE b env ts ps k
theorem gdE_spec {β:Type _} {b:Bool} {env:Env}:∀ (ts:List Tmp) (ps:List Prop) (k:Env→List Prop→β),∃ e ps',gdE b env ts ps k=k e ps'∧(AllP ps'→AllP ps∧GdEnv b env e)
 | [],ps,k=>⟨[],ps,rfl,fun h=>⟨h,trivial⟩⟩
 | t :: ts,ps,k=>by
  unfold gdE
  split
  ·rename_i c y hl
   obtain ⟨e,ps',h1,h2⟩:=gdE_spec (b:=b) (env:=env) ts ((c=b) :: ps) fun e ps=>k ((t,y) :: e) ps
   refine ⟨_,_,h1,fun h=>?_⟩
   obtain ⟨h34,h5⟩:=h2 h
   obtain ⟨h3,h4⟩:=h34.c
   exact ⟨h4,.inr (.inl (by rw [hl,h3])),h5⟩
  ·rename_i x hne hl
   obtain ⟨e,ps',h1,h2⟩:=gdE_spec (b:=b) (env:=env) ts ps fun e ps=>k ((t,x) :: e) ps
   exact ⟨_,_,h1,fun h=>⟨(h2 h).1,.inl hl,(h2 h).2⟩⟩
  ·obtain ⟨e,ps',h1,h2⟩:=gdE_spec (b:=b) (env:=env) ts ps k
   exact ⟨e,ps',h1,h2⟩
def stepG (P:Program) (T:FT) (n:Nat) (st:St) (o:Oper) (b:Bool) (hs:List Hint) (F:Option Out) (K:EV→List Hint→List Prop→Option Out) (e:Env) (ps:List Prop):Option Out :=
 match forced n hs with
 | some (x,hs)=>K (.gd b x) hs ((b=true→OpG P e st o x) :: ps)
 | none=>match qv T e st o.op with
  | some x=>K (.gd b x) hs ps
  | none=>match pk e o.op with
   | some (x,p)=>K (.gd b x) hs (p :: ps)
   | none=>match hs with
    | .g x :: hs=>K (.gd b x) hs ((b=true→OpG P e st o x) :: ps)
    | _=>F
def stepQ (P:Program) (T:FT) (n:Nat) (l:List Oper) (e:Env) (st:St) (o:Oper) (hs:List Hint) (ps:List Prop) (F:Option Out) (K:EV→List Hint→List Prop→Option Out):Option Out :=
 match o.guard with
 | none=>match forced n hs with
  | some (x,hs)=>K x hs (OpG P e st o x :: ps)
  | none=>match qv T e st o.op with
   | some x=>K x hs ps
   | none=>match pk e o.op with
    | some (x,p)=>K x hs (p :: ps)
    | none=>match hs with
     | .g x :: hs=>K x hs (OpG P e st o x :: ps)
     | _=>F
 | some (j,want)=>match (l[j]?).bind (·.dst) with
  | some t=>match lookup t e with
   | some c=>match gcond c want with
    | some b=>gdE b e (opTmps o.op) ps (stepG P T n st o b hs F K)
    | none=>F
   | none=>F
  | none=>F
theorem stepQ_spec {P:Program} {T:FT} (hT:T.Ok P) {n:Nat} {l:List Oper} {e:Env} {st:St} {o:Oper} {hs:List Hint} {ps:List Prop} {F:Option Out} {K:EV→List Hint→List Prop→Option Out} {out:Option Out} (h:stepQ P T n l e st o hs ps F K=out) :
  out=F∨∃ x hs' ps',out=K x hs' ps'∧(AllP ps'→AllP ps∧OpAny P l e st o x):=by
 obtain ⟨dst,op,ty,pos,after,guard⟩:=o
 unfold stepQ at h
 dsimp only at h
 split at h
 ·split at h
  ·exact .inr ⟨_,_,_,h.symm,fun hp=>⟨hp.c.2,.inl ⟨rfl,hp.c.1⟩⟩⟩
  ·split at h
   ·rename_i x hq
    exact .inr ⟨_,_,_,h.symm,fun hp=>⟨hp,.inl ⟨rfl,(qv_sound hT hq).g⟩⟩⟩
   ·split at h
    ·rename_i x p hq
     exact .inr ⟨_,_,_,h.symm,fun hp=>⟨hp.c.2,.inl ⟨rfl,(pk_sound hq hp.c.1).g⟩⟩⟩
    ·split at h
     ·exact .inr ⟨_,_,_,h.symm,fun hp=>⟨hp.c.2,.inl ⟨rfl,hp.c.1⟩⟩⟩
     ·exact .inl h.symm
 ·rename_i j want
  split at h
  ·rename_i t ht
   split at h
   ·rename_i c hc
    split at h
    ·rename_i b hb
     obtain ⟨e',ps1,h1,h2⟩:=gdE_spec (b:=b) (env:=e) (opTmps op) ps (stepG P T n st ⟨dst,op,ty,pos,after,some (j,want)⟩ b hs F K)
     rw [h1] at h
     have mk:∀ x,(b=true→OpG P e' st ⟨dst,op,ty,pos,after,some (j,want)⟩ x)→GdEnv b e e'→OpAny P l e st ⟨dst,op,ty,pos,after,some (j,want)⟩ (.gd b x):=fun x hx hE=>.inr ⟨j,want,t,c,b,x,e',rfl,ht,hc,hb,rfl,hE,hx⟩
     unfold stepG at h
     dsimp only at h
     split at h
     ·exact .inr ⟨_,_,_,h.symm,fun hp=>⟨(h2 hp.c.2).1,mk _ hp.c.1 (h2 hp.c.2).2⟩⟩
     ·split at h
      ·rename_i x hq
       exact .inr ⟨_,_,_,h.symm,fun hp=>⟨(h2 hp).1,mk _ (fun _=>(qv_sound hT hq).g) (h2 hp).2⟩⟩
      ·split at h
       ·rename_i x p hq
        exact .inr ⟨_,_,_,h.symm,fun hp=>⟨(h2 hp.c.2).1,mk _ (fun _=>(pk_sound hq hp.c.1).g) (h2 hp.c.2).2⟩⟩
       ·split at h
        ·exact .inr ⟨_,_,_,h.symm,fun hp=>⟨(h2 hp.c.2).1,mk _ hp.c.1 (h2 hp.c.2).2⟩⟩
        ·exact .inl h.symm
    ·exact .inl h.symm
   ·exact .inl h.symm
  ·exact .inl h.symm
def stepE (P:Program) (base:Nat) (T:FT) (e:Env) (st:St) (o:Oper) (hs:List Hint) (ps:List Prop) (K:EV→St→List Hint→List Prop→Option Out):Option Out :=
  match o.guard with
  | some _=>none
  | none=>match st with
   | ⟨ob,tl⟩=>match hs with
    | .r n :: hs=>match Nat.beq n ob.length with
      | false=>none
      | true=>match o.op with
        | .box t x=>match evo e x with
          | some y=>match cellsE y with
            | some cs=>forceL cs fun cs=>forceL (ob++[.row t cs]) fun os=>K (.ref n 0) ⟨os,tl⟩ hs ps
            | none=>none
          | none=>none
        | .alloc t=>match lkp t T.zr with
          | some zs=>forceL (zs.map EV.d) fun cs=>forceL (ob++[.row t cs]) fun os=>K (.ref n 0) ⟨os,tl⟩ hs ps
          | none=>none
        | _=>none
    | .v x st' :: hs=>K x st' hs (OpV P base e st o x st' :: ps)
    | .u st' :: hs=>K (.d .any) st' hs (OpU P base e st o st' :: ps)
    | .t x tk y :: hs=>forceL (tl.set tk y) fun ts=>K x ⟨ob,ts⟩ hs (OpV P base e st o x (st.setTail tk y) :: ps)
    | .n x y :: hs=>forceL (tl++[y]) fun ts=>K x ⟨ob,ts⟩ hs (OpV P base e st o x (st.tok y) :: ps)
    | _=>none
def stepS (P:Program) (base:Nat) (T:FT) (n:Nat) (e:Env) (st:St) (o:Oper) (hs:List Hint) (ps:List Prop) (F:Option Out) (K:St→List Hint→List Prop→Option Out):Option Out :=
  match o.guard with
  | some _=>F
  | none=>match forcedU n hs with
   | some (st',hs)=>K st' hs (OpU P base e st o st' :: ps)
   | none=>match o.op with
    | .store t x y=>match evo e x with
      | some (.ref ob off)=>match rowOf st ob with
        | some (ty,cs)=>match evo e y with
          | some y=>match cellsE y with
            | some new=>match lkp t T.sz with
              | some n=>match Nat.beq n new.length with
                | true=>match Nat.ble (off+new.length) cs.length with
                  | true=>match st with
                    | ⟨os,tl⟩=>forceL (putCells cs off new) fun cs=>forceL (os.set ob (.row ty cs)) fun os=>K ⟨os,tl⟩ hs ps
                  | false=>F
                | false=>F
              | none=>F
            | none=>F
          | none=>F
        | none=>F
      | _=>F
    | _=>F
section e
variable {P:Program} {base:Nat} {T:FT} (hT:T.Ok P) {e:Env} {st:St} {o:Oper} {hs:List Hint} {ps:List Prop} {out:Out}
include hT
theorem stepE_spec {K:EV→St→List Hint→List Prop→Option Out} (h:stepE P base T e st o hs ps K=some out) :
  o.guard=none∧∃ x st' hs' ps',K x st' hs' ps'=some out∧(AllP ps'→AllP ps∧(OpV P base e st o x st'∨(x=.d .any∧OpU P base e st o st'))):=by
 obtain ⟨dst,op,ty,pos,after,guard⟩:=o
 unfold stepE at h
 dsimp only at h
 split at h
 ·cases h
 ·refine ⟨rfl,?_⟩
  simp only [forceL_eq] at h
  split at h
  ·split at h
   ·cases h
   ·rename_i hn
    have hn:=Nat.eq_of_beq_eq_true hn
    split at h
    ·rename_i t x
     split at h
     ·rename_i y hy
      split at h
      ·rename_i cs hc
       refine ⟨_,_,_,_,h,fun hp=>⟨hp,.inl ?_⟩⟩
       rw [hn]
       exact v_box hy hc
      ·cases h
     ·cases h
    ·rename_i t
     split at h
     ·rename_i zs hz
      obtain ⟨z,hz1,hz2⟩:=lkp_al hT.2.2.2.2 hz
      refine ⟨_,_,_,_,h,fun hp=>⟨hp,.inl ?_⟩⟩
      rw [hn]
      exact v_alloc hz1 hz2
     ·cases h
    ·cases h
  ·exact ⟨_,_,_,_,h,fun hp=>⟨hp.c.2,.inl hp.c.1⟩⟩
  ·exact ⟨_,_,_,_,h,fun hp=>⟨hp.c.2,.inr ⟨rfl,hp.c.1⟩⟩⟩
  ·exact ⟨_,_,_,_,h,fun hp=>⟨hp.c.2,.inl hp.c.1⟩⟩
  ·exact ⟨_,_,_,_,h,fun hp=>⟨hp.c.2,.inl hp.c.1⟩⟩
  ·cases h
theorem stepS_spec {n:Nat} {F r:Option Out} {K:St→List Hint→List Prop→Option Out} (h:stepS P base T n e st o hs ps F K=r):r=F∨(o.guard=none∧∃ st' hs' ps',r=K st' hs' ps'∧(AllP ps'→AllP ps∧OpU P base e st o st')):=by
 obtain ⟨dst,op,ty,pos,after,guard⟩:=o
 unfold stepS at h
 dsimp only at h
 split at h
 ·exact .inl h.symm
 ·split at h
  ·exact .inr ⟨rfl,_,_,_,h.symm,fun hp=>⟨hp.c.2,hp.c.1⟩⟩
  simp only [forceL_eq] at h
  split at h
  ·rename_i t x y
   split at h
   ·rename_i ob off hx
    split at h
    ·rename_i ty' cs hr
     have hr:st.objs[ob]?=some (.row ty' cs):=by
      unfold rowOf at hr
      split at hr
      ·rename_i h1; cases hr; exact h1
      ·cases hr
     split at h
     ·rename_i yv hy
      split at h
      ·rename_i new hc
       split at h
       ·rename_i n hl
        split at h
        ·rename_i hn
         have hn:=Nat.eq_of_beq_eq_true hn
         split at h
         ·rename_i hle
          have hsz:=lkp_al hT.2.2.1 hl
          refine .inr ⟨rfl,_,_,_,h.symm,fun hp=>⟨hp,u_store hx hy hr hc (Nat.le_of_ble_eq_true hle) ?_⟩⟩
          rw [←hn]; exact hsz
         ·exact .inl h.symm
        ·exact .inl h.symm
       ·exact .inl h.symm
      ·exact .inl h.symm
     ·exact .inl h.symm
    ·exact .inl h.symm
   ·exact .inl h.symm
  ·exact .inl h.symm
end e
def ctl (hs:List Hint) (ps:List Prop):List Item→(Cf→List Hint→List Prop→Option Out)→Option Out
 | .code (.seq x y) :: k,K=>K (.run (.code x :: .code y :: k)) hs ps
 | .code .skip :: k,K=>K (.run k) hs ps
 | .inBlock id :: k,K=>K (.run k) hs ps
 | .code (.block id c) :: k,K=>K (.run (.code c :: .inBlock id :: k)) hs ps
 | .code (.exit id) :: k,K=>match exitTo id k with
  | some k'=>K (.run k') hs ps
  | none=>none
 | .code (.region id ⟨l⟩ false) :: k,K=>K (.ops l l k) hs ps
 | .code (.region id ⟨l⟩ true) :: k,K=>match hs with
  | .p p :: hs=>forceL (l.take p) fun os=>K (.draw l p os k) hs ((drawB l p=true) :: ps)
  | _=>none
 | _,_=>none
def okO (N:Nat) (o:Oper):Bool:=match o.dst with
 | some d=>Nat.ble (d+1) N
 | none=>match o.guard with
  | none=>true
  | some _=>false
theorem okO_dst {N:Nat} {o:Oper} (h:okO N o=true):dstOk N o.dst=true∧(o.guard≠none→o.dst≠none):=by
 unfold okO at h
 split at h
 ·rename_i d hd; rw [hd]; exact ⟨h,fun _=>by simp⟩
 ·rename_i hd; rw [hd]
  split at h
  ·rename_i hg; exact ⟨rfl,fun h=>absurd hg h⟩
  ·cases h
def go (P:Program) (base:Nat) (T:FT) (N:Nat):Nat→Cf→Env→St→List Hint→List Prop→Option Out
 | 0,cf,env,st,hs,ps=>match hs with
  | []=>some ⟨cf,env,st,ps⟩
  | _=>none
 | n+1,cf,env,st,hs,ps=>match cf with
  | .run k=>ctl hs ps k fun cf hs ps=>go P base T N n cf env st hs ps
  | .ops l rest k=>match rest with
   | []=>go P base T N n (.run k) env st hs ps
   | o :: rest=>match okO N o with
    | true=>stepS P base T (n+1) env st o hs ps
     (stepQ P T (n+1) l env st o hs ps
      (stepE P base T env st o hs ps fun x st hs ps=>putK env o.dst x fun env=>go P base T N n (.ops l rest k) env st hs ps)
      fun x hs ps=>putK env o.dst x fun env=>go P base T N n (.ops l rest k) env st hs ps)
     fun st hs ps=>putK env o.dst (.d .any) fun env=>go P base T N n (.ops l rest k) env st hs ps
    | false=>none
  | .draw l p os k=>match os with
   | []=>forceL (l.drop p) fun r=>go P base T N n (.ops l r k) env st hs ps
   | o :: os=>match okO N o with
    | true=>stepQ P T (n+1) l (renv l o env) st o hs ps none fun x hs ps=>putK env o.dst x fun env=>go P base T N n (.draw l p os k) env st hs ps
    | false=>none
section sound
variable {P:Program} {f:Ctx} {N:Nat} {S:Start} {Q:EV→St→Prop} {T:FT}
theorem AOps.any {ops rest:List Oper} {k:List Item} {env:Env} {st:St} {o:Oper} {x:EV} (h:OpAny P ops env st o x) (hd:dstOk N o.dst=true) (hs:o.guard≠none→o.dst≠none) (hk:AOps P f N S Q ops rest k (env.put o.dst x) st) :
  AOps P f N S Q ops (o :: rest) k env st:=by
 obtain ⟨dst,op,ty,pos,after,guard⟩:=o
 rcases h with ⟨hg,h⟩ | ⟨j,want,t,c,b,y,env',hg,hj,hl,hc,rfl,hE,h⟩
 ·have hg:guard=none:=hg
  subst hg
  exact .g h hd hk
 ·have hg:guard=_:=hg
  subst hg
  cases dst with
  | none=>exact absurd rfl (hs (by simp))
  | some d=>exact .guardG hj hl hc hE hd h hk
theorem DOps.any {l os:List Oper} {p:Nat} {k:List Item} {env:Env} {st:St} {o:Oper} {x:EV} (h:OpAny P l (renv l o env) st o x) (hd:dstOk N o.dst=true) (hk:DOps P f N S Q l p os k (env.put o.dst x) st) :
  DOps P f N S Q l p (o :: os) k env st:=by
 obtain ⟨xs,h1,h2⟩:=hk
 exact ⟨x :: xs,⟨hd,h,h1⟩,h2⟩
theorem go_sound (hT:T.Ok P) (hm:P.follows .mixedOrders=true):∀ (n:Nat) (cf:Cf) (env:Env) (st:St) (hs:List Hint) (ps:List Prop) (out:Out),go P S.base T N n cf env st hs ps=some out→AllP out.ps →
  AllP ps∧(CRun P f N S Q out.cf out.env out.st→CRun P f N S Q cf env st)
 | 0,cf,env,st,hs,ps,out,h,hp=>by
  unfold go at h
  split at h
  ·cases h; exact ⟨hp,fun h=>h⟩
  ·cases h
 | n+1,.run k,env,st,hs,ps,out,h,hp=>by
  unfold go at h
  dsimp only at h
  have ih:=fun cf hs ps=>go_sound hT hm n cf env st hs ps out
  unfold ctl at h
  split at h
  ·obtain ⟨h1,h2⟩:=ih _ _ _ h hp; exact ⟨h1,fun h=>.seq (h2 h)⟩
  ·obtain ⟨h1,h2⟩:=ih _ _ _ h hp; exact ⟨h1,fun h=>.skip (h2 h)⟩
  ·obtain ⟨h1,h2⟩:=ih _ _ _ h hp; exact ⟨h1,fun h=>.inBlock (h2 h)⟩
  ·obtain ⟨h1,h2⟩:=ih _ _ _ h hp; exact ⟨h1,fun h=>.block (h2 h)⟩
  ·split at h
   ·rename_i hk
    obtain ⟨h1,h2⟩:=ih _ _ _ h hp; exact ⟨h1,fun h=>.exit hk (h2 h)⟩
   ·cases h
  ·obtain ⟨h1,h2⟩:=ih _ _ _ h hp; exact ⟨h1,fun h=>.region (h2 h)⟩
  ·split at h
   ·rw [forceL_eq] at h
    obtain ⟨h1,h2⟩:=ih _ _ _ h hp; exact ⟨h1.c.2,fun h=>.drawn _ hm h1.c.1 (h2 h)⟩
   ·cases h
  ·cases h
 | n+1,.ops l [] k,env,st,hs,ps,out,h,hp=>by
  unfold go at h
  dsimp only at h
  obtain ⟨h1,h2⟩:=go_sound hT hm n _ _ _ _ _ out h hp
  exact ⟨h1,fun h=>.nil (h2 h)⟩
 | n+1,.ops l (o :: rest) k,env,st,hs,ps,out,h,hp=>by
  unfold go at h
  dsimp only at h
  split at h
  ·rename_i ho
   obtain ⟨ho1,ho2⟩:=okO_dst ho
   rcases stepS_spec (base:=S.base) hT h with h | ⟨hg,st',hs',ps',h,hu⟩
   ·rcases stepQ_spec hT h.symm with h | ⟨x,hs',ps',h,ha⟩
    ·obtain ⟨hg,x,st',hs',ps',h,ha⟩:=stepE_spec hT h.symm
     rw [putK_eq] at h
     obtain ⟨h1,h2⟩:=go_sound hT hm n _ _ _ _ _ out h hp
     obtain ⟨h3,h4⟩:=ha h1
     refine ⟨h3,fun hk=>?_⟩
     rcases h4 with h4 | ⟨rfl,h4⟩
     ·exact .op hg ho1 h4 (h2 hk)
     ·exact .opU hg ho1 h4 (h2 hk)
    ·rw [putK_eq] at h
     obtain ⟨h1,h2⟩:=go_sound hT hm n _ _ _ _ _ out h.symm hp
     obtain ⟨h3,h4⟩:=ha h1
     exact ⟨h3,fun h=>.any h4 ho1 ho2 (h2 h)⟩
   ·rw [putK_eq] at h
    obtain ⟨h1,h2⟩:=go_sound hT hm n _ _ _ _ _ out h.symm hp
    obtain ⟨h3,h4⟩:=hu h1
    exact ⟨h3,fun h=>.opU hg ho1 h4 (h2 h)⟩
  ·cases h
 | n+1,.draw l p [] k,env,st,hs,ps,out,h,hp=>by
  unfold go at h
  dsimp only at h
  rw [forceL_eq] at h
  obtain ⟨h1,h2⟩:=go_sound hT hm n _ _ _ _ _ out h hp
  exact ⟨h1,fun h=>.nil (h2 h)⟩
 | n+1,.draw l p (o :: os) k,env,st,hs,ps,out,h,hp=>by
  unfold go at h
  dsimp only at h
  split at h
  ·rename_i ho
   obtain ⟨ho1,ho2⟩:=okO_dst ho
   rcases stepQ_spec hT h with h | ⟨x,hs',ps',h,ha⟩
   ·cases h
   ·rw [putK_eq] at h
    obtain ⟨h1,h2⟩:=go_sound hT hm n _ _ _ _ _ out h.symm hp
    obtain ⟨h3,h4⟩:=ha h1
    exact ⟨h3,fun h=>.any h4 ho1 (h2 h)⟩
  ·cases h
def resV (T:FT) (env:Env) (st:St):List ResultVar→Option (List EV)
 | []=>some []
 | .tmp t :: l=>match lookup t env with
  | some x=>match resV T env st l with
   | some r=>some (x :: r)
   | none=>none
  | none=>none
 | .cell a ty :: l=>match lookup a env with
  | some (.ref o off)=>match qv T env st (.load ty (.tmp a)) with
   | some x=>match resV T env st l with
    | some r=>some (x :: r)
    | none=>none
   | none=>none
  | _=>none
theorem resV_sound (hT:T.Ok P) {env:Env} {st:St}:∀ {l:List ResultVar} {es:List EV},resV T env st l=some es→ResEVs P env st l es
 | [],es,h=>by cases h; trivial
 | .tmp t :: l,es,h=>by
  unfold resV at h
  split at h
  ·rename_i x hx
   split at h
   ·rename_i r hr; cases h; exact ⟨hx,resV_sound hT hr⟩
   ·cases h
  ·cases h
 | .cell a ty :: l,es,h=>by
  unfold resV at h
  split at h
  ·rename_i o off ha
   split at h
   ·rename_i x hq
    split at h
    ·rename_i r hr; cases h; exact ⟨⟨⟨o,off,ha⟩,qv_sound hT hq⟩,resV_sound hT hr⟩
    ·cases h
   ·cases h
  ·cases h
theorem ARun.rc {f:FuncId} (hT:T.Ok P) {fn:Func} {xs:List ResultVar} {es:List EV} {k:List Item} {env:Env} {st:St} (hf:P.funcs[f]?=some fn) (hr:fn.results=xs.toArray) (h:resV T env st xs=some es) (hQ:Q (retEV es) st) :
  ARun P (.of f) N S Q (.code .ret :: k) env st:=.retN xs es hf hr (resV_sound hT h) hQ
theorem ARun.ite {α:Type} {b:Bool} {d:Decidable (b=true)} {e1 e2:Option α} {r:α} {c:Operand} {x y:Code} {k:List Item} {env:Env} {st:St} (H:@ite _ (b=true) d e1 e2=some r) (hc:evo env c=some (.d (.ex (.bool b))))
  (ht:e1=some r→ARun P f N S Q (.code x :: k) env st) (hf:e2=some r→ARun P f N S Q (.code y :: k) env st):ARun P f N S Q (.code (.cond c x y) :: k) env st :=
 .cond hc (fun h=>ht (by rw [if_pos h] at H; exact H)) (fun h=>hf (by rw [if_neg (by simp [h])] at H; exact H))
def selE (env:Env):List (Nat×EV)→Option Env
 | []=>some []
 | (i,_) :: l=>match lookup i env with
  | some x=>match selE env l with
   | some r=>some ((i,x) :: r)
   | none=>none
  | none=>none
theorem selE_sub {env:Env}:∀ {l:List (Nat×EV)} {env':Env},selE env l=some env'→SubEnv env env'
 | [],env',h=>by cases h; trivial
 | (i,y) :: l,env',h=>by
  unfold selE at h
  split at h
  ·rename_i x hx
   split at h
   ·rename_i r hr; cases h; exact .cons hx (.rfl' _) (selE_sub hr)
   ·cases h
  ·cases h
section back
variable {todo:List Item} {env env':Env} {st st' s0:St}
theorem ARun.z (h:ARun P f N S Q todo env' st') (hs:st=st') (hE:selE env env'=some env'):ARun P f N S Q todo env st:=hs▸.sub (selE_sub hE) h
theorem ARun.y (h:ARun P f N S Q todo env' st') (hs:st=st') (hE:SubEnv env env'):ARun P f N S Q todo env st:=hs▸.sub hE h
theorem ARun.t (n m:Nat) (h:ARun P f N S Q todo env' st') (hE:selE env env'=some env') (ho:st.objs.take n=st'.objs) (ht:st.tails.take m=st'.tails) (hn:(Nat.ble n st.objs.length && Nat.ble m st.tails.length)=true)
  (hok:(okEnv n m env' && st'.objs.all (okObj n m))=true) (hS:S.st=s0) (hb:(Nat.ble s0.objs.length n && Nat.ble s0.tails.length m)=true):ARun P f N S Q todo env st:=by
 simp only [Bool.and_eq_true] at hn hb
 exact .to n m (selE_sub hE) ho ht hn.1 hn.2 hok (by rw [hS]; exact Nat.le_of_ble_eq_true hb.1) (by rw [hS]; exact Nat.le_of_ble_eq_true hb.2) h
end back
end sound
theorem OpU.e {P:Program} {base:Nat} {env:Env} {st st1 st2:St} {o:Oper} (h:OpU P base env st o st1) (he:st1=st2):OpU P base env st o st2:=he▸h
theorem OpV.e {P:Program} {base:Nat} {env:Env} {st st1 st2:St} {o:Oper} {x:EV} (h:OpV P base env st o x st1) (he:st1=st2):OpV P base env st o x st2:=he▸h
theorem QD.m {q:D→Prop} {r:EV} {st:St} {x:D} (hq:q x) (h:EVle r (.d x)):QD q r st:=⟨x,h,hq⟩
theorem EVle.tupD {ds:List D} {es:List EV} (h:es=ds.map EV.d):EVle (.tup es) (.d (.tup ds)):=by
 subst h
 refine .tupL ?_
 induction ds with
 | nil=>trivial
 | cons d ds ih=>exact ⟨.rfl' _,ih⟩
def ftB (P:Program) (T:FT):Bool :=
 T.one.all (fun t=>decide ((P.underlying t).map oneB=some true)) && T.agg.all (fun x=>decide ((P.underlying x.1).map oneB=some false) && decide ((P.info? x.1).map (·.size)=some x.2)) && T.sz.all (fun x=>decide ((P.info? x.1).map (·.size)=some x.2)) &&
 T.fo.all (fun x=>x.2.all fun y=>decide (fieldOff P x.1 y.1=some y.2))
theorem al_of {α:Type} {p:α→Prop}:∀ {l:List α},(∀ x,x∈l→p x)→Al p l
 | [],_=>trivial
 | a :: l,h=>⟨h a (by simp),al_of fun x hx=>h x (by simp [hx])⟩
theorem FT.ok_of {P:Program} {T:FT} (h:ftB P T=true) (hz:Al (fun x=>∃ z,(P.info? x.1).bind (·.zero)=some z∧cellsE (.d (cv z))=some (x.2.map EV.d)) T.zr):T.Ok P:=by
 simp only [ftB,Bool.and_eq_true,List.all_eq_true,decide_eq_true_eq] at h
 exact ⟨al_of h.1.1.1,al_of h.1.1.2,al_of h.1.2,al_of fun x hx=>al_of (h.2 x hx),hz⟩
def goF (P:Program) (base:Nat) (T:FT) (N n:Nat) (cf:Cf) (env:Env) (st:St) (hs:List Hint):Option Out:=forceL env fun env=>match st with
 | ⟨os,ts⟩=>forceL os fun os=>forceL ts fun ts=>go P base T N n cf env ⟨os,ts⟩ hs []
theorem goF_eq {P:Program} {base:Nat} {T:FT} {N n:Nat} {cf:Cf} {env:Env} {st:St} {hs:List Hint}:goF P base T N n cf env st hs=go P base T N n cf env st hs []:=by
 unfold goF; simp only [forceL_eq]
theorem goF_sound {P:Program} {f:Ctx} {N:Nat} {S:Start} {Q:EV→St→Prop} {T:FT} (hT:T.Ok P) (hm:P.follows .mixedOrders=true) {n:Nat} {cf:Cf} {env:Env} {st:St} {hs:List Hint} {out:Out} (h:goF P S.base T N n cf env st hs=some out) (hp:AllP out.ps) :
  CRun P f N S Q out.cf out.env out.st→CRun P f N S Q cf env st:=(go_sound hT hm n cf env st hs [] out (goF_eq▸h) hp).2
structure SlT (P:Program) (t e sz:Nat):Prop where
 ht:P.underlying t=some (.slice e)
 hi:∃ inf z,P.info? e=some inf∧inf.zero=some z∧inf.size=sz∧z.cells.size=sz∧inf.bytes≤100000
theorem SlT.of {P:Program} {t e sz b:Nat} {z:Value} (ht:P.underlying t=some (.slice e)) (h:∃ i,P.info? e=some i∧i.zero=some z∧i.size=sz∧i.bytes=b) (hz:z.cells.size=sz) (hb:Nat.ble b 100000=true):SlT P t e sz :=
 let ⟨i,h1,h2,h3,h4⟩:=h
 ⟨ht,i,z,h1,h2,h3,hz,by rw [h4]; exact Nat.le_of_ble_eq_true hb⟩
section slt
variable {P:Program} {t e sz:Nat} (s:SlT P t e sz) {base:Nat} {env:Env} {st:St} {d:Option Tmp} {ty:TypeId} {pos:String} {after:Array Edge} {gd:Option (Nat×Bool)} {x y:Operand} {α:Type} {row:α→List D} {l l':List α} {ev w:EV}
include s
theorem SlT.n (hx:evo env x=some ev) (hs:asSl ev=some (sz,l.map row)):OpG P env st ⟨d,.call ⟨.builtin .len,#[x],#[t]⟩,ty,pos,after,gd⟩ (.d (cI (l.length:Int))):=(q_lenL s.ht hx hs).g
theorem SlT.ix [Inhabited α] {k:IntKind} {i:Int} (hx:evo env x=some ev) (hs:asSl ev=some (sz,l.map row)) (hy:evo env y=some (.d (.ex (.int k i)))) (h:0≤i∧i < l.length) :
  OpG P env st ⟨d,.indexAddr t x y,ty,pos,after,gd⟩ (.d (.ro (row (nth l i.toNat)))):=by
 obtain ⟨inf,z,h1,_,h3,_⟩:=s.hi
 exact (q_idxL s.ht h1 h3 hx hs hy h).g
theorem SlT.a {tk:Nat} (hx:evo env x=some (.tsl sz (l.map row) tk)) (htl:st.tails[tk]?=some ⟨e,sz,l.length,none⟩) (hy:evo env y=some w) (hs:asSl w=some (sz,l'.map row)) (hn:l.length+l'.length≤1000000000) :
  OpV P base env st ⟨d,.call ⟨.builtin .append,#[x,y],#[t,t]⟩,ty,pos,after,gd⟩ (.tsl sz ((l++l').map row) tk) (st.setTail tk ⟨e,sz,(l++l').length,none⟩):=by
 obtain ⟨inf,z,h1,h2,h3,h4,h5⟩:=s.hi
 exact v_appendL s.ht h1 h2 h3 h4 h5 hx htl hy hs hn
end slt
section ari
variable {P:Program} {env:Env} {st:St} {d:Option Tmp} {ty:TypeId} {pos:String} {after:Array Edge} {gd:Option (Nat×Bool)} {x y:Operand} {t t2:TypeId} {a b:Int}
theorem g_addI (hx:evo env x=some (.d (cI a))) (hy:evo env y=some (.d (cI b))) (h:-9223372036854775808≤a+b∧a+b≤9223372036854775807):OpG P env st ⟨d,.binOp .add t x y t2,ty,pos,after,gd⟩ (.d (cI (a+b))):=(q_addI hx hy h.1 h.2).g
theorem g_subI (hx:evo env x=some (.d (cI a))) (hy:evo env y=some (.d (cI b))) (h:-9223372036854775808≤a-b∧a-b≤9223372036854775807):OpG P env st ⟨d,.binOp .sub t x y t2,ty,pos,after,gd⟩ (.d (cI (a-b))):=(q_subI hx hy h.1 h.2).g
end ari
abbrev Hint.a {α:Type} (tk e sz:Nat) (row:α→List D) (l:List α):Hint:=.t (.tsl sz (l.map row) tk) tk ⟨e,sz,l.length,none⟩
def entB (P:Program) (f:Nat):Bool:=match P.funcs[f]? with
 | some fn=>(fn.name == "runtime.NumGoroutine")==false && fn.body.isNone==false
 | none=>false
theorem enters_of {P:Program} {l:List Nat} (hl:l.all (entB P)=true) {i f:Nat} (h:l[i]?=some f):Enters P f:=by
 have:=List.all_eq_true.1 hl f (List.mem_of_getElem? h)
 unfold entB at this
 split at this
 ·rename_i fn hf
  simp only [Bool.and_eq_true,beq_iff_eq] at this
  exact ⟨fn,hf,this.1,this.2⟩
 ·cases this
abbrev Hint.i (n:Int):Hint:=.g (.d (cI n))
abbrev Hint.b (b:Bool):Hint:=.g (.d (cB b))
abbrev Hint.c (c:UInt8):Hint:=.g (.d (cU8 c))
abbrev Hint.s (l:List UInt8):Hint:=.g (.d (cS l))
abbrev Hint.d (x:D):Hint:=.g (.d x)
section renew
variable {P:Program} {g:Ghost} {base:Nat} {w:World} {st:St}
def St.renew (st:St) (tk:Nat) (x x':Tail):St:=(st.setTail tk ⟨x.e,x.sz,0,none⟩).tok x'
theorem renew_get {tk:Nat} {x x' y:Tail} {t:Nat} (hlen:tk < st.tails.length) (h:(st.renew tk x x').tails[t]?=some y) :
  (t=st.tails.length∧y=x')∨(t=tk∧y=⟨x.e,x.sz,0,none⟩)∨(t≠tk∧t < st.tails.length∧st.tails[t]?=some y):=by
 have hl:t < (st.renew tk x x').tails.length:=(List.getElem?_eq_some_iff.1 h).1
 simp [St.renew,St.tok,St.setTail] at hl
 by_cases h1:t=st.tails.length
 ·subst h1
  left
  refine ⟨rfl,?_⟩
  simpa [St.renew,St.tok,St.setTail,eq_comm] using h
 ·right
  have hlt:t < st.tails.length:=by omega
  by_cases h2:t=tk
  ·left
   subst h2
   refine ⟨rfl,?_⟩
   simpa [St.renew,St.tok,St.setTail,hlt,List.getElem?_append_left,eq_comm] using h
  ·right
   refine ⟨h2,hlt,?_⟩
   simpa [St.renew,St.tok,St.setTail,hlt,List.getElem?_append_left,List.getElem?_set,Ne.symm h2] using h
theorem renew_old {tk:Nat} {x x' y:Tail} {t:Nat} (ht:t≠tk) (h:st.tails[t]?=some y):(st.renew tk x x').tails[t]?=some y:=by
 have hlt:t < st.tails.length:=(List.getElem?_eq_some_iff.1 h).1
 rw [←h]
 simp [St.renew,St.tok,St.setTail,List.getElem?_append_left,hlt,List.getElem?_set,Ne.symm ht]
theorem renew_new {tk:Nat} {x x':Tail}:(st.renew tk x x').tails[st.tails.length]?=some x':=by simp [St.renew,St.tok,St.setTail]
theorem Inv.renew (h:Inv g base w st) {tk:Nat} {x x':Tail} {rows rows':List (List D)} (htl:st.tails[tk]?=some x) (hx:x.own=some rows) (hx':x'.own=some rows')
  {v':Value} {w':World} {xs':List Value} (hown':w'.ownsRow base x'.e x'.sz v' x'.n xs')
  (hc:(v'.ownBlock=(g.tk tk).ownBlock∧w'.heap.size=w.heap.size∧w.grownBy w' (g.tk tk).ownBlock)∨(v'.ownBlock=some w.heap.size∧Below w.heap.size w w'))
  (hrep:RowsRep g.lim w x'.sz x'.n rows' xs') :
  ∃ g',g'.tk st.tails.length=v'∧Inv g' base w' (st.renew tk x x')∧Step base g w st g' w' (st.renew tk x x'):=by
 have hlimtk:∀ b,(g.tk tk).ownBlock=some b→g.lim b=0:=fun b hb=>(h.tail_lim htl hb).trans (pub_some hx)
 have hlt:∀ b,(g.tk tk).ownBlock=some b→base≤b∧b < w.heap.size:=fun b hb=>h.tail_lt htl hb
 have hlen:tk < st.tails.length:=(List.getElem?_eq_some_iff.1 htl).1
 have hsize:w.heap.size≤w'.heap.size:=by rcases hc with ⟨_,h1,_⟩ | ⟨_,h1⟩; omega; exact h1.size
 have hos:w'.os=w.os∧w'.tape=w.tape∧w'.output=w.output:=by rcases hc with ⟨_,_,h1⟩ | ⟨_,h1⟩ <;> exact ⟨h1.os,h1.tape,h1.output⟩
 have hsame:∀ k,k < w.heap.size→(g.tk tk).ownBlock≠some k→w'.heap[k]?=w.heap[k]?:=by
  intro k hk hne
  rcases hc with ⟨_,_,h1⟩ | ⟨_,h1⟩
  ·exact h1.block k hk (Ne.symm hne)
  ·exact h1.block k hk
 have hnew:∀ k,k < w.heap.size→(g.tk tk).ownBlock≠some k→v'.ownBlock≠some k:=by
  intro k hk hne
  rcases hc with ⟨h1,_,_⟩ | ⟨h1,_⟩ <;> rw [h1]
  ·exact hne
  ·intro he; cases he; omega
 let g':Ghost:=⟨fun b=>if v'.ownBlock=some b then 0 else g.lim b,g.ob,fun t=>if t=tk then .slice none 0 0 else if t=st.tails.length then v' else g.tk t⟩
 have hlim1:∀ b,v'.ownBlock=some b→g'.lim b=0:=fun b hb=>by show (if _ then _ else _)=_; rw [if_pos hb]
 have hlim2:∀ b,v'.ownBlock≠some b→g'.lim b=g.lim b:=fun b hb=>by show (if _ then _ else _)=_; rw [if_neg hb]
 have htk0:g'.tk tk=.slice none 0 0:=by show (if tk=tk then _ else _)=_; rw [if_pos rfl]
 have htk1:g'.tk st.tails.length=v':=by show (if st.tails.length=tk then _ else _)=_; rw [if_neg (by omega),if_pos rfl]
 have htk2:∀ t,t≠tk→t < st.tails.length→g'.tk t=g.tk t:=fun t ht hl=>by show (if t=tk then _ else _)=_; rw [if_neg ht,if_neg (by omega)]
 have hbasene:∀ k,k < base→(g.tk tk).ownBlock≠some k:=fun k hk he=>by have:=(hlt k he).1; omega
 have hbel:Below base w w':=⟨hos.1,hos.2.1,hos.2.2,hsize,fun k hk=>hsame k (Nat.lt_of_lt_of_le hk h.base) (hbasene k hk)⟩
 have hevo:Evo g.lim w g'.lim w':=by
  refine ⟨hsize,fun b hb=>?_,fun b off hb ho=>?_⟩
  ·by_cases he:v'.ownBlock=some b
   ·rw [hlim1 b he]
    have hb':(g.tk tk).ownBlock=some b:=by
     rcases hc with ⟨h1,_,_⟩ | ⟨h1,_⟩
     ·rw [←h1]; exact he
     ·rw [h1] at he; cases he; omega
    rw [hlimtk b hb']; exact Nat.zero_le _
   ·rw [hlim2 b he]; exact Nat.le_refl _
  ·by_cases he:(g.tk tk).ownBlock=some b
   ·rw [hlimtk b he] at ho; omega
   ·exact World.cell?_of_block (w:=w) (a:=⟨b,off,none⟩) (hsame b hb he)
 have hget:=fun (t:Nat) (y:Tail) (hy:(st.renew tk x x').tails[t]?=some y)=>renew_get hlen hy
 have hs:SEvo g w st g' w' (st.renew tk x x'):=by
  refine ⟨hevo,fun _ _=>rfl,Nat.le_refl _,fun t e' sz' n' ht=>?_,by simp [St.renew,St.tok,St.setTail],fun t y rows2 hlt' hy ho=>?_⟩
  ·have htt:t≠tk:=by
    intro e
    subst e
    rw [htl] at ht
    cases ht
    cases hx
   exact ⟨n',renew_old htt ht,Nat.le_refl _,fun _=>htk2 t htt (List.getElem?_eq_some_iff.1 ht).1⟩
  ·rcases hget t y hy with ⟨h1,_⟩ | ⟨_,h2⟩ | ⟨h1,h2,h3⟩
   ·omega
   ·rw [h2] at ho; cases ho
   ·exact ⟨y,rows2,h3,ho,rfl,Nat.le_refl _,fun _=>htk2 t h1 h2⟩
 have hgone:∀ o,st.live o→g.ob o < w.heap.size∧(g.tk tk).ownBlock≠some (g.ob o):=fun o ho=>⟨(h.live_lt ho).1,h.tailObj tk _ o htl ho⟩
 have hother:∀ t y,t≠tk→st.tails[t]?=some y→∀ b,(g.tk t).ownBlock=some b→b < w.heap.size∧(g.tk tk).ownBlock≠some b∧v'.ownBlock≠some b:=fun t y htt hy b hb=>by
  have h1:=(h.tail_lt hy hb).2
  have h2:=h.tailNe t tk _ _ b htt hy htl hb
  exact ⟨h1,h2,hnew b h1 h2⟩
 refine ⟨g',htk1,⟨Nat.le_trans h.base hsize,?_,?_,?_,h.ne,?_,?_,?_,h.glob.below hbel,?_⟩,⟨hs,hbel,fun b hb=>hlim2 b (hnew b (Nat.lt_of_lt_of_le hb h.base) (hbasene b hb)),fun b hb hn=>?_,fun b hb hw=>?_⟩⟩
 ·intro o ty cs hx
  obtain ⟨h1,h2,vs,h3,h4,h5⟩:=h.row o ty cs hx
  obtain ⟨k1,k2⟩:=hgone o ⟨_,hx,by simp⟩
  exact ⟨h1,(hlim2 _ (hnew _ k1 k2)).trans h2,vs,by show w'.heap[g.ob o]?=_; rw [hsame _ k1 k2]; exact h3,h4,fun i c u hc hu=>⟨(h5 i c u hc hu).1.mono hs,(h5 i c u hc hu).2⟩⟩
 ·intro o es hx
  obtain ⟨h1,ms,c,h3,h4,h5,h6⟩:=h.map o es hx
  obtain ⟨k1,k2⟩:=hgone o ⟨_,hx,by simp⟩
  exact ⟨h1,ms,c,by show w'.heap[g.ob o]?=_; rw [hsame _ k1 k2]; exact h3,h4,fun i k y m a b=>⟨(h5 i k y m a b).1,(h5 i k y m a b).2.mono hs⟩,h6⟩
 ·intro o y hx
  obtain ⟨h1,h2,h3⟩:=h.raw o y hx
  obtain ⟨k1,k2⟩:=hgone o ⟨_,hx,by simp⟩
  exact ⟨h1,(hlim2 _ (hnew _ k1 k2)).trans h2,by show w'.heap[g.ob o]?=_; rw [hsame _ k1 k2]; exact h3⟩
 ·intro t e' sz' n' ht
  rcases hget t _ ht with ⟨h1,h2⟩ | ⟨h1,h2⟩ | ⟨h1,h2,h3⟩
  ·subst h2; cases hx'
  ·subst h1
   cases h2
   rw [htk0]
   exact ⟨[],World.ownsRow_nil w' base _ _,fun b hb=>by cases hb⟩
  ·obtain ⟨ys,k1,k2⟩:=h.tail t e' sz' n' h3
   rw [htk2 t h1 h2]
   exact ⟨ys,ownsRow_keep k1 fun b hb=>hsame b (hother t _ h1 h3 b hb).1 (hother t _ h1 h3 b hb).2.1,fun b hb=>by rw [hlim2 b (hother t _ h1 h3 b hb).2.2]; exact k2 b hb⟩
 ·intro t t' y y' b hne ht ht' hb
  rcases hget t _ ht with ⟨h1,h2⟩ | ⟨h1,h2⟩ | ⟨h1,h2,h3⟩
  ·subst h1
   rw [htk1] at hb
   rcases hget t' _ ht' with ⟨k1,k2⟩ | ⟨k1,k2⟩ | ⟨k1,k2,k3⟩
   ·exact absurd k1.symm hne
   ·rw [k1,htk0]; intro e; cases e
   ·rw [htk2 t' k1 k2]
    intro hb'
    exact (hother t' _ k1 k3 b hb').2.2 hb
  ·rw [h1,htk0] at hb; cases hb
  ·rw [htk2 t h1 h2] at hb
   rcases hget t' _ ht' with ⟨k1,k2⟩ | ⟨k1,k2⟩ | ⟨k1,k2,k3⟩
   ·rw [k1,htk1]
    exact (hother t _ h1 h3 b hb).2.2
   ·rw [k1,htk0]; intro e; cases e
   ·rw [htk2 t' k1 k2]
    exact h.tailNe t t' _ _ b hne h3 k3 hb
 ·intro t y o ht ho
  have ho':st.live o:=ho
  obtain ⟨k1,k2⟩:=hgone o ho'
  rcases hget t _ ht with ⟨h1,h2⟩ | ⟨h1,h2⟩ | ⟨h1,h2,h3⟩
  ·rw [h1,htk1]; exact hnew _ k1 k2
  ·rw [h1,htk0]; intro e; cases e
  ·rw [htk2 t h1 h2]; exact h.tailObj t y o h3 ho'
 ·intro t e' sz' n' rows2 ht
  rcases hget t _ ht with ⟨h1,h2⟩ | ⟨h1,h2⟩ | ⟨h1,h2,h3⟩
  ·subst h1
   subst h2
   cases hx'
   rw [htk1]
   exact ⟨_,hown',fun b hb=>hlim1 b hb,hrep.mono hevo⟩
  ·cases h2
  ·obtain ⟨ys,k1,k2,k3⟩:=h.own t e' sz' n' rows2 h3
   rw [htk2 t h1 h2]
   exact ⟨ys,ownsRow_keep k1 fun b hb=>hsame b (hother t _ h1 h3 b hb).1 (hother t _ h1 h3 b hb).2.1,fun b hb=>by rw [hlim2 b (hother t _ h1 h3 b hb).2.2]; exact k2 b hb,k3.mono hevo⟩
 ·have hne:(g.tk tk).ownBlock≠some b:=fun e=>hn (.inr ⟨tk,x,htl,e⟩)
  exact ⟨hsame b hb hne,hlim2 b (hnew b hb hne)⟩
 ·rcases hw with ⟨o,h1,h2⟩ | ⟨t,y,h1,h2⟩
  ·exact .inl ⟨o,h1,h2⟩
  ·rcases hget t _ h1 with ⟨k1,k2⟩ | ⟨k1,k2⟩ | ⟨k1,k2,k3⟩
   ·rw [k1,htk1] at h2
    rcases hc with ⟨c1,_,_⟩ | ⟨c1,_⟩
    ·exact .inr ⟨tk,x,htl,by rw [←c1]; exact h2⟩
    ·rw [c1] at h2; cases h2; omega
   ·rw [k1,htk0] at h2; cases h2
   ·rw [htk2 t k1 k2] at h2
    exact .inr ⟨t,y,k3,h2⟩
end renew
section rows
variable {P:Program} (w:World)
theorem nmin_eq {a b c:Nat} (h:min a b=c):Nat.min a b=c:=h
def laid (cur:List Value) (o:Nat) (cs:List Value):List Value:=cur.take o++cs++cur.drop (o+cs.length)
theorem laid_len {cur cs:List Value} {o:Nat} (h:o+cs.length≤cur.length):(laid cur o cs).length=cur.length:=by
 simp [laid]; omega
theorem laid_get {cur cs:List Value} {o:Nat} (h:o+cs.length≤cur.length) (j:Nat):(laid cur o cs)[j]?=if o≤j∧j < o+cs.length then cs[j-o]? else cur[j]?:=by
 unfold laid
 by_cases h1:j < o
 ·rw [if_neg (by omega),List.append_assoc,List.getElem?_append_left (by simp; omega),List.getElem?_take,if_pos h1]
 ·by_cases h2:j < o+cs.length
  ·rw [if_pos ⟨by omega,h2⟩,List.append_assoc,List.getElem?_append_right (by simp; omega),List.getElem?_append_left (by simp; omega)]
   congr 1; simp; omega
  ·rw [if_neg (by omega),List.getElem?_append_right (by simp; omega),List.getElem?_drop]
   congr 1; simp; omega
theorem run_copyR {dT sT ty e:TypeId} {inf:TypeInfo} {sz b o dLen dCap sLen sCap:Nat} {cur:Array Value} {a:Addr} {cs:List Value} (ht:P.underlying dT=some (.slice e)) (hi:P.info? e=some inf) (hsz:inf.size=sz)
  (hg:w.heap[b]?=some (.cells cur e (0,0))) (hl:cs.length=Nat.min sLen dLen*sz) (hsrc:∀ j v,cs[j]?=some v→w.cell? (a.add j)=some v) (h1:∀ v∈cs,v.oneCell'=true) (hfit:o+cs.length≤cur.size) :
  (Builtin.copy_ #[dT,sT] ty #[.slice (some ⟨b,o,none⟩) dLen dCap,.slice (some a) sLen sCap]).run P w=.ok (goInt (Nat.min sLen dLen)) (w.setRow b (laid cur.toList o cs).toArray):=by
 subst hsz
 have hf:(Builtin.firstCells inf.size (Nat.min sLen dLen) (.slice (some a) sLen sCap)).run P w=.ok cs.toArray w:=run_firstCells_some w inf.size (Nat.min sLen dLen) a sLen sCap cs hl hsrc
 have hst:=run_storeCells_at P b o e cs 0 cur w hg (by simpa using hfit) h1
 simp only [Nat.add_zero] at hst
 simp [Builtin.copy_,run_underlying ht,Builtin.lenOf,sizeOf,typeInfo,hi,hf,hst,goInt,laid]
theorem run_clearR {t ty e:TypeId} {inf:TypeInfo} {z:Value} {sz b o n c:Nat} {cur:Array Value} (ht:P.underlying t=some (.slice e)) (hi:P.info? e=some inf) (hz:inf.zero=some z) (hzs:z.cells.size=sz)
  (hg:w.heap[b]?=some (.cells cur e (0,0))) (hn:0 < n) (hfit:o+n*sz≤cur.size) (h1:∀ v∈(Builtin.zeroCells z.cells n).toList,v.oneCell'=true) :
  (Builtin.clear_ #[t] ty #[.slice (some ⟨b,o,none⟩) n c]).run P w=.ok (.tuple #[]) (w.setRow b (laid cur.toList o (Builtin.zeroCells z.cells n).toList).toArray):=by
 have hsz:(Builtin.zeroCells z.cells n).toList.length=n*sz:=by rw [Array.length_toList,size_zeroCells,hzs]
 have hst:=run_storeCells_at P b o e (Builtin.zeroCells z.cells n).toList 0 cur w hg (by rw [Nat.add_zero,hsz]; exact hfit) h1
 simp only [Nat.add_zero] at hst
 cases n with
 | zero=>simp at hn
 | succ n=>simp [Builtin.clear_,run_underlying ht,zeroValue,typeInfo,hi,hz,hst,laid]
theorem run_clear_none {t ty e:TypeId} {A:Option Addr} {c:Nat} (ht:P.underlying t=some (.slice e)):(Builtin.clear_ #[t] ty #[.slice A 0 c]).run P w=.ok (.tuple #[]) w:=by
 cases A <;> simp [Builtin.clear_,run_underlying ht]
theorem wp_copy_r (w:World) {o:Oper} {a:Act} {K:Act→World→Prop} {Q:Exit→Act→World→Prop} (d s:Operand) (t t':TypeId)
  (ho:o.op=.call { callee:=.builtin .copy,args:=#[d,s],argTypes:=#[t,t'] }) (v u:Value) (hd:a.eval d=v) (hs:a.eval s=u) {v':Value} {w':World}
  (hr:(Builtin.copy_ #[t,t'] o.type #[v,u]).run P w=.ok v' w') (h:K (a.put o.dst v') w'):o.wp P a w K Q:=by
 unfold Oper.wp execOp
 simp only [ho,resolve,invoke,builtin,Sem.run_bind,Sem.run_pure,Result.andThen_ok,List.map_toArray,List.map_cons,List.map_nil,hd,hs,hr]
 exact h
theorem wpList_copy_r (w:World) {ops:Array Oper} {rest:List Oper} {o:Oper} {a:Act} {Q:Exit→Act→World→Prop} (hgd:o.guard=none) (d s:Operand) (t t':TypeId)
  (ho:o.op=.call { callee:=.builtin .copy,args:=#[d,s],argTypes:=#[t,t'] }) (v u:Value) (hd:a.eval d=v) (hs:a.eval s=u) {v':Value} {w':World}
  (hr:(Builtin.copy_ #[t,t'] o.type #[v,u]).run P w=.ok v' w') (h:wpList P ops Q rest (a.put o.dst v') w'):wpList P ops Q (o :: rest) a w :=
 wpList_plain hgd fun _ hK=>wp_copy_r w d s t t' ho v u hd hs hr (hK _ _ h)
theorem step_copy_r {ops:Array Oper} {o:Oper} {a:Act} {w:World} {K:Act→World→Prop} {Q:Exit→Act→World→Prop} {E:Prop}
  (hg:o.guard=none) (d x:Operand) (dT sT:TypeId) (hop:o.op=Op.call { callee:=Callee.builtin Builtin.copy,args:=#[d,x],argTypes:=#[dT,sT] })
  (v u:Value) (hd:a.eval d=v) (hx:a.eval x=u) {v':Value} {w':World} (hr:(Builtin.copy_ #[dT,sT] o.type #[v,u]).run P w=.ok v' w') (hK:K (a.put o.dst v') w') :
  if Region.wanted o (yielded ops a.tmps)=true then Oper.wp P o a w K Q else E:=by
 rw [if_pos (by simp [Region.wanted,hg])]
 exact wp_copy_r w d x dT sT hop v u hd hx hr hK
theorem wpList_clear_r (w:World) {ops:Array Oper} {rest:List Oper} {o:Oper} {a:Act} {Q:Exit→Act→World→Prop} (hgd:o.guard=none) (d:Operand) (t:TypeId)
  (ho:o.op=.call { callee:=.builtin .clear,args:=#[d],argTypes:=#[t] }) (v:Value) (hd:a.eval d=v) {v':Value} {w':World}
  (hr:(Builtin.clear_ #[t] o.type #[v]).run P w=.ok v' w') (h:wpList P ops Q rest (a.put o.dst v') w'):wpList P ops Q (o :: rest) a w :=
 wpList_plain hgd fun _ hK=>by
  unfold Oper.wp execOp
  simp only [ho,resolve,invoke,builtin,Sem.run_bind,Sem.run_pure,Result.andThen_ok,List.map_toArray,List.map_cons,List.map_nil,hd,hr]
  exact hK _ _ h
end rows
end Go.Abs
namespace Go.Abs
open Go.RowKit
section srcs
variable {P:Program} (w:World)
theorem run_copyS {dT sT ty e:TypeId} {inf:TypeInfo} {sz b o dLen dCap m uc:Nat} {cur:Array Value} {A:Option Addr} {cs:List Value} (ht:P.underlying dT=some (.slice e)) (hi:P.info? e=some inf) (hsz:inf.size=sz)
  (hg:w.heap[b]?=some (.cells cur e (0,0))) (hm:m≤dLen) (hf:(Builtin.firstCells sz m (.slice A m uc)).run P w=.ok cs.toArray w) (h1:∀ v∈cs,v.oneCell'=true) (hfit:o+cs.length≤cur.size) :
  (Builtin.copy_ #[dT,sT] ty #[.slice (some ⟨b,o,none⟩) dLen dCap,.slice A m uc]).run P w=.ok (goInt m) (w.setRow b (laid cur.toList o cs).toArray):=by
 subst hsz
 have hmn:Nat.min m dLen=m:=nmin_eq (by omega)
 have hst:=run_storeCells_at P b o e cs 0 cur w hg (by simpa using hfit) h1
 simp only [Nat.add_zero] at hst
 simp [Builtin.copy_,run_underlying ht,Builtin.lenOf,sizeOf,typeInfo,hi,hmn,hf,hst,goInt,laid]
theorem run_appendR {t ty e:TypeId} {inf:TypeInfo} {sz b n c m uc:Nat} {cur:Array Value} {A:Option Addr} {cs:List Value} (ht:P.underlying t=some (.slice e)) (hi:P.info? e=some inf) (hsz:inf.size=sz)
  (hg:w.heap[b]?=some (.cells cur e (0,0))) (hroom:n+m≤c) (hf:(Builtin.firstCells sz m (.slice A m uc)).run P w=.ok cs.toArray w) (h1:∀ v∈cs,v.oneCell'=true) (hfit:n*sz+cs.length≤cur.size) :
  (Builtin.append_ #[t,t] ty #[.slice (some ⟨b,0,none⟩) n c,.slice A m uc]).run P w=.ok (.slice (some ⟨b,0,none⟩) (n+m) c) (w.setRow b (laid cur.toList (n*sz) cs).toArray):=by
 subst hsz
 have hst:=run_storeCells_at P b (n*inf.size) e cs 0 cur w hg (by simpa using hfit) h1
 simp only [Nat.add_zero] at hst
 simp [Builtin.append_,run_underlying ht,sizeOf,typeInfo,hi,Builtin.lenOf,hroom,hf,Addr.add_lit,hst,laid]
end srcs
theorem take_laid0 {cur:List Value} {o:Nat} {cs:List Value} (h:o+cs.length≤cur.length) {k:Nat} (hk:k≤o):(laid cur o cs).take k=cur.take k:=by
 apply List.ext_getElem?
 intro j
 rw [List.getElem?_take,List.getElem?_take,laid_get h]
 by_cases h1:j < k
 ·rw [if_pos h1,if_pos h1,if_neg (by omega)]
 ·rw [if_neg h1,if_neg h1]
theorem take_laid {cur:List Value} {o:Nat} {cs:List Value} (h:o+cs.length≤cur.length) {k:Nat} (hk:o+cs.length≤k):(laid cur o cs).take k=cur.take o++cs++(cur.take k).drop (o+cs.length):=by
 apply List.ext_getElem?
 intro j
 rw [List.getElem?_take,laid_get h]
 by_cases h1:j < o
 ·rw [if_pos (by omega),if_neg (by omega),List.append_assoc,List.getElem?_append_left (by simp; omega),List.getElem?_take,if_pos h1]
 ·by_cases h2:j < o+cs.length
  ·rw [if_pos (by omega),if_pos ⟨by omega,h2⟩,List.append_assoc,List.getElem?_append_right (by simp; omega),List.getElem?_append_left (by simp; omega)]
   congr 1; simp; omega
  ·rw [List.getElem?_append_right (by simp; omega),List.getElem?_drop,List.getElem?_take]
   have e:o+cs.length+(j-(cur.take o++cs).length)=j:=by simp; omega
   rw [e]
   by_cases h3:j < k
   ·rw [if_pos h3,if_neg (by omega),if_pos h3]
   ·rw [if_neg h3,if_neg h3]
theorem zeroCells_one {z:Array Value} {n:Nat} (h:∀ k,k < z.size→(z[k]!).oneCell'=true):∀ v∈(Builtin.zeroCells z n).toList,v.oneCell'=true:=fun v hv=>by
 simp only [Builtin.zeroCells,Array.toList_map,Array.toList_range,List.mem_map,List.mem_range] at hv
 obtain ⟨i,hi,rfl⟩:=hv
 refine h _ (Nat.mod_lt _ ?_)
 rcases Nat.eq_zero_or_pos z.size with h0 | h0
 ·rw [h0] at hi; omega
 ·exact h0
section parts
variable {lim:Nat→Nat} {w:World} {sz n m:Nat} {rows rows':List (List D)} {xs ys:List Value}
theorem RowsRep.take (h:RowsRep lim w sz n rows xs) {k:Nat} (hk:k≤n):RowsRep lim w sz k (rows.take k) (xs.take (k*sz)):=by
 have hl:=h.len
 refine ⟨by rw [List.length_take]; omega,fun r hr=>h.row r (List.mem_of_mem_take hr),fun i c u hc hu=>?_⟩
 rw [List.getElem?_take] at hu
 split at hu
 ·refine h.rep i c u ?_ hu
  rw [←List.take_append_drop k rows,List.flatten_append,List.getElem?_append_left (List.getElem?_eq_some_iff.1 hc).1]
  exact hc
 ·cases hu
theorem RowsRep.drop (h:RowsRep lim w sz n rows xs) {k:Nat} (hk:k≤n):RowsRep lim w sz (n-k) (rows.drop k) (xs.drop (k*sz)):=by
 have hl:=h.len
 refine ⟨by rw [List.length_drop]; omega,fun r hr=>h.row r (List.mem_of_mem_drop hr),fun i c u hc hu=>?_⟩
 rw [List.getElem?_drop] at hu
 refine h.rep (k*sz+i) c u ?_ hu
 have hfl:(rows.take k).flatten.length=k*sz:=by
  rw [flat_len (fun r hr=>h.row r (List.mem_of_mem_take hr)),List.length_take]; congr 1; omega
 rw [←List.take_append_drop k rows,List.flatten_append,List.getElem?_append_right (by omega),hfl,show k*sz+i-k*sz=i from by omega]
 exact hc
theorem RowsRep.app (h:RowsRep lim w sz n rows xs) (hx:xs.length=n*sz) (h':RowsRep lim w sz m rows' ys):RowsRep lim w sz (n+m) (rows++rows') (xs++ys):=by
 refine ⟨by rw [List.length_append,h.len,h'.len],fun r hr=>?_,fun i c u hc hu=>?_⟩
 ·rcases List.mem_append.1 hr with hr | hr
  ·exact h.row r hr
  ·exact h'.row r hr
 ·have hfl:rows.flatten.length=xs.length:=by rw [flat_len h.row,h.len,hx]
  rw [List.flatten_append] at hc
  by_cases hi:i < xs.length
  ·rw [List.getElem?_append_left (by omega)] at hc
   rw [List.getElem?_append_left hi] at hu
   exact h.rep i c u hc hu
  ·rw [List.getElem?_append_right (by omega)] at hc
   rw [List.getElem?_append_right (by omega)] at hu
   rw [hfl] at hc
   exact h'.rep _ c u hc hu
theorem RowsRep.repl (h:RowsRep lim w sz n rows xs) (hx:xs.length=n*sz) (h':RowsRep lim w sz m rows' ys) (hy:ys.length=m*sz) {i j:Nat} (hij:i≤j) (hj:j≤n) :
  RowsRep lim w sz (i+m+(n-j)) (rows.take i++rows'++rows.drop j) (xs.take (i*sz)++ys++xs.drop (j*sz)):=by
 have hle:i*sz≤n*sz:=Nat.mul_le_mul_right _ (by omega)
 refine ((h.take (by omega)).app (by rw [List.length_take]; omega) h').app (by rw [List.length_append,List.length_take,hy,Nat.add_mul]; omega) (h.drop hj)
theorem RowsRep.one (h:RowsRep lim w sz n rows xs) (hx:xs.length=n*sz):∀ x∈xs,x.oneCell'=true:=fun x hm=>by
 obtain ⟨j,hj⟩:=List.mem_iff_getElem?.1 hm
 have hl:=(List.getElem?_eq_some_iff.1 hj).1
 exact (h.rep j _ x (List.getElem?_eq_getElem (by rw [flat_len h.row,h.len]; omega)) hj).2
end parts
section con
variable {P:Program} {f:Ctx} {g:Ghost} {base:Nat} {w:World} {st:St}
theorem renew_post {tk:Nat} {x:Tail} {rows rows':List (List D)} {n':Nat} (h:Inv g base w st) (htl:st.tails[tk]?=some x) (hx:x.own=some rows) {v':Value} {w':World} {xs':List Value} (hown':w'.ownsRow base x.e x.sz v' n' xs')
  (hc:(v'.ownBlock=(g.tk tk).ownBlock∧w'.heap.size=w.heap.size∧w.grownBy w' (g.tk tk).ownBlock)∨(v'.ownBlock=some w.heap.size∧Below w.heap.size w w')) (hrep:RowsRep g.lim w x.sz n' rows' xs') :
  RPost ⟨g,w,st,base⟩ (QE (.vc st.tails.length n') (st.renew tk x ⟨x.e,x.sz,n',some rows'⟩)) (.returned v') w':=by
 obtain ⟨g',h1,h2,h3⟩:=h.renew (x':=⟨x.e,x.sz,n',some rows'⟩) htl hx rfl hown' hc hrep
 refine ⟨v',_,_,g',rfl,⟨.rfl' _,rfl⟩,?_,h2,(Hist.refl ⟨g,w,st,base⟩).step h3⟩
 have hf:=(own_form hown').1
 refine .vc _ _ _ (by simp [St.renew,St.tok,St.setTail]) (by obtain ⟨A,c,hv⟩:=hf; exact ⟨_,_,_,hv⟩) fun y rows2 hy ho=>?_
 rw [renew_new] at hy
 cases hy
 exact ⟨Nat.le_refl _,fun _=>.inl h1.symm⟩
theorem args3 {args:List EV} {a b c:EV} (he:args=[a,b,c]) {vs:Array Value} (h:ArgsRep g w st args vs):∃ x y z,vs=#[x,y,z]∧EVRep g w st a x∧EVRep g w st b y∧EVRep g w st c z:=by
 subst he
 obtain ⟨h1,h2⟩:=h
 obtain ⟨l⟩:=vs
 match l,h1 with
 | [x,y,z],_=>exact ⟨x,y,z,rfl,h2 0 _ _ rfl rfl,h2 1 _ _ rfl rfl,h2 2 _ _ rfl rfl⟩
theorem args4 {args:List EV} {a b c d:EV} (he:args=[a,b,c,d]) {vs:Array Value} (h:ArgsRep g w st args vs):∃ x y z u,vs=#[x,y,z,u]∧EVRep g w st a x∧EVRep g w st b y∧EVRep g w st c z∧EVRep g w st d u:=by
 subst he
 obtain ⟨h1,h2⟩:=h
 obtain ⟨l⟩:=vs
 match l,h1 with
 | [x,y,z,u],_=>exact ⟨x,y,z,u,rfl,h2 0 _ _ rfl rfl,h2 1 _ _ rfl rfl,h2 2 _ _ rfl rfl,h2 3 _ _ rfl rfl⟩
end con
section nilc
variable {P:Program} {f:Ctx} {N:Nat} {S:Start} {Q:EV→St→Prop} {k:List Item} {env:Env} {st:St} {ops rest:List Oper}
 {d:Option Tmp} {ty:TypeId} {pos:String} {after:Array Edge} {gd:Option (Nat×Bool)} {t t2 e:TypeId} {x y:Operand}
theorem AOps.slNil {sz:Nat} {rows:List (List D)} (ht:P.underlying t=some (.slice e)) (hx:evo env x=some (.d (.sl sz rows))) (hd:dstOk N d=true)
  (h:∀ b:Bool,(b=true→rows=[])→AOps P f N S Q ops rest k (env.put d (.d (.ex (.bool b)))) st) :
  AOps P f N S Q ops (⟨d,.binOp .eql t x (.const (.slice none 0 0)) t2,ty,pos,after,none⟩ :: rest) k env st:=by
 intro i hi g w tmps hinv hh he hn
 have hr:=evo_rep he hx
 generalize hv:Act.eval ⟨tmps,[]⟩ x=v at hr
 cases hr with
 | d _ _ hr =>
  obtain ⟨A,c,vs,rfl,_,_,hnil,_⟩:=slInv hr
  have ho:ops.toArray[i]?=some (⟨d,.binOp .eql t x (.const (.slice none 0 0)) t2,ty,pos,after,none⟩:Oper):=by simpa using (hi 0).symm
  have hrun:(execOp (Act.eval ⟨tmps,[]⟩) (⟨d,.binOp .eql t x (.const (.slice none 0 0)) t2,ty,pos,after,none⟩:Oper)).run P w=.ok (.value (.bool A.isNone)) w:=by
   have h1:Act.eval ⟨tmps,[]⟩ (.const (.slice none 0 0))=.slice none 0 0:=rfl
   simp [execOp,hv,h1,eqGuard,Lib.run_eql_slice_nil w t e A rows.length c 0 0 ht]
  rw [List.length_cons,range'_succ']
  refine FWP.value ho (by simp [Region.wanted]) hrun ?_
  subst hn
  refine h A.isNone (fun hb=>?_) (i+1) (fun j=>by have:=hi (j+1); simpa [Nat.add_assoc,Nat.add_comm 1 j] using this) g w _ hinv hh (envPut he hd (.d _ _ (.ex _))) size_put
  cases A with
  | none=>exact List.eq_nil_of_length_eq_zero (hnil rfl).1
  | some a=>cases hb
theorem ACallS.letgo {f:FuncId} {args:List EV} {n sz:Nat} {e:TypeId} {rows:List (List D)} (h:ACallS P f args ⟨[],[]⟩ (QE (.vc 0 n) ⟨[],[⟨e,sz,n,some rows⟩]⟩)):ACallS P f args ⟨[],[]⟩ (QD (·=.sl sz rows)):=by
 intro g w base vs hi ha
 refine (h g w base vs hi ha).mono ?_
 rintro e1 w' ⟨v,r,st',g',rfl,⟨hle,rfl⟩,hr,hinv,hh⟩
 have hr':=hle _ _ _ _ hr
 obtain ⟨g2,k1,k2,k3,k4⟩:=hinv.freeze (tk:=0) rfl
 refine ⟨v,.d (.sl sz rows),_,g2,rfl,⟨_,.rfl' _,rfl⟩,.d _ _ ?_,k2,hh.step k3⟩
 rcases vc_or hinv rfl hr' with hv | ⟨h0,hr0,A,hv⟩
 ·rw [hv]; exact k4
 ·rw [hv,hr0]; exact .nil sz A
section view
variable {α:Type} [Inhabited α] {sz:Nat} {row:α→List D} {l a:List α} {inf:TypeInfo} {tk n lo m:Nat}
theorem q_lenW (ht:P.underlying t=some (.slice e)) (hx:evo env x=some (.vw tk n lo m)):OpQ P env st ⟨d,.call ⟨.builtin .len,#[x],#[t]⟩,ty,pos,after,gd⟩ (.d (cI (m:Int))):=fun g base w tmps hinv he=>by
 have h:=evo_rep he hx
 generalize hv:Act.eval ⟨tmps,[]⟩ x=v at h
 cases h with
 | vw _ _ _ _ _ _ hf =>
  obtain ⟨A,c,rfl⟩:=hf
  exact ⟨_,.d _ _ (.ex _),fun w' _=>len_run ht hv w'⟩
theorem q_idxW {kk:IntKind} {i:Int} {e':Nat} (ht:P.underlying t=some (.slice e)) (hi:P.info? e=some inf) (hsz:inf.size=sz) (hx:evo env x=some (.vw tk n lo m)) (htl:st.tails[tk]?=some ⟨e',sz,n,some (l.map row)⟩) (hy:evo env y=some (.d (.ex (.int kk i)))) (h:0≤i∧i < (m:Int)) :
  OpQ P env st ⟨d,.indexAddr t x y,ty,pos,after,gd⟩ (.vp tk n (lo+i.toNat) 0):=fun g base w tmps hinv he=>by
 have hr:=evo_rep he hx
 generalize hv:Act.eval ⟨tmps,[]⟩ x=v at hr
 cases hr with
 | vw _ _ _ _ _ hlt hf hh =>
  obtain ⟨_,h2⟩:=hh _ _ htl rfl
  rcases h2 rfl with h0 | ⟨b,M,c,c',q1,q2⟩
  ·omega
  ·subst hsz
   refine ⟨.pointer (some ⟨b,lo*inf.size+i.toNat*inf.size,none⟩),.vp _ _ _ _ _ hlt ⟨_,_,rfl⟩ fun z rows hz ho=>?_,fun w' _=>?_⟩
   ·rw [htl] at hz
    cases hz
    refine ⟨Nat.le_refl _,fun _=>⟨b,M,c,q1,?_⟩⟩
    rw [Nat.add_mul,Nat.add_zero]
   ·rw [q2] at hv
    have:=index_run (d:=d) (ty:=ty) (pos:=pos) (after:=after) (gd:=gd) ht hi hv (evo_rep he hy).ex_inv h.1 h.2 w'
    rw [Addr.add_lit] at this
    exact this
theorem nth_view (hw:(l.drop lo).take a.length=a) {i:Nat} (hi:i < a.length):lo+i < l.length∧nth l (lo+i)=nth a i:=by
 have h1:a[i]?=l[lo+i]?:=by
  have:=congrArg (fun z=>z[i]?) hw
  simp only [List.getElem?_take,List.getElem?_drop,if_pos hi] at this
  exact this.symm
 have h2:a[i]?=some a[i]:=List.getElem?_eq_getElem hi
 rw [h2] at h1
 have h3:=(List.getElem?_eq_some_iff.1 h1.symm).1
 exact ⟨h3,by simp [nth,←h1,h2]⟩
theorem q_loadVpW {i o e':Nat} {c:D} (hw:(l.drop lo).take a.length=a) (h1:(P.underlying t).map oneB=some true) (hx:evo env x=some (.vp tk n (lo+i) o)) (htl:st.tails[tk]?=some ⟨e',sz,n,some (l.map row)⟩) (hi:i < a.length) (hc:(row (nth a i))[o]?=some c) :
  OpQ P env st ⟨d,.load t x,ty,pos,after,gd⟩ (.d c):=q_loadVp h1 hx htl (nth_view hw hi).1 (by rw [(nth_view hw hi).2]; exact hc)
theorem q_loadVpAW {i o e' m:Nat} {cs:List D} (hw:(l.drop lo).take a.length=a) (h1:(P.underlying t).map oneB=some false) (hs:(P.info? t).map (·.size)=some m) (hx:evo env x=some (.vp tk n (lo+i) o)) (htl:st.tails[tk]?=some ⟨e',sz,n,some (l.map row)⟩) (hi:i < a.length)
  (hm:o+m≤sz) (hc:((row (nth a i)).drop o).take m=cs):OpQ P env st ⟨d,.load t x,ty,pos,after,gd⟩ (.d (.agg cs)):=q_loadVpA h1 hs hx htl (nth_view hw hi).1 hm (by rw [(nth_view hw hi).2]; exact hc)
theorem q_slVW {z:Operand} {kl kh:IntKind} {i j:Int} {e':Nat} (ht:P.underlying t=some (.slice e)) (hi:P.info? e=some inf) (hsz:inf.size=sz) (hx:evo env x=some (.vc tk n)) (htl:st.tails[tk]?=some ⟨e',sz,n,some (l.map row)⟩) (hy:evo env y=some (.d (.ex (.int kl i)))) (hz:evo env z=some (.d (.ex (.int kh j))))
  (h:0≤i∧i≤j∧j≤(l.length:Int)):OpQ P env st ⟨d,.slice t x (some y) (some z) none,ty,pos,after,gd⟩ (.vw tk n i.toNat ((l.take j.toNat).drop i.toNat).length):=fun g base w tmps hinv he=>by
 have hm:((l.take j.toNat).drop i.toNat).length=j.toNat-i.toNat:=by rw [List.length_drop,List.length_take]; omega
 rw [hm]
 have hlt:tk < st.tails.length:=(List.getElem?_eq_some_iff.1 htl).1
 have hr:=evo_rep he hx
 generalize hv':Act.eval ⟨tmps,[]⟩ x=v' at hr
 have hrun:∀ A n' c,v'=.slice A n' c→(l.length:Int)≤c→∀ w':World,(execOp (Act.eval ⟨tmps,[]⟩) ⟨d,.slice t x (some y) (some z) none,ty,pos,after,gd⟩).run P w'=.ok (.value (sliced A i.toNat j.toNat c sz)) w':=fun A n' c hv hc w'=>by
  rw [hv] at hv'
  simp only [execOp,hv',Sem.run_bind,run_sliceAt_slice w' t _ _ _ _ (by rw [elem_eq ht]; exact ht),Option.map_none,Option.map_some,(evo_rep he hy).ex_inv,(evo_rep he hz).ex_inv]
  rw [run_slice_lh w' t A n' c (by rw [elem_eq ht]; exact ht) kl kh i j h.1 h.2.1 (by omega)]
  simp [elem_eq ht,size_of hi,hsz]
 rcases vc_or hinv htl hr with hvk | ⟨n0,r0,A,hA⟩
 ·obtain ⟨hvk,xs,h2,_,h4⟩:=vc_val hinv htl hvk
  have hn:n=l.length:=by have:=h4.len; simpa using this.symm
  rcases h2.2 with ⟨hv,h0⟩ | ⟨b,c,cur,hv,hbb,hg,hnc,hcm,hcs,htk⟩
  ·refine ⟨_,.vw _ _ _ _ _ hlt ⟨_,_,rfl⟩ fun q rows hq ho=>?_,fun w' _=>hrun _ _ _ hv (by omega) w'⟩
   rw [htl] at hq; cases hq
   exact ⟨Nat.le_refl _,fun _=>.inl (by omega)⟩
  ·refine ⟨_,.vw _ _ _ _ _ hlt ⟨_,_,rfl⟩ fun q rows hq ho=>?_,fun w' _=>hrun _ _ _ hv (by omega) w'⟩
   rw [htl] at hq; cases hq
   refine ⟨Nat.le_refl _,fun _=>?_⟩
   rcases Nat.eq_zero_or_pos (j.toNat-i.toNat) with h0 | h0
   ·exact .inl h0
   ·refine .inr ⟨b,n,c,c-i.toNat,by rw [←hvk,hv],?_⟩
    have hci:¬ (c=i.toNat):=by omega
    simp [hci,Addr.add_lit]
 ·have hl:l=[]:=by simpa using r0
  rw [hl] at h
  simp at h
  refine ⟨_,.vw _ _ _ _ _ hlt ⟨_,_,rfl⟩ fun q rows hq ho=>?_,fun w' _=>hrun _ _ _ hA (by rw [hl]; simp) w'⟩
  rw [htl] at hq; cases hq
  exact ⟨Nat.le_refl _,fun _=>.inl (by omega)⟩
theorem view_ok {i j:Nat} (hj:j≤l.length):(l.drop i).take ((l.take j).drop i).length=(l.take j).drop i:=by
 rw [List.drop_take,List.length_take,List.length_drop]
 rcases Nat.lt_or_ge i j with h | h
 ·rw [show min (j-i) (l.length-i)=j-i from by omega]
 ·rw [show j-i=0 from by omega]; simp
end view
end nilc
section build
variable {P:Program} {env:Env} {st:St} {d:Option Tmp} {ty:TypeId} {pos:String} {after:Array Edge} {gd:Option (Nat×Bool)} {t t2 e:TypeId} {x y:Operand}
theorem v_buildSliceV {α:Type} {base n sz:Nat} {l0:List α} {row:α→List D} {inf:TypeInfo} {z:Value} {zs:List D} {l:List (Nat×Operand)} (ht:P.underlying t=some (.slice e)) (hi:P.info? e=some inf) (hsz:inf.size=sz) (hz:inf.zero=some z) (hzs:Nat.beq z.cells.size sz=true)
  (hbig:(Nat.ble (n*sz) 16777216 && Nat.blt 0 n && Nat.blt 0 sz)=true) (hzr:cellsD (.d (cv z))=some zs) (hl:layD (fun i=>some (i*sz,sz)) env (List.replicate n zs).flatten l=some (l0.map row).flatten)
  (hr:((l0.map row).all (fun r=>Nat.beq r.length sz) && Nat.beq (l0.map row).length n)=true) :
  OpV P base env st ⟨d,.buildSlice t n l.toArray,ty,pos,after,gd⟩ (.vc st.tails.length l0.length) (st.tok ⟨e,sz,l0.length,some (l0.map row)⟩):=by
 simp only [Bool.and_eq_true] at hbig hr
 have hzs':=Nat.eq_of_beq_eq_true hzs
 have hn:=Nat.eq_of_beq_eq_true hr.2
 have hn0:=blt_lt hbig.1.2
 have hs0:=blt_lt hbig.2
 have hbg:=Nat.le_of_ble_eq_true hbig.1.1
 intro g w tmps hinv he
 have hz':=cellsD_rep (g:=g) (w:=w) (st:=st) hzr (.d _ _ (cv_rep _ _ z))
 have hzl:zs.length=sz:=by rw [←hz'.1,hzs']
 have hzc:(List.replicate n zs).flatten.length=n*sz:=by simp [hzl]
 have hrows:∀ r∈l0.map row,r.length=sz:=by
  intro r hm
  have:=hr.1
  rw [List.all_eq_true] at this
  exact Nat.eq_of_beq_eq_true (this r hm)
 have hcells:CRep g.lim w (List.replicate n zs).flatten ((Array.range (n*sz)).map (z.cells[· % z.cells.size]!)):=by
  refine ⟨by simp [hzc],fun i c u hc hu=>?_⟩
  have hil:i < n*sz:=by rw [←hzc]; exact (List.getElem?_eq_some_iff.1 hc).1
  have hmod:i % sz < sz:=Nat.mod_lt _ hs0
  have hdiv:i / sz < n:=Nat.div_lt_of_lt_mul (by rw [Nat.mul_comm]; exact hil)
  have hdm:i=i / sz*sz+i % sz:=by rw [Nat.mul_comm]; exact (Nat.div_add_mod i sz).symm
  have hf:=flat_get (rows:=List.replicate n zs) (sz:=sz) (i:=i / sz) (j:=i % sz) (row:=zs) (c:=zs[i % sz]'(by omega)) (by intro row hm; rw [List.eq_of_mem_replicate hm]; exact hzl) (by simp [List.getElem?_replicate,hdiv]) (List.getElem?_eq_getElem (by omega))
  rw [←hdm,hc] at hf
  have hcz:zs[i % sz]?=some c:=by cases hf; exact List.getElem?_eq_getElem (by omega)
  have huz:z.cells[i % sz]?=some u:=by
   have hlt':i % sz < z.cells.size:=by omega
   have:((Array.range (n*sz)).map (z.cells[· % z.cells.size]!))[i]?=some (z.cells[i % z.cells.size]!):=by simp [hil]
   rw [this] at hu
   cases hu
   rw [hzs',getElem!_pos z.cells (i % sz) hlt',Array.getElem?_eq_getElem hlt']
  exact hz'.2 _ c u hcz huz
 obtain ⟨us,h1,h2,h3⟩:=layD_rep he l _ _ _ hl hcells
 have hfl:=flat_len hrows
 have hus:us.size=n*sz:=by rw [h2.1,hfl,hn]
 have hnm:n≤maxLen:=by
  have:n*1≤n*sz:=Nat.mul_le_mul_left n hs0
  simp only [maxLen]; omega
 have hown:(w.alloc (.cells us e)).ownsRow base e sz (.slice (some ⟨w.heap.size,0,none⟩) n n) n us.toList :=
  ⟨by simp [hus],.inr ⟨w.heap.size,n,us,rfl,hinv.base,heap_alloc_new w _,Nat.le_refl _,hnm,hus,by rw [List.take_of_length_le (by simp [hus])]⟩⟩
 obtain ⟨g',k1,_,_,k2,k3⟩:=hinv.newTail ⟨e,sz,n,some (l0.map row)⟩ hown (.inr ⟨rfl,(Below.refl _ w).alloc (Nat.le_refl _) _⟩) (fun rows hh=>by
  cases hh
  exact ⟨hn,hrows,fun i c u hc hu=>h2.2 i c u hc (by simpa using hu)⟩)
 have hl0:l0.length=n:=by simpa using hn
 rw [hl0]
 refine ⟨.slice (some ⟨w.heap.size,0,none⟩) n n,g',_,?_,.vc _ _ _ (by simp [St.tok]) ⟨_,_,_,rfl⟩ fun y rows hy ho=>?_,k2,k3⟩
 ·subst hsz
  have hbig':¬ (16777216 < n*inf.size):=by omega
  have hne':¬ n*inf.size=0:=by
   intro h0
   rcases Nat.mul_eq_zero.1 h0 with h | h <;> omega
  have h1':Instr.fill (fun i=>some (i*inf.size,inf.size)) (Array.map (fun x=>z.cells[x % z.cells.size]!) (Array.range (n*inf.size))) (List.map (fun p=>(p.1,Act.eval ⟨tmps,[]⟩ p.2)) l)=some us:=h1
  simp [execOp,Instr.buildSlice,run_underlying ht,size_of hi,hbig',hne',zero_run hi hz,h1',newRow]
 ·have:y=⟨e,sz,n,some (l0.map row)⟩:=by simpa [St.tok,eq_comm] using hy
  subst this
  exact ⟨Nat.le_refl _,fun _=>.inl k1.symm⟩
end build
section move
variable {P:Program} {f:Ctx} {N:Nat} {S:Start} {Q:EV→St→Prop} {k todo:List Item} {env:Env} {st:St}
theorem ARun.move {i tk e sz n:Nat} {rows:List (List D)} (hl:lookup i env=some (.vc tk n)) (htl:st.tails[tk]?=some ⟨e,sz,n,some rows⟩)
  (h:ARun P f N S Q todo ((i,.vc st.tails.length n) :: env) (st.renew tk ⟨e,sz,n,some rows⟩ ⟨e,sz,n,some rows⟩)):ARun P f N S Q todo env st:=by
 intro g w tmps hinv hh he hN
 obtain ⟨xs,o1,o2,o3⟩:=hinv.own tk e sz n rows htl
 obtain ⟨g',k1,k2,k3⟩:=hinv.renew (x':=⟨e,sz,n,some rows⟩) htl rfl rfl o1 (.inl ⟨rfl,rfl,⟨rfl,rfl,rfl,Nat.le_refl _,fun _ _ _=>rfl⟩⟩) o3
 refine h g' w tmps k2 (hh.step k3) (fun j y hy=>?_) hN
 unfold lookup at hy
 have he':=he.mono k3.sevo
 cases hb:Nat.beq j i with
 | true =>
  rw [hb] at hy
  cases hy
  have:=Nat.eq_of_beq_eq_true hb
  subst this
  obtain ⟨v,m1,m2⟩:=he j _ hl
  refine ⟨v,m1,?_⟩
  have hf:∃ A m c,v=.slice A m c:=by cases m2 with | vc _ _ _ _ hf _=>exact hf
  refine .vc _ _ _ (by simp [St.renew,St.tok,St.setTail]) hf fun y rows2 hy ho=>?_
  rw [renew_new] at hy
  cases hy
  refine ⟨Nat.le_refl _,fun _=>?_⟩
  rcases vc_or hinv htl m2 with hv | ⟨n0,r0,A,hv⟩
  ·exact .inl (by rw [k1]; exact hv)
  ·exact .inr ⟨n0,A,hv⟩
 | false =>
  rw [hb] at hy
  exact he' j y hy
def renEnv (ρ τ:Nat→Nat) (env:Env):Env:=env.map fun p=>(p.1,p.2.ren ρ τ)
theorem lookup_ren {ρ τ:Nat→Nat}:∀ (env:Env) (i:Nat) (y:EV),lookup i env=some y→lookup i (renEnv ρ τ env)=some (y.ren ρ τ)
 | [],i,y,h=>by simp [lookup] at h
 | (j,x) :: env,i,y,h=>by
  unfold lookup at h
  unfold renEnv
  rw [List.map_cons]
  unfold lookup
  cases hb:Nat.beq i j with
  | true=>rw [hb] at h; cases h; rfl
  | false =>
   rw [hb] at h
   exact lookup_ren env i y h
theorem ARun.reloc (rs ts:List Nat) {s0 st':St} {env':Env} (hS:S.st=s0) (hp:partB rs ts st' st=true) (h5:st'.objs.all (okObj st'.objs.length st'.tails.length)=true) (hok:okEnv st'.objs.length st'.tails.length env'=true)
  (hl:(Nat.ble s0.objs.length rs.length && Nat.ble s0.tails.length ts.length)=true) (hr0:rs.take s0.objs.length=List.range s0.objs.length) (ht0:ts.take s0.tails.length=List.range s0.tails.length)
  (ho:rs.map (fun r=>st.objs[r]?)=st'.objs.map (fun y=>some (y.ren (renF rs st.objs.length) (renF ts st.tails.length)))) (ht:ts.map (fun r=>st.tails[r]?)=st'.tails.map some)
  (hE:SubEnv env (renEnv (renF rs st.objs.length) (renF ts st.tails.length) env')) (h:ARun P f N S Q todo env' st'):ARun P f N S Q todo env st:=by
 obtain ⟨p,e1',e2',l1,l2⟩:=Part.of hp h5 ho ht
 subst hS
 simp only [Bool.and_eq_true] at hl
 have hl1:=Nat.le_of_ble_eq_true hl.1
 have hl2:=Nat.le_of_ble_eq_true hl.2
 have same:∀ {l:List Nat} {n N:Nat},l.take n=List.range n→n≤l.length→∀ i,i < n→renF l N i=i:=fun {l n N} hl hn i hi=>by
  have e:(l.take n)[i]?=some i:=by rw [hl,List.getElem?_range hi]
  rw [List.getElem?_take,if_pos hi] at e
  simp [renF,e]
 have so:=fun i hi=>same (N:=st.objs.length) hr0 hl1 i hi
 have stl:=fun i hi=>same (N:=st.tails.length) ht0 hl2 i hi
 have hgetT:∀ {i:Nat},i < st'.tails.length→st'.tails[i]?=st.tails[renF ts st.tails.length i]?:=fun {i} hi=>by
  rw [p.tails i _ (List.getElem?_eq_getElem hi),List.getElem?_eq_getElem hi]
 intro g w tmps hinv hh he hN
 refine h (g.sub _ _) w tmps (hinv.part p) ⟨⟨hh.sevo.evo,fun o ho'=>?_,(by show S.st.objs.length≤_; omega),fun t e sz n hx=>?_,(by show S.st.tails.length≤_; omega),fun t x' rows' hlt hx' ho'=>?_⟩,hh.below,hh.lim,hh.frame,fun b hb hw=>hh.fresh b hb (p.owned hw)⟩ (fun i y hy=>?_) hN
 ·show g.ob (renF rs st.objs.length o)=S.g.ob o
  rw [so o ho']
  exact hh.sevo.ob o ho'
 ·have hlt:t < S.st.tails.length:=(List.getElem?_eq_some_iff.1 hx).1
  obtain ⟨n',a1,a2,a3⟩:=hh.sevo.tails t e sz n hx
  refine ⟨n',?_,a2,fun e'=>?_⟩
  ·rw [hgetT (by omega),stl t hlt]; exact a1
  ·show g.tk (renF ts st.tails.length t)=S.g.tk t
   rw [stl t hlt]
   exact a3 e'
 ·rw [hgetT (by have:=(List.getElem?_eq_some_iff.1 hx').1; exact this),stl t hlt] at hx'
  obtain ⟨y,rows,a1,a2,a3,a4,a5⟩:=hh.sevo.own t x' rows' hlt hx' ho'
  refine ⟨y,rows,a1,a2,a3,a4,fun e'=>?_⟩
  show g.tk (renF ts st.tails.length t)=S.g.tk t
  rw [stl t hlt]
  exact a5 e'
 ·obtain ⟨v,m1,m2⟩:=(he.sub hE) i _ (lookup_ren env' i y hy)
  exact ⟨v,m1,m2.down p.tails (okEnv_get hok hy)⟩
theorem OpC.callF {f':FuncId} {base:Nat} {l:List Operand} {ts:Array TypeId} {es0 es:List EV} {x r:EV} {s0 s1 st':St} {d:Option Tmp} {ty:TypeId} {pos:String} {after:Array Edge} (hen:Enters P f') (rs tk:List Nat)
  (h1:evos env l=some es) (hc:ACallS P f' es0 s0 (QE r s1)) (hle:EVlesE es (es0.map (EV.ren (renF rs st.objs.length) (renF tk st.tails.length))))
  (hp:(partB rs tk s0 st && es0.all (okEV s0.objs.length s0.tails.length))=true) (h5:s0.objs.all (okObj s0.objs.length s0.tails.length)=true)
  (ho:rs.map (fun r=>st.objs[r]?)=s0.objs.map (fun x=>some (x.ren (renF rs st.objs.length) (renF tk st.tails.length)))) (ht:tk.map (fun r=>st.tails[r]?)=s0.tails.map some)
  (hx:r.ren (renF rs st.objs.length) (renF tk st.tails.length)=x) (hs:mergeSt st s1 rs tk=st') :
  OpC P base env st ⟨d,.call ⟨.value (.func f'),l.toArray,ts⟩,ty,pos,after,none⟩ x st':=by
 simp only [Bool.and_eq_true] at hp
 have hc':=(hc.frame rs tk hp.1 h5 hp.2 ho ht).le hle
 intro g w tmps hinv he
 obtain ⟨k1,k2⟩:=evos_rep he l es h1
 refine ⟨f',_,callS_run hen w rfl,(hc' g w base _ hinv ⟨by simp [k1],fun j x v hx hv=>k2 j x v hx (by simpa using hv)⟩).mono ?_⟩
 rintro e w' ⟨v,r',st2,g',rfl,⟨hle2,rfl⟩,hr,hinv',hh'⟩
 rw [hx] at hle2
 rw [hs] at hinv' hr hh'
 exact ⟨v,g',rfl,hle2 _ _ _ _ hr,hinv',hh'.toStep⟩
end move
section fieldB
variable {P:Program} {env:Env} {st:St} {d:Option Tmp} {ty:TypeId} {pos:String} {after:Array Edge} {gd:Option (Nat×Bool)} {x:Operand}
theorem q_fieldB {s:TypeId} {f off n:Nat} {fs:Array Field} {fl:Field} {cs ds:List D} (hu:P.underlying s=some (.struct fs)) (hf:fs[f]?=some fl) (h1:(P.underlying fl.type).map oneB=some false) (hs:(P.info? fl.type).map (·.size)=some n) (ho:fl.offset=off)
  (hx:evo env x=some (.d (.agg cs))) (hn:Nat.ble (off+n) cs.length=true) (hd:(cs.drop off).take n=ds):OpQ P env st ⟨d,.field s x f,ty,pos,after,gd⟩ (.d (.agg ds)):=hd▸q_fieldA hu hf h1 hs ho hx hn
end fieldB
section ld
variable {P:Program} {env:Env} {st:St} {d:Option Tmp} {ty:TypeId} {pos:String} {after:Array Edge} {gd:Option (Nat×Bool)} {t:TypeId} {x:Operand}
theorem q_loadOE {o off n:Nat} {T:TypeId} {cs ds:List EV} (h1:(P.underlying t).map oneB=some false) (hs:(P.info? t).map (·.size)=some n) (hx:evo env x=some (.ref o off)) (ho:st.objs[o]?=some (.row T cs))
  (hn:off+n≤cs.length) (hds:(cs.drop off).take n=ds):OpQ P env st ⟨d,.load t x,ty,pos,after,gd⟩ (.agg ds):=fun g base w tmps hinv he=>by
 subst hds
 have h:=evo_rep he hx
 generalize hv:Act.eval ⟨tmps,[]⟩ x=v at h
 cases h with
 | ref _ _ hlt =>
  obtain ⟨_,_,vs,hb,hsz,hreps⟩:=hinv.row o T cs ho
  obtain ⟨hl,hvs⟩:=own_vals (g:=g) (w:=w) (n:=n) (off:=off) hb hsz hn
  refine ⟨.agg ((vs.toList.drop off).take n).toArray,.agg _ _ ?_ ?_ ?_,fun w' hb'=>?_⟩
  ·simp at hl ⊢
   omega
  ·intro i u hu
   have hu':=hvs i u (by simpa using hu)
   have hlt':off+i < cs.length:=by rw [←hsz]; exact (Array.getElem?_eq_some_iff.1 hu'.2).1
   exact (hreps (off+i) cs[off+i] u (List.getElem?_eq_getElem hlt') hu'.2).2
  ·intro i c u hci hu
   have hu':=hvs i u (by simpa using hu)
   rw [List.getElem?_take] at hci
   split at hci
   ·rw [List.getElem?_drop] at hci
    exact (hreps (off+i) _ u hci hu'.2).1
   ·cases hci
  ·obtain ⟨inf,hinf,hsz'⟩:∃ inf,P.info? t=some inf∧inf.size=n:=by
    cases hh:P.info? t with
    | none=>rw [hh] at hs; cases hs
    | some inf=>rw [hh] at hs; exact ⟨inf,rfl,by simpa using hs⟩
   have hload:=loadCells_run (P:=P) (w:=w') (b:=g.ob o) (off:=off) hl (fun j u hu=>by
    have h3:=(hvs j u hu).1
    exact (hb'.cell (World.block_lt_of_cell? w _ h3)).trans h3)
   simp [execOp,hv,Instr.loadAt,Instr.sureAddr,loadVar,isAgg_yes h1,sizeOf,typeInfo,hinf,hsz',hload]
end ld
theorem step_append_r {P:Program} {ops:Array Oper} {o:Oper} {a:Act} {w:World} {K:Act→World→Prop} {Q:Exit→Act→World→Prop} {E:Prop}
  (hg:o.guard=none) (d x:Operand) (t:TypeId) (hop:o.op=Op.call { callee:=Callee.builtin Builtin.append,args:=#[d,x],argTypes:=#[t,t] })
  (v u:Value) (hd:a.eval d=v) (hx:a.eval x=u) {v':Value} {w':World} (hr:(Builtin.append_ #[t,t] o.type #[v,u]).run P w=.ok v' w') (hK:K (a.put o.dst v') w') :
  if Region.wanted o (yielded ops a.tmps)=true then Oper.wp P o a w K Q else E:=by
 rw [if_pos (by simp [Region.wanted,hg])]
 unfold Oper.wp execOp
 simp only [hop,resolve,invoke,builtin,Sem.run_bind,Sem.run_pure,Result.andThen_ok,List.map_toArray,List.map_cons,List.map_nil,hd,hx,hr]
 exact hK
def EVsLe:List EV→List EV→Prop
 | [],[]=>True
 | x :: xs,y :: ys=>EVle x y∧EVsLe xs ys
 | _,_=>False
theorem EVsLe.get:∀ {xs ys:List EV},EVsLe xs ys→xs.length=ys.length∧∀ (i:Nat) y,ys[i]?=some y→∃ x,xs[i]?=some x∧EVle x y
 | [],[],_=>⟨rfl,fun i y h=>by simp at h⟩
 | x :: xs,y :: ys,h=>by
  obtain ⟨h1,h2⟩:=EVsLe.get h.2
  refine ⟨by simp [h1],fun i z hz=>?_⟩
  cases i with
  | zero=>simp at hz; subst hz; exact ⟨x,rfl,h.1⟩
  | succ i=>simpa using h2 i z (by simpa using hz)
 | [],_ :: _,h=>h.elim
 | _ :: _,[],h=>h.elim
theorem EVle.aggE {xs ys:List EV} (h:EVsLe xs ys):EVle (.agg xs) (.agg ys):=by
 intro g w st v hv
 obtain ⟨h1,h2⟩:=h.get
 cases hv with
 | agg _ vs hs h1x hc =>
  refine .agg _ vs (by rw [hs,h1]) h1x fun i y u hy hu=>?_
  obtain ⟨x,hx,hle⟩:=h2 i y hy
  exact hle _ _ _ _ (hc i x u hx hu)
end Go.Abs
namespace Go.Proofs.YtpnegjippkneoaaGreatDoor
open Go.RowKit Go.Abs
theorem hMix:Tryz.prog.follows .mixedOrders=true:=by kernel_rfl
theorem sz_3:(Tryz.prog.info? 3).map (·.size)=some 1:=by kernel_rfl
theorem in_3:∃ i,Tryz.prog.info? 3=some i∧i.zero=some (.int .i64 0)∧i.size=1∧i.bytes=8:=info_parts (by kernel_rfl)
theorem in_4:∃ i,Tryz.prog.info? 4=some i∧i.zero=some (.bool false)∧i.size=1∧i.bytes=1:=info_parts (by kernel_rfl)
theorem in_9:∃ i,Tryz.prog.info? 9=some i∧i.zero=some (.string ⟨#[]⟩)∧i.size=1∧i.bytes=16:=info_parts (by kernel_rfl)
theorem sz_26:(Tryz.prog.info? 26).map (·.size)=some 3:=by kernel_rfl
theorem in_26:∃ i,Tryz.prog.info? 26=some i∧i.zero=some (.agg #[.slice none 0 0,.slice none 0 0,.slice none 0 0])∧i.size=3∧i.bytes=72:=info_parts (by kernel_rfl)
theorem in_30:∃ i,Tryz.prog.info? 30=some i∧i.zero=some (.agg #[.int .i64 0,.int .i64 0,.int .i64 0,.int .i64 0])∧i.size=4∧i.bytes=32:=info_parts (by kernel_rfl)
theorem sz_34:(Tryz.prog.info? 34).map (·.size)=some 4:=by kernel_rfl
theorem in_34:∃ i,Tryz.prog.info? 34=some i∧i.zero=some (.agg #[.int .i64 0,.int .i64 0,.int .i64 0,.slice none 0 0])∧i.size=4∧i.bytes=48:=info_parts (by kernel_rfl)
theorem in_36:∃ i,Tryz.prog.info? 36=some i∧i.zero=some (.agg #[.int .i64 0,.int .i64 0])∧i.size=2∧i.bytes=16:=info_parts (by kernel_rfl)
theorem in_47:∃ i,Tryz.prog.info? 47=some i∧i.zero=some (.agg #[.int .i64 0,.int .i64 0,.int .i64 0,.int .i64 0])∧i.size=4∧i.bytes=32:=info_parts (by kernel_rfl)
theorem sz_49:(Tryz.prog.info? 49).map (·.size)=some 12:=by kernel_rfl
theorem in_49:∃ i,Tryz.prog.info? 49=some i∧i.zero=some (.agg #[.int .i64 0,.int .i64 0,.int .i64 0,.string ⟨#[]⟩,.string ⟨#[]⟩,.int .i64 0,.int .i64 0,.int .i64 0,.int .i64 0,.bool false,.int .i64 0,.bool false])∧i.size=12∧i.bytes=112:=info_parts (by kernel_rfl)
theorem sz_50:(Tryz.prog.info? 50).map (·.size)=some 5:=by kernel_rfl
theorem sz_65:(Tryz.prog.info? 65).map (·.size)=some 3:=by kernel_rfl
theorem in_65:∃ i,Tryz.prog.info? 65=some i∧i.zero=some (.agg #[.int .i64 0,.int .i64 0,.int .i64 0])∧i.size=3∧i.bytes=24:=info_parts (by kernel_rfl)
theorem in_84:∃ i,Tryz.prog.info? 84=some i∧i.zero=some (.agg #[.int .i64 0,.int .i64 0,.int .i64 0,.int .i64 0,.int .i64 0,.int .i64 0])∧i.size=6∧i.bytes=48:=info_parts (by kernel_rfl)
theorem in_90:∃ i,Tryz.prog.info? 90=some i∧i.zero=some (.agg #[.int .i64 0,.int .i64 0])∧i.size=2∧i.bytes=16:=info_parts (by kernel_rfl)
theorem in_114:∃ i,Tryz.prog.info? 114=some i∧i.zero=some (.agg #[.int .i64 0,.int .i64 0])∧i.size=2∧i.bytes=16:=info_parts (by kernel_rfl)
theorem in_151:∃ i,Tryz.prog.info? 151=some i∧i.zero=some (.agg #[.int .i64 0,.int .i64 0,.int .i64 0,.string ⟨#[]⟩,.string ⟨#[]⟩,.int .i64 0,.bool false])∧i.size=7∧i.bytes=72:=info_parts (by kernel_rfl)
theorem fo_26_1:fieldOff Tryz.prog 26 1=some 1:=by kernel_rfl
theorem fo_34_3:fieldOff Tryz.prog 34 3=some 3:=by kernel_rfl
theorem one_3:(Tryz.prog.underlying 3).map oneB=some true:=by kernel_rfl
theorem one_4:(Tryz.prog.underlying 4).map oneB=some true:=by kernel_rfl
theorem one_23:(Tryz.prog.underlying 23).map oneB=some true:=by kernel_rfl
theorem one_26:(Tryz.prog.underlying 26).map oneB=some false:=by kernel_rfl
theorem one_34:(Tryz.prog.underlying 34).map oneB=some false:=by kernel_rfl
theorem one_49:(Tryz.prog.underlying 49).map oneB=some false:=by kernel_rfl
theorem one_50:(Tryz.prog.underlying 50).map oneB=some false:=by kernel_rfl
theorem one_65:(Tryz.prog.underlying 65).map oneB=some false:=by kernel_rfl
theorem pl_26:placesOf Tryz.prog 26=some [(0,1),(1,1),(2,1)]:=by kernel_rfl
theorem pl_30:placesOf Tryz.prog 30=some [(0,1),(1,1),(2,1),(3,1)]:=by kernel_rfl
theorem pl_34:placesOf Tryz.prog 34=some [(0,1),(1,1),(2,1),(3,1)]:=by kernel_rfl
theorem pl_36:placesOf Tryz.prog 36=some [(0,1),(1,1)]:=by kernel_rfl
theorem pl_47:placesOf Tryz.prog 47=some [(0,1),(1,1),(2,1),(3,1)]:=by kernel_rfl
theorem pl_49:placesOf Tryz.prog 49=some [(0,1),(1,1),(2,1),(3,1),(4,1),(5,1),(6,1),(7,1),(8,1),(9,1),(10,1),(11,1)]:=by kernel_rfl
theorem pl_65:placesOf Tryz.prog 65=some [(0,1),(1,1),(2,1)]:=by kernel_rfl
theorem pl_84:placesOf Tryz.prog 84=some [(0,1),(1,5)]:=by kernel_rfl
theorem pl_90:placesOf Tryz.prog 90=some [(0,1),(1,1)]:=by kernel_rfl
theorem pl_114:placesOf Tryz.prog 114=some [(0,1),(1,1)]:=by kernel_rfl
theorem pl_151:placesOf Tryz.prog 151=some [(0,2),(2,1),(3,1),(4,1),(5,1),(6,1)]:=by kernel_rfl
theorem zr_26:(Tryz.prog.info? 26).bind (·.zero)=some (.agg #[.slice none 0 0,.slice none 0 0,.slice none 0 0]):=by kernel_rfl
theorem zr_30:(Tryz.prog.info? 30).bind (·.zero)=some (.agg #[.int .i64 0,.int .i64 0,.int .i64 0,.int .i64 0]):=by kernel_rfl
theorem zr_34:(Tryz.prog.info? 34).bind (·.zero)=some (.agg #[.int .i64 0,.int .i64 0,.int .i64 0,.slice none 0 0]):=by kernel_rfl
theorem zr_36:(Tryz.prog.info? 36).bind (·.zero)=some (.agg #[.int .i64 0,.int .i64 0]):=by kernel_rfl
theorem zr_38:(Tryz.prog.info? 38).bind (·.zero)=some (.slice none 0 0):=by kernel_rfl
theorem zr_47:(Tryz.prog.info? 47).bind (·.zero)=some (.agg #[.int .i64 0,.int .i64 0,.int .i64 0,.int .i64 0]):=by kernel_rfl
theorem zr_49:(Tryz.prog.info? 49).bind (·.zero)=some (.agg #[.int .i64 0,.int .i64 0,.int .i64 0,.string ⟨#[]⟩,.string ⟨#[]⟩,.int .i64 0,.int .i64 0,.int .i64 0,.int .i64 0,.bool false,.int .i64 0,.bool false]):=by kernel_rfl
theorem zr_50:(Tryz.prog.info? 50).bind (·.zero)=some (.agg #[.int .i64 0,.int .i64 0,.int .i64 0,.int .i64 0,.int .i64 0]):=by kernel_rfl
theorem zr_57:(Tryz.prog.info? 57).bind (·.zero)=some (.agg #[.int .i64 0,.int .i64 0,.int .i64 0,.slice none 0 0,.int .i64 0,.int .i64 0,.bool false,.int .i64 0]):=by kernel_rfl
theorem zr_65:(Tryz.prog.info? 65).bind (·.zero)=some (.agg #[.int .i64 0,.int .i64 0,.int .i64 0]):=by kernel_rfl
theorem zr_84:(Tryz.prog.info? 84).bind (·.zero)=some (.agg #[.int .i64 0,.int .i64 0,.int .i64 0,.int .i64 0,.int .i64 0,.int .i64 0]):=by kernel_rfl
theorem zr_90:(Tryz.prog.info? 90).bind (·.zero)=some (.agg #[.int .i64 0,.int .i64 0]):=by kernel_rfl
theorem zr_114:(Tryz.prog.info? 114).bind (·.zero)=some (.agg #[.int .i64 0,.int .i64 0]):=by kernel_rfl
theorem zr_151:(Tryz.prog.info? 151).bind (·.zero)=some (.agg #[.int .i64 0,.int .i64 0,.int .i64 0,.string ⟨#[]⟩,.string ⟨#[]⟩,.int .i64 0,.bool false]):=by kernel_rfl
theorem fk_30:flatKinds Tryz.prog 30=some [.i .i64,.i .i64,.i .i64,.i .i64]:=by kernel_rfl
theorem fk_47:flatKinds Tryz.prog 47=some [.i .i64,.i .i64,.i .i64,.i .i64]:=by kernel_rfl
theorem fk_49:flatKinds Tryz.prog 49=some [.i .i64,.i .i64,.i .i64,.s,.s,.i .i64,.i .i64,.i .i64,.i .i64,.b,.i .i64,.b]:=by kernel_rfl
theorem fk_90:flatKinds Tryz.prog 90=some [.i .i64,.i .i64]:=by kernel_rfl
theorem fk_114:flatKinds Tryz.prog 114=some [.i .i64,.i .i64]:=by kernel_rfl
theorem fg_50:flatG Tryz.prog 50=some [.i .i64,.i .i64,.i .i64,.i .i64,.i .i64]:=by kernel_rfl
theorem fg_151:flatG Tryz.prog 151=some [.i .i64,.i .i64,.i .i64,.s,.s,.i .i64,.b]:=by kernel_rfl
def ens:List Nat:=[15,92,138,123,124,93,94,95,62,63,64,65,68,67,66,122,121,52,90,96,97,98,69,54,70,73,41,109,77,118,117,87,53,119,86,81,112,84,113,114,75,76,74,35,13,36,37,38,39,42,55,26,28,27,25,16,11,34,56,115,116,79,88,57,91,61,59,60,58,32,31,30,29,33,9,10,12,14,78,80,43,45,22,44,47,46,48,20,19,18,17,49,21,83,82,85,50,120,89,51,24,23]
theorem en (i:Nat) {f:Nat} (h:ens[i]?=some f):Go.Abs.Enters Tryz.prog f:=Go.Abs.enters_of (by kernel_rfl) h
def FTc:FT:=⟨[3,4,9,22,23,24,38,39],[(26,3),(30,4),(34,4),(36,2),(47,4),(49,12),(50,5),(57,8),(65,3),(84,6),(90,2),(114,2),(151,7)],[(3,1),(4,1),(22,1),(23,1),(24,1),(26,3),(30,4),(34,4),(36,2),(38,1),(47,4),(49,12),(50,5),(57,8),(65,3),(84,6),(90,2),(114,2),(151,7)],[(26,[(0,0),(1,1),(2,2)]),(30,[(0,0),(1,1),(2,2),(3,3)]),(34,[(0,0),(1,1),(2,2),(3,3)]),(36,[(0,0),(1,1)]),(47,[(1,1),(2,2),(3,3)]),(49,[(0,0),(1,1),(2,2),(3,3),(4,4),(5,5),(6,6),(7,7),(8,8),(9,9),(10,10),(11,11)]),(57,[(0,0),(1,4),(2,6),(3,7)]),(65,[(0,0),(1,1),(2,2)]),(84,[(1,1)])],[(26,[nilD,nilD,nilD]),(30,[cI 0,cI 0,cI 0,cI 0]),(34,[cI 0,cI 0,cI 0,nilD]),(36,[cI 0,cI 0]),(38,[nilD]),(47,[cI 0,cI 0,cI 0,cI 0]),(49,[cI 0,cI 0,cI 0,cS ([]:List UInt8),cS ([]:List UInt8),cI 0,cI 0,cI 0,cI 0,cB false,cI 0,cB false]),(50,[cI 0,cI 0,cI 0,cI 0,cI 0]),(57,[cI 0,cI 0,cI 0,nilD,cI 0,cI 0,cB false,cI 0]),(65,[cI 0,cI 0,cI 0]),(84,[cI 0,cI 0,cI 0,cI 0,cI 0,cI 0]),(90,[cI 0,cI 0]),(114,[cI 0,cI 0]),(151,[cI 0,cI 0,cI 0,cS ([]:List UInt8),cS ([]:List UInt8),cI 0,cB false])]⟩
theorem ftok:FTc.Ok Tryz.prog:=FT.ok_of (by kernel_rfl) ⟨⟨_,zr_26,rfl⟩,⟨_,zr_30,rfl⟩,⟨_,zr_34,rfl⟩,⟨_,zr_36,rfl⟩,⟨_,zr_38,rfl⟩,⟨_,zr_47,rfl⟩,⟨_,zr_49,rfl⟩,⟨_,zr_50,rfl⟩,⟨_,zr_57,rfl⟩,⟨_,zr_65,rfl⟩,⟨_,zr_84,rfl⟩,⟨_,zr_90,rfl⟩,⟨_,zr_114,rfl⟩,⟨_,zr_151,rfl⟩,trivial⟩
theorem s22:SlT Tryz.prog 22 65 3:=.of Tryz.underlying22 in_65 rfl rfl
theorem s23:SlT Tryz.prog 23 49 12:=.of Tryz.underlying23 in_49 rfl rfl
theorem s24:SlT Tryz.prog 24 30 4:=.of Tryz.underlying24 in_30 rfl rfl
theorem s38:SlT Tryz.prog 38 47 4:=.of Tryz.underlying38 in_47 rfl rfl
theorem s69:SlT Tryz.prog 69 3 1:=.of Tryz.underlying69 in_3 rfl rfl
theorem s127:SlT Tryz.prog 127 9 1:=.of Tryz.underlying127 in_9 rfl rfl
end Go.Proofs.YtpnegjippkneoaaGreatDoor
namespace Go.Abs
open Go.Proofs Go.Proofs.YtpnegjippkneoaaGreatDoor
section
variable {f:Ctx} {N p p':Nat} {S:Start} {Q:EV→St→Prop} {k k':List Item} {l o l' o':List Oper} {env env':Env} {st st':St} {ps:List Prop}
theorem ARun.A (n:Nat) (hs:List Hint) (h:goF Tryz.prog S.base FTc N n (.run k) env st hs=some ⟨.run k',env',st',ps⟩) (hp:AllP ps) (hk:ARun Tryz.prog f N S Q k' env' st'):ARun Tryz.prog f N S Q k env st:=goF_sound ftok hMix h hp hk
theorem ARun.B (n:Nat) (hs:List Hint) (h:goF Tryz.prog S.base FTc N n (.run k) env st hs=some ⟨.ops l' o' k',env',st',ps⟩) (hp:AllP ps) (hk:AOps Tryz.prog f N S Q l' o' k' env' st'):ARun Tryz.prog f N S Q k env st:=goF_sound ftok hMix h hp hk
theorem ARun.C (n:Nat) (hs:List Hint) (h:goF Tryz.prog S.base FTc N n (.run k) env st hs=some ⟨.draw l' p' o' k',env',st',ps⟩) (hp:AllP ps) (hk:DOps Tryz.prog f N S Q l' p' o' k' env' st'):ARun Tryz.prog f N S Q k env st:=goF_sound ftok hMix h hp hk
theorem AOps.A (n:Nat) (hs:List Hint) (h:goF Tryz.prog S.base FTc N n (.ops l o k) env st hs=some ⟨.run k',env',st',ps⟩) (hp:AllP ps) (hk:ARun Tryz.prog f N S Q k' env' st'):AOps Tryz.prog f N S Q l o k env st:=goF_sound ftok hMix h hp hk
theorem AOps.B (n:Nat) (hs:List Hint) (h:goF Tryz.prog S.base FTc N n (.ops l o k) env st hs=some ⟨.ops l' o' k',env',st',ps⟩) (hp:AllP ps) (hk:AOps Tryz.prog f N S Q l' o' k' env' st'):AOps Tryz.prog f N S Q l o k env st:=goF_sound ftok hMix h hp hk
theorem DOps.A (n:Nat) (hs:List Hint) (h:goF Tryz.prog S.base FTc N n (.draw l p o k) env st hs=some ⟨.run k',env',st',ps⟩) (hp:AllP ps) (hk:ARun Tryz.prog f N S Q k' env' st'):DOps Tryz.prog f N S Q l p o k env st:=goF_sound ftok hMix h hp hk
theorem ARun.R {f:FuncId} {fn:Func} {xs:List ResultVar} {es:List EV} (hf:Tryz.prog.funcs[f]?=some fn) (hr:fn.results=xs.toArray) (h:resV FTc env st xs=some es) (hQ:Q (retEV es) st):ARun Tryz.prog (.of f) N S Q (.code .ret :: k) env st:=.rc ftok hf hr h hQ
end
end Go.Abs
namespace Go.Proofs.YtpnegjippkneoaaGreatDoor
end Go.Proofs.YtpnegjippkneoaaGreatDoor
