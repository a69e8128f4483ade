/- Our own texts KB KC KD KE KF KG KH C1 C2 C3 of this seat in one. -/
import Derived.Test.YtajciinoiacpmaaDoorYU2
import Derived.Deep.Slices
import Derived.ChangeArms
import Derived.ProofKit
import Derived.Below
import Derived.ChangeSame
set_option linter.unusedSimpArgs false
set_option linter.unusedVariables false
set_option linter.unusedSectionVars false
namespace Go.Proofs.YtajciinoiacpmaaDoor
open Go.RowKit Go.Abs
theorem p_rwhole (l:List Record) (hs:∀ r,r∈l→Sm r) (hl:l.length≤1000):f_r15_whole l=some (optR (wholeF l)):=by
 cases l with
 | nil =>
  unfold f_r15_whole
  refine loop_rec0 ([]:List Record) (fun s:Int×Int×Int×Int×List UInt8×List UInt8×Int×Int×Int×Bool=>s.1) (fun s t=>some (optR (wholeF []))) (fun s t=>s=(0,0,0,0,([]:List UInt8),([]:List UInt8),0,0,0,false)∧t=[]) (by simp) ?_ ?_ rfl ⟨rfl,rfl⟩
  ·rintro s ⟨h,_⟩ hi
   rw [h]
   exact ⟨_,rfl,rfl⟩
  ·rintro s a t ⟨_,h⟩
   cases h
 | cons q l =>
  rw [wholeF_whW]
  unfold f_r15_whole
  have hq:=hs q (List.mem_cons_self ..)
  have e0:nth (q :: l) (Int.toNat 0)=q:=rfl
  have hpos:(0:Int) < ((q :: l).length:Int):=by simp only [List.length_cons]; omega
  refine loop_rec0 (q :: l) (fun s:Int×Int×Int×Int×List UInt8×List UInt8×Int×Int×Int×Bool=>s.1) (fun s t=>some (optR (whW q s.2.2.2.2.2.2.2.1 t)))
   (fun s t=>(0≤s.2.2.2.2.2.2.2.1∧s.2.2.2.2.2.2.2.1≤1099511627776)∧(∀ r,r∈t→Sm r)∧(s.1=0∨(errF (whR q s.2.2.2.2.2.2.2.1)=0∧s=(s.1,q.source,q.serial,q.kind,q.a,q.b,q.start,s.2.2.2.2.2.2.2.1,q.trunk,q.inbound)))) (by omega) ?_ ?_ rfl ⟨by decide,hs,.inl rfl⟩
  ·rintro ⟨i,c0,c1,c2,c3,c4,c5,u,c10,c11⟩ ⟨h0,h1,h2⟩ hi
   simp only at h0 h1 h2 hi ⊢
   rcases h2 with h2 | ⟨h2,h3⟩
   ·omega
   ·injection h3 with _ h3
    injection h3 with e0 h3
    injection h3 with e1 h3
    injection h3 with e2 h3
    injection h3 with e3 h3
    injection h3 with e4 h3
    injection h3 with e5 h3
    injection h3 with _ h3
    injection h3 with e10 e11
    subst e0 e1 e2 e3 e4 e5 e10 e11
    unfold f_r15_whole_l1 f_r15_whole_j1
    rw [if_neg (by simp only [decide_eq_true_eq]; omega),decide_eq_true hpos]
    refine ⟨_,rfl,?_⟩
    simp only [whW,List.all_nil,sumU,true_and,Int.add_zero]
    rw [if_pos h2]
    rfl
  ·rintro ⟨i,c0,c1,c2,c3,c4,c5,u,c10,c11⟩ r t ⟨h0,h1,h2⟩ hi0 hi1 hn hlen
   simp only at h0 h1 h2 hi0 hi1 hn hlen ⊢
   clear h2
   unfold f_r15_whole_l1
   have hr:=h1 r (List.mem_cons_self ..)
   rw [if_pos (by simpa using hi1),ck_pos ⟨hi0,hi1⟩,hn,p_rCheck r hr,e0]
   simp only [f_r15_call,gcall_mk,Option.bind_some]
   by_cases hk:r.part≠0∧errF r=0
   ·have b1:(r.part==0)=false:=by simpa using hk.1
    have gu:=(errF_good hk.2).units
    rw [if_neg (by simp [b1,hk.2]),ck_pos (by omega),ck_pos ⟨Int.le_refl _,hpos⟩]
    by_cases hc:Comm r q
    ·have hok:okP q r:=⟨hk.1,hk.2,hc⟩
     rw [if_neg (by
      obtain ⟨a1,a2,a3,a4,a5,a6,a7⟩:=hc
      simp [a1,a2,a3,a4,a5,a6,a7])]
     change (∃ r_1,((f_r13_Check (whR q (u+r.units))).bind _)=_∧_)∨∃ s',((f_r13_Check (whR q (u+r.units))).bind _)=_∧_
     rw [p_rCheck _ (sm_wh hq _)]
     simp only [Option.bind_some]
     by_cases he:errF (whR q (u+r.units))=0
     ·have ge:=(errF_good he).units
      simp only [whR] at ge
      rw [if_neg (by simp [he]),ck_pos (by omega)]
      refine .inr ⟨_,rfl,⟨by simp only; omega,fun p hp=>h1 p (List.mem_cons_of_mem _ hp),.inr ⟨he,rfl⟩⟩,rfl,?_⟩
      rw [whW_cons hok]
     ·rw [if_pos (by simpa using he)]
      refine .inl ⟨_,rfl,?_⟩
      rw [whW_cons hok,whW_over (by omega) he]
      rfl
    ·rw [if_pos (by
      unfold Comm at hc
      simp only [Bool.or_eq_true,Bool.not_eq_true',Bool.and_eq_false_iff,bne_iff_ne,beq_eq_false_iff_ne]
      by_cases a1:r.source=q.source
      ·by_cases a2:r.call=q.call
       ·by_cases a3:r.kind=q.kind
        ·by_cases a4:r.a=q.a
         ·by_cases a5:r.b=q.b
          ·by_cases a6:r.trunk=q.trunk
           ·by_cases a7:r.inbound=q.inbound
            ·exact absurd ⟨a1,a2,a3,a4,a5,a6,a7⟩ hc
            ·exact .inr a7
           ·exact .inl (.inr a6)
          ·exact .inl (.inl (.inr a5))
         ·exact .inl (.inl (.inl (.inr a4)))
        ·exact .inl (.inl (.inl (.inl (.inr a3))))
       ·exact .inl (.inl (.inl (.inl (.inl (.inr a2)))))
      ·exact .inl (.inl (.inl (.inl (.inl (.inl a1))))))]
     refine .inl ⟨_,rfl,?_⟩
     rw [whW_bad (fun h=>hc h.2.2)]
     rfl
   ·rw [if_pos (by
     by_cases hp:r.part=0
     ·simp [hp]
     ·simp [hp]
      intro he; exact hk ⟨hp,he⟩)]
    refine .inl ⟨_,rfl,?_⟩
    rw [whW_bad (fun h=>hk ⟨h.1,h.2.1⟩)]
    rfl
theorem optR_if (b:Bool) (o:Option Record):(if b=true then optR o else noR)=optR (if b=true then o else none):=by split <;> rfl
theorem p_Complete (l:List Record) (hs:∀ r,r∈l→Sm r) (hl:l.length≤1000):f_correlate_Complete l=some (optR (complF l)):=by
 unfold f_correlate_Complete complF
 rw [←optR_if]
 refine loop_rec0 l (fun s:Int=>s) (fun s t=>some (if numB (s+1) t=true then optR (wholeF l) else noR)) (fun s t=>True) (by omega) ?_ ?_ rfl trivial
 ·intro i _ hi
  unfold f_correlate_Complete_l1 f_correlate_Complete_j1
  rw [if_neg (by simp only [decide_eq_true_eq]; omega),p_whole l hs hl]
  exact ⟨_,rfl,rfl⟩
 ·intro i r t _ hi0 hi1 hn hlen
  unfold f_correlate_Complete_l1
  rw [if_pos (by simpa using hi1),ck_pos ⟨hi0,hi1⟩,hn,ck_pos (by omega),ck_pos (fun _=>by omega)]
  have el:(i==(l.length:Int) - 1)=t.isEmpty:=by
   rw [Bool.eq_iff_iff]
   cases t with
   | nil=>simp at hlen ⊢; omega
   | cons=>simp at hlen ⊢; omega
  rw [el]
  simp only [numB]
  by_cases hp:r.part=i+1
  ·by_cases hla:r.last=t.isEmpty
   ·rw [if_neg (by simp [hp,hla]),ck_pos (by omega)]
    refine .inr ⟨_,rfl,trivial,rfl,?_⟩
    simp [hp,hla]
   ·rw [if_pos (by simp [hp,hla])]
    refine .inl ⟨_,rfl,?_⟩
    simp [hp,hla]; rfl
  ·rw [if_pos (by simp [hp])]
   refine .inl ⟨_,rfl,?_⟩
   simp [hp]; rfl
theorem p_rComplete (l:List Record) (hs:∀ r,r∈l→Sm r) (hl:l.length≤1000):f_r15_Complete l=some (optR (complF l)):=by
 unfold f_r15_Complete complF
 rw [←optR_if]
 refine loop_rec0 l (fun s:Int=>s) (fun s t=>some (if numB (s+1) t=true then optR (wholeF l) else noR)) (fun s t=>True) (by omega) ?_ ?_ rfl trivial
 ·intro i _ hi
  unfold f_r15_Complete_l1 f_r15_Complete_j1
  rw [if_neg (by simp only [decide_eq_true_eq]; omega),p_rwhole l hs hl]
  exact ⟨_,rfl,rfl⟩
 ·intro i r t _ hi0 hi1 hn hlen
  unfold f_r15_Complete_l1
  rw [if_pos (by simpa using hi1),ck_pos ⟨hi0,hi1⟩,hn,ck_pos (by omega),ck_pos (fun _=>⟨hi0,hi1⟩),ck_pos (fun _=>by omega)]
  have el:((i+1)==(l.length:Int))=t.isEmpty:=by
   rw [Bool.eq_iff_iff]
   cases t with
   | nil=>simp at hlen ⊢; omega
   | cons=>simp at hlen ⊢; omega
  rw [el]
  simp only [numB]
  by_cases hp:r.part=i+1
  ·by_cases hla:r.last=t.isEmpty
   ·rw [if_neg (by simp [hp,hla]),ck_pos (by omega)]
    refine .inr ⟨_,rfl,trivial,rfl,?_⟩
    simp [hp,hla]
   ·rw [if_pos (by simp [hp,hla])]
    refine .inl ⟨_,rfl,?_⟩
    simp [hp,hla]; rfl
  ·rw [if_pos (by simp [hp])]
   refine .inl ⟨_,rfl,?_⟩
   simp [hp]; rfl
theorem p_firsts (l:List Record) (x:Record) (last:Bool) (hl:l.length≤1000):f_r15_firsts l x last=some (posF last x 1 0 l):=by
 unfold f_r15_firsts
 refine loop_rec0 l (fun s:List Int×Int=>s.2) (fun s t=>some (s.1++posF last x ((s.1.length:Int)+1) s.2 t)) (fun s t=>(s.1.length:Int)≤s.2) (by omega) ?_ ?_ rfl (by simp)
 ·rintro ⟨out,i⟩ h hi
  simp only at h hi ⊢
  unfold f_r15_firsts_l1
  rw [if_neg (by simp only [decide_eq_true_eq]; omega)]
  exact ⟨_,rfl,by simp [posF]⟩
 ·rintro ⟨out,i⟩ r t h hi0 hi1 hn hlen
  simp only at h hi0 hi1 hn hlen ⊢
  unfold f_r15_firsts_l1
  rw [if_pos (by simpa using hi1),ck_pos ⟨hi0,hi1⟩,hn]
  simp only [f_r15_call,Option.bind_some]
  rw [ck_pos (fun _=>⟨hi0,hi1⟩),ck_pos (fun _=>by omega)]
  have ec:((r.source==x.source) && (r.call==x.call))=callB r x:=by rw [Bool.eq_iff_iff,callB_iff]; simp
  rw [ec,show posF last x ((out.length:Int)+1) i (r :: t)=(if callB r x=true∧r.part=(out.length:Int)+1 then (if last=true∧r.last=true then [i] else i :: posF last x ((out.length:Int)+1+1) (i+1) t) else posF last x ((out.length:Int)+1) (i+1) t) from rfl]
  by_cases hc:callB r x=true∧r.part=(out.length:Int)+1
  ·rw [if_pos (by simp [hc.1,hc.2]),ck_pos (by simp only [List.length_cons,List.length_nil]; omega),ck_pos (fun _=>⟨hi0,hi1⟩),if_pos hc]
   by_cases hla:last=true∧r.last=true
   ·rw [if_pos (by simp [hla.1,hla.2]),if_pos hla]
    exact .inl ⟨_,rfl,rfl⟩
   ·rw [if_neg (by simpa using hla),if_neg hla,ck_pos (by omega)]
    refine .inr ⟨_,rfl,by simp only [List.length_append,List.length_cons,List.length_nil]; omega,rfl,?_⟩
    simp
  ·rw [if_neg (by simpa using hc),if_neg hc,ck_pos (by omega)]
   exact .inr ⟨_,rfl,by simp only; omega,rfl,rfl⟩
theorem p_rpick (l:List Record) (at':List Int) (hl:l.length≤1000) (ha:at'.length≤1000):f_r15_pick l at'=some (pickA 0 at' l):=by
 unfold f_r15_pick
 refine (loop_rec0 l (fun s:List Record×List Record×Int×Int=>s.2.2.2) (fun s t=>some (s.1++(pickA s.2.2.2 (at'.drop s.2.2.1.toNat) t).1,s.2.1++(pickA s.2.2.2 (at'.drop s.2.2.1.toNat) t).2))
  (fun s t=>(0≤s.2.2.1∧s.2.2.1≤(at'.length:Int))∧(s.1.length:Int)≤s.2.2.2∧(s.2.1.length:Int)≤s.2.2.2) (by omega) ?_ ?_ rfl (by simp)).trans (by simp)
 ·rintro ⟨out,rest,k,i⟩ ⟨h0,h1⟩ hi
  simp only at h0 h1 hi ⊢
  unfold f_r15_pick_l1
  rw [if_neg (by simp only [decide_eq_true_eq]; omega)]
  exact ⟨_,rfl,by cases at'.drop k.toNat <;> simp [pickA]⟩
 ·rintro ⟨out,rest,k,i⟩ r t ⟨h0,h1,h2⟩ hi0 hi1 hn hlen
  simp only at h0 h1 h2 hi0 hi1 hn hlen ⊢
  unfold f_r15_pick_l1
  rw [if_pos (by simpa using hi1),ck_pos (fun h=>by simp at h; omega),ck_pos ⟨hi0,hi1⟩,hn]
  by_cases hk:k < (at'.length:Int)
  ·have hd:=drop_nth (l:=at') (k:=k.toNat) (by omega)
   rw [hd]
   by_cases he:nth at' k.toNat=i
   ·rw [if_pos (by simp [he,hk]),ck_pos (by simp only [List.length_cons,List.length_nil]; omega),ck_pos (by omega),ck_pos (by omega)]
    refine .inr ⟨_,rfl,⟨by simp only; omega,by simp only [List.length_append,List.length_cons,List.length_nil]; omega,by simp only; omega⟩,rfl,?_⟩
    simp only
    conv=>rhs; unfold pickA
    rw [if_pos he,show (k+1).toNat=k.toNat+1 from by omega]
    simp
   ·rw [if_neg (by simp [he]),ck_pos ⟨hi0,hi1⟩,ck_pos (by simp only [List.length_cons,List.length_nil]; omega),ck_pos (by omega)]
    refine .inr ⟨_,rfl,⟨by simp only; omega,by simp only; omega,by simp only [List.length_append,List.length_cons,List.length_nil]; omega⟩,rfl,?_⟩
    simp only
    rw [hd]
    conv=>rhs; unfold pickA
    rw [if_neg he]
    simp
  ·rw [if_neg (by simp [hk]),ck_pos ⟨hi0,hi1⟩,ck_pos (by simp only [List.length_cons,List.length_nil]; omega),ck_pos (by omega)]
   refine .inr ⟨_,rfl,⟨by simp only; omega,by simp only; omega,by simp only [List.length_append,List.length_cons,List.length_nil]; omega⟩,rfl,?_⟩
   simp only
   rw [List.drop_of_length_le (by omega),pickA_nil,pickA_nil]
   simp
theorem posF_len (last:Bool) (x:Record):∀ (n i:Int) (l:List Record),(posF last x n i l).length≤l.length
 | _,_,[]=>Nat.le_refl _
 | n,i,r :: l=>by
  have h1:=posF_len last x (n+1) (i+1) l
  have h2:=posF_len last x n (i+1) l
  unfold posF
  split
  ·split <;> simp only [List.length_cons,List.length_nil] <;> omega
  ·simp only [List.length_cons]; omega
theorem chn_sm {last:Bool} {x:Record} {n:Int} {l:List Record} (h:∀ r,r∈l→Sm r):(∀ r,r∈(chn last x n l).1→Sm r)∧(∀ r,r∈(chn last x n l).2→Sm r):=by
 have hp:=chn_perm last x n l
 exact ⟨fun r hr=>h r (hp.mem_iff.1 (List.mem_append.2 (.inl hr))),fun r hr=>h r (hp.mem_iff.1 (List.mem_append.2 (.inr hr)))⟩
theorem nth_mem {α:Type} [Inhabited α] {l:List α} {k:Nat} (h:k < l.length):nth l k∈l:=by rw [nth_eq h]; exact List.getElem_mem h
theorem nth_cons_succ {α:Type} [Inhabited α] {a:α} {t:List α} {j:Nat}:nth (a :: t) (j+1)=nth t j:=by simp [nth]
theorem nth_cons_zero {α:Type} [Inhabited α] {a:α} {t:List α}:nth (a :: t) 0=a:=by simp [nth]
theorem p_rbefore (a b:Record):f_r15_before a b=some (decide (Lt a b)):=by
 unfold f_r15_before
 by_cases h1:a.source=b.source
 ·rw [if_neg (by simp [h1])]
  by_cases h2:a.call=b.call
  ·rw [if_neg (by simp [h2])]
   congr 1
   rw [Bool.eq_iff_iff,decide_eq_true_iff,decide_eq_true_iff]
   unfold Lt; omega
  ·rw [if_pos (by simpa using h2)]
   congr 1
   rw [Bool.eq_iff_iff,decide_eq_true_iff,decide_eq_true_iff]
   unfold Lt; omega
 ·rw [if_pos (by simpa using h1)]
  congr 1
  rw [Bool.eq_iff_iff,decide_eq_true_iff,decide_eq_true_iff]
  unfold Lt; omega
def ncB (l:List Record) (t:List Record):Bool:=t.all fun x=>(complF (chn true x 1 l).1).isNone
def okB (r:Record):Bool:=decide (r.part≠0) && decide (errF r=0)
def srtB:Option Record→List Record→Bool
 | _,[]=>true
 | none,r :: t=>okB r && srtB (some r) t
 | some y,r :: t=>okB r && !decide (Lt r y) && srtB (some r) t
theorem srtB_iff:∀ (o:Option Record) (t:List Record),srtB o t=true↔Srt (o.toList++t)∧∀ r,r∈t→errF r=0∧r.part≠0
 | o,[]=>by cases o <;> simp [srtB,Srt]
 | none,r :: t=>by
  have ih:=srtB_iff (some r) t
  simp only [srtB,okB,Bool.and_eq_true,decide_eq_true_eq,ih,Option.toList_none,Option.toList_some,List.nil_append,List.singleton_append,List.mem_cons,forall_eq_or_imp]
  constructor
  ·intro h; exact ⟨h.2.1,⟨h.1.2,h.1.1⟩,h.2.2⟩
  ·intro h; exact ⟨⟨h.2.1.2,h.2.1.1⟩,h.1,h.2.2⟩
 | some y,r :: t=>by
  have ih:=srtB_iff (some r) t
  simp only [srtB,okB,Bool.and_eq_true,decide_eq_true_eq,ih,Option.toList_some,List.singleton_append,List.mem_cons,forall_eq_or_imp,Bool.not_eq_true',decide_eq_false_iff_not]
  constructor
  ·rintro ⟨⟨⟨h1,h2⟩,h3⟩,h4,h5⟩
   refine ⟨List.pairwise_cons.2 ⟨fun z hz=>?_,h4⟩,⟨h2,h1⟩,h5⟩
   rcases List.mem_cons.1 hz with e | hz
   ·rw [e]; exact h3
   ·exact Le_trans h3 ((List.pairwise_cons.1 h4).1 z hz)
  ·rintro ⟨h1,h2,h3⟩
   have h4:=List.pairwise_cons.1 h1
   exact ⟨⟨⟨h2.2,h2.1⟩,h4.1 r (List.mem_cons_self ..)⟩,h4.2,h3⟩
theorem opn_iff (l:List Record):(srtB none l && ncB l l)=true↔Opn l:=by
 rw [Bool.and_eq_true,srtB_iff]
 simp only [Option.toList_none,List.nil_append,ncB,List.all_eq_true,Option.isNone_iff_eq_none]
 constructor
 ·rintro ⟨⟨h1,h2⟩,h3⟩
  refine ⟨h1,h2,fun x=>?_⟩
  by_cases hx:∃ r,r∈l∧callB r x=true
  ·obtain ⟨r,hr,hc⟩:=hx
   rw [chn_eqx true (callB_symm hc)]
   exact h3 r hr
  ·rw [chn_none true (fun r hr hc=>hx ⟨r,hr,hc.1⟩)]
   rfl
 ·rintro ⟨h1,h2,h3⟩
  exact ⟨⟨h1,h2⟩,fun x _=>h3 x⟩
theorem p_ropen1 (l:List Record) (hs:∀ r,r∈l→Sm r) (hl:l.length≤1000):f_r15_Open_j1 l=some (ncB l l):=by
 unfold f_r15_Open_j1
 refine loop_rec0 l (fun s:Int=>s) (fun s t=>some (ncB l t)) (fun s t=>True) (by omega) ?_ ?_ rfl trivial
 ·intro i _ hi
  unfold f_r15_Open_l1
  rw [if_neg (by simp only [decide_eq_true_eq]; omega)]
  exact ⟨_,rfl,rfl⟩
 ·intro i r t _ hi0 hi1 hn hlen
  unfold f_r15_Open_l1
  rw [if_pos (by simpa using hi1),ck_pos ⟨hi0,hi1⟩,hn,p_firsts l r true hl]
  have hp:=posF_len true r 1 0 l
  simp only [Option.bind_some]
  rw [p_rpick l _ hl (by omega),pickA_posF]
  simp only [Option.bind_some]
  have hc:=chn_len (last:=true) (x:=r) (n:=1) (l:=l)
  rw [p_rComplete _ (chn_sm hs).1 (by omega)]
  simp only [Option.bind_some,ncB,List.all_cons]
  cases hcc:complF (chn true r 1 l).1 with
  | none =>
   rw [if_neg (by simp [optR,noR]),ck_pos (by omega)]
   exact .inr ⟨_,rfl,trivial,rfl,by simp⟩
  | some w =>
   rw [if_pos (show (optR (some w)).2=true from rfl)]
   exact .inl ⟨_,rfl,by simp⟩
theorem p_rOpen (l:List Record) (hs:∀ r,r∈l→Sm r) (hl:l.length≤1000):f_r15_Open l=some (srtB none l && ncB l l):=by
 unfold f_r15_Open
 have:=loop_rec0 l (fun s:Int=>s) (fun s t=>some (srtB (if s=0 then none else some (nth l (s-1).toNat)) t && ncB l l)) (fun s t=>∀ r,r∈t→Sm r) (by omega) (step:=fun s=>f_r15_Open_l2 l s) (s:=0) ?_ ?_ rfl hs
 ·exact this
 ·intro i _ hi
  unfold f_r15_Open_l2
  rw [if_neg (by simp only [decide_eq_true_eq]; omega),p_ropen1 l hs hl]
  exact ⟨_,rfl,by simp [srtB]⟩
 ·intro i r t hsm hi0 hi1 hn hlen
  unfold f_r15_Open_l2
  rw [if_pos (by simpa using hi1),ck_pos ⟨hi0,hi1⟩,ck_pos (fun _=>⟨hi0,hi1⟩),hn,p_rCheck r (hsm r (List.mem_cons_self ..))]
  simp only [gcall_mk,Option.bind_some]
  have e1:(i+1=0)=False:=by simp; omega
  have e2:(i+1-1).toNat=i.toNat:=by omega
  by_cases hk:r.part≠0∧errF r=0
  ·have b1:(r.part==0)=false:=by simpa using hk.1
   simp only [b1,hk.2,Bool.not_false,if_true,Bool.false_or,bne_self_eq_false,Bool.true_and]
   by_cases h0:i=0
   ·rw [ck_pos (by simp [h0]),ck_pos (by simp [h0]),ck_pos (by simp [h0])]
    simp only [h0,Int.lt_irrefl,decide_false,gcall,if_neg,Bool.false_eq_true,if_false,Option.bind_some,Bool.false_and,gt_iff_lt]
    rw [ck_pos (by omega)]
    refine .inr ⟨_,rfl,fun p hp=>hsm p (List.mem_cons_of_mem _ hp),rfl,?_⟩
    have hn':nth l 0=r:=by rw [←hn,h0]; rfl
    simp [srtB,okB,hk.1,hk.2,hn']
   ·have hp:i > 0:=by omega
    rw [ck_pos (fun _=>⟨hi0,hi1⟩),ck_pos (fun _=>by omega),ck_pos (fun _=>by omega)]
    simp only [hp,decide_true,p_rbefore,gcall_mk,Option.bind_some,if_true,Bool.true_and]
    rw [if_neg h0]
    generalize nth l (i-1).toNat=y
    by_cases hb:Lt r y
    ·rw [if_pos (by simpa using hb)]
     exact .inl ⟨_,rfl,by simp [srtB,hb]⟩
    ·rw [if_neg (by simpa using hb),ck_pos (by omega)]
     refine .inr ⟨_,rfl,fun p hp=>hsm p (List.mem_cons_of_mem _ hp),rfl,?_⟩
     simp only [e1,if_false,e2,hn]
     simp [srtB,okB,hk.1,hk.2,hb]
  ·have hb:((r.part==0) || ((if (!(r.part==0))=true then errF r else default) != 0))=true:=by
    by_cases hp:r.part=0
    ·simp [hp]
    ·simp [hp]
     intro he; exact hk ⟨hp,he⟩
   simp only [hb,Bool.not_true,Bool.true_or,Bool.false_and,gcall,Bool.false_eq_true,if_false,Option.bind_some]
   rw [ck_pos (by simp),ck_pos (by simp),ck_pos (by simp),if_pos trivial]
   refine .inl ⟨_,rfl,?_⟩
   have:okB r=false:=by
    unfold okB
    rw [Bool.eq_false_iff]
    simpa using hk
   by_cases h0:i=0 <;> simp [h0,srtB,this]
theorem p_cmp (x y:Int):f_cmp_Compare_int x y=some (if x < y then -1 else if y < x then 1 else 0):=by
 unfold f_cmp_Compare_int f_cmp_isNaN_int
 simp only [Option.bind_some,bne_self_eq_false,Bool.false_eq_true,if_false,decide_eq_true_eq,gt_iff_lt]
 split
 ·rfl
 ·split <;> rfl
theorem p_or (l:List Int) (hl:l.length≤1000):f_cmp_Or_int l=some ((l.find? (fun x=>x != 0)).getD 0):=by
 unfold f_cmp_Or_int
 refine loop_rec0 l (fun s:Int=>s) (fun s t=>some ((t.find? (fun x=>x != 0)).getD 0)) (fun s t=>True) (by omega) ?_ ?_ rfl trivial
 ·intro i _ hi
  unfold f_cmp_Or_int_l1
  rw [if_neg (by simp only [decide_eq_true_eq]; omega)]
  exact ⟨_,rfl,rfl⟩
 ·intro i r t _ hi0 hi1 hn hlen
  unfold f_cmp_Or_int_l1
  rw [if_pos (by simpa using hi1),ck_pos ⟨hi0,hi1⟩,hn]
  by_cases h:r=0
  ·rw [if_neg (by simp [h]),ck_pos (by omega)]
   refine .inr ⟨_,rfl,trivial,rfl,?_⟩
   rw [List.find?_cons_of_neg (by simp [h])]
  ·rw [if_pos (by simpa using h)]
   refine .inl ⟨_,rfl,?_⟩
   rw [List.find?_cons_of_pos (by simpa using h)]
   rfl
theorem p_before (a b:Record):∃ c,f_correlate_before a b=some c∧(c≤0↔¬ Lt b a):=by
 unfold f_correlate_before
 simp only [p_cmp,Option.bind_some]
 rw [p_or _ (by simp)]
 refine ⟨_,rfl,?_⟩
 unfold Lt
 by_cases h1:a.source < b.source
 ·simp [h1] <;> omega
 ·by_cases h2:b.source < a.source
  ·simp [h1,h2]
  ·by_cases h3:a.call < b.call
   ·simp [h1,h2,h3] <;> omega
   ·by_cases h4:b.call < a.call
    ·simp [h1,h2,h3,h4] <;> omega
    ·by_cases h5:a.part < b.part
     ·simp [h1,h2,h3,h4,h5] <;> omega
     ·by_cases h6:b.part < a.part
      ·simp [h1,h2,h3,h4,h5,h6] <;> omega
      ·simp [h1,h2,h3,h4,h5,h6] <;> omega
def callC (x:Record):CorrelateCall:=⟨x.source,x.call⟩
theorem call_vals (r x:Record):eqVs (CorrelateCall.vals ⟨r.source,r.call⟩) (CorrelateCall.vals (callC x))=callB r x:=by
 rw [Bool.eq_iff_iff,callB_iff]
 simp [CorrelateCall.vals,callC,eqVs,eqV]
def idxF (x:Record):Int→List Record→Int
 | _,[]=>-1
 | i,r :: t=>if callB r x=true then i else idxF x (i+1) t
def runN (x:Record):List Record→Nat
 | []=>0
 | r :: t=>if callB r x=true then runN x t+1 else 0
theorem p_index (l:List Record) (x:Record) (hl:l.length≤1000):g_api_Record l (callC x)=some (idxF x 0 l):=by
 unfold g_api_Record
 refine loop_rec0 l (fun s:Int=>s) (fun s t=>some (idxF x s t)) (fun s t=>True) (by omega) ?_ ?_ rfl trivial
 ·intro i _ hi
  unfold g_api_Record_l1
  rw [if_neg (by simp only [decide_eq_true_eq]; omega)]
  exact ⟨_,rfl,rfl⟩
 ·intro i r t _ hi0 hi1 hn hlen
  unfold g_api_Record_l1
  rw [if_pos (by simpa using hi1),ck_pos ⟨hi0,hi1⟩,hn]
  simp only [g_correlate_span_1,f_correlate_callOf,Option.bind_some,call_vals]
  by_cases h:callB r x=true
  ·rw [if_pos h]
   exact .inl ⟨_,rfl,by simp [idxF,h]⟩
  ·rw [if_neg h,ck_pos (by omega)]
   exact .inr ⟨_,rfl,trivial,rfl,by simp [idxF,h]⟩
theorem idx_lt:∀ (x:Record) (i:Int) (t:List Record),idxF x i t=-1∨(i≤idxF x i t∧idxF x i t < i+t.length)
 | x,i,[]=>.inl rfl
 | x,i,r :: t=>by
  unfold idxF
  have:=idx_lt x (i+1) t
  simp only [List.length_cons]
  split <;> omega
theorem p_span (l:List Record) (x:Record) (hl:l.length≤1000):f_correlate_span l (callC x)=some (if idxF x 0 l < 0 then (0,0) else (idxF x 0 l,idxF x 0 l+runN x (l.drop (idxF x 0 l).toNat))):=by
 unfold f_correlate_span
 rw [p_index l x hl]
 have hi:=idx_lt x 0 l
 simp only [Option.bind_some,decide_eq_true_eq]
 split
 ·rfl
 ·refine loop_rec l (fun s:Int=>s) (fun s t=>some (idxF x 0 l,s+(runN x t:Int))) (fun s t=>True) (by omega) ?_ ?_ (s:=idxF x 0 l) (by omega) trivial
  ·intro i _ hi
   unfold f_correlate_span_l1
   rw [ck_pos (fun h=>by simp at h; omega)]
   simp only [gcall,hi,Int.lt_irrefl,decide_false,Bool.false_eq_true,if_false,Option.bind_some,Bool.false_and]
   exact ⟨_,rfl,by simp [runN,hi]⟩
  ·intro i r t _ hi0 hi1 hn hlen
   unfold f_correlate_span_l1
   rw [ck_pos (fun _=>⟨hi0,hi1⟩),hn]
   simp only [gcall,hi1,decide_true,if_true,f_correlate_callOf,Option.bind_some,Bool.true_and,call_vals]
   by_cases h:callB r x=true
   ·rw [if_pos h,ck_pos (by omega)]
    refine .inr ⟨_,rfl,trivial,rfl,?_⟩
    simp only [runN,h,if_true]
    congr 2; omega
   ·rw [if_neg h]
    refine .inl ⟨_,rfl,?_⟩
    simp [runN,h]
theorem p_indexG (l:List Record) (x:Record) (hl:l.length≤1000):g_api_Record_v1 (callC x) l=some (idxF x 0 l):=by
 unfold g_api_Record_v1
 refine loop_rec0 l (fun s:Int=>s) (fun s t=>some (idxF x s t)) (fun s t=>True) (by omega) ?_ ?_ rfl trivial
 ·intro i _ hi
  unfold g_api_Record_v1_l1
  rw [if_neg (by simp only [decide_eq_true_eq]; omega)]
  exact ⟨_,rfl,rfl⟩
 ·intro i r t _ hi0 hi1 hn hlen
  unfold g_api_Record_v1_l1
  rw [if_pos (by simpa using hi1),ck_pos ⟨hi0,hi1⟩,ck_pos (by omega),hn]
  simp only [g_correlate_span_1,f_correlate_callOf,Option.bind_some,call_vals]
  by_cases h:callB r x=true
  ·rw [if_pos h]
   exact .inl ⟨_,rfl,by simp [idxF,h]⟩
  ·rw [if_neg h,ck_pos (by omega)]
   exact .inr ⟨_,rfl,trivial,rfl,by simp [idxF,h]⟩
theorem idx_ltG:∀ (x:Record) (i:Int) (t:List Record),idxF x i t=-1∨(i≤idxF x i t∧idxF x i t < i+t.length)
 | x,i,[]=>.inl rfl
 | x,i,r :: t=>by
  unfold idxF
  have:=idx_ltG x (i+1) t
  simp only [List.length_cons]
  split <;> omega
theorem p_spanG (l:List Record) (x:Record) (hl:l.length≤1000):g_correlate_span (callC x) l=some (if idxF x 0 l < 0 then (0,0) else (idxF x 0 l,idxF x 0 l+runN x (l.drop (idxF x 0 l).toNat))):=by
 unfold g_correlate_span
 rw [p_indexG l x hl]
 have hi:=idx_ltG x 0 l
 simp only [Option.bind_some,decide_eq_true_eq]
 split
 ·rfl
 ·refine loop_rec l (fun s:Int=>s) (fun s t=>some (idxF x 0 l,s+(runN x t:Int))) (fun s t=>True) (by omega) ?_ ?_ (s:=idxF x 0 l) (by omega) trivial
  ·intro i _ hi
   unfold g_correlate_span_l1
   rw [ck_pos (fun h=>by simp at h; omega),ck_pos (fun h=>by simp at h; omega)]
   simp only [gcall,hi,Int.lt_irrefl,decide_false,Bool.false_eq_true,if_false,Option.bind_some,Bool.false_and]
   exact ⟨_,rfl,by simp [runN,hi]⟩
  ·intro i r t _ hi0 hi1 hn hlen
   unfold g_correlate_span_l1
   rw [ck_pos (fun _=>⟨hi0,hi1⟩),ck_pos (fun _=>by omega),hn]
   simp only [gcall,hi1,decide_true,if_true,f_correlate_callOf,Option.bind_some,Bool.true_and,call_vals]
   by_cases h:callB r x=true
   ·rw [if_pos h,ck_pos (by omega)]
    refine .inr ⟨_,rfl,trivial,rfl,?_⟩
    simp only [runN,h,if_true]
    congr 2; omega
   ·rw [if_neg h]
    refine .inl ⟨_,rfl,?_⟩
    simp [runN,h]
def fI (k:Int):Int→List Record→Option Int
 | _,[]=>none
 | i,r :: t=>if r.part=k then some i else fI k (i+1) t
theorem fI_some {k:Int}:∀ {i:Int} {l:List Record} {j:Int},fI k i l=some j→i≤j∧j < i+l.length∧(nth l (j-i).toNat).part=k
 | i,[],j,h=>by cases h
 | i,r :: l,j,h=>by
  unfold fI at h
  simp only [List.length_cons]
  split at h
  ·rename_i hk
   cases h
   refine ⟨by omega,by omega,?_⟩
   rw [show (i-i).toNat=0 from by omega,nth_cons_zero]; exact hk
  ·have ih:=fI_some h
   refine ⟨by omega,by omega,?_⟩
   rw [show (j-i).toNat=(j-(i+1)).toNat+1 from by omega,nth_cons_succ]
   exact ih.2.2
theorem posF_unfold (last:Bool) (x:Record) (n:Int):∀ {i:Int} {l:List Record},Srt l→(∀ r,r∈l→callB r x=true)→posF last x n i l=match fI n i l with
  | none=>[]
  | some j=>j :: if last=true∧(nth l (j-i).toNat).last=true then [] else posF last x (n+1) i l
 | i,[],_,_=>rfl
 | i,r :: l,h,hc=>by
  have h2:=List.pairwise_cons.1 h
  have hr:=hc r (List.mem_cons_self ..)
  have hc2:∀ r,r∈l→callB r x=true:=fun y hy=>hc y (List.mem_cons_of_mem _ hy)
  by_cases hp:r.part=n
  ·have e1:fI n i (r :: l)=some i:=by unfold fI; rw [if_pos hp]
   have e2:posF last x (n+1) i (r :: l)=posF last x (n+1) (i+1) l:=by
    conv=>lhs; unfold posF
    rw [if_neg (by omega)]
   simp only [e1,e2]
   rw [show (i-i).toNat=0 from by omega,nth_cons_zero]
   conv=>lhs; unfold posF
   rw [if_pos ⟨hr,hp⟩]
   split <;> rfl
  ·have e1:fI n i (r :: l)=fI n (i+1) l:=by conv=>lhs; unfold fI; rw [if_neg hp]
   have e0:posF last x n i (r :: l)=posF last x n (i+1) l:=by
    conv=>lhs; unfold posF
    rw [if_neg (fun h=>hp h.2)]
   rw [e0,e1,posF_unfold last x n h2.2 hc2]
   cases hf:fI n (i+1) l with
   | none=>rfl
   | some j =>
    have hj:=fI_some hf
    have hm:nth l (j-(i+1)).toNat∈l:=nth_mem (by omega)
    have e2:posF last x (n+1) i (r :: l)=posF last x (n+1) (i+1) l:=by
     conv=>lhs; unfold posF
     rw [if_neg (fun h=>by
      have:=Le_part (h2.1 _ hm) (callB_tr hr (callB_symm (hc2 _ hm)))
      omega)]
    simp only [e2]
    rw [show (j-i).toNat=(j-(i+1)).toNat+1 from by omega,nth_cons_succ]
theorem p_cand (l:List Record) (x:Record) (last:Bool) (hl:l.length≤1000) (hs:Srt l) (hc:∀ r,r∈l→callB r x=true) (hp:∀ r,r∈l→r.part≤99):f_correlate_candidates l last=some (posF last x 1 0 l):=by
 unfold f_correlate_candidates
 refine loop_rec0 l (fun s:Int×List (Int×Int)=>s.1) (fun s t=>some (posF last x 1 0 l)) (fun s t=>∀ k,(alook s.2 k).or (fI k s.1 t)=fI k 0 l) (by omega) ?_ ?_ rfl (fun k=>by rw [alook_nil]; rfl)
 ·rintro ⟨i,m⟩ hm hi
  simp only at hm hi ⊢
  have hm':∀ k,alook m k=fI k 0 l:=fun k=>by rw [←hm k]; simp [fI]
  unfold f_correlate_candidates_l2 f_correlate_candidates_j1
  rw [if_neg (by simp only [decide_eq_true_eq]; omega)]
  have:loop (fun s:List Int×Int=>f_correlate_candidates_l1 l last m s.1 s.2) ([],1)=some (posF last x 1 0 l):=by
   refine (loop_spec (fun s:List Int×Int=>some (s.1++posF last x s.2 0 l)) (fun s=>1≤s.2∧s.2≤100∧(s.1.length:Int)≤s.2-1) (fun s=>(100-s.2).toNat) ?_ ⟨by decide,by decide,by decide⟩ (by decide)).trans (by simp)
   rintro ⟨out,k⟩ ⟨h0,h1,h2⟩
   simp only at h0 h1 h2 ⊢
   unfold f_correlate_candidates_l1
   rw [hm' k,posF_unfold last x k hs hc]
   cases hf:fI k 0 l with
   | none =>
    rw [if_pos (by simp)]
    exact .inl ⟨_,rfl,by simp⟩
   | some j =>
    have hj:=fI_some hf
    have hk:=hp _ (nth_mem (l:=l) (k:=(j-0).toNat) (by omega))
    rw [if_neg (by simp),ck_pos (by simp only [List.length_cons,List.length_nil]; omega)]
    simp only [Option.getD_some]
    rw [ck_pos (fun _=>by omega),show (j-0).toNat=j.toNat from by omega]
    by_cases hla:last=true∧(nth l j.toNat).last=true
    ·rw [if_pos (by simp [hla.1,hla.2]),if_pos hla]
     exact .inl ⟨_,rfl,rfl⟩
    ·rw [if_neg (by simpa using hla),if_neg hla,ck_pos (by omega)]
     refine .inr ⟨_,rfl,⟨by simp only; omega,by simp only; omega,by simp only [List.length_append,List.length_cons,List.length_nil]; omega⟩,by simp only; omega,?_⟩
     simp
  rw [this]
  exact ⟨_,rfl,rfl⟩
 ·rintro ⟨i,m⟩ r t hm hi0 hi1 hn hlen
  simp only at hm hi0 hi1 hn hlen ⊢
  unfold f_correlate_candidates_l2
  rw [if_pos (by simpa using hi1),ck_pos ⟨hi0,hi1⟩,hn]
  cases ha:alook m r.part with
  | none =>
   rw [if_pos (by simp),ck_pos (by omega)]
   refine .inr ⟨_,rfl,fun k=>?_,rfl,by first | rfl | trivial⟩
   simp only
   rw [alook_aset,←hm k]
   by_cases hk:r.part=k
   ·rw [if_pos (by simp [hk])]
    subst hk
    simp [ha,fI]
   ·rw [if_neg (by simpa using fun h=>hk h.symm)]
    simp [fI,hk]
  | some j =>
   rw [if_neg (by simp),ck_pos (by omega)]
   refine .inr ⟨_,rfl,fun k=>?_,rfl,by first | rfl | trivial⟩
   simp only
   rw [←hm k]
   by_cases hk:r.part=k
   ·subst hk
    simp [ha]
   ·simp [fI,hk]
theorem p_candG (l:List Record) (x:Record) (last:Bool) (hl:l.length≤1000) (hs:Srt l) (hc:∀ r,r∈l→callB r x=true) (hp:∀ r,r∈l→r.part≤99):g_correlate_candidates l last=some (posF last x 1 0 l):=by
 unfold g_correlate_candidates
 refine loop_rec0 l (fun s:Int×List (Int×Int)=>s.1) (fun s t=>some (posF last x 1 0 l)) (fun s t=>∀ k,(alook s.2 k).or (fI k s.1 t)=fI k 0 l) (by omega) ?_ ?_ rfl (fun k=>by rw [alook_nil]; rfl)
 ·rintro ⟨i,m⟩ hm hi
  simp only at hm hi ⊢
  have hm':∀ k,alook m k=fI k 0 l:=fun k=>by rw [←hm k]; simp [fI]
  unfold g_correlate_candidates_l2 g_correlate_candidates_j1
  rw [if_neg (by simp only [decide_eq_true_eq]; omega)]
  have:loop (fun s:List Int×Int=>g_correlate_candidates_l1 l last m s.1 s.2) ([],1)=some (posF last x 1 0 l):=by
   refine (loop_spec (fun s:List Int×Int=>some (s.1++posF last x s.2 0 l)) (fun s=>1≤s.2∧s.2≤100∧(s.1.length:Int)≤s.2-1) (fun s=>(100-s.2).toNat) ?_ ⟨by decide,by decide,by decide⟩ (by decide)).trans (by simp)
   rintro ⟨out,k⟩ ⟨h0,h1,h2⟩
   simp only at h0 h1 h2 ⊢
   unfold g_correlate_candidates_l1
   rw [hm' k,posF_unfold last x k hs hc]
   cases hf:fI k 0 l with
   | none =>
    rw [if_pos (by simp)]
    exact .inl ⟨_,rfl,by simp⟩
   | some j =>
    have hj:=fI_some hf
    have hk:=hp _ (nth_mem (l:=l) (k:=(j-0).toNat) (by omega))
    rw [if_neg (by simp),ck_pos (by simp only [List.length_cons,List.length_nil]; omega)]
    simp only [Option.getD_some]
    rw [ck_pos (fun _=>by omega),ck_pos (fun _=>by omega),show (j-0).toNat=j.toNat from by omega]
    by_cases hla:last=true∧(nth l j.toNat).last=true
    ·rw [if_pos (by simp [hla.1,hla.2]),if_pos hla]
     exact .inl ⟨_,rfl,rfl⟩
    ·rw [if_neg (by simpa using hla),if_neg hla,ck_pos (by omega)]
     refine .inr ⟨_,rfl,⟨by simp only; omega,by simp only; omega,by simp only [List.length_append,List.length_cons,List.length_nil]; omega⟩,by simp only; omega,?_⟩
     simp
  rw [this]
  exact ⟨_,rfl,rfl⟩
 ·rintro ⟨i,m⟩ r t hm hi0 hi1 hn hlen
  simp only at hm hi0 hi1 hn hlen ⊢
  unfold g_correlate_candidates_l2
  rw [if_pos (by simpa using hi1),ck_pos ⟨hi0,hi1⟩,ck_pos (by omega),hn]
  cases ha:alook m r.part with
  | none =>
   rw [if_pos (by simp),ck_pos (by omega)]
   refine .inr ⟨_,rfl,fun k=>?_,rfl,by first | rfl | trivial⟩
   simp only
   rw [alook_aset,←hm k]
   by_cases hk:r.part=k
   ·rw [if_pos (by simp [hk])]
    subst hk
    simp [ha,fI]
   ·rw [if_neg (by simpa using fun h=>hk h.symm)]
    simp [fI,hk]
  | some j =>
   rw [if_neg (by simp),ck_pos (by omega)]
   refine .inr ⟨_,rfl,fun k=>?_,rfl,by first | rfl | trivial⟩
   simp only
   rw [←hm k]
   by_cases hk:r.part=k
   ·subst hk
    simp [ha]
   ·simp [fI,hk]
def othF (at':List Int):Int→List Record→List Record
 | _,[]=>[]
 | i,r :: t=>if i∈at' then othF at' (i+1) t else r :: othF at' (i+1) t
theorem othF_congr {a b:List Int}:∀ {i:Int} {l:List Record},(∀ j,i≤j→(j∈a↔j∈b))→othF a i l=othF b i l
 | _,[],_=>rfl
 | i,r :: l,h=>by
  have ih:=othF_congr (i:=i+1) (l:=l) (fun j hj=>h j (by omega))
  unfold othF
  simp only [h i (Int.le_refl _),ih]
theorem othF_nil:∀ (i:Int) (l:List Record),othF [] i l=l
 | _,[]=>rfl
 | i,r :: l=>by unfold othF; rw [if_neg (by simp),othF_nil]
theorem pickA_asc:∀ (i:Int) (at':List Int) (l:List Record),at'.Pairwise (· < ·)→(∀ a,a∈at'→i≤a∧a < i+l.length)→pickA i at' l=(at'.map fun j=>nth l (j-i).toNat,othF at' i l)
 | i,[],l,_,_=>by rw [pickA_nil,othF_nil]; rfl
 | i,a :: at',[],_,h=>by have:=h a (List.mem_cons_self ..); simp at this; omega
 | i,a :: at',r :: l,hp,h=>by
  have h2:=List.pairwise_cons.1 hp
  have ha:=h a (List.mem_cons_self ..)
  unfold pickA
  by_cases e:a=i
  ·subst e
   rw [if_pos rfl,pickA_asc (a+1) at' l h2.2 (fun b hb=>by
    have h3:=h b (List.mem_cons_of_mem _ hb)
    have h4:=h2.1 b hb
    simp only [List.length_cons] at h3
    omega)]
   have e1:(at'.map fun j=>nth (r :: l) (j-a).toNat)=at'.map fun j=>nth l (j-(a+1)).toNat:=List.map_congr_left (fun b hb=>by
    have h4:=h2.1 b hb
    rw [show (b-a).toNat=(b-(a+1)).toNat+1 from by omega,nth_cons_succ])
   have e2:othF (a :: at') a (r :: l)=othF at' (a+1) l:=by
    conv=>lhs; unfold othF
    rw [if_pos (List.mem_cons_self ..)]
    exact othF_congr (fun j hj=>by simp; omega)
   simp only [List.map_cons,e1,e2]
   rw [show (a-a).toNat=0 from by omega,nth_cons_zero]
  ·have hall:∀ b,b∈a :: at'→i+1≤b∧b < i+1+l.length:=fun b hb=>by
    have h3:=h b hb
    simp only [List.length_cons] at h3
    rcases List.mem_cons.1 hb with hb | hb
    ·omega
    ·have:=h2.1 b hb; omega
   rw [if_neg e,pickA_asc (i+1) (a :: at') l hp hall]
   have e1:((a :: at').map fun j=>nth (r :: l) (j-i).toNat)=(a :: at').map fun j=>nth l (j-(i+1)).toNat:=List.map_congr_left (fun b hb=>by
    have h4:=hall b hb
    rw [show (b-i).toNat=(b-(i+1)).toNat+1 from by omega,nth_cons_succ])
   have e2:othF (a :: at') i (r :: l)=r :: othF (a :: at') (i+1) l:=by
    conv=>lhs; unfold othF
    rw [if_neg (fun hb=>by have:=hall i hb; omega)]
   rw [e1,e2]
theorem p_pick (l:List Record) (at':List Int) (hl:l.length≤1000) (hal:at'.length≤1000) (hp:at'.Pairwise (· < ·)) (hb:∀ a,a∈at'→0≤a∧a < (l.length:Int)):f_correlate_pick l at'=some (pickA 0 at' l):=by
 unfold f_correlate_pick
 rw [pickA_asc 0 at' l hp (fun a ha=>by have:=hb a ha; omega)]
 refine loop_rec0 at' (fun s:List Record×Int×List (Int×Bool)=>s.2.1) (fun s t=>some (at'.map (fun j=>nth l (j-0).toNat),othF at' 0 l))
  (fun s t=>(s.1.length:Int)≤s.2.1∧s.1++t.map (fun j=>nth l (j-0).toNat)=at'.map (fun j=>nth l (j-0).toNat)∧(∀ j,((alook s.2.2 j).getD false=true∨j∈t)↔j∈at')∧(∀ a,a∈t→0≤a∧a < (l.length:Int))) (by omega) ?_ ?_ (s:=(([]:List Record),(0:Int),([]:List (Int×Bool)))) rfl ⟨by simp,rfl,fun j=>by simp [alook_nil],hb⟩
 ·rintro ⟨out,i,m⟩ ⟨h1,h2,h3,h4⟩ hi
  simp only at h1 h2 h3 h4 hi ⊢
  have hm:∀ j,(alook m j).getD false=decide (j∈at'):=fun j=>by rw [Bool.eq_iff_iff,decide_eq_true_iff,←h3 j]; simp
  rw [List.map_nil,List.append_nil] at h2
  unfold f_correlate_pick_l2 f_correlate_pick_j1
  rw [if_neg (by simp only [decide_eq_true_eq]; omega),←h2]
  have:loop (fun s:List Record×Int=>f_correlate_pick_l1 l out m s.1 s.2) ([],0)=some (out,othF at' 0 l):=by
   refine (loop_rec0 l (fun s:List Record×Int=>s.2) (fun s t=>some (out,s.1++othF at' s.2 t)) (fun s t=>(s.1.length:Int)≤s.2) (by omega) ?_ ?_ rfl (by simp)).trans (by simp)
   ·rintro ⟨oth,k⟩ hq hk
    simp only at hq hk ⊢
    unfold f_correlate_pick_l1
    rw [if_neg (by simp only [decide_eq_true_eq]; omega)]
    exact ⟨_,rfl,by simp [othF]⟩
   ·rintro ⟨oth,k⟩ r t hq hk0 hk1 hn hlen
    simp only at hq hk0 hk1 hn hlen ⊢
    unfold f_correlate_pick_l1
    rw [if_pos (by simpa using hk1),ck_pos ⟨hk0,hk1⟩,hn,hm k]
    by_cases hmem:k∈at'
    ·rw [if_neg (by simpa using hmem),ck_pos (by omega)]
     refine .inr ⟨_,rfl,by simp only; omega,rfl,?_⟩
     simp [othF,hmem]
    ·rw [if_pos (by simpa using hmem),ck_pos (by simp only [List.length_cons,List.length_nil]; omega),ck_pos (by omega)]
     refine .inr ⟨_,rfl,by simp only [List.length_append,List.length_cons,List.length_nil]; omega,rfl,?_⟩
     simp [othF,hmem]
  rw [this]
  exact ⟨_,rfl,rfl⟩
 ·rintro ⟨out,i,m⟩ a t ⟨h1,h2,h3,h4⟩ hi0 hi1 hn hlen
  simp only at h1 h2 h3 h4 hi0 hi1 hn hlen ⊢
  have ha:=h4 a (List.mem_cons_self ..)
  unfold f_correlate_pick_l2
  rw [if_pos (by simpa using hi1),ck_pos ⟨hi0,hi1⟩,hn,ck_pos ha,ck_pos (by simp only [List.length_cons,List.length_nil]; omega),ck_pos (by omega)]
  refine .inr ⟨_,rfl,⟨?_,?_,fun j=>?_,fun b hb=>h4 b (List.mem_cons_of_mem _ hb)⟩,rfl,by first | rfl | trivial⟩
  ·simp only [List.length_append,List.length_cons,List.length_nil]; omega
  ·simp only
   rw [←h2,List.map_cons,show (a-0).toNat=a.toNat from by omega]
   simp
  ·simp only
   rw [alook_aset,←h3 j]
   by_cases hj:j=a
   ·rw [if_pos (by simp [hj])]; simp [hj]
   ·rw [if_neg (by simpa using hj)]; simp [hj]
theorem p_pickG (l:List Record) (at':List Int) (hl:l.length≤1000) (hal:at'.length≤1000) (hp:at'.Pairwise (· < ·)) (hb:∀ a,a∈at'→0≤a∧a < (l.length:Int)):g_correlate_pick l at'=some (pickA 0 at' l):=by
 unfold g_correlate_pick
 rw [pickA_asc 0 at' l hp (fun a ha=>by have:=hb a ha; omega)]
 refine loop_rec0 at' (fun s:List Record×Int×List (Int×Bool)=>s.2.1) (fun s t=>some (at'.map (fun j=>nth l (j-0).toNat),othF at' 0 l))
  (fun s t=>(s.1.length:Int)≤s.2.1∧s.1++t.map (fun j=>nth l (j-0).toNat)=at'.map (fun j=>nth l (j-0).toNat)∧(∀ j,((alook s.2.2 j).getD false=true∨j∈t)↔j∈at')∧(∀ a,a∈t→0≤a∧a < (l.length:Int))) (by omega) ?_ ?_ (s:=(([]:List Record),(0:Int),([]:List (Int×Bool)))) rfl ⟨by simp,rfl,fun j=>by simp [alook_nil],hb⟩
 ·rintro ⟨out,i,m⟩ ⟨h1,h2,h3,h4⟩ hi
  simp only at h1 h2 h3 h4 hi ⊢
  have hm:∀ j,(alook m j).getD false=decide (j∈at'):=fun j=>by rw [Bool.eq_iff_iff,decide_eq_true_iff,←h3 j]; simp
  rw [List.map_nil,List.append_nil] at h2
  unfold g_correlate_pick_l2 g_correlate_pick_j1
  rw [if_neg (by simp only [decide_eq_true_eq]; omega),←h2]
  have:loop (fun s:List Record×Int=>g_correlate_pick_l1 l out m s.1 s.2) ([],0)=some (out,othF at' 0 l):=by
   refine (loop_rec0 l (fun s:List Record×Int=>s.2) (fun s t=>some (out,s.1++othF at' s.2 t)) (fun s t=>(s.1.length:Int)≤s.2) (by omega) ?_ ?_ rfl (by simp)).trans (by simp)
   ·rintro ⟨oth,k⟩ hq hk
    simp only at hq hk ⊢
    unfold g_correlate_pick_l1
    rw [if_neg (by simp only [decide_eq_true_eq]; omega)]
    exact ⟨_,rfl,by simp [othF]⟩
   ·rintro ⟨oth,k⟩ r t hq hk0 hk1 hn hlen
    simp only at hq hk0 hk1 hn hlen ⊢
    unfold g_correlate_pick_l1
    rw [if_pos (by simpa using hk1),ck_pos ⟨hk0,hk1⟩,ck_pos (by omega),hn,hm k]
    by_cases hmem:k∈at'
    ·rw [if_neg (by simpa using hmem),ck_pos (by omega)]
     refine .inr ⟨_,rfl,by simp only; omega,rfl,?_⟩
     simp [othF,hmem]
    ·rw [if_pos (by simpa using hmem),ck_pos (by simp only [List.length_cons,List.length_nil]; omega),ck_pos (by omega)]
     refine .inr ⟨_,rfl,by simp only [List.length_append,List.length_cons,List.length_nil]; omega,rfl,?_⟩
     simp [othF,hmem]
  rw [this]
  exact ⟨_,rfl,rfl⟩
 ·rintro ⟨out,i,m⟩ a t ⟨h1,h2,h3,h4⟩ hi0 hi1 hn hlen
  simp only at h1 h2 h3 h4 hi0 hi1 hn hlen ⊢
  have ha:=h4 a (List.mem_cons_self ..)
  unfold g_correlate_pick_l2
  rw [if_pos (by simpa using hi1),ck_pos ⟨hi0,hi1⟩,hn,ck_pos ha,ck_pos (by omega),ck_pos (by simp only [List.length_cons,List.length_nil]; omega),ck_pos (by omega)]
  refine .inr ⟨_,rfl,⟨?_,?_,fun j=>?_,fun b hb=>h4 b (List.mem_cons_of_mem _ hb)⟩,rfl,by first | rfl | trivial⟩
  ·simp only [List.length_append,List.length_cons,List.length_nil]; omega
  ·simp only
   rw [←h2,List.map_cons,show (a-0).toNat=a.toNat from by omega]
   simp
  ·simp only
   rw [alook_aset,←h3 j]
   by_cases hj:j=a
   ·rw [if_pos (by simp [hj])]; simp [hj]
   ·rw [if_neg (by simpa using hj)]; simp [hj]
theorem idxF_spec (x:Record):∀ (i:Int) (l:List Record),0≤i→(idxF x i l=-1∧∀ r,r∈l→callB r x=false)∨(∃ pre r t,l=pre++r :: t∧(∀ y,y∈pre→callB y x=false)∧callB r x=true∧idxF x i l=i+pre.length)
 | i,[],_=>.inl ⟨rfl,by simp⟩
 | i,r :: l,h0=>by
  unfold idxF
  by_cases h:callB r x=true
  ·rw [if_pos h]
   exact .inr ⟨[],r,l,rfl,by simp,h,by simp⟩
  ·rw [if_neg h]
   rcases idxF_spec x (i+1) l (by omega) with ⟨h1,h2⟩ | ⟨pre,y,t,h1,h2,h3,h4⟩
   ·exact .inl ⟨h1,fun y hy=>by
     rcases List.mem_cons.1 hy with e | hy
     ·rw [e]; simpa using h
     ·exact h2 y hy⟩
   ·refine .inr ⟨r :: pre,y,t,by rw [h1]; rfl,fun z hz=>?_,h3,by rw [h4]; simp only [List.length_cons]; omega⟩
    rcases List.mem_cons.1 hz with e | hz
    ·rw [e]; simpa using h
    ·exact h2 z hz
theorem runN_run (x:Record):∀ (l:List Record),runN x l=(runF x l).length
 | []=>rfl
 | r :: l=>by
  have ih:=runN_run x l
  unfold runN
  unfold runF at ih ⊢
  by_cases h:callB r x=true
  ·rw [if_pos h,List.takeWhile_cons_of_pos (p:=fun r=>callB r x) h,List.length_cons,ih]
  ·rw [if_neg h,List.takeWhile_cons_of_neg (p:=fun r=>callB r x) h]; rfl
theorem span_dec {x:Record} {l:List Record} (hs:Srt l):(idxF x 0 l < 0∧∀ r,r∈l→callB r x=false)∨(∃ pre run post,l=pre++(run++post)∧idxF x 0 l=(pre.length:Int)∧runN x (l.drop (idxF x 0 l).toNat)=run.length∧0 < run.length∧(∀ r,r∈pre→callB r x=false)∧(∀ r,r∈run→callB r x=true)∧(∀ r,r∈post→callB r x=false)):=by
 rcases idxF_spec x 0 l (Int.le_refl _) with ⟨h1,h2⟩ | ⟨pre,r,t,h1,h2,h3,h4⟩
 ·exact .inl ⟨by omega,h2⟩
 ·right
  have e:∀ (l:List Record),runF r l=runF x l∧restF r l=restF x l:=fun l=>by
   unfold runF restF
   have:(fun y=>callB y r)=fun y=>callB y x:=funext fun y=>callB_eq h3
   rw [this]; exact ⟨rfl,rfl⟩
  have hsr:Srt (r :: t):=by rw [h1] at hs; exact (List.pairwise_append.1 hs).2.1
  have hd:l.drop (idxF x 0 l).toNat=r :: t:=by rw [h4,h1,show (0+(pre.length:Int)).toNat=pre.length from by omega,List.drop_left]
  refine ⟨pre,runF x (r :: t),restF x (r :: t),by rw [run_rest]; exact h1,by omega,by rw [hd,runN_run],?_,h2,run_call,fun y hy=>?_⟩
  ·unfold runF
   rw [List.takeWhile_cons_of_pos (p:=fun r=>callB r x) h3]
   simp
  ·rw [←callB_eq h3]
   rw [←(e (r :: t)).2] at hy
   exact rest_call hsr y hy
theorem joinL_fuel (x:Record):∀ (m m':Nat) (now:List Record),now.length < m→now.length < m'→joinL m now x=joinL m' now x
 | 0,_,_,h,_=>by omega
 | _,0,_,_,h=>by omega
 | m+1,m'+1,now,h,h'=>by
  unfold joinL
  cases hc:complF (chn true x 1 now).1 with
  | none=>rfl
  | some w =>
   have hl:=chn_len (last:=true) (x:=x) (n:=1) (l:=now)
   have hp:0 < (chn true x 1 now).1.length:=List.length_pos_iff.2 (compl_pos hc)
   simp only [joinL_fuel x m m' (chn true x 1 now).2 (by omega) (by omega)]
theorem joinL_len (x:Record):∀ (m:Nat) (now:List Record),(joinL m now x).1.length+(joinL m now x).2.length≤now.length
 | 0,now=>by simp [joinL]
 | m+1,now=>by
  unfold joinL
  split
  ·simp
  ·rename_i w hc
   have hl:=chn_len (last:=true) (x:=x) (n:=1) (l:=now)
   have hp:0 < (chn true x 1 now).1.length:=List.length_pos_iff.2 (compl_pos hc)
   have ih:=joinL_len x m (chn true x 1 now).2
   simp only [List.length_cons]
   omega
structure Wt (l:List Record):Prop where
 srt:Srt l
 ok:∀ r,r∈l→errF r=0
theorem Wt.sm {l:List Record} (h:Wt l):∀ r,r∈l→Sm r:=fun r hr=>good_sm (h.ok r hr)
theorem Wt.le {l:List Record} (h:Wt l):∀ r,r∈l→r.part≤99:=fun r hr=>(errF_good (h.ok r hr)).part.2
theorem Wt.sub {l l':List Record} (h:Wt l) (hs:l'.Sublist l):Wt l':=⟨h.srt.sublist hs,fun r hr=>h.ok r (hs.subset hr)⟩
theorem Opn.wt {l:List Record} (h:Opn l):Wt l:=⟨h.srt,fun r hr=>(h.ok r hr).1⟩
theorem Wt.ins {l:List Record} (h:Wt l) {p:Record} (hp:errF p=0):Wt (insP l p):=⟨insP_srt h.srt,fun r hr=>by
 rcases insP_mem.1 hr with e | hr
 ·rw [e]; exact hp
 ·exact h.ok r hr⟩
theorem joinL_sub (x:Record):∀ (m:Nat) (now:List Record),(joinL m now x).2.Sublist now
 | 0,now=>List.Sublist.refl _
 | m+1,now=>by
  unfold joinL
  split
  ·exact List.Sublist.refl _
  ·exact (joinL_sub x m _).trans (chn_sub _ _ _ _)
theorem Wt.step {l:List Record} (h:Wt l) {p:Record} (hp:errF p=0):Wt (stepJ l p).2:=by
 unfold stepJ
 split
 ·exact h
 ·exact (h.ins hp).sub (joinL_sub _ _ _)
theorem stepJ_len (l:List Record) (p:Record):(stepJ l p).1.length+(stepJ l p).2.length≤l.length+1:=by
 unfold stepJ
 split
 ·simp; omega
 ·have:=joinL_len p (l.length+2) (insP l p)
  rw [insP_len] at this
  exact this
theorem p_join (x:Record) (now out:List Record) (h:Wt now) (hl:now.length+out.length≤1000):g_correlate_join_v1 (callC x) now out=some ((joinL (now.length+1) now x).2,out++(joinL (now.length+1) now x).1):=by
 unfold g_correlate_join_v1
 refine loop_spec (fun s:List Record×List Record=>some ((joinL (s.1.length+1) s.1 x).2,s.2++(joinL (s.1.length+1) s.1 x).1)) (fun s=>Wt s.1∧s.1.length+s.2.length≤1000) (fun s=>s.1.length) ?_ ⟨h,hl⟩ (by simp only; omega)
 rintro ⟨l,o⟩ ⟨hw,hb⟩
 simp only at hw hb ⊢
 unfold g_correlate_join_v1_l1
 rw [p_spanG l x (by omega)]
 rcases span_dec (x:=x) hw.srt with ⟨h1,h2⟩ | ⟨pre,run,post,e,h1,h2,h3,h4,h5,h6⟩
 ·rw [if_pos h1]
  simp only [Option.bind_some]
  rw [ck_pos (by omega),ck_pos (by omega)]
  simp only [Int.toNat_zero,List.take_zero,List.drop_zero]
  rw [p_candG [] x true (by simp) .nil (by simp) (by simp)]
  simp only [Option.bind_some,posF]
  rw [p_pickG [] [] (by simp) (by simp) .nil (by simp)]
  simp only [Option.bind_some,pickA_nil]
  rw [p_Complete [] (by simp) (by simp),complF_nil]
  simp only [Option.bind_some,optR,noR,Bool.not_false,if_true]
  refine .inl ⟨_,rfl,?_⟩
  have:joinL (l.length+1) l x=([],l):=by
   unfold joinL
   rw [chn_none true (fun r hr hc=>by rw [h2 r hr] at hc; simp at hc)]
   rfl
  rw [this,List.append_nil]
 ·have hlen:l.length=pre.length+(run.length+post.length):=by rw [e]; simp
  rw [h2,h1,if_neg (by omega)]
  simp only [Option.bind_some]
  have hrs:run.Sublist l:=by
   rw [e]
   exact (List.sublist_append_left run post).trans (List.sublist_append_right pre _)
  have hsl:(l.take ((pre.length:Int)+(run.length:Int)).toNat).drop ((pre.length:Int)).toNat=run:=by
   rw [e,show ((pre.length:Int)+(run.length:Int)).toNat=pre.length+run.length from by omega,show ((pre.length:Int)).toNat=pre.length from by omega,←List.append_assoc,←List.length_append,List.take_left,List.drop_left]
  have hwr:=hw.sub hrs
  rw [ck_pos (by omega),ck_pos (by omega),hsl,p_candG run x true (by omega) hwr.srt h5 hwr.le]
  have hpl:=posF_len true x 1 0 run
  simp only [Option.bind_some]
  rw [p_pickG run _ (by omega) (by omega) (posF_asc _ _ _ _ _) (fun a ha=>by have:=posF_ge true x 1 0 run a ha; omega),pickA_posF]
  have hcl:=chn_len (last:=true) (x:=x) (n:=1) (l:=run)
  simp only [Option.bind_some]
  rw [p_Complete _ (chn_sm hwr.sm).1 (by omega)]
  simp only [Option.bind_some]
  have hch:chn true x 1 l=((chn true x 1 run).1,pre++((chn true x 1 run).2++post)):=by
   rw [e,chn_pre true (fun r hr hc=>by rw [h4 r hr] at hc; simp at hc),chn_post true h6]
  cases hc:complF (chn true x 1 run).1 with
  | none =>
   simp only [optR,noR,Bool.not_false,if_true]
   refine .inl ⟨_,rfl,?_⟩
   have:joinL (l.length+1) l x=([],l):=by
    unfold joinL
    rw [hch,hc]
   rw [this,List.append_nil]
  | some w =>
   have hp:0 < (chn true x 1 run).1.length:=List.length_pos_iff.2 (compl_pos hc)
   simp only [optR,Bool.not_true,Bool.false_eq_true,if_false]
   unfold x_ReplaceRecord
   rw [ck_pos ⟨by omega,by omega,by omega,by omega,by omega⟩]
   simp only [Option.bind_some]
   rw [ck_pos (by simp only [List.length_cons,List.length_nil]; omega)]
   have hrep:l.take ((pre.length:Int)).toNat++(chn true x 1 run).2++l.drop ((pre.length:Int)+(run.length:Int)).toNat=(chn true x 1 l).2:=by
    rw [hch]
    conv=>lhs; rw [e]
    rw [show ((pre.length:Int)+(run.length:Int)).toNat=pre.length+run.length from by omega,show ((pre.length:Int)).toNat=pre.length from by omega,List.take_left,←List.append_assoc pre run post,←List.length_append,List.drop_left,List.append_assoc]
   rw [hrep]
   have hl2:=chn_len (last:=true) (x:=x) (n:=1) (l:=l)
   rw [hch] at hl2
   simp only at hl2
   have hl3:(chn true x 1 l).2.length < l.length:=by rw [hch]; simp only; omega
   refine .inr ⟨_,rfl,⟨hw.sub (chn_sub _ _ _ _),by simp only [List.length_append,List.length_cons,List.length_nil]; omega⟩,by simp only; omega,?_⟩
   simp only
   have:joinL (l.length+1) l x=(w :: (joinL l.length (chn true x 1 l).2 x).1,(joinL l.length (chn true x 1 l).2 x).2):=by
    conv=>lhs; unfold joinL
    rw [show (chn true x 1 l).1=(chn true x 1 run).1 from by rw [hch],hc]
   rw [this,joinL_fuel x ((chn true x 1 l).2.length+1) l.length _ (by omega) (by omega)]
   simp
theorem p_Join (now l:List Record) (h:Wt now) (hv:∀ r,r∈l→errF r=0) (hl:now.length+l.length≤1000):f_correlate_Join now l=some (joinF now l):=by
 unfold f_correlate_Join x_CloneRecord
 rw [ck_pos (by omega)]
 simp only [Option.bind_some]
 refine (loop_rec0 l (fun s:List Record×List Record×Int=>s.2.2) (fun s t=>some (s.2.1++(joinF s.1 t).1,(joinF s.1 t).2)) (fun s t=>Wt s.1∧(∀ r,r∈t→errF r=0)∧s.1.length+s.2.1.length+t.length≤1000) (by omega) ?_ ?_ (s:=(now,([]:List Record),(0:Int))) rfl ⟨h,hv,by simp only [List.length_nil]; omega⟩).trans (by simp)
 ·rintro ⟨w,o,i⟩ ⟨h1,h2,h3⟩ hi
  simp only at h1 h2 h3 hi ⊢
  unfold f_correlate_Join_l1
  rw [if_neg (by simp only [decide_eq_true_eq]; omega)]
  exact ⟨_,rfl,by simp [joinF]⟩
 ·rintro ⟨w,o,i⟩ r t ⟨h1,h2,h3⟩ hi0 hi1 hn hlen
  simp only at h1 h2 h3 hi0 hi1 hn hlen ⊢
  simp only [List.length_cons] at h3
  have hr:=h2 r (List.mem_cons_self ..)
  have ht:∀ r,r∈t→errF r=0:=fun y hy=>h2 y (List.mem_cons_of_mem _ hy)
  unfold f_correlate_Join_l1
  rw [if_pos (by simpa using hi1),ck_pos ⟨hi0,hi1⟩,hn]
  by_cases hp:r.part=0
  ·rw [if_pos (by simpa using hp),ck_pos (by simp only [List.length_cons,List.length_nil]; omega),ck_pos (by omega)]
   refine .inr ⟨_,rfl,⟨h1,ht,by simp only [List.length_append,List.length_cons,List.length_nil]; omega⟩,rfl,?_⟩
   simp only [joinF,stepJ,hp,if_true]
   simp
  ·rw [if_neg (by simpa using hp)]
   have es:stepJ w r=joinL (w.length+2) (insP w r) r:=by unfold stepJ; rw [if_neg hp]
   have hins:=h1.ins hr
   have hil:=insP_len w r
   have key:loop (fun s=>f_correlate_Join_l2 l w o i s) 0=some (.inl ((stepJ w r).2,o++(stepJ w r).1,i+1)):=by
    refine loop_rec0 w (fun s:Int=>s) (fun s t=>(some (Sum.inl ((stepJ w r).2,o++(stepJ w r).1,i+1)):Option ((List Record×List Record×Int) ⊕ (List Record×List Record)))) (fun s t=>t=w.drop s.toNat∧insP w r=w.take s.toNat++insP t r) (by omega) ?_ ?_ rfl ⟨rfl,by simp⟩
    ·intro k ⟨_,hk⟩ hke
     unfold f_correlate_Join_l2 f_correlate_Join_j1
     rw [ck_pos (fun h=>by simp at h; omega),ck_pos (fun h=>by simp at h; omega)]
     have e0:decide (k < (w.length:Int))=false:=by simp; omega
     simp only [e0,gcall,Bool.false_eq_true,if_false,Option.bind_some,Bool.false_and,hn]
     unfold x_InsertRecord
     rw [ck_pos ⟨by omega,by omega,by simp,by simp only [List.length_cons,List.length_nil]; omega⟩]
     have e1:w.take k.toNat++[r]++w.drop k.toNat=insP w r:=by
      rw [hk,List.drop_of_length_le (by omega)]; simp [insP]
     simp only [Option.bind_some,f_correlate_callOf,e1]
     rw [show (⟨r.source,r.call⟩:CorrelateCall)=callC r from rfl,p_join r (insP w r) o hins (by omega),joinL_fuel r ((insP w r).length+1) (w.length+2) _ (by omega) (by omega),←es]
     simp only [Option.bind_some]
     rw [ck_pos (by omega)]
     exact ⟨_,rfl,rfl⟩
    ·intro k y u ⟨hdu,hk⟩ hk0 hk1 hny hkl
     have hu:w.drop (k.toNat+1)=u:=by
      rw [drop_nth (l:=w) (k:=k.toNat) (by omega)] at hdu
      injection hdu with _ h; exact h.symm
     unfold f_correlate_Join_l2 f_correlate_Join_j1
     rw [ck_pos (fun _=>⟨hk0,hk1⟩),ck_pos (fun _=>by omega)]
     obtain ⟨c,hc,hci⟩:=p_before y r
     have e0:decide (k < (w.length:Int))=true:=by simp; omega
     simp only [e0,gcall,if_true,hny,hn,hc,Option.bind_some,Bool.true_and]
     by_cases hlt:Lt r y
     ·rw [if_neg (by simp; exact Int.lt_of_not_ge (fun h=>(hci.1 h) hlt))]
      unfold x_InsertRecord
      rw [ck_pos ⟨by omega,by omega,by simp,by simp only [List.length_cons,List.length_nil]; omega⟩]
      have e1:w.take k.toNat++[r]++w.drop k.toNat=insP w r:=by
       rw [hk,drop_nth (l:=w) (k:=k.toNat) (by omega),hny]
       rw [hu]
       unfold insP
       rw [if_pos hlt]; simp
      simp only [Option.bind_some,f_correlate_callOf,e1]
      rw [show (⟨r.source,r.call⟩:CorrelateCall)=callC r from rfl,p_join r (insP w r) o hins (by omega),joinL_fuel r ((insP w r).length+1) (w.length+2) _ (by omega) (by omega),←es]
      simp only [Option.bind_some]
      rw [ck_pos (by omega)]
      exact .inl ⟨_,rfl,rfl⟩
     ·rw [if_pos (by simp; exact hci.2 hlt),ck_pos (by omega)]
      refine .inr ⟨_,rfl,⟨by rw [show (k+1).toNat=k.toNat+1 from by omega,hu],?_⟩,rfl,by first | rfl | trivial⟩
      rw [hk,show (k+1).toNat=k.toNat+1 from by omega,take_nth (by omega),hny]
      conv=>lhs; unfold insP
      rw [if_neg hlt]; simp
   rw [key]
   have hsl:=stepJ_len w r
   refine .inr ⟨_,rfl,⟨h1.step hr,ht,by simp only [List.length_append]; omega⟩,rfl,?_⟩
   simp only [joinF]
   simp
theorem expF_fuel (b:Int):∀ (m m':Nat) (l:List Record),l.length≤m→l.length≤m'→expF b m l=expF b m' l
 | 0,0,_,_,_=>rfl
 | 0,m'+1,[],_,_=>rfl
 | m+1,0,[],_,_=>rfl
 | m+1,m'+1,[],_,_=>rfl
 | m+1,m'+1,x :: l,h,h'=>by
  have hl:=rest_len x l
  simp only [List.length_cons] at h h'
  unfold expF
  rw [expF_fuel b m m' (restF x (x :: l)) (by omega) (by omega)]
theorem endF_cons (x:Record) (l:List Record):endF (x :: l)=(wholeF (pickA 0 (shrF (x :: l) (posF false x 1 0 (x :: l)) (posF false x 1 0 (x :: l)).length) (x :: l)).1).toList++(pickA 0 (shrF (x :: l) (posF false x 1 0 (x :: l)) (posF false x 1 0 (x :: l)).length) (x :: l)).2.map aloneF:=rfl
theorem shrF_succ (l:List Record) (at':List Int) (m:Nat):shrF l at' (m+1)=if (wholeF (pickA 0 (at'.take (m+1)) l).1).isSome=true then at'.take (m+1) else shrF l at' m:=rfl
theorem endF_len:∀ (l:List Record),(endF l).length≤l.length
 | []=>Nat.le_refl _
 | x :: l=>by
  rw [endF_cons]
  generalize shrF (x :: l) (posF false x 1 0 (x :: l)) (posF false x 1 0 (x :: l)).length=at'
  have hp:=(pickA_perm 0 at' (x :: l)).length_eq
  simp only [List.length_append,List.length_map,List.length_cons] at hp ⊢
  cases hw:wholeF (pickA 0 at' (x :: l)).1 with
  | none=>simp only [Option.toList_none,List.length_nil]; omega
  | some w =>
   have:0 < (pickA 0 at' (x :: l)).1.length:=by
    cases hq:(pickA 0 at' (x :: l)).1 with
    | nil=>rw [hq] at hw; cases hw
    | cons=>simp
   simp only [Option.toList_some,List.length_cons,List.length_nil]; omega
theorem run_cons (x:Record) (l:List Record):runF x (x :: l)=x :: runF x l:=List.takeWhile_cons_of_pos (p:=fun r=>callB r x) (callB_refl x)
theorem run_sub (x:Record) (l:List Record):(runF x l).Sublist l:=List.takeWhile_sublist _
theorem rest_sub (x:Record) (l:List Record):(restF x l).Sublist l:=List.dropWhile_sublist _
theorem take_run (x:Record) (l:List Record):l.take (runF x l).length=runF x l:=by
 conv=>lhs; rw [←run_rest x l]
 rw [run_rest,←run_rest x l,run_rest]
 conv=>lhs; arg 2; rw [←run_rest x l]
 exact List.take_left
theorem drop_run (x:Record) (l:List Record):l.drop (runF x l).length=restF x l:=by
 conv=>lhs; arg 2; rw [←run_rest x l]
 exact List.drop_left
theorem pickA_sm {i:Int} {at':List Int} {l:List Record} (h:∀ r,r∈l→Sm r):(∀ r,r∈(pickA i at' l).1→Sm r)∧(∀ r,r∈(pickA i at' l).2→Sm r):=by
 have hp:=pickA_perm i at' l
 exact ⟨fun r hr=>h r (hp.mem_iff.1 (List.mem_append.2 (.inl hr))),fun r hr=>h r (hp.mem_iff.1 (List.mem_append.2 (.inr hr)))⟩
theorem pickA_len (i:Int) (at':List Int) (l:List Record):(pickA i at' l).1.length≤l.length∧(pickA i at' l).2.length≤l.length:=by
 have hp:=(pickA_perm i at' l).length_eq
 rw [List.length_append] at hp
 omega
theorem optR_snd (o:Option Record):(optR o).2=o.isSome:=by cases o <;> rfl
def idxL (b:Int):Int→List Record→Int
 | _,[]=>-1
 | i,r :: t=>if b≤r.start then i else idxL b (i+1) t
theorem idxL_any (b:Int):∀ (i:Int) (t:List Record),0≤i→decide (idxL b i t≥0)=t.any (fun r=>decide (b≤r.start))
 | i,[],_=>by simp [idxL]
 | i,r :: t,h=>by
  unfold idxL
  by_cases hb:b≤r.start
  ·simp [hb,h]
  ·rw [if_neg hb,idxL_any b (i+1) t (by omega)]
   simp [hb]
theorem p_late (l:List Record) (b:Int) (hl:l.length≤1000):g_api_Record_v3 l b=some (l.any (fun r=>decide (b≤r.start))):=by
 unfold g_api_Record_v3
 have:g_api_Record_v2 l b=some (idxL b 0 l):=by
  unfold g_api_Record_v2
  refine loop_rec0 l (fun s:Int=>s) (fun s t=>some (idxL b s t)) (fun s t=>True) (by omega) ?_ ?_ rfl trivial
  ·intro i _ hi
   unfold g_api_Record_v2_l1
   rw [if_neg (by simp only [decide_eq_true_eq]; omega)]
   exact ⟨_,rfl,rfl⟩
  ·intro i r t _ hi0 hi1 hn hlen
   unfold g_api_Record_v2_l1
   rw [if_pos (by simpa using hi1),ck_pos ⟨hi0,hi1⟩,hn]
   simp only [g_correlate_Expire_1,Option.bind_some,ge_iff_le]
   by_cases h:b≤r.start
   ·rw [if_pos (by simpa using h)]
    exact .inl ⟨_,rfl,by simp [idxL,h]⟩
   ·rw [if_neg (by simpa using h),ck_pos (by omega)]
    exact .inr ⟨_,rfl,trivial,rfl,by simp [idxL,h]⟩
 rw [this]
 simp only [Option.bind_some]
 rw [idxL_any b 0 l (Int.le_refl _)]
theorem shrF_asc {l:List Record} {P:List Int} (hp:P.Pairwise (· < ·)):∀ (m:Nat),(shrF l P m).Pairwise (· < ·)∧(∀ a,a∈shrF l P m→a∈P)∧(shrF l P m).length≤P.length
 | 0=>⟨.nil,by simp [shrF],by simp [shrF]⟩
 | m+1=>by
  rw [shrF_succ]
  split
  ·exact ⟨hp.sublist (List.take_sublist _ _),fun a ha=>List.mem_of_mem_take ha,by rw [List.length_take]; omega⟩
  ·exact shrF_asc hp m
theorem p_chain (x:Record) (run:List Record) (hw:Wt run) (hc:∀ r,r∈run→callB r x=true) (hl:run.length≤1000):f_correlate_chain run=some (shrF run (posF false x 1 0 run) (posF false x 1 0 run).length):=by
 unfold f_correlate_chain
 rw [p_cand run x false hl hw.srt hc hw.le]
 have hpl:=posF_len false x 1 0 run
 have hge:=posF_ge false x 1 0 run
 have hpa:=posF_asc false x 1 0 run
 simp only [Option.bind_some]
 generalize posF false x 1 0 run=P at hpl hge hpa ⊢
 refine (loop_spec (fun s:List Int=>some (shrF run P s.length)) (fun s=>s=P.take s.length∧s.length≤P.length) (fun s=>s.length) ?_ ⟨by simp,Nat.le_refl _⟩ (by omega))
 rintro s ⟨h1,h2⟩
 unfold f_correlate_chain_l1
 by_cases h0:s.length=0
 ·have:s=[]:=List.length_eq_zero_iff.1 h0
  subst this
  rw [if_neg (by simp)]
  exact .inl ⟨_,rfl,rfl⟩
 ·have hsp:s.Pairwise (· < ·):=by rw [h1]; exact hpa.sublist (List.take_sublist _ _)
  have hsb:∀ a,a∈s→0≤a∧a < (run.length:Int):=fun a ha=>by
   rw [h1] at ha
   have:=hge a (List.mem_of_mem_take ha)
   omega
  rw [if_pos (by simp; omega),p_pick run s hl (by omega) hsp hsb]
  have hpk:=pickA_len 0 s run
  simp only [Option.bind_some]
  rw [p_whole _ (pickA_sm hw.sm).1 (by omega)]
  simp only [Option.bind_some,optR_snd]
  obtain ⟨m,hm⟩:∃ m,s.length=m+1:=⟨s.length-1,by omega⟩
  have hsh:shrF run P s.length=if (wholeF (pickA 0 s run).1).isSome=true then s else shrF run P m:=by
   rw [hm,shrF_succ,←hm,←h1]
  rw [hsh]
  by_cases hww:(wholeF (pickA 0 s run).1).isSome=true
  ·rw [if_pos hww,if_pos hww]
   exact .inl ⟨_,rfl,rfl⟩
  ·rw [if_neg hww,if_neg hww,ck_pos (by omega),ck_pos (by omega)]
   have e:(s.take ((s.length:Int) - 1).toNat)=P.take m:=by
    rw [show ((s.length:Int) - 1).toNat=m from by omega]
    conv=>lhs; rw [h1]
    rw [List.take_take,hm]; congr 1; omega
   have el:(P.take m).length=m:=by rw [List.length_take]; omega
   rw [e]
   exact .inr ⟨_,rfl,⟨by rw [el],by rw [el]; omega⟩,by rw [el]; omega,by simp only [el]⟩
theorem p_Expire (l:List Record) (b:Int) (hw:Wt l) (hl:l.length≤1000):f_correlate_Expire l b=some (expF b l.length l):=by
 unfold f_correlate_Expire x_CloneRecord
 rw [ck_pos (by omega)]
 simp only [Option.bind_some]
 refine (loop_spec (fun s:List Record×List Record×List Record=>some (s.1++(expF b l.length s.2.2).1,s.2.1++(expF b l.length s.2.2).2)) (fun s=>Wt s.2.2∧s.1.length+s.2.1.length+s.2.2.length≤l.length) (fun s=>s.2.2.length) ?_ (s:=(([]:List Record),([]:List Record),l)) ⟨hw,by simp⟩ (by simp only; omega)).trans (by simp)
 rintro ⟨out,left,rest⟩ ⟨h1,h2⟩
 simp only at h1 h2 ⊢
 unfold f_correlate_Expire_l1
 cases rest with
 | nil =>
  rw [if_neg (by simp)]
  refine .inl ⟨_,rfl,?_⟩
  have:expF b l.length []=([],[]):=by cases l.length <;> rfl
  rw [this]; simp
 | cons x t =>
  simp only [List.length_cons] at h2
  have hrl:=(run_sub x (x :: t)).length_le
  have hrn:(runF x (x :: t)).length=(runF x t).length+1:=by rw [run_cons]; rfl
  have hwr:Wt (runF x (x :: t)):=h1.sub (run_sub _ _)
  have hws:Wt (restF x (x :: t)):=h1.sub (rest_sub _ _)
  have hrl2:=rest_len x t
  have htot:(runF x (x :: t)).length+(restF x (x :: t)).length=t.length+1:=by
   have:=congrArg List.length (run_rest x (x :: t))
   rw [List.length_append] at this
   exact this
  have hel:=endF_len (runF x (x :: t))
  obtain ⟨m,hm⟩:∃ m,l.length=m+1:=⟨l.length-1,by omega⟩
  have hexp2:expF b l.length (x :: t)=if (runF x (x :: t)).any (fun r=>decide (b≤r.start))=true then ((expF b l.length (restF x (x :: t))).1,runF x (x :: t)++(expF b l.length (restF x (x :: t))).2) else (endF (runF x (x :: t))++(expF b l.length (restF x (x :: t))).1,(expF b l.length (restF x (x :: t))).2):=by
   conv=>lhs; rw [hm]; unfold expF
   rw [expF_fuel b m l.length (restF x (x :: t)) (by omega) (by omega)]
  have hix:idxF x 0 (x :: t)=0:=by unfold idxF; rw [if_pos (callB_refl x)]
  simp only [List.length_cons] at hrl
  rw [if_pos (by simp),ck_pos (by simp only [List.length_cons]; omega),show nth (x :: t) (Int.toNat 0)=x from rfl]
  simp only [f_correlate_callOf,Option.bind_some]
  rw [show (⟨x.source,x.call⟩:CorrelateCall)=callC x from rfl,p_span (x :: t) x (by simp only [List.length_cons]; omega),hix,if_neg (by omega)]
  simp only [Option.bind_some,Int.toNat_zero,List.drop_zero,runN_run,Int.zero_add,Int.toNat_natCast]
  rw [ck_pos (by simp only [List.length_cons]; omega),ck_pos (by simp only [List.length_cons]; omega)]
  simp only [take_run,drop_run]
  rw [p_late _ b (by omega)]
  simp only [Option.bind_some]
  rw [hexp2]
  by_cases hany:(runF x (x :: t)).any (fun r=>decide (b≤r.start))=true
  ·rw [if_pos hany,if_pos hany,ck_pos (by omega)]
   refine .inr ⟨_,rfl,⟨hws,by simp only [List.length_append]; omega⟩,by simp only [List.length_cons]; omega,?_⟩
   simp
  ·rw [if_neg hany,if_neg hany,p_chain x _ hwr run_call (by omega)]
   have hpl:=posF_len false x 1 0 (runF x (x :: t))
   have hge:=posF_ge false x 1 0 (runF x (x :: t))
   obtain ⟨q1,q2,q3⟩:=shrF_asc (l:=runF x (x :: t)) (posF_asc false x 1 0 (runF x (x :: t))) (posF false x 1 0 (runF x (x :: t))).length
   simp only [Option.bind_some]
   rw [p_pick _ _ (by omega) (by omega) q1 (fun a ha=>by have:=hge a (q2 a ha); omega)]
   have he:endF (runF x (x :: t))=(wholeF (pickA 0 (shrF (runF x (x :: t)) (posF false x 1 0 (runF x (x :: t))) (posF false x 1 0 (runF x (x :: t))).length) (runF x (x :: t))).1).toList++(pickA 0 (shrF (runF x (x :: t)) (posF false x 1 0 (runF x (x :: t))) (posF false x 1 0 (runF x (x :: t))).length) (runF x (x :: t))).2.map aloneF:=by
    rw [run_cons]; exact endF_cons x _
   generalize shrF (runF x (x :: t)) (posF false x 1 0 (runF x (x :: t))) (posF false x 1 0 (runF x (x :: t))).length=at' at he
   have hpk:=pickA_len 0 at' (runF x (x :: t))
   have hpm:=pickA_sm (i:=0) (at':=at') hwr.sm
   simp only [Option.bind_some]
   rw [p_whole _ hpm.1 (by omega)]
   simp only [Option.bind_some]
   generalize hpg:pickA 0 at' (runF x (x :: t))=pk at hpk he
   have key:∀ (o:List Record) (c0 c1 c2:Int) (c3 c4:List UInt8) (c5 c6 c7 c8:Int) (c9:Bool) (c10:Int) (c11:Bool),o.length≤2000→f_correlate_Expire_j1 left (x :: t) ((0:Int),((runF x (x :: t)).length:Int)) pk o c0 c1 c2 c3 c4 c5 c6 c7 c8 c9 c10 c11=some (.inl (o++pk.2.map aloneF,left,restF x (x :: t))):=by
    intro o c0 c1 c2 c3 c4 c5 c6 c7 c8 c9 c10 c11 ho
    unfold f_correlate_Expire_j1
    refine loop_rec0 pk.2 (fun s:List Record×Int=>s.2) (fun s t'=>(some (Sum.inl (s.1++t'.map aloneF,left,restF x (x :: t))):Option ((List Record×List Record×List Record) ⊕ (List Record×List Record)))) (fun s t'=>(s.1.length:Int)≤s.2+2000) (by omega) ?_ ?_ (s:=(o,(0:Int))) rfl (by simp only; omega)
    ·rintro ⟨q,i⟩ h hi
     simp only at h hi ⊢
     unfold f_correlate_Expire_l2
     rw [if_neg (by simp only [decide_eq_true_eq]; omega)]
     refine ⟨_,rfl,?_⟩
     simp only [Int.toNat_natCast,drop_run]
     simp
    ·rintro ⟨q,i⟩ r t' h hi0 hi1 hn hlen
     simp only at h hi0 hi1 hn hlen ⊢
     unfold f_correlate_Expire_l2
     rw [if_pos (by simpa using hi1),ck_pos ⟨hi0,hi1⟩,hn]
     simp only [f_correlate_alone,Option.bind_some]
     rw [ck_pos (by simp only [List.length_cons,List.length_nil]; omega),ck_pos (by omega)]
     refine .inr ⟨_,rfl,by simp only [List.length_append,List.length_cons,List.length_nil]; omega,rfl,?_⟩
     simp only [List.map_cons,List.append_assoc]
     rfl
   cases hww:wholeF pk.1 with
   | none =>
    rw [hww] at he
    rw [if_neg (by simp [optR,noR]),key _ _ _ _ _ _ _ _ _ _ _ _ _ (by omega)]
    refine .inr ⟨_,rfl,⟨hws,?_⟩,by simp only [List.length_cons]; omega,?_⟩
    ·have:=congrArg List.length he
     simp only [Option.toList_none,List.nil_append] at this
     simp only [List.length_append]; omega
    ·rw [he]; simp
   | some w =>
    rw [hww] at he
    rw [if_pos (show (optR (some w)).2=true from rfl),ck_pos (by simp only [List.length_cons,List.length_nil]; omega),key _ _ _ _ _ _ _ _ _ _ _ _ _ (by simp only [List.length_append,List.length_cons,List.length_nil]; omega)]
    refine .inr ⟨_,rfl,⟨hws,?_⟩,by simp only [List.length_cons]; omega,?_⟩
    ·have:=congrArg List.length he
     simp only [Option.toList_some,List.length_append,List.length_cons,List.length_nil] at this
     simp only [List.length_append,List.length_cons,List.length_nil]; omega
    ·rw [he]; simp [optR]
def addT (u:List Int) (r:Record):List Int:=if okT r=true then setN u 5 r.kind.toNat (nth u r.kind.toNat+r.units) else u
def totT (l:List Record):List Int:=l.foldl addT [0,0,0,0,0]
theorem conT_bd (r:Record) (k:Nat):0≤conT r k∧conT r k≤1099511627776:=by
 unfold conT
 split
 ·rename_i h
  have:=h.1
  simp only [okT,decide_eq_true_eq] at this
  exact ⟨this.2.2.1,this.2.2.2⟩
 ·omega
theorem sumT_bd:∀ (l:List Record) (k:Nat),0≤sumT l k∧sumT l k≤l.length*1099511627776
 | [],k=>by simp [sumT]
 | r :: l,k=>by
  have h1:=conT_bd r k
  have h2:=sumT_bd l k
  simp only [sumT,List.length_cons]
  omega
theorem addT_len {u:List Int} (h:u.length=5) (r:Record):(addT u r).length=5:=by
 unfold addT; split
 ·exact setN_len _ _ _ _
 ·exact h
theorem nth_addT (u:List Int) (r:Record) {k:Nat} (hk:k < 5):nth (addT u r) k=nth u k+conT r k:=by
 unfold addT conT
 by_cases h:okT r=true
 ·rw [if_pos h,nth_setN hk]
  by_cases h2:r.kind.toNat=k
  ·rw [if_pos h2,if_pos ⟨h,h2⟩,h2]
  ·rw [if_neg h2,if_neg (fun h3=>h2 h3.2)]; omega
 ·rw [if_neg h,if_neg (fun h3=>h h3.1)]; omega
theorem nth_fold:∀ (l:List Record) (u:List Int) {k:Nat},k < 5→nth (l.foldl addT u) k=nth u k+sumT l k
 | [],u,k,_=>by simp [sumT]
 | r :: l,u,k,hk=>by
  simp only [List.foldl_cons,sumT]
  rw [nth_fold l _ hk,nth_addT u r hk]; omega
theorem nth_totT (l:List Record) {k:Nat} (hk:k < 5):nth (totT l) k=sumT l k:=by
 unfold totT
 rw [nth_fold l _ hk]
 have:nth ([0,0,0,0,0]:List Int) k=0:=by
  match k,hk with
  | 0,_=>rfl
  | 1,_=>rfl
  | 2,_=>rfl
  | 3,_=>rfl
  | 4,_=>rfl
 omega
theorem five {u:List Int} (h:u.length=5):[nth u 0,nth u 1,nth u 2,nth u 3,nth u 4]=u:=by
 match u,h with
 | [a,b,c,d,e],_=>rfl
theorem five_bd {u:List Int} {x:Int} (h:∀ j,j < 5→0≤nth u j∧nth u j≤x) {n:Int} (h1:1≤n) (h2:n≤4):0≤nth u n.toNat∧nth u n.toNat≤x:=h _ (by omega)
theorem p_Units (l:List Record) (hl:l.length≤1000):f_correlate_Units l=some (totT l):=by
 unfold f_correlate_Units
 have:=loop_spec (step:=fun s:Int×Int×Int×Int×Int×Int=>f_correlate_Units_l1 l s.1 s.2.1 s.2.2.1 s.2.2.2.1 s.2.2.2.2.1 s.2.2.2.2.2)
  (fun s=>some ((l.drop s.1.toNat).foldl addT [s.2.1,s.2.2.1,s.2.2.2.1,s.2.2.2.2.1,s.2.2.2.2.2]))
  (fun s=>0≤s.1∧s.1≤(l.length:Int)∧∀ j,j < 5→0≤nth [s.2.1,s.2.2.1,s.2.2.2.1,s.2.2.2.2.1,s.2.2.2.2.2] j∧nth [s.2.1,s.2.2.1,s.2.2.2.1,s.2.2.2.2.1,s.2.2.2.2.2] j≤s.1*1099511627776)
  (fun s=>((l.length:Int) - s.1).toNat) (by
   rintro ⟨i,c1,c2,c3,c4,c5⟩ ⟨h0,h1,h2⟩
   simp only at h0 h1 h2 ⊢
   unfold f_correlate_Units_l1
   by_cases hi:i < (l.length:Int)
   ·right
    have hd:=drop_nth (l:=l) (k:=i.toNat) (by omega)
    rw [if_pos (by simpa using hi),ck_pos ⟨h0,hi⟩]
    generalize nth l i.toNat=r at *
    have hfive:=five (u:=[c1,c2,c3,c4,c5]) rfl
    generalize hu:[c1,c2,c3,c4,c5]=u at *
    have hul:u.length=5:=by rw [←hu]; rfl
    by_cases hk:okT r=true
    ·have hk':=hk
     simp only [okT,decide_eq_true_eq] at hk'
     have hb:=five_bd h2 hk'.1 hk'.2.1
     have hadd:addT u r=setN u 5 r.kind.toNat (nth u r.kind.toNat+r.units):=if_pos hk
     rw [if_pos (by simp; omega),ck_pos (by omega),ck_pos (by omega),ck_pos (by omega),ck_pos (by omega),ck_pos (by omega),ck_pos (by omega)]
     refine ⟨_,rfl,⟨by omega,by omega,?_⟩,by omega,?_⟩
     ·simp only
      rw [←hadd,five (addT_len hul r)]
      intro j hj
      rw [nth_addT u r hj]
      have:=h2 j hj
      have:=conT_bd r j
      omega
     ·simp only
      rw [←hadd,five (addT_len hul r),show (i+1).toNat=i.toNat+1 from by omega,hd,List.foldl_cons]
    ·have hk':=hk
     simp only [okT,decide_eq_true_eq] at hk'
     have hadd:addT u r=u:=if_neg hk
     rw [if_neg (by simp; omega),ck_pos (by omega)]
     refine ⟨_,rfl,⟨by omega,by omega,?_⟩,by omega,?_⟩
     ·simp only
      rw [hu]
      intro j hj
      have:=h2 j hj
      omega
     ·simp only
      rw [hu,show (i+1).toNat=i.toNat+1 from by omega,hd,List.foldl_cons,hadd]
   ·left
    rw [if_neg (by simpa using hi),List.drop_of_length_le (by omega)]
    exact ⟨_,rfl,rfl⟩) (s:=(0,0,0,0,0,0)) ⟨by simp,by simp,by
     intro j hj
     match j,hj with
     | 0,_=>simp [nth]
     | 1,_=>simp [nth]
     | 2,_=>simp [nth]
     | 3,_=>simp [nth]
     | 4,_=>simp [nth]⟩ (by simp; omega)
 rw [this]; rfl
theorem awake_true:f_w15_awake=some true:=by kernel_rfl
theorem few_tot (l:List Record) (n:Int) (h0:0≤n) (h1:n≤200):∃ b,f_w15_few l n=some b∧(b=true→(l.length:Int)≤n∧∀ r,r∈l→Sm r):=by
 unfold f_w15_few
 obtain ⟨b,h1,h2⟩:=loop_post (step:=fun i:Int=>f_w15_few_l1 l n i) (fun b=>b=true→(l.length:Int)≤n∧∀ r,r∈l→Sm r) (fun i:Int=>0≤i∧i≤n+1∧i≤(l.length:Int)∧∀ r,r∈l.take i.toNat→Sm r) (fun i=>(n+1-i).toNat) (fun i hI=>by
  obtain ⟨h0,h1,h2,h3⟩:=hI
  show (∃ r,f_w15_few_l1 l n i=_∧_)∨∃ s',f_w15_few_l1 l n i=_∧_
  unfold f_w15_few_l1
  by_cases h:i < (l.length:Int)∧i≤n
  ·rw [if_pos (by simp [h]),ck_pos (by omega),ck_pos (by omega)]
   by_cases hs:Sm (nth l i.toNat)
   ·have hs':=hs
    unfold Sm at hs'
    rw [if_neg (by simp; omega),ck_pos (by omega)]
    refine .inr ⟨i+1,rfl,⟨by omega,by omega,by omega,?_⟩,by omega⟩
    rw [show (i+1).toNat=i.toNat+1 from by omega,take_nth (by omega)]
    intro r hr
    rcases List.mem_append.1 hr with hr | hr
    ·exact h3 r hr
    ·simp at hr; subst hr; exact hs
   ·have hs':=hs
    unfold Sm at hs'
    rw [if_pos (by simp; omega)]
    exact .inl ⟨_,rfl,by simp⟩
  ·rw [if_neg (by simp; omega)]
   unfold f_w15_few_j1
   refine .inl ⟨_,rfl,fun hb=>?_⟩
   simp at hb
   have:i=l.length:=by omega
   refine ⟨by omega,fun r hr=>h3 r ?_⟩
   rw [List.take_of_length_le (by omega)]
   exact hr) (s:=0) ⟨by omega,by omega,by omega,by simp⟩ (by omega)
 exact ⟨b,h1,h2⟩
theorem valid_tot (l:List Record):∃ b,f_w15_valid l=some b∧(b=true→l.length≤25∧∀ r,r∈l→errF r=0):=by
 unfold f_w15_valid
 obtain ⟨b,h1,h2⟩:=few_tot l 25 (by decide) (by decide)
 rw [h1]
 simp only [Option.bind_some]
 cases b with
 | false=>exact ⟨_,rfl,by simp⟩
 | true =>
  obtain ⟨hl,hs⟩:=h2 rfl
  rw [if_neg (by simp)]
  have:loop (fun s=>f_w15_valid_l1 l s) 0=some (l.all fun r=>decide (errF r=0)):=by
   refine loop_rec0 l (fun s:Int=>s) (fun s t=>some (t.all fun r=>decide (errF r=0))) (fun s t=>∀ r,r∈t→Sm r) (by omega) ?_ ?_ rfl hs
   ·intro i _ hi
    unfold f_w15_valid_l1
    rw [if_neg (by simp only [decide_eq_true_eq]; omega)]
    exact ⟨_,rfl,rfl⟩
   ·intro i r t h hi0 hi1 hn hlen
    unfold f_w15_valid_l1
    rw [if_pos (by simpa using hi1),ck_pos ⟨hi0,hi1⟩,hn,p_rCheck r (h r (List.mem_cons_self ..))]
    simp only [Option.bind_some]
    by_cases he:errF r=0
    ·rw [if_neg (by simp [he]),ck_pos (by omega)]
     exact .inr ⟨_,rfl,fun p hp=>h p (List.mem_cons_of_mem _ hp),rfl,by simp [he]⟩
    ·rw [if_pos (by simpa using he)]
     exact .inl ⟨_,rfl,by simp [he]⟩
  rw [this]
  exact ⟨_,rfl,fun h=>⟨by omega,fun r hr=>by simpa using List.all_eq_true.1 h r hr⟩⟩
theorem light_tot (l:List Record):∃ b,f_w15_light l=some b∧(b=true→l.length≤25∧Opn l):=by
 unfold f_w15_light
 obtain ⟨b,h1,h2⟩:=few_tot l 25 (by decide) (by decide)
 rw [h1]
 simp only [Option.bind_some]
 cases b with
 | false=>exact ⟨_,rfl,by simp⟩
 | true =>
  obtain ⟨hl,hs⟩:=h2 rfl
  simp only [gcall,if_true]
  rw [p_rOpen l hs (by omega)]
  exact ⟨_,rfl,fun h=>⟨by omega,(opn_iff l).1 (by simpa using h)⟩⟩
theorem joinF_len:∀ (l now:List Record),(joinF now l).1.length+(joinF now l).2.length≤now.length+l.length
 | [],now=>by simp [joinF]
 | r :: l,now=>by
  have h1:=stepJ_len now r
  have h2:=joinF_len l (stepJ now r).2
  simp only [joinF,List.length_append,List.length_cons]
  omega
theorem expF_len (b:Int):∀ (m:Nat) (l:List Record),(expF b m l).1.length+(expF b m l).2.length≤l.length
 | 0,l=>by simp [expF]
 | m+1,[]=>by simp [expF]
 | m+1,x :: l=>by
  have h1:=expF_len b m (restF x (x :: l))
  have h2:=congrArg List.length (run_rest x (x :: l))
  have h3:=endF_len (runF x (x :: l))
  rw [List.length_append] at h2
  unfold expF
  split <;> simp only [List.length_append] <;> omega
theorem p_Same (a:List Record) (hl:a.length≤1000):f_r13_Same a a=some true:=by
 unfold f_r13_Same f_r09_Same
 rw [if_neg (by simp),loop_all a (fun _=>true) true true (by omega) (fun i h0 h1=>?_) (fun i hi=>?_)]
 ·simp
 ·unfold f_r09_Same_l1
  rw [if_pos (by simpa using h1),ck_pos (by omega),ck_pos (by omega),if_neg (by rw [Record.eq_refl]; simp),ck_pos (by omega)]
  rfl
 ·unfold f_r09_Same_l1
  rw [if_neg (by simp; omega)]
theorem five_refl (u:List Int):eqVs [.int .i64 (nth u 0),.int .i64 (nth u 1),.int .i64 (nth u 2),.int .i64 (nth u 3),.int .i64 (nth u 4)] [.int .i64 (nth u 0),.int .i64 (nth u 1),.int .i64 (nth u 2),.int .i64 (nth u 3),.int .i64 (nth u 4)]=true:=by simp [eqVs,eqV]
theorem totT_bd (l:List Record) (hl:l.length≤1000) {k:Nat} (hk:k < 5):0≤nth (totT l) k∧nth (totT l) k≤1099511627776000:=by
 rw [nth_totT l hk]
 have:=sumT_bd l k
 omega
theorem p_sum (a b:List Record) (ha:a.length≤1000) (hb:b.length≤1000):f_w15_sum a b=some [sumT a 0+sumT b 0,sumT a 1+sumT b 1,sumT a 2+sumT b 2,sumT a 3+sumT b 3,sumT a 4+sumT b 4]:=by
 unfold f_w15_sum
 rw [p_Units a ha,p_Units b hb]
 simp only [Option.bind_some]
 have y0:=totT_bd b hb (k:=0) (by decide)
 have y1:=totT_bd b hb (k:=1) (by decide)
 have y2:=totT_bd b hb (k:=2) (by decide)
 have y3:=totT_bd b hb (k:=3) (by decide)
 have y4:=totT_bd b hb (k:=4) (by decide)
 have x0:=totT_bd a ha (k:=0) (by decide)
 have x1:=totT_bd a ha (k:=1) (by decide)
 have x2:=totT_bd a ha (k:=2) (by decide)
 have x3:=totT_bd a ha (k:=3) (by decide)
 have x4:=totT_bd a ha (k:=4) (by decide)
 rw [←nth_totT a (k:=0) (by decide),←nth_totT a (k:=1) (by decide),←nth_totT a (k:=2) (by decide),←nth_totT a (k:=3) (by decide),←nth_totT a (k:=4) (by decide),←nth_totT b (k:=0) (by decide),←nth_totT b (k:=1) (by decide),←nth_totT b (k:=2) (by decide),←nth_totT b (k:=3) (by decide),←nth_totT b (k:=4) (by decide)]
 generalize totT b=y at *
 generalize totT a=x at *
 refine (loop_spec (fun s:Int×Int×Int×Int×Int×Int=>some [s.2.1+if s.1≤0 then nth y 0 else 0,s.2.2.1+if s.1≤1 then nth y 1 else 0,s.2.2.2.1+if s.1≤2 then nth y 2 else 0,s.2.2.2.2.1+if s.1≤3 then nth y 3 else 0,s.2.2.2.2.2+if s.1≤4 then nth y 4 else 0])
  (fun s=>(0≤s.1∧s.1≤5)∧∀ j,j < 5→0≤nth [s.2.1,s.2.2.1,s.2.2.2.1,s.2.2.2.2.1,s.2.2.2.2.2] j∧nth [s.2.1,s.2.2.1,s.2.2.2.1,s.2.2.2.2.1,s.2.2.2.2.2] j≤1099511627776000*(1+if (j:Int) < s.1 then 1 else 0)) (fun s=>(5-s.1).toNat) ?_ (s:=(0,nth x 0,nth x 1,nth x 2,nth x 3,nth x 4)) ⟨⟨Int.le_refl _,(show (0:Int)≤5 by decide)⟩,fun j hj=>?_⟩ (show (5-(0:Int)).toNat < 18446744073709551616 by decide)).trans (by simp)
 ·rintro ⟨k,c0,c1,c2,c3,c4⟩ ⟨⟨h0,h1⟩,h2⟩
  simp only at h0 h1 h2 ⊢
  have b0:0≤c0∧c0≤1099511627776000*(1+if (0:Int) < k then 1 else 0):=h2 0 (by decide)
  have b1:0≤c1∧c1≤1099511627776000*(1+if (1:Int) < k then 1 else 0):=h2 1 (by decide)
  have b2:0≤c2∧c2≤1099511627776000*(1+if (2:Int) < k then 1 else 0):=h2 2 (by decide)
  have b3:0≤c3∧c3≤1099511627776000*(1+if (3:Int) < k then 1 else 0):=h2 3 (by decide)
  have b4:0≤c4∧c4≤1099511627776000*(1+if (4:Int) < k then 1 else 0):=h2 4 (by decide)
  unfold f_w15_sum_l1
  obtain rfl | rfl | rfl | rfl | rfl | rfl:k=0∨k=1∨k=2∨k=3∨k=4∨k=5:=by omega
  all_goals simp only [Int.toNat_zero,Int.reduceToNat,Int.reduceLT,decide_true,decide_false,if_true,if_false,Bool.false_eq_true,Int.reduceLE,Int.reduceAdd,Int.mul_one] at b0 b1 b2 b3 b4 ⊢
  ·rw [ck_pos (by decide),ck_pos (by decide),ck_pos (by decide),ck_pos (by decide),ck_pos (p:=R64 (nth [c0,c1,c2,c3,c4] 0+nth y 0)) (show R64 (c0+nth y 0) from ⟨by omega,by omega⟩),ck_pos (by decide),ck_pos (by decide),ck_pos (by decide)]
   refine .inr ⟨_,rfl,⟨⟨by simp only; decide,by simp only; decide⟩,fun j hj=>?_⟩,by simp only; decide,?_⟩
   ·match j,hj with
    | 0,_=>exact ⟨show 0≤c0+nth y 0 by omega,show c0+nth y 0≤2199023255552000 by omega⟩
    | 1,_=>exact ⟨show 0≤c1 by omega,show c1≤1099511627776000 by omega⟩
    | 2,_=>exact ⟨show 0≤c2 by omega,show c2≤1099511627776000 by omega⟩
    | 3,_=>exact ⟨show 0≤c3 by omega,show c3≤1099511627776000 by omega⟩
    | 4,_=>exact ⟨show 0≤c4 by omega,show c4≤1099511627776000 by omega⟩
   ·show some [(c0+nth y 0)+0,c1+nth y 1,c2+nth y 2,c3+nth y 3,c4+nth y 4]=some [c0+nth y 0,c1+nth y 1,c2+nth y 2,c3+nth y 3,c4+nth y 4]
    rw [Int.add_zero]
  ·rw [ck_pos (by decide),ck_pos (by decide),ck_pos (by decide),ck_pos (by decide),ck_pos (p:=R64 (nth [c0,c1,c2,c3,c4] 1+nth y 1)) (show R64 (c1+nth y 1) from ⟨by omega,by omega⟩),ck_pos (by decide),ck_pos (by decide),ck_pos (by decide)]
   refine .inr ⟨_,rfl,⟨⟨by simp only; decide,by simp only; decide⟩,fun j hj=>?_⟩,by simp only; decide,?_⟩
   ·match j,hj with
    | 0,_=>exact ⟨show 0≤c0 by omega,show c0≤2199023255552000 by omega⟩
    | 1,_=>exact ⟨show 0≤c1+nth y 1 by omega,show c1+nth y 1≤2199023255552000 by omega⟩
    | 2,_=>exact ⟨show 0≤c2 by omega,show c2≤1099511627776000 by omega⟩
    | 3,_=>exact ⟨show 0≤c3 by omega,show c3≤1099511627776000 by omega⟩
    | 4,_=>exact ⟨show 0≤c4 by omega,show c4≤1099511627776000 by omega⟩
   ·show some [c0+0,(c1+nth y 1)+0,c2+nth y 2,c3+nth y 3,c4+nth y 4]=some [c0+0,c1+nth y 1,c2+nth y 2,c3+nth y 3,c4+nth y 4]
    rw [Int.add_zero,Int.add_zero]
  ·rw [ck_pos (by decide),ck_pos (by decide),ck_pos (by decide),ck_pos (by decide),ck_pos (p:=R64 (nth [c0,c1,c2,c3,c4] 2+nth y 2)) (show R64 (c2+nth y 2) from ⟨by omega,by omega⟩),ck_pos (by decide),ck_pos (by decide),ck_pos (by decide)]
   refine .inr ⟨_,rfl,⟨⟨by simp only; decide,by simp only; decide⟩,fun j hj=>?_⟩,by simp only; decide,?_⟩
   ·match j,hj with
    | 0,_=>exact ⟨show 0≤c0 by omega,show c0≤2199023255552000 by omega⟩
    | 1,_=>exact ⟨show 0≤c1 by omega,show c1≤2199023255552000 by omega⟩
    | 2,_=>exact ⟨show 0≤c2+nth y 2 by omega,show c2+nth y 2≤2199023255552000 by omega⟩
    | 3,_=>exact ⟨show 0≤c3 by omega,show c3≤1099511627776000 by omega⟩
    | 4,_=>exact ⟨show 0≤c4 by omega,show c4≤1099511627776000 by omega⟩
   ·show some [c0+0,c1+0,(c2+nth y 2)+0,c3+nth y 3,c4+nth y 4]=some [c0+0,c1+0,c2+nth y 2,c3+nth y 3,c4+nth y 4]
    rw [Int.add_zero (c2+nth y 2)]
  ·rw [ck_pos (by decide),ck_pos (by decide),ck_pos (by decide),ck_pos (by decide),ck_pos (p:=R64 (nth [c0,c1,c2,c3,c4] 3+nth y 3)) (show R64 (c3+nth y 3) from ⟨by omega,by omega⟩),ck_pos (by decide),ck_pos (by decide),ck_pos (by decide)]
   refine .inr ⟨_,rfl,⟨⟨by simp only; decide,by simp only; decide⟩,fun j hj=>?_⟩,by simp only; decide,?_⟩
   ·match j,hj with
    | 0,_=>exact ⟨show 0≤c0 by omega,show c0≤2199023255552000 by omega⟩
    | 1,_=>exact ⟨show 0≤c1 by omega,show c1≤2199023255552000 by omega⟩
    | 2,_=>exact ⟨show 0≤c2 by omega,show c2≤2199023255552000 by omega⟩
    | 3,_=>exact ⟨show 0≤c3+nth y 3 by omega,show c3+nth y 3≤2199023255552000 by omega⟩
    | 4,_=>exact ⟨show 0≤c4 by omega,show c4≤1099511627776000 by omega⟩
   ·show some [c0+0,c1+0,c2+0,(c3+nth y 3)+0,c4+nth y 4]=some [c0+0,c1+0,c2+0,c3+nth y 3,c4+nth y 4]
    rw [Int.add_zero (c3+nth y 3)]
  ·rw [ck_pos (by decide),ck_pos (by decide),ck_pos (by decide),ck_pos (by decide),ck_pos (p:=R64 (nth [c0,c1,c2,c3,c4] 4+nth y 4)) (show R64 (c4+nth y 4) from ⟨by omega,by omega⟩),ck_pos (by decide),ck_pos (by decide),ck_pos (by decide)]
   refine .inr ⟨_,rfl,⟨⟨by simp only; decide,by simp only; decide⟩,fun j hj=>?_⟩,by simp only; decide,?_⟩
   ·match j,hj with
    | 0,_=>exact ⟨show 0≤c0 by omega,show c0≤2199023255552000 by omega⟩
    | 1,_=>exact ⟨show 0≤c1 by omega,show c1≤2199023255552000 by omega⟩
    | 2,_=>exact ⟨show 0≤c2 by omega,show c2≤2199023255552000 by omega⟩
    | 3,_=>exact ⟨show 0≤c3 by omega,show c3≤2199023255552000 by omega⟩
    | 4,_=>exact ⟨show 0≤c4+nth y 4 by omega,show c4+nth y 4≤2199023255552000 by omega⟩
   ·show some [c0+0,c1+0,c2+0,c3+0,(c4+nth y 4)+0]=some [c0+0,c1+0,c2+0,c3+0,c4+nth y 4]
    rw [Int.add_zero (c4+nth y 4)]
  ·exact .inl ⟨_,rfl,by simp⟩
 ·match j,hj with
  | 0,_=>exact ⟨show 0≤nth x 0 by omega,show nth x 0≤1099511627776000 by omega⟩
  | 1,_=>exact ⟨show 0≤nth x 1 by omega,show nth x 1≤1099511627776000 by omega⟩
  | 2,_=>exact ⟨show 0≤nth x 2 by omega,show nth x 2≤1099511627776000 by omega⟩
  | 3,_=>exact ⟨show 0≤nth x 3 by omega,show nth x 3≤1099511627776000 by omega⟩
  | 4,_=>exact ⟨show 0≤nth x 4 by omega,show nth x 4≤1099511627776000 by omega⟩
def selF:List Bool→List Record→List Record
 | b :: u,r :: l=>if b=true then r :: selF u l else selF u l
 | _,_=>[]
theorem selF_len:∀ (u:List Bool) (l:List Record),(selF u l).length≤l.length
 | [],l=>by simp [selF]
 | b :: u,[]=>by simp [selF]
 | b :: u,r :: l=>by
  have:=selF_len u l
  unfold selF
  split <;> simp only [List.length_cons] <;> omega
theorem selF_all:∀ (u:List Bool) (l:List Record),u.length=l.length→(selF u l).length=l.length→selF u l=l
 | [],[],_,_=>rfl
 | b :: u,r :: l,h,h'=>by
  have hl:=selF_len u l
  unfold selF at h' ⊢
  simp only [List.length_cons] at h h'
  split at h'
  ·rename_i hb
   simp only [List.length_cons] at h'
   rw [if_pos hb,selF_all u l (by omega) (by omega)]
  ·omega
theorem selF_none:∀ (l:List Record),selF (List.replicate l.length false) l=[]
 | []=>rfl
 | r :: l=>by
  simp only [List.length_cons,List.replicate_succ]
  unfold selF
  rw [if_neg (by simp),selF_none l]
theorem selF_set:∀ (u:List Bool) (l:List Record) (k:Nat),u.length=l.length→k < l.length→nth u k=false→(selF (u.set k true) l).Perm (nth l k :: selF u l)
 | [],_ :: _,_,h,_,_=>by simp at h
 | _,[],_,_,hk,_=>by simp at hk
 | b :: u,r :: l,0,h,hk,hf=>by
  rw [nth_cons_zero] at hf
  subst hf
  simp only [List.set_cons_zero,nth_cons_zero]
  unfold selF
  rw [if_pos rfl,if_neg (by simp)]
 | b :: u,r :: l,k+1,h,hk,hf=>by
  rw [nth_cons_succ] at hf
  simp only [List.length_cons] at h hk
  have ih:=selF_set u l k (by omega) (by omega) hf
  simp only [List.set_cons_succ,nth_cons_succ]
  unfold selF
  split
  ·exact (ih.cons r).trans (.swap _ _ _)
  ·exact ih
theorem shuffled_tot (l:List Record) (order:List Int) (hl:l.length≤1000):∃ o b,f_w15_shuffled l order=some (o,b)∧(b=true→l.Perm o):=by
 unfold f_w15_shuffled
 rw [ck_pos (by omega)]
 obtain ⟨p,h1,h2⟩:=loop_post (step:=fun s:List Bool×List Record×Int=>f_w15_shuffled_l1 l order s.1 s.2.1 s.2.2) (fun p:List Record×Bool=>p.2=true→l.Perm p.1)
  (fun s=>s.1.length=l.length∧s.2.1.Perm (selF s.1 l)∧s.2.2=(s.2.1.length:Int)) (fun s=>l.length-s.2.1.length) (by
   rintro ⟨u,o,i⟩ ⟨hu,hp,hi⟩
   simp only at hu hp hi ⊢
   have hol:o.length≤l.length:=by rw [hp.length_eq]; exact selF_len _ _
   unfold f_w15_shuffled_l1
   by_cases hlt:i < (order.length:Int)
   ·rw [if_pos (by simpa using hlt),ck_pos (by omega),ck_pos (fun _=>by omega),ck_pos (fun _=>by omega),ck_pos (fun h=>by simp at h; omega),ck_pos (fun h=>by simp at h; omega)]
    generalize nth order i.toNat=k
    by_cases hk:(0≤k∧k < (l.length:Int))∧nth u k.toNat=false
    ·have hsel:=selF_set u l k.toNat hu (by omega) hk.2
     have hlen:=hsel.length_eq
     have hs2:=selF_len (u.set k.toNat true) l
     rw [List.length_cons,←hp.length_eq] at hlen
     rw [if_neg (by simp [hk.2]; omega),ck_pos (by omega),ck_pos (by omega),ck_pos (by omega),ck_pos (by omega),ck_pos (by omega),ck_pos (by simp only [List.length_cons,List.length_nil]; omega),ck_pos (by omega)]
     refine .inr ⟨_,rfl,⟨by simp only [List.length_set]; exact hu,?_,by simp only [List.length_append,List.length_cons,List.length_nil]; omega⟩,by simp only [List.length_append,List.length_cons,List.length_nil]; omega⟩
     simp only
     exact (List.perm_append_comm.trans (hp.cons _)).trans hsel.symm
    ·rw [if_pos (by
      cases hb:nth u k.toNat with
      | true=>simp
      | false =>
       simp
       have:¬(0≤k∧k < (l.length:Int)):=fun h=>hk ⟨h,hb⟩
       omega)]
     exact .inl ⟨_,rfl,by simp⟩
   ·rw [if_neg (by simpa using hlt)]
    unfold f_w15_shuffled_j1
    refine .inl ⟨_,rfl,fun h=>?_⟩
    simp only [beq_iff_eq] at h
    have he:=selF_all u l hu (by rw [←hp.length_eq]; omega)
    rw [he] at hp
    exact hp.symm) (s:=((List.replicate ((l.length:Int)).toNat false:List Bool),([]:List Record),0)) ⟨by simp,by simp only [Int.toNat_natCast,selF_none]; exact .refl _,rfl⟩ (by simp only [List.length_nil]; omega)
 exact ⟨p.1,p.2,h1,h2⟩
def sameP (a b:Record):Prop:=b.part > 0∧callB b a=true∧b.part=a.part
theorem distinct_tot (l:List Record) (hl:l.length≤1000):∃ b,f_w15_distinct l=some b∧(b=true→l.Pairwise fun a b=>¬ sameP a b):=by
 unfold f_w15_distinct
 obtain ⟨b,h1,h2⟩:=loop_post (step:=fun s:Int=>f_w15_distinct_l1 l s) (fun b=>b=true→l.Pairwise fun a b=>¬ sameP a b) (fun i:Int=>0≤i∧i≤(l.length:Int)∧(l.take i.toNat).Pairwise fun a b=>¬ sameP a b) (fun i=>((l.length:Int) - i).toNat) (fun i hI=>by
  obtain ⟨h0,h1,h2⟩:=hI
  show (∃ r,f_w15_distinct_l1 l i=_∧_)∨∃ s',f_w15_distinct_l1 l i=_∧_
  unfold f_w15_distinct_l1
  by_cases hi:i < (l.length:Int)
  ·rw [if_pos (by simpa using hi)]
   obtain ⟨r,k1,k2⟩:=loop_post (step:=fun s:Int=>f_w15_distinct_l2 l i s) (fun r=>r=.inr false∨(r=.inl (i+1)∧∀ a,a∈l.take i.toNat→¬ sameP a (nth l i.toNat))) (fun k:Int=>0≤k∧k≤i∧∀ a,a∈l.take k.toNat→¬ sameP a (nth l i.toNat)) (fun k=>(i-k).toNat) (fun k hK=>by
    obtain ⟨g0,g1,g2⟩:=hK
    show (∃ r,f_w15_distinct_l2 l i k=_∧_)∨∃ s',f_w15_distinct_l2 l i k=_∧_
    unfold f_w15_distinct_l2
    by_cases hk:k < i
    ·rw [if_pos (by simpa using hk),ck_pos (by omega),ck_pos (fun _=>by omega),ck_pos (fun _=>by omega),ck_pos (fun _=>by omega),ck_pos (fun _=>by omega),ck_pos (fun _=>by omega),ck_pos (fun _=>by omega)]
     by_cases hb:sameP (nth l k.toNat) (nth l i.toNat)
     ·obtain ⟨b1,b2,b3⟩:=hb
      rw [callB_iff] at b2
      rw [if_pos (by simp [b2.1,b2.2,b3]; omega)]
      exact .inl ⟨_,rfl,.inl rfl⟩
     ·rw [if_neg (by
       simp only [Bool.and_eq_true,decide_eq_true_eq,beq_iff_eq]
       rintro ⟨⟨⟨b1,b2⟩,b3⟩,b4⟩
       exact hb ⟨b1,callB_iff.2 ⟨b2,b3⟩,b4⟩),ck_pos (by omega)]
      refine .inr ⟨k+1,rfl,⟨by omega,by omega,?_⟩,by omega⟩
      rw [show (k+1).toNat=k.toNat+1 from by omega,take_nth (by omega)]
      intro a ha
      rcases List.mem_append.1 ha with ha | ha
      ·exact g2 a ha
      ·simp at ha; subst ha; exact hb
    ·rw [if_neg (by simpa using hk),ck_pos (by omega)]
     have:k=i:=by omega
     subst this
     exact .inl ⟨_,rfl,.inr ⟨rfl,g2⟩⟩) (s:=0) ⟨by omega,by omega,by simp⟩ (by omega)
   rcases k2 with rfl | ⟨rfl,k3⟩
   ·exact .inl ⟨_,k1,by simp⟩
   ·refine .inr ⟨_,k1,⟨by omega,by omega,?_⟩,by omega⟩
    rw [show (i+1).toNat=i.toNat+1 from by omega,take_nth (by omega)]
    refine List.pairwise_append.2 ⟨h2,by simp,fun a ha b hb=>?_⟩
    simp at hb; subst hb
    exact k3 a ha
  ·rw [if_neg (by simpa using hi)]
   refine .inl ⟨_,rfl,fun _=>?_⟩
   rw [List.take_of_length_le (by omega)] at h2
   exact h2) (s:=0) ⟨by omega,by omega,by simp⟩ (by omega)
 exact ⟨b,h1,h2⟩
def cntF (l:List Record) (r:Record):Nat:=(l.filter fun x=>eqVs (Record.vals x) (Record.vals r)).length
theorem p_count (l:List Record) (r:Record) (hl:l.length≤1000):f_w15_count l r=some (cntF l r:Int):=by
 unfold f_w15_count
 refine (loop_rec0 l (fun s:Int×Int=>s.2) (fun s t=>some (s.1+(cntF t r:Int))) (fun s t=>0≤s.1∧s.1≤s.2) (by omega) ?_ ?_ (s:=((0:Int),(0:Int))) rfl ⟨by decide,by decide⟩).trans (by simp)
 ·rintro ⟨n,i⟩ ⟨h0,h1⟩ hi
  simp only at h0 h1 hi ⊢
  unfold f_w15_count_l1
  rw [if_neg (by simp only [decide_eq_true_eq]; omega)]
  exact ⟨_,rfl,by simp [cntF]⟩
 ·rintro ⟨n,i⟩ x t ⟨h0,h1⟩ hi0 hi1 hn hlen
  simp only at h0 h1 hi0 hi1 hn hlen ⊢
  unfold f_w15_count_l1
  rw [if_pos (by simpa using hi1),ck_pos ⟨hi0,hi1⟩,hn]
  by_cases he:eqVs (Record.vals x) (Record.vals r)=true
  ·rw [if_pos he,ck_pos (by omega),ck_pos (by omega)]
   refine .inr ⟨_,rfl,⟨by simp only; omega,by simp only; omega⟩,rfl,?_⟩
   simp only [cntF,List.filter_cons_of_pos (p:=fun x=>eqVs (Record.vals x) (Record.vals r)) he,List.length_cons]
   congr 1; omega
  ·rw [if_neg he,ck_pos (by omega)]
   refine .inr ⟨_,rfl,⟨by simp only; omega,by simp only; omega⟩,rfl,?_⟩
   simp only [cntF,List.filter_cons_of_neg (p:=fun x=>eqVs (Record.vals x) (Record.vals r)) he]
theorem units_true (now l:List Record) (order:List Int):f_w15_CorrelateUnits now l order=some true:=by
 unfold f_w15_CorrelateUnits
 obtain ⟨b,h1,h2⟩:=light_tot now
 obtain ⟨c,h3,h4⟩:=valid_tot l
 rw [h1,h3]
 simp only [Option.bind_some,gcall_mk]
 by_cases h:b=true∧c=true
 ·obtain ⟨rfl,rfl⟩:=h
  obtain ⟨ln,ho⟩:=h2 rfl
  obtain ⟨ll,hv⟩:=h4 rfl
  have hj:=joinF_len l now
  have hopn:=joinF_opn ho hv
  have hel:=expF_len 6311390400 (joinF now l).2.length (joinF now l).2
  rw [if_neg (by simp),p_Join now l ho.wt hv (by omega)]
  simp only [Option.bind_some]
  rw [p_Expire _ _ hopn.wt (by omega)]
  simp only [Option.bind_some]
  rw [p_sum now l (by omega) (by omega),p_sum _ _ (by omega) (by omega),p_sum _ _ (by omega) (by omega)]
  have hsum:∀ k,sumT (joinF now l).1 k+sumT (joinF now l).2 k=sumT now k+sumT l k:=fun k=>joinF_sum k l now
  have hsum2:∀ k,sumT (expF 6311390400 (joinF now l).2.length (joinF now l).2).1 k+sumT (expF 6311390400 (joinF now l).2.length (joinF now l).2).2 k=sumT (joinF now l).2 k:=fun k=>expF_sum 6311390400 k _ _ (Nat.le_refl _)
  simp only [Option.bind_some,hsum,hsum2,five_refl,Bool.not_true,Bool.not_false,gcall,if_true]
  rw [p_Units _ (by omega)]
  have e5:∀ (u:List Record),eqVs [.int .i64 (nth [sumT u 0,sumT u 1,sumT u 2,sumT u 3,sumT u 4] 0),.int .i64 (nth [sumT u 0,sumT u 1,sumT u 2,sumT u 3,sumT u 4] 1),.int .i64 (nth [sumT u 0,sumT u 1,sumT u 2,sumT u 3,sumT u 4] 2),.int .i64 (nth [sumT u 0,sumT u 1,sumT u 2,sumT u 3,sumT u 4] 3),.int .i64 (nth [sumT u 0,sumT u 1,sumT u 2,sumT u 3,sumT u 4] 4)] [.int .i64 (nth (totT u) 0),.int .i64 (nth (totT u) 1),.int .i64 (nth (totT u) 2),.int .i64 (nth (totT u) 3),.int .i64 (nth (totT u) 4)]=true:=fun u=>by
   rw [nth_totT u (k:=0) (by decide),nth_totT u (k:=1) (by decide),nth_totT u (k:=2) (by decide),nth_totT u (k:=3) (by decide),nth_totT u (k:=4) (by decide)]
   exact five_refl [sumT u 0,sumT u 1,sumT u 2,sumT u 3,sumT u 4]
  simp only [Option.bind_some,e5,Bool.not_true,Bool.or_self,Bool.false_eq_true,if_false]
  obtain ⟨o,s,hs1,hs2⟩:=shuffled_tot l order (by omega)
  obtain ⟨d,hd1,hd2⟩:=distinct_tot (([]++now)++l) (by simp only [List.length_append,List.length_nil]; omega)
  rw [ck_pos (by simp only [List.length_nil]; omega),ck_pos (by simp only [List.length_append,List.length_nil]; omega),hs1]
  simp only [Option.bind_some]
  rw [hd1]
  by_cases hsd:s=true∧d=true
  ·obtain ⟨rfl,rfl⟩:=hsd
   have hp:=hs2 rfl
   have hdist:=hd2 rfl
   rw [List.nil_append] at hdist
   have hv':∀ r,r∈o→errF r=0:=fun r hr=>hv r (hp.mem_iff.2 hr)
   have hD:Dist (now++l.filter partsB):=by
    have e:(now++l).filter partsB=now++l.filter partsB:=by
     rw [List.filter_append,filter_all (fun r hr=>by simp [partsB,(ho.ok r hr).2])]
    have hf:=hdist.filter partsB
    rw [e] at hf
    refine hf.imp_of_mem (fun {x y} hx hy hxy hbad=>hxy ?_)
    rw [←e] at hx hy
    have hyp:=(List.mem_filter.1 hy)
    have hye:errF y=0:=by
     rcases List.mem_append.1 hyp.1 with h | h
     ·exact (ho.ok y h).1
     ·exact hv y h
    have hpart:y.part≠0:=by simpa [partsB] using hyp.2
    have:=(errF_good hye).part
    exact ⟨by omega,callB_symm hbad.1,hbad.2.symm⟩
   obtain ⟨r1,r2⟩:=joinF_order ho hv hD hp
   have hj2:=joinF_len o now
   have hle:=hp.length_eq
   simp only [gcall,Bool.not_true,Bool.not_false,if_true,Option.bind_some,Bool.or_self,Bool.false_eq_true,if_false]
   rw [p_Join now o ho.wt hv' (by omega)]
   simp only [Option.bind_some,←r1]
   rw [p_Same _ (by omega)]
   simp only [Option.bind_some,Bool.not_true,Bool.false_or]
   rw [if_neg (by simp [r2.length_eq])]
   refine loop_rec0 (joinF now l).1 (fun s:Int=>s) (fun s t=>some true) (fun s t=>True) (by omega) ?_ ?_ rfl trivial
   ·intro i _ hi
    unfold f_w15_CorrelateUnits_l1
    rw [if_neg (by simp only [decide_eq_true_eq]; omega),awake_true]
    exact ⟨_,rfl,rfl⟩
   ·intro i r t _ hi0 hi1 hn hlen
    unfold f_w15_CorrelateUnits_l1
    have hc:cntF (joinF now o).1 r=cntF (joinF now l).1 r:=((r2.symm).filter _).length_eq
    have hl2:=r2.length_eq
    rw [if_pos (by simpa using hi1),ck_pos ⟨hi0,hi1⟩,hn,p_count _ r (by omega)]
    simp only [Option.bind_some]
    rw [ck_pos ⟨hi0,hi1⟩,p_count _ r (by omega)]
    simp only [Option.bind_some,hc]
    rw [if_neg (by simp),ck_pos (by omega)]
    exact .inr ⟨_,rfl,trivial,rfl,by first | rfl | trivial⟩
  ·rw [show ((if (!!s)=true then some d else some default):Option Bool)=some (if (!!s)=true then d else default) from by split <;> rfl]
   simp only [Option.bind_some]
   rw [if_pos (by cases s <;> cases d <;> simp at hsd ⊢),awake_true]
   rfl
 ·rw [if_pos (by
   cases b <;> cases c <;> simp at h ⊢),awake_true]; rfl
end Go.Proofs.YtajciinoiacpmaaDoor
namespace Go.Abs
open Go.RowKit Go.ChangeShapes Go.WideShapes Go.Deep
inductive Sh where
 | i (k:IntKind)
 | b
 | s
 | sl (row:List Sh)
inductive DFits:Sh→D→Prop where
 | i (k:IntKind) (n:Int) (h:(Lit.int k n).wf=true):DFits (.i k) (.ex (.int k n))
 | b (x:Bool):DFits .b (.ex (.bool x))
 | s (l:List UInt8) (h:l.length≤maxLen):DFits .s (.ex (.string ⟨l.toArray⟩))
 | sl (row:List Sh) (rows:List (List D)) (hn:rows.length≤maxLen) (h1:∀ r,r∈rows→r.length=row.length)
   (h:∀ r,r∈rows→∀ (i:Nat) sh d,row[i]?=some sh→r[i]?=some d→DFits sh d):DFits (.sl row) (.sl row.length rows)
def shapeFs (P:Program) (rec:TypeId→Option (List Sh)):List Field→Nat→Option (List Sh)
 | [],_=>some []
 | f :: fs,off=>match rec f.type with
  | some r=>if Nat.beq f.offset off && Nat.beq r.length (P.cellsOf f.type) then (shapeFs P rec fs (off+r.length)).map (r++·) else none
  | none=>none
def shape (P:Program):Nat→TypeId→Option (List Sh)
 | 0,_=>none
 | n+1,t=>match P.underlying t with
  | some (.int k)=>some [.i k]
  | some .bool=>some [.b]
  | some .string=>some [.s]
  | some (.slice e)=>match shape P n e with
   | some r=>if Nat.beq r.length (P.cellsOf e) && Nat.blt 0 r.length then some [.sl r] else none
   | none=>none
  | some (.struct fs)=>match shapeFs P (shape P n) fs.toList 0 with
   | some r=>if Nat.beq r.length (P.cellsOf t) then some r else none
   | none=>none
  | _=>none
def Opens (lim:Nat→Nat) (w:World) (shs:List Sh) (cs:List Value):Prop :=
 ∃ ds:List D,ds.length=shs.length∧cs.length=shs.length∧∀ (i:Nat) sh d c,shs[i]?=some sh→ds[i]?=some d→cs[i]?=some c→DFits sh d∧DRep lim w d c∧c.oneCell'=true
theorem Opens.one {lim:Nat→Nat} {w:World} {sh:Sh} {d:D} {c:Value} (h1:DFits sh d) (h2:DRep lim w d c) (h3:c.oneCell'=true):Opens lim w [sh] [c]:=by
 refine ⟨[d],rfl,rfl,fun i sh' d' c' ha hb hc=>?_⟩
 cases i with
 | zero=>simp at ha hb hc; subst ha; subst hb; subst hc; exact ⟨h1,h2,h3⟩
 | succ i=>simp at ha
theorem Opens.nil {lim:Nat→Nat} {w:World}:Opens lim w [] []:=⟨[],rfl,rfl,fun i _ _ _ h=>by simp at h⟩
theorem Opens.append {lim:Nat→Nat} {w:World} {s1 s2:List Sh} {c1 c2:List Value} (h:Opens lim w s1 c1) (k:Opens lim w s2 c2):Opens lim w (s1++s2) (c1++c2):=by
 obtain ⟨d1,a1,b1,e1⟩:=h
 obtain ⟨d2,a2,b2,e2⟩:=k
 refine ⟨d1++d2,by simp [a1,a2],by simp [b1,b2],fun i sh d c ha hb hc=>?_⟩
 by_cases hi:i < s1.length
 ·rw [List.getElem?_append_left hi] at ha
  rw [List.getElem?_append_left (by omega)] at hb hc
  exact e1 i sh d c ha hb hc
 ·rw [List.getElem?_append_right (by omega)] at ha hb hc
  rw [a1] at hb
  rw [b1] at hc
  exact e2 _ sh d c ha hb hc
section opening
variable {H:Type} {enc:TypeId×Value→H} {P:Program} {w:World} {held:Bool} {lim:Nat→Nat}
theorem opens_fields {rec:TypeId→Option (List Sh)} (cs:List Value):∀ (fs:List Field) (off:Nat) (shs:List Sh),shapeFs P rec fs off=some shs→cs.length=off+shs.length →
  (∀ (i:Nat) f,fs[i]?=some f→∀ r,rec f.type=some r→r.length=P.cellsOf f.type→Opens lim w r ((cs.drop f.offset).take (P.cellsOf f.type)))→Opens lim w shs (cs.drop off)
 | [],off,shs,h,hl,_=>by
  simp [shapeFs] at h; subst h
  rw [List.drop_of_length_le (by simp at hl; omega)]
  exact .nil
 | f :: fs,off,shs,h,hl,hf=>by
  unfold shapeFs at h
  split at h
  ·rename_i r hr
   split at h
   ·rename_i hc
    rw [Bool.and_eq_true] at hc
    replace hc:=And.intro (Nat.eq_of_beq_eq_true hc.1) (Nat.eq_of_beq_eq_true hc.2)
    obtain ⟨rest,hrest,rfl⟩:=Option.map_eq_some_iff.1 h
    simp only [List.length_append] at hl
    have h1:=hf 0 f rfl r hr hc.2
    have h2:=opens_fields cs fs (off+r.length) rest hrest (by omega) fun i g hg=>hf (i+1) g (by simpa using hg)
    have e:cs.drop off=(cs.drop f.offset).take (P.cellsOf f.type)++cs.drop (off+r.length):=by
     rw [hc.1,←hc.2,←List.drop_drop,List.take_append_drop]
    rw [e]
    exact h1.append h2
   ·cases h
  ·cases h
theorem opens_shape (hlim:∀ b off u,w.cell? ⟨b,off,none⟩=some u→off < lim b):∀ (n:Nat) (t:TypeId) (shs:List Sh),shape P n t=some shs→∀ fuel cs x,DataW.trod enc P w 0 (fun _=>true) held fuel t cs=some x→Opens lim w shs cs
 | 0,_,_,h=>by simp [shape] at h
 | n+1,t,shs,h=>by
  intro fuel cs x ht
  unfold shape at h
  split at h
  ·rename_i k hu
   cases h
   obtain ⟨m,rfl,_,hw⟩:=DataW.trod_int hu ht
   exact .one (.i k m hw) (.ex _) rfl
  ·rename_i hu
   cases h
   obtain ⟨b,rfl,_⟩:=DataW.trod_bool hu ht
   exact .one (.b b) (.ex _) rfl
  ·rename_i hu
   cases h
   obtain ⟨⟨a⟩,rfl,_,hs⟩:=DataW.trod_string hu ht
   exact .one (.s a.toList (by simpa [ByteArray.size] using hs)) (.ex _) rfl
  ·rename_i e hu
   split at h
   ·rename_i r hr
    split at h
    ·rename_i hc
     cases h
     rw [Bool.and_eq_true] at hc
     obtain ⟨hc1,hc2⟩:=And.intro (Nat.eq_of_beq_eq_true hc.1) (blt_lt hc.2)
     rcases open_slice hu ht with ⟨rfl,_⟩ | ⟨a,len,cap,m,n',D0,Pl,rfl,hb,hl,hm,hmm,hx,hi⟩
     ·exact .one (.sl r [] (Nat.zero_le _) (fun _ h=>by cases h) (fun _ h=>by cases h)) (.nil _ _) rfl
     ·simp only [if_true] at hmm
      subst hmm
      obtain ⟨F,hF⟩:=choose_lt (n:=m) (p:=fun i (ds:List D)=>ds.length=r.length∧∀ (j:Nat) sh d,r[j]?=some sh→ds[j]?=some d→∃ c,w.cell? (a.add (i*r.length+j))=some c∧DFits sh d∧DRep lim w d c∧c.oneCell'=true) (fun i hi'=>by
       obtain ⟨cs',h1,h2⟩:=hi i hi'
       obtain ⟨ds,k1,k2,k3⟩:=opens_shape hlim n e r hr n' cs' _ h2
       obtain ⟨_,h3,h4⟩:=World.cells?_some h1
       refine ⟨ds,k1,fun j sh d hj hd=>?_⟩
       have hjl:j < r.length:=(List.getElem?_eq_some_iff.1 hj).1
       have hc':cs'[j]?=some (cs'[j]'(by omega)):=List.getElem?_eq_getElem (by omega)
       refine ⟨cs'[j]'(by omega),?_,k3 j sh d _ hj hd hc'⟩
       rw [←hc',←h4 j (by omega),←hc1,Go.Deep.add_add])
      have hfit:DFits (.sl r) (.sl r.length ((List.range len).map F)):=by
       refine .sl r _ (by simp; omega) (fun row hrow=>?_) fun row hrow i sh d hs hd=>?_
       ·obtain ⟨i,hi2,rfl⟩:=List.mem_map.1 hrow
        exact (hF i (by have:=List.mem_range.1 hi2; omega)).1
       ·obtain ⟨i',hi2,rfl⟩:=List.mem_map.1 hrow
        obtain ⟨c,_,hh,_⟩:=(hF i' (by have:=List.mem_range.1 hi2; omega)).2 i sh d hs hd
        exact hh
      refine .one hfit ?_ rfl
      rcases Nat.eq_zero_or_pos m with h0 | h0
      ·subst h0
       have:len=0:=by omega
       subst this
       exact .nil _ _
      ·have hspot:a.spot=none:=by
        obtain ⟨cs',h1,h2⟩:=hi 0 h0
        obtain ⟨_,h3,h4⟩:=World.cells?_some h1
        have h5:=h4 0 (by omega)
        have h6:cs'[0]?=some (cs'[0]'(by omega)):=List.getElem?_eq_getElem (by omega)
        rw [h6] at h5
        unfold World.cell? at h5
        split at h5
        ·split at h5
         ·cases h5
         ·rename_i hsp
          simpa [Addr.add] using hsp
        ·cases h5
       obtain ⟨b,off,sp⟩:=a
       simp only at hspot
       subst hspot
       have hcell:∀ i j,i < m→j < r.length→∀ sh d,r[j]?=some sh→(F i)[j]?=some d→∃ c,w.cell? ⟨b,off+(i*r.length+j),none⟩=some c∧DFits sh d∧DRep lim w d c∧c.oneCell'=true:=fun i j hi' hj sh d hs hd=>by
        obtain ⟨c,h1,h2⟩:=(hF i hi').2 j sh d hs hd
        rw [Addr.add_lit] at h1
        exact ⟨c,h1,h2⟩
       have hlen:((List.range len).map F).length=len:=by simp
       have key:=DRep.sl (lim:=lim) (w:=w) r.length ((List.range len).map F) b off m (by rw [hlen]; exact hl) (fun row hrow=>by
        obtain ⟨i,hi2,rfl⟩:=List.mem_map.1 hrow
        exact (hF i (by have:=List.mem_range.1 hi2; omega)).1) (fun k hk=>by
        rw [hlen] at hk
        have hdiv:k / r.length < len:=Nat.div_lt_of_lt_mul (by rw [Nat.mul_comm]; exact hk)
        have hmod:k % r.length < r.length:=Nat.mod_lt _ hc2
        obtain ⟨c,h1,h2,h3,h4⟩:=hcell (k / r.length) (k % r.length) (by omega) hmod _ _ (List.getElem?_eq_getElem hmod) (List.getElem?_eq_getElem (by rw [(hF _ (by omega)).1]; exact hmod))
        have e:k / r.length*r.length+k % r.length=k:=by rw [Nat.mul_comm]; exact Nat.div_add_mod k r.length
        rw [e] at h1
        exact ⟨hlim _ _ _ h1,c,h1,h4⟩) (fun i j row c u h1 h2 h3=>by
        rw [List.getElem?_map] at h1
        obtain ⟨i',hi2,rfl⟩:=Option.map_eq_some_iff.1 h1
        have hil:i < len:=by have:=(List.getElem?_eq_some_iff.1 hi2).1; simpa using this
        have:i'=i:=by rw [List.getElem?_range hil] at hi2; cases hi2; rfl
        subst this
        have hjl:j < r.length:=by have:=(List.getElem?_eq_some_iff.1 h2).1; rw [(hF _ (by omega)).1] at this; exact this
        obtain ⟨c',k1,k2,k3,k4⟩:=hcell i' j (by omega) hjl _ _ (List.getElem?_eq_getElem hjl) h2
        rw [h3] at k1
        cases k1
        exact k3)
       rw [hlen] at key
       exact key
    ·cases h
   ·cases h
  ·rename_i fs hu
   split at h
   ·rename_i r hr
    split at h
    ·rename_i hc
     cases h
     have hc':=Nat.eq_of_beq_eq_true hc
     obtain ⟨ys,n',_,hy,hlen,hyl,hf⟩:=DataW.trod_struct hu ht
     have:=opens_fields (lim:=lim) (w:=w) (P:=P) cs fs.toList 0 _ hr (by omega) fun i f hi r' hr' hl'=>by
      have h1:=hf i f (by simpa using hi)
      have hys:ys[i]?=some (ys[i]'(by have:=(List.getElem?_eq_some_iff.1 hi).1; simp at this; omega)):=List.getElem?_eq_getElem _
      exact opens_shape hlim n f.type r' hr' n' _ _ (h1.trans hys)
     simpa using this
    ·cases h
   ·cases h
  ·cases h
end opening
end Go.Abs
namespace Go.Abs
open Go.RowKit Go.ChangeShapes Go.WideShapes Go.Deep Go.ChangeAt
def limW (w:World) (b:Nat):Nat:=match w.heap[b]? with
 | some (.cells c _ _)=>c.size
 | _=>0
theorem limW_lt (w:World) (b off:Nat) (u:Value) (h:w.cell? ⟨b,off,none⟩=some u):off < limW w b:=by
 unfold World.cell? at h
 unfold limW
 split at h
 ·rename_i c e k hb
  simp only at hb
  rw [hb]
  simp only [Option.isSome_none,Bool.false_eq_true,if_false] at h
  exact (Array.getElem?_eq_some_iff.1 h).1
 ·cases h
theorem Opens.top {lim:Nat→Nat} {w:World} {sh:Sh} {c:Value} (h:Opens lim w [sh] [c]):∃ d,DFits sh d∧DRep lim w d c:=by
 obtain ⟨ds,h1,_,h3⟩:=h
 match ds,h1 with
 | [d],_=>exact ⟨d,(h3 0 sh d c rfl rfl rfl).1,(h3 0 sh d c rfl rfl rfl).2.1⟩
section top
variable {H:Type} {enc:TypeId×Value→H} {P:Program} {w:World} {held:Bool} {r:Reach} {b0:Nat} {t:TypeId} {v:Value} {d:DataW H} {ps:List MemPlace}
theorem top_slice {n:Nat} {e:TypeId} {row:List Sh} (hs:shape P n t=some [.sl row]) (ht:P.underlying t=some (.slice e)) (hv:Value.okWide P w r b0 t v) (h:DataW.Trod enc P w 0 (fun _=>true) held t v d ps):∃ x,DFits (.sl row) x∧DRep (limW w) w x v:=by
 obtain ⟨a,l,c,rfl⟩:=okWide_slice ht hv
 obtain ⟨fuel,hf⟩:=h
 exact (opens_shape (limW_lt w) n t _ hs fuel _ _ hf).top
end top
theorem rows_of {α:Type} {row:α→List D} {p:α→Prop}:∀ {rows:List (List D)},(∀ r,r∈rows→∃ x,p x∧r=row x)→∃ l:List α,rows=l.map row∧∀ x,x∈l→p x
 | [],_=>⟨[],rfl,fun x h=>by cases h⟩
 | r :: rows,h=>by
  obtain ⟨x,hx,rfl⟩:=h r List.mem_cons_self
  obtain ⟨l,rfl,hl⟩:=rows_of (rows:=rows) (row:=row) (p:=p) fun r' hr=>h r' (List.mem_cons_of_mem _ hr)
  exact ⟨x :: l,rfl,fun y hy=>by rcases List.mem_cons.1 hy with rfl | hy; exact hx; exact hl y hy⟩
theorem DFits.sl_inv {row:List Sh} {d:D} (h:DFits (.sl row) d):∃ rows,d=.sl row.length rows∧rows.length≤maxLen∧∀ r,r∈rows→r.length=row.length∧∀ (i:Nat) sh d,row[i]?=some sh→r[i]?=some d→DFits sh d:=by
 cases h with
 | sl _ rows hn h1 h=>exact ⟨rows,rfl,hn,fun r hr=>⟨h1 r hr,h r hr⟩⟩
theorem DFits.i_inv {d:D} (h:DFits (.i .i64) d):∃ n:Int,d=.ex (.int .i64 n)∧-9223372036854775808≤n∧n≤9223372036854775807:=by
 cases h with
 | i _ n hw=>simp only [Lit.wf,Bool.and_eq_true,decide_eq_true_eq] at hw; exact ⟨n,rfl,hw⟩
theorem DFits.b_inv {d:D} (h:DFits .b d):∃ x:Bool,d=.ex (.bool x):=by cases h with | b x=>exact ⟨x,rfl⟩
section
variable {H:Type} {enc:TypeId×Value→H} {P:Program}
theorem post_of_below {f:Func} {s:ChangeSpec} {apart fresh handsOn again:Bool} {W W':World} {args:Array Value} {v:Value} {ds gs:List (DataW H)} {before pa pv:List MemPlace}
  (hW:DataW.Whole enc P f.params.toList s.vars apart W args.toList ds gs before)
  (hres:∀ (b:Nat) (sp:Nat→Bool) (hd:Bool),DataW.TrodAll enc P W' b sp hd f.resultTypes.toList (v.resultList f.resultTypes.size) (s.fn H (ds++gs)).results [])
  (hargs:∀ sp:Nat→Bool,(∀ p∈before,sp p.block=true)→DataW.TrodAll enc P W' 0 sp true f.params.toList args.toList (s.fn H (ds++gs)).args pa)
  (hvars:∀ sp:Nat→Bool,(∀ p∈before,sp p.block=true)→DataW.TrodVars enc P W' sp s.vars (s.fn H (ds++gs)).vars pv)
  (hps:before=pa++pv) (hb:Below W.heap.size W W')
  (hok:∀ (j:Nat) (t:TypeId) (r:Value),f.resultTypes[j]?=some t→(v.resultList f.resultTypes.size)[j]?=some r→Value.okWide P W' .any 0 t r) :
  s.post enc P f apart fresh handsOn again W args v W':=by
 have hlt:∀ p∈before,p.block < W.heap.size:=fun p hp=>hW.lt p hp
 have hold:∀ p∈before,(fun b=>decide (b < W.heap.size)) p.block=true:=fun p hp=>by simpa using hlt p hp
 refine ⟨ds,gs,before,[],pa,pv,hW,hres _ _ _,hargs _ hold,hvars _ hold,World.keptBut_mono (fun p hp=>⟨hp,?_⟩) (hb.frame (·∈before)),fun _=>?_⟩
 ·rw [hps,List.mem_append] at hp
  exact Or.inr hp
 ·obtain ⟨_,_,_,_,_,hz,hn⟩:=hW
  refine ⟨hok,_,_,([]++pa)++pv,⟨[]++pa,pv,trodAll_append (hargs _ (fun _ _=>rfl)) (hres _ _ _),hvars _ (fun _ _=>rfl),rfl,?_,?_⟩,?_⟩
  ·intro b off hp
   have hin:MemPlace.cell b off∈before:=by rw [hps]; simpa using hp
   rw [hb.frozen (hlt _ hin)]
   exact hz b off hin
  ·intro ha
   have:=hn ha
   rw [hps] at this
   simpa using this
  ·intro p hp _
   rw [hps]
   simpa using hp
end
theorem trodAll_stays {H:Type} {enc:TypeId×Value→H} {P:Program} (hl:laidOutB P=true) {W W':World} (hb:Below W.heap.size W W') (sp:Nat→Bool):∀ {ts:List TypeId} {vs:List Value} {ds:List (DataW H)} {ps:List MemPlace},
  (ts.all fun t=>P.readableRec t && decide (t < P.types.size))=true→DataW.TrodAll enc P W 0 (fun _=>true) true ts vs ds ps→(∀ x∈ps,x.block < W.heap.size)→(∀ x∈ps,sp x.block=true)→DataW.TrodAll enc P W' 0 sp true ts vs ds ps
 | [],[],[],_,_,h,_,_=>h
 | t :: ts,v :: vs,d :: ds,ps,hr,h,hlt,hsp=>by
  obtain ⟨p,q,h1,h2,rfl⟩:=h
  simp only [List.all_cons,Bool.and_eq_true,decide_eq_true_eq] at hr
  refine ⟨p,q,?_,?_,rfl⟩
  ·exact WideElems.Trod_stays hl hr.1.1 hr.1.2 h1 (fun x hx=>hb.same (hlt x (List.mem_append_left _ hx))) (fun x hx=>hsp x (List.mem_append_left _ hx))
  ·exact trodAll_stays hl hb sp (by simpa using hr.2) h2 (fun x hx=>hlt x (List.mem_append_right _ hx)) (fun x hx=>hsp x (List.mem_append_right _ hx))
theorem DFits.s_inv' {d:D} (h:DFits .s d):∃ l:List UInt8,d=.ex (.string ⟨l.toArray⟩)∧l.length≤maxLen:=by cases h with | s l h=>exact ⟨l,rfl,h⟩
theorem rows_of' {α:Type} {row:α→List D} {p:α→Prop} {rows:List (List D)} (h:∀ r,r∈rows→∃ x,r=row x∧p x):∃ l:List α,rows=l.map row∧∀ x,x∈l→p x :=
 rows_of fun r hr=>let ⟨x,h1,h2⟩:=h r hr; ⟨x,h2,h1⟩
theorem DFits.sl_of {sh:List Sh} {d:D} {α:Type} {row:α→List D} {p:α→Prop} (h:DFits (.sl sh) d)
  (hr:∀ r:List D,r.length=sh.length→(∀ (i:Nat) h d,sh[i]?=some h→r[i]?=some d→DFits h d)→∃ x,r=row x∧p x) :
  ∃ l:List α,d=.sl sh.length (l.map row)∧l.length≤maxLen∧∀ z,z∈l→p z:=by
 obtain ⟨rows,rfl,hn,h2⟩:=h.sl_inv
 obtain ⟨l,rfl,hl⟩:=rows_of' (row:=row) (p:=p) fun r hrm=>hr r (h2 r hrm).1 (h2 r hrm).2
 exact ⟨l,rfl,by simpa using hn,hl⟩
theorem ofI (r:List D) (h1:r.length=1) (h2:∀ (i:Nat) sh d,([.i .i64]:List Sh)[i]?=some sh→r[i]?=some d→DFits sh d):∃ x:Int,r=rI x∧(-9223372036854775808≤x∧x≤9223372036854775807):=by
 match r,h1 with
 | [d],_=>obtain ⟨a,rfl,k⟩:=(h2 0 _ d rfl rfl).i_inv; exact ⟨a,rfl,k⟩
section top
variable {H:Type} {enc:TypeId×Value→H} {P:Program} {w:World} {held:Bool} {r:Reach} {b0:Nat} {t:TypeId} {v:Value} {d:DataW H} {ps:List MemPlace}
end top
end Go.Abs
