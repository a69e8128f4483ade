/- Our own texts JA KA KB KC KD KE KF MA MB MC MD ME MF MG MH MI MJ MK ML MM MN C1 C2 C3 of this seat in one. -/
import Derived.Test.YtpnegjippkneoaaGreatDoorYG3
import Derived.Deep.Slices
import Derived.ChangeArms
import Derived.ProofKit
import Derived.Below
import Derived.ChangeSame
set_option linter.unusedSimpArgs false
set_option linter.unusedVariables false
set_option linter.unusedSectionVars false
namespace Go.Proofs.YtpnegjippkneoaaGreatDoor
open Go.RowKit Go.Abs
def callB (a b:Record):Bool:=decide (a.source=b.source) && decide (a.call=b.call)
theorem callB_iff {a b:Record}:callB a b=true↔a.source=b.source∧a.call=b.call:=by simp [callB]
theorem callB_symm {a b:Record} (h:callB a b=true):callB b a=true:=by rw [callB_iff] at *; exact ⟨h.1.symm,h.2.symm⟩
theorem callB_tr {a b c:Record} (h:callB a b=true) (h':callB b c=true):callB a c=true:=by rw [callB_iff] at *; exact ⟨h.1.trans h'.1,h.2.trans h'.2⟩
theorem callB_eq {a x y:Record} (h:callB x y=true):callB a x=callB a y:=by
 rw [callB_iff] at h
 simp [callB,h.1,h.2]
def Lt (a b:Record):Prop:=a.source < b.source∨(a.source=b.source∧(a.call < b.call∨(a.call=b.call∧a.part < b.part)))
instance (a b:Record):Decidable (Lt a b):=by unfold Lt; infer_instance
def Le (a b:Record):Prop:=¬ Lt b a
instance (a b:Record):Decidable (Le a b):=by unfold Le; infer_instance
theorem Le_iff {a b:Record}:Le a b↔a.source < b.source∨(a.source=b.source∧(a.call < b.call∨(a.call=b.call∧a.part≤b.part))):=by
 unfold Le Lt; omega
theorem Le_trans {a b c:Record} (h:Le a b) (h':Le b c):Le a c:=by rw [Le_iff] at *; omega
theorem Le_of_Lt {a b:Record} (h:Lt a b):Le a b:=by rw [Le_iff]; unfold Lt at h; omega
theorem Le_part {a b:Record} (h:Le a b) (hc:callB a b=true):a.part≤b.part:=by rw [Le_iff] at h; rw [callB_iff] at hc; omega
abbrev Srt (l:List Record):Prop:=l.Pairwise Le
def insP:List Record→Record→List Record
 | [],p=>[p]
 | r :: l,p=>if Lt p r then p :: r :: l else r :: insP l p
theorem insP_perm:∀ (l:List Record) (p:Record),(insP l p).Perm (p :: l)
 | [],p=>.refl _
 | r :: l,p=>by
  unfold insP
  split
  ·exact .refl _
  ·exact ((insP_perm l p).cons r).trans (.swap _ _ _)
theorem insP_len (l:List Record) (p:Record):(insP l p).length=l.length+1:=(insP_perm l p).length_eq
theorem insP_mem {l:List Record} {p x:Record}:x∈insP l p↔x=p∨x∈l:=by rw [(insP_perm l p).mem_iff,List.mem_cons]
theorem insP_srt:∀ {l:List Record} {p:Record},Srt l→Srt (insP l p)
 | [],p,_=>by simp [insP,Srt]
 | r :: l,p,h=>by
  unfold insP
  have h2:=List.pairwise_cons.1 h
  split
  ·rename_i hp
   refine List.pairwise_cons.2 ⟨fun x hx=>?_,h⟩
   rcases List.mem_cons.1 hx with e | hx
   ·rw [e]; exact Le_of_Lt hp
   ·exact Le_trans (Le_of_Lt hp) (h2.1 x hx)
  ·rename_i hp
   refine List.pairwise_cons.2 ⟨fun x hx=>?_,insP_srt h2.2⟩
   rcases insP_mem.1 hx with e | hx
   ·rw [e]; exact hp
   ·exact h2.1 x hx
theorem insP_filter (q:Record→Bool) {p:Record} (hp:q p=false):∀ (l:List Record),(insP l p).filter q=l.filter q
 | []=>by simp [insP,hp]
 | r :: l=>by
  unfold insP
  split
  ·rw [List.filter_cons_of_neg (by simp [hp])]
  ·simp only [List.filter_cons,insP_filter q hp l]
def chn (last:Bool) (x:Record):Int→List Record→List Record×List Record
 | _,[]=>([],[])
 | n,r :: l=>if callB r x=true∧r.part=n then (if last=true∧r.last=true then ([r],l) else (r :: (chn last x (n+1) l).1,(chn last x (n+1) l).2)) else ((chn last x n l).1,r :: (chn last x n l).2)
theorem chn_perm (last:Bool) (x:Record):∀ (n:Int) (l:List Record),((chn last x n l).1++(chn last x n l).2).Perm l
 | _,[]=>.refl _
 | n,r :: l=>by
  unfold chn
  split
  ·split
   ·exact .refl _
   ·exact (chn_perm last x (n+1) l).cons r
  ·exact (List.perm_middle).trans ((chn_perm last x n l).cons r)
theorem chn_sub (last:Bool) (x:Record):∀ (n:Int) (l:List Record),(chn last x n l).2.Sublist l
 | _,[]=>.slnil
 | n,r :: l=>by
  unfold chn
  split
  ·split
   ·exact List.sublist_cons_self _ _
   ·exact (chn_sub last x (n+1) l).cons r
  ·exact (chn_sub last x n l).cons_cons r
theorem chn_filter (last:Bool) (x:Record) (q:Record→Bool) (hq:∀ r,callB r x=true→q r=false):∀ (n:Int) (l:List Record),(chn last x n l).2.filter q=l.filter q
 | _,[]=>rfl
 | n,r :: l=>by
  unfold chn
  split
  ·rename_i h
   split
   ·rw [List.filter_cons_of_neg (by simp [hq r h.1])]
   ·rw [List.filter_cons_of_neg (by simp [hq r h.1])]
    exact chn_filter last x q hq (n+1) l
  ·simp only [List.filter_cons,chn_filter last x q hq n l]
theorem chn_filter_l (last:Bool) (x:Record) (q:Record→Bool) (hq:∀ r,callB r x=true→q r=true):∀ (n:Int) (l:List Record),(chn last x n (l.filter q)).1=(chn last x n l).1
 | _,[]=>rfl
 | n,r :: l=>by
  by_cases h:q r=true
  ·rw [List.filter_cons_of_pos h]
   unfold chn
   simp only [chn_filter_l last x q hq (n+1) l,chn_filter_l last x q hq n l]
   split
   ·split <;> rfl
   ·rfl
  ·rw [List.filter_cons_of_neg h,chn_filter_l last x q hq n l]
   conv=>rhs; unfold chn
   rw [if_neg (fun hc=>h (hq r hc.1))]
theorem chn_eqx (last:Bool) {x y:Record} (h:callB x y=true):∀ (n:Int) (l:List Record),chn last x n l=chn last y n l
 | _,[]=>rfl
 | n,r :: l=>by
  unfold chn
  rw [callB_eq (a:=r) h,chn_eqx last h (n+1) l,chn_eqx last h n l]
theorem chn_none (last:Bool) {x:Record}:∀ {n:Int} {l:List Record},(∀ r,r∈l→¬(callB r x=true∧r.part=n))→chn last x n l=([],l)
 | _,[],_=>rfl
 | n,r :: l,h=>by
  unfold chn
  rw [if_neg (h r (List.mem_cons_self ..)),chn_none last (fun y hy=>h y (List.mem_cons_of_mem _ hy))]
theorem chn_pre (last:Bool) {x:Record} {n:Int} {l:List Record}:∀ {pre:List Record},(∀ r,r∈pre→¬(callB r x=true∧r.part=n))→chn last x n (pre++l)=((chn last x n l).1,pre++(chn last x n l).2)
 | [],_=>rfl
 | r :: pre,h=>by
  rw [List.cons_append]
  conv=>lhs; unfold chn
  rw [if_neg (h r (List.mem_cons_self ..)),chn_pre last (fun y hy=>h y (List.mem_cons_of_mem _ hy))]
  rfl
theorem chn_post (last:Bool) {x:Record} {post:List Record} (h:∀ r,r∈post→callB r x=false):∀ {n:Int} {l:List Record},chn last x n (l++post)=((chn last x n l).1,(chn last x n l).2++post)
 | n,[]=>by rw [List.nil_append,chn_none last (fun r hr hc=>by simp [h r hr] at hc)]; rfl
 | n,r :: l=>by
  rw [List.cons_append]
  unfold chn
  simp only [chn_post last h (n:=n+1) (l:=l),chn_post last h (n:=n) (l:=l)]
  split
  ·split <;> rfl
  ·rfl
def sumU:List Record→Int
 | []=>0
 | r :: l=>r.units+sumU l
def whR (q:Record) (u:Int):Record:=⟨q.source,q.serial,q.kind,q.a,q.b,q.start,u,0,0,false,q.trunk,q.inbound⟩
def aloneF (q:Record):Record:=whR q q.units
def Comm (p q:Record):Prop:=p.source=q.source∧p.call=q.call∧p.kind=q.kind∧p.a=q.a∧p.b=q.b∧p.trunk=q.trunk∧p.inbound=q.inbound
instance (a b:Record):Decidable (Comm a b):=by unfold Comm; infer_instance
def wholeF:List Record→Option Record
 | []=>none
 | q :: l=>if ((q :: l).all fun p=>decide (p.part≠0∧errF p=0∧Comm p q))=true∧errF (whR q (sumU (q :: l)))=0 then some (whR q (sumU (q :: l))) else none
def numB:Int→List Record→Bool
 | _,[]=>true
 | n,r :: l=>decide (r.part=n) && decide (r.last=l.isEmpty) && numB (n+1) l
def complF (l:List Record):Option Record:=if numB 1 l=true then wholeF l else none
theorem complF_nil:complF []=none:=rfl
def joinL:Nat→List Record→Record→List Record×List Record
 | 0,now,_=>([],now)
 | m+1,now,x=>match complF (chn true x 1 now).1 with
  | none=>([],now)
  | some w=>(w :: (joinL m (chn true x 1 now).2 x).1,(joinL m (chn true x 1 now).2 x).2)
def stepJ (now:List Record) (r:Record):List Record×List Record:=if r.part=0 then ([r],now) else joinL (now.length+2) (insP now r) r
def joinF:List Record→List Record→List Record×List Record
 | now,[]=>([],now)
 | now,r :: l=>((stepJ now r).1++(joinF (stepJ now r).2 l).1,(joinF (stepJ now r).2 l).2)
structure Opn (l:List Record):Prop where
 srt:Srt l
 ok:∀ r,r∈l→errF r=0∧r.part≠0
 nc:∀ x,complF (chn true x 1 l).1=none
theorem chn_len {last:Bool} {x:Record} {n:Int} {l:List Record}:(chn last x n l).1.length+(chn last x n l).2.length=l.length:=by
 have:=(chn_perm last x n l).length_eq
 rwa [List.length_append] at this
theorem compl_pos {l:List Record} {w:Record} (h:complF l=some w):l≠[]:=by intro e; rw [e,complF_nil] at h; cases h
theorem joinL_spec (x:Record):∀ (m:Nat) (now:List Record),now.length < m→complF (chn true x 1 (joinL m now x).2).1=none∧(joinL m now x).2.Sublist now∧(∀ q:Record→Bool,(∀ r,callB r x=true→q r=false)→(joinL m now x).2.filter q=now.filter q)
 | 0,now,h=>by omega
 | m+1,now,h=>by
  unfold joinL
  split
  ·rename_i hc
   exact ⟨hc,List.Sublist.refl _,fun _ _=>rfl⟩
  ·rename_i w hc
   have hl:=chn_len (last:=true) (x:=x) (n:=1) (l:=now)
   have hp:0 < (chn true x 1 now).1.length:=List.length_pos_iff.2 (compl_pos hc)
   obtain ⟨h1,h2,h3⟩:=joinL_spec x m (chn true x 1 now).2 (by omega)
   refine ⟨h1,h2.trans (chn_sub _ _ _ _),fun q hq=>?_⟩
   rw [h3 q hq,chn_filter true x q hq]
theorem stepJ_opn {now:List Record} {r:Record} (h:Opn now) (hr:errF r=0):Opn (stepJ now r).2:=by
 unfold stepJ
 split
 ·exact h
 ·rename_i hp
  obtain ⟨h1,h2,h3⟩:=joinL_spec r (now.length+2) (insP now r) (by rw [insP_len]; omega)
  refine ⟨(insP_srt h.srt).sublist h2,fun y hy=>?_,fun x=>?_⟩
  ·rcases insP_mem.1 (h2.subset hy) with e | hy
   ·rw [e]; exact ⟨hr,hp⟩
   ·exact h.ok y hy
  ·by_cases hc:callB x r=true
   ·rw [chn_eqx true hc]; exact h1
   ·have hq:∀ y,callB y r=true→(fun y=>callB y x) y=false:=fun y hy=>by
     cases hyx:callB y x with
     | false=>simpa using hyx
     | true=>exact absurd (callB_tr (callB_symm hyx) hy) hc
    have e:=h3 (fun y=>callB y x) hq
    rw [insP_filter _ (by simpa using hq r (by simp [callB]))] at e
    rw [←chn_filter_l true x (fun y=>callB y x) (fun _ h=>h),e,chn_filter_l true x _ (fun _ h=>h)]
    exact h.nc x
theorem joinF_opn:∀ {l now:List Record},Opn now→(∀ r,r∈l→errF r=0)→Opn (joinF now l).2
 | [],_,h,_=>h
 | r :: l,_,h,hl=>by
  unfold joinF
  exact joinF_opn (stepJ_opn h (hl r (List.mem_cons_self ..))) (fun y hy=>hl y (List.mem_cons_of_mem _ hy))
abbrev Dist (l:List Record):Prop:=l.Pairwise fun a b=>¬(callB a b=true∧a.part=b.part)
def fnd (T:List Record) (x:Record) (n:Int):Option Record:=T.find? (fun r=>callB r x && decide (r.part=n))
theorem dist_symm {a b:Record} (h:¬(callB a b=true∧a.part=b.part)):¬(callB b a=true∧b.part=a.part):=fun h'=>h ⟨callB_symm h'.1,h'.2.symm⟩
theorem Dist.perm {l l':List Record} (h:Dist l) (p:l.Perm l'):Dist l':=(p.pairwise_iff (fun h=>dist_symm h)).1 h
theorem fnd_iff {T:List Record} (h:Dist T) {x:Record} {n:Int} {r:Record}:fnd T x n=some r↔r∈T∧callB r x=true∧r.part=n:=by
 constructor
 ·intro hf
  have h1:=List.find?_some hf
  simp at h1
  exact ⟨List.mem_of_find?_eq_some hf,h1⟩
 ·intro ⟨hm,hc,hn⟩
  induction T with
  | nil=>cases hm
  | cons y T ih =>
   have h2:=List.pairwise_cons.1 h
   unfold fnd
   rcases List.mem_cons.1 hm with e | hm
   ·rw [←e,List.find?_cons_of_pos (by simp [hc,hn])]
   ·rw [List.find?_cons_of_neg (by
     intro hy; simp at hy
     exact h2.1 r hm ⟨callB_tr hy.1 (callB_symm hc),by omega⟩)]
    exact ih h2.2 hm
theorem fnd_perm {T T':List Record} (h:Dist T) (p:T.Perm T') (x:Record) (n:Int):fnd T x n=fnd T' x n:=by
 apply Option.ext
 intro r
 rw [fnd_iff h,fnd_iff (h.perm p),p.mem_iff]
def chS (T:List Record) (x:Record):Nat→Int→List Record
 | 0,_=>[]
 | m+1,n=>match fnd T x n with
  | none=>[]
  | some r=>r :: if r.last=true then [] else chS T x m (n+1)
theorem chS_congr {T T':List Record} {x y:Record} (h:∀ n,fnd T x n=fnd T' y n):∀ (m:Nat) (n:Int),chS T x m n=chS T' y m n
 | 0,_=>rfl
 | m+1,n=>by
  unfold chS
  rw [h n,chS_congr h m (n+1)]
abbrev chT (T:List Record) (x:Record):List Record:=chS T x 99 1
theorem chT_perm {T T':List Record} (h:Dist T) (p:T.Perm T') (x:Record):chT T x=chT T' x:=chS_congr (fnd_perm h p x) _ _
theorem numB_last:∀ (n:Int) (l:List Record),l≠[]→numB n l=true→l.getLast?.map (·.last)=some true
 | _,[],h,_=>absurd rfl h
 | n,[r],_,h=>by simp [numB] at h; simp [h]
 | n,r :: y :: l,_,h=>by
  unfold numB at h
  simp only [Bool.and_eq_true] at h
  rw [List.getLast?_cons_cons]
  exact numB_last (n+1) (y :: l) (by simp) h.2
theorem complF_last {l:List Record} {w:Record} (h:complF l=some w):l≠[]∧l.getLast?.map (·.last)=some true:=by
 have h0:=compl_pos h
 refine ⟨h0,numB_last 1 l h0 ?_⟩
 unfold complF at h
 split at h
 ·assumption
 ·cases h
def Red (T:List Record) (w:Record) (U:List Record):Prop:=Dist T∧∃ x,complF (chT T x)=some w∧T.Perm (chT T x++U)
theorem Red.perm {T T':List Record} {w:Record} {U:List Record} (h:Red T w U) (p:T.Perm T'):Red T' w U:=by
 obtain ⟨h1,x,h2,h3⟩:=h
 refine ⟨h1.perm p,x,?_,?_⟩
 ·rw [←chT_perm h1 p]; exact h2
 ·rw [←chT_perm h1 p]; exact p.symm.trans h3
theorem Red.len {T:List Record} {w:Record} {U:List Record} (h:Red T w U):U.length < T.length:=by
 obtain ⟨h1,x,h2,h3⟩:=h
 have:=h3.length_eq
 have h4:0 < (chT T x).length:=List.length_pos_iff.2 (compl_pos h2)
 rw [List.length_append] at this
 omega
inductive Reds:List Record→List Record→List Record→Prop where
 | nil {T U:List Record}:T.Perm U→Reds T [] U
 | cons {T U V:List Record} {w:Record} {o:List Record}:Red T w U→Reds U o V→Reds T (w :: o) V
def NF (T:List Record):Prop:=∀ w U,¬ Red T w U
theorem Reds.perm {T T' o U:List Record} (h:Reds T o U) (p:T.Perm T'):Reds T' o U:=by
 cases h with
 | nil q=>exact .nil (p.symm.trans q)
 | cons r s=>exact .cons (r.perm p) s
theorem Reds.ex:∀ (n:Nat) (T:List Record),T.length≤n→∃ o U,Reds T o U∧NF U
 | n,T,hn=>by
  by_cases h:NF T
  ·exact ⟨[],T,.nil (.refl _),h⟩
  ·simp only [NF,Classical.not_forall,Classical.not_not] at h
   obtain ⟨w,U,h⟩:=h
   have hl:=h.len
   match n,hn with
   | 0,hn=>omega
   | n+1,hn =>
    obtain ⟨o,V,h1,h2⟩:=Reds.ex n U (by omega)
    exact ⟨w :: o,V,.cons h h1,h2⟩
theorem Reds.trans {T o U o' V:List Record} (h:Reds T o U) (h':Reds U o' V):Reds T (o++o') V:=by
 induction h with
 | nil p=>exact h'.perm p.symm
 | cons r s ih=>exact .cons r (ih h')
def pickA:Int→List Int→List Record→List Record×List Record
 | _,_,[]=>([],[])
 | _,[],r :: l=>([],r :: l)
 | i,a :: at',r :: l=>if a=i then (r :: (pickA (i+1) at' l).1,(pickA (i+1) at' l).2) else ((pickA (i+1) (a :: at') l).1,r :: (pickA (i+1) (a :: at') l).2)
def posF (last:Bool) (x:Record):Int→Int→List Record→List Int
 | _,_,[]=>[]
 | n,i,r :: l=>if callB r x=true∧r.part=n then (if last=true∧r.last=true then [i] else i :: posF last x (n+1) (i+1) l) else posF last x n (i+1) l
theorem pickA_nil (i:Int) (l:List Record):pickA i [] l=([],l):=by cases l <;> rfl
theorem posF_ge (last:Bool) (x:Record):∀ (n i:Int) (l:List Record),∀ a,a∈posF last x n i l→i≤a∧a < i+l.length
 | _,_,[]=>by simp [posF]
 | n,i,r :: l=>by
  intro a h
  unfold posF at h
  simp only [List.length_cons]
  split at h
  ·split at h
   ·simp at h; omega
   ·rcases List.mem_cons.1 h with e | h
    ·omega
    ·have:=posF_ge last x (n+1) (i+1) l a h; omega
  ·have:=posF_ge last x n (i+1) l a h; omega
theorem posF_asc (last:Bool) (x:Record):∀ (n i:Int) (l:List Record),(posF last x n i l).Pairwise (· < ·)
 | _,_,[]=>.nil
 | n,i,r :: l=>by
  unfold posF
  split
  ·split
   ·simp
   ·refine List.pairwise_cons.2 ⟨fun a ha=>?_,posF_asc last x (n+1) (i+1) l⟩
    have:=posF_ge last x (n+1) (i+1) l a ha; omega
  ·exact posF_asc last x n (i+1) l
theorem pickA_skip {i:Int} {at':List Int} {r:Record} {l:List Record} (h:∀ a,a∈at'→i+1≤a):pickA i at' (r :: l)=((pickA (i+1) at' l).1,r :: (pickA (i+1) at' l).2):=by
 cases at' with
 | nil=>rw [pickA_nil,pickA_nil]
 | cons a at' =>
  conv=>lhs; unfold pickA
  rw [if_neg (by have:=h a (List.mem_cons_self ..); omega)]
theorem pickA_posF (last:Bool) (x:Record):∀ (n i:Int) (l:List Record),pickA i (posF last x n i l) l=chn last x n l
 | _,_,[]=>by simp [posF,pickA,chn]
 | n,i,r :: l=>by
  unfold posF chn
  split
  ·split
   ·unfold pickA
    rw [if_pos rfl,pickA_nil]
   ·unfold pickA
    rw [if_pos rfl,pickA_posF last x (n+1) (i+1) l]
  ·rw [pickA_skip (fun a ha=>(posF_ge _ _ _ _ _ a ha).1),pickA_posF last x n (i+1) l]
theorem pickA_perm:∀ (i:Int) (at':List Int) (l:List Record),((pickA i at' l).1++(pickA i at' l).2).Perm l
 | _,_,[]=>by simp [pickA]
 | _,[],r :: l=>.refl _
 | i,a :: at',r :: l=>by
  unfold pickA
  split
  ·exact (pickA_perm (i+1) at' l).cons r
  ·exact (List.perm_middle).trans ((pickA_perm (i+1) (a :: at') l).cons r)
def shrF (l:List Record) (at':List Int):Nat→List Int
 | 0=>[]
 | m+1=>if (wholeF (pickA 0 (at'.take (m+1)) l).1).isSome=true then at'.take (m+1) else shrF l at' m
def endF:List Record→List Record
 | []=>[]
 | x :: l=>(wholeF (pickA 0 (shrF (x :: l) (posF false x 1 0 (x :: l)) (posF false x 1 0 (x :: l)).length) (x :: l)).1).toList++(pickA 0 (shrF (x :: l) (posF false x 1 0 (x :: l)) (posF false x 1 0 (x :: l)).length) (x :: l)).2.map aloneF
def runF (x:Record) (l:List Record):List Record:=l.takeWhile (fun r=>callB r x)
def restF (x:Record) (l:List Record):List Record:=l.dropWhile (fun r=>callB r x)
def expF (b:Int):Nat→List Record→List Record×List Record
 | 0,_=>([],[])
 | _+1,[]=>([],[])
 | m+1,x :: l=>if (runF x (x :: l)).any (fun r=>decide (b≤r.start))=true then ((expF b m (restF x (x :: l))).1,runF x (x :: l)++(expF b m (restF x (x :: l))).2)
  else (endF (runF x (x :: l))++(expF b m (restF x (x :: l))).1,(expF b m (restF x (x :: l))).2)
theorem callB_refl (x:Record):callB x x=true:=by simp [callB]
theorem run_rest (x:Record) (l:List Record):runF x l++restF x l=l:=List.takeWhile_append_dropWhile
theorem run_call {x:Record} {l:List Record}:∀ r,r∈runF x l→callB r x=true:=fun r h=>by
 have:=List.all_takeWhile (p:=fun r=>callB r x) (l:=l)
 rw [List.all_eq_true] at this
 exact this r h
theorem rest_len (x:Record) (l:List Record):(restF x (x :: l)).length≤l.length:=by
 unfold restF
 rw [List.dropWhile_cons_of_pos (p:=fun r=>callB r x) (callB_refl x)]
 exact List.Sublist.length_le (List.dropWhile_sublist _)
theorem rest_call {x:Record} {l:List Record} (h:Srt (x :: l)):∀ r,r∈restF x (x :: l)→callB r x=false:=by
 intro r hr
 unfold restF at hr
 rw [List.dropWhile_cons_of_pos (p:=fun r=>callB r x) (callB_refl x)] at hr
 have h2:=List.pairwise_cons.1 h
 have hs:(l.dropWhile (fun r=>callB r x)).Sublist l:=List.dropWhile_sublist _
 have h3:=h2.2.sublist hs
 cases hd:l.dropWhile (fun r=>callB r x) with
 | nil=>rw [hd] at hr; cases hr
 | cons y t =>
  have hy:callB y x=false:=by
   have:=List.head?_dropWhile_not (fun r=>callB r x) l
   rw [hd] at this
   simpa using this
  rw [hd] at hr h3
  rcases List.mem_cons.1 hr with e | hr
  ·rw [e]; exact hy
  ·have k1:=h2.1 y (hs.subset (by rw [hd]; exact List.mem_cons_self ..))
   have k2:=(List.pairwise_cons.1 h3).1 r hr
   cases hc:callB r x with
   | false=>rfl
   | true =>
    exfalso
    rw [Le_iff] at k1 k2
    rw [callB_iff] at hc
    have:¬ callB y x=true:=by rw [hy]; simp
    rw [callB_iff] at this
    omega
theorem expF_sub (b:Int):∀ (m:Nat) (l:List Record),(expF b m l).2.Sublist l
 | 0,l=>List.nil_sublist _
 | m+1,[]=>List.nil_sublist _
 | m+1,x :: l=>by
  unfold expF
  have ih:=expF_sub b m (restF x (x :: l))
  split
  ·have:=(List.Sublist.refl (runF x (x :: l))).append ih
   rwa [run_rest] at this
  ·have:=(List.nil_sublist (runF x (x :: l))).append ih
   rwa [run_rest] at this
theorem expF_filter (b:Int) (q:Record):∀ (m:Nat) (l:List Record),Srt l→l.length≤m→(expF b m l).2.filter (fun r=>callB r q)=l.filter (fun r=>callB r q)∨(expF b m l).2.filter (fun r=>callB r q)=[]
 | 0,[],_,_=>.inl rfl
 | m+1,[],_,_=>.inl rfl
 | m+1,x :: l,hs,hm=>by
  have hl:=rest_len x l
  have hsr:Srt (restF x (x :: l)):=hs.sublist (List.dropWhile_sublist _)
  have ih:=expF_filter b q m (restF x (x :: l)) hsr (by simp only [List.length_cons] at hm; omega)
  have hrun:=run_call (x:=x) (l:=x :: l)
  have hrest:=rest_call hs
  have hdec:(x :: l).filter (fun r=>callB r q)=(runF x (x :: l)).filter (fun r=>callB r q)++(restF x (x :: l)).filter (fun r=>callB r q):=by rw [←List.filter_append,run_rest]
  rw [hdec]
  by_cases hc:callB x q=true
  ·have hz:(restF x (x :: l)).filter (fun r=>callB r q)=[]:=by
    refine List.filter_eq_nil_iff.2 (fun r hr hq=>?_)
    have:=hrest r hr
    rw [callB_eq hc,hq] at this
    cases this
   have he:(expF b m (restF x (x :: l))).2.filter (fun r=>callB r q)=[]:=by
    rw [hz] at ih
    rcases ih with h | h <;> exact h
   unfold expF
   split
   ·left; rw [List.filter_append,he,hz]
   ·right; exact he
  ·have hz:(runF x (x :: l)).filter (fun r=>callB r q)=[]:=List.filter_eq_nil_iff.2 (fun r hr hq=>hc (callB_tr (callB_symm (hrun r hr)) hq))
   rw [hz,List.nil_append]
   unfold expF
   split
   ·rw [List.filter_append,hz,List.nil_append]; exact ih
   ·exact ih
theorem expF_opn {l:List Record} (h:Opn l) (b:Int) {m:Nat} (hm:l.length≤m):Opn (expF b m l).2:=by
 refine ⟨h.srt.sublist (expF_sub b m l),fun r hr=>h.ok r ((expF_sub b m l).subset hr),fun x=>?_⟩
 rw [←chn_filter_l true x (fun y=>callB y x) (fun _ h=>h)]
 rcases expF_filter b x m l h.srt hm with e | e
 ·rw [e,chn_filter_l true x _ (fun _ h=>h)]; exact h.nc x
 ·rw [e]; rfl
theorem loop_rec {S R α:Type} [Inhabited α] {step:S→Option (S ⊕ R)} (l:List α) (idx:S→Int) (F:S→List α→Option R) (I:S→List α→Prop) (hl:l.length < 1000000000)
  (h0:∀ s,I s []→idx s=(l.length:Int)→∃ r,step s=some (.inr r)∧F s []=some r)
  (h1:∀ s a t,I s (a :: t)→0≤idx s→idx s < (l.length:Int)→nth l (idx s).toNat=a→idx s+1+(t.length:Int)=(l.length:Int) →
   (∃ r,step s=some (.inr r)∧F s (a :: t)=some r)∨∃ s',step s=some (.inl s')∧I s' t∧idx s'=idx s+1∧F s' t=F s (a :: t))
  {s:S} (hi:0≤idx s∧idx s≤(l.length:Int)) (hI:I s (l.drop (idx s).toNat)):loop step s=F s (l.drop (idx s).toNat):=by
 refine loop_spec (step:=step) (fun s=>F s (l.drop (idx s).toNat)) (fun s=>(0≤idx s∧idx s≤(l.length:Int))∧I s (l.drop (idx s).toNat)) (fun s=>((l.length:Int) - idx s).toNat) (fun s hs=>?_) ⟨hi,hI⟩ (by omega)
 obtain ⟨⟨b0,b1⟩,hs⟩:=hs
 by_cases hlt:idx s < (l.length:Int)
 ·have hd:=drop_nth (l:=l) (k:=(idx s).toNat) (by omega)
  rw [hd] at hs ⊢
  rcases h1 s _ _ hs b0 hlt rfl (by rw [List.length_drop]; omega) with ⟨r,e1,e2⟩ | ⟨s',e1,e2,e3,e4⟩
  ·exact .inl ⟨r,e1,e2⟩
  ·refine .inr ⟨s',e1,⟨by omega,?_⟩,by omega,?_⟩
   ·rw [e3,show (idx s+1).toNat=(idx s).toNat+1 from by omega]; exact e2
   ·rw [e3,show (idx s+1).toNat=(idx s).toNat+1 from by omega]; exact e4
 ·have he:idx s=(l.length:Int):=by omega
  rw [List.drop_of_length_le (by omega)] at hs ⊢
  exact .inl (h0 s hs he)
theorem loop_rec0 {S R α:Type} [Inhabited α] {step:S→Option (S ⊕ R)} (l:List α) (idx:S→Int) (F:S→List α→Option R) (I:S→List α→Prop) (hl:l.length < 1000000000)
  (h0:∀ s,I s []→idx s=(l.length:Int)→∃ r,step s=some (.inr r)∧F s []=some r)
  (h1:∀ s a t,I s (a :: t)→0≤idx s→idx s < (l.length:Int)→nth l (idx s).toNat=a→idx s+1+(t.length:Int)=(l.length:Int) →
   (∃ r,step s=some (.inr r)∧F s (a :: t)=some r)∨∃ s',step s=some (.inl s')∧I s' t∧idx s'=idx s+1∧F s' t=F s (a :: t))
  {s:S} (hi:idx s=0) (hI:I s l):loop step s=F s l:=by
 have:=loop_rec l idx F I hl h0 h1 (s:=s) ⟨by omega,by omega⟩ (by rw [hi]; exact hI)
 rw [hi] at this
 exact this
def Sm (r:Record):Prop:=r.a.length≤200∧r.b.length≤200
instance (r:Record):Decidable (Sm r):=by unfold Sm; infer_instance
theorem p_Check (r:Record) (h:Sm r):f_validate_Check r=some (errF r):=by
 unfold f_validate_Check
 unfold Sm at h
 rw [p_Encode r (by omega) (by omega)]; rfl
theorem p_rCheck (r:Record) (h:Sm r):f_r13_Check r=some (errF r):=by
 unfold f_r13_Check
 unfold Sm at h
 rw [p_rError r (by omega) (by omega)]; rfl
theorem good_sm {r:Record} (h:errF r=0):Sm r:=by
 have g:=errF_good h
 have ha:=validB_len g.a
 unfold Sm
 rcases g.b with h | h
 ·have:=validB_len h; omega
 ·rw [h.2]; simp; omega
theorem Record.eq_refl (r:Record):eqVs r.vals r.vals=true:=by simp [Record.vals,eqVs,eqV]
theorem sm_wh {q:Record} (h:Sm q) (u:Int):Sm (whR q u):=h
def noR:Record×Bool:=((⟨0,0,0,([]:List UInt8),([]:List UInt8),0,0,0,0,false,0,false⟩:Record),false)
def optR:Option Record→Record×Bool
 | none=>noR
 | some w=>(w,true)
def okP (q p:Record):Prop:=p.part≠0∧errF p=0∧Comm p q
instance (q p:Record):Decidable (okP q p):=by unfold okP; infer_instance
theorem whole_fewer {q:Record} {u v:Int} (h:errF (whR q v)=0) (h0:0≤u) (h1:u≤v):errF (whR q u)=0:=by
 have g:=errF_good h
 unfold errF whR at h ⊢
 simp only at h ⊢
 split at h; · cases h
 split at h; · cases h
 split at h; · cases h
 split at h; · cases h
 split at h; · cases h
 split at h; · cases h
 rename_i q1 q2 q3 q4 q5 q6
 rw [if_neg q1,if_neg q2,if_neg q3,if_neg q4,if_neg (by omega),if_neg (by omega)]
 exact h
theorem sumU_pos {q:Record}:∀ {t:List Record},(∀ p,p∈t→okP q p)→0≤sumU t
 | [],_=>by simp [sumU]
 | r :: t,h=>by
  have:=sumU_pos (fun p hp=>h p (List.mem_cons_of_mem _ hp))
  have:=(errF_good (h r (List.mem_cons_self ..)).2.1).units
  simp only [sumU]; omega
def whW (q:Record) (u:Int) (t:List Record):Option Record:=if (t.all fun p=>decide (okP q p))=true∧errF (whR q (u+sumU t))=0 then some (whR q (u+sumU t)) else none
theorem wholeF_whW (q:Record) (l:List Record):wholeF (q :: l)=whW q 0 (q :: l):=by
 unfold wholeF whW
 rw [Int.zero_add]
 rfl
theorem whW_cons {q:Record} {u:Int} {r:Record} {t:List Record} (h:okP q r):whW q u (r :: t)=whW q (u+r.units) t:=by
 unfold whW
 have e:u+sumU (r :: t)=u+r.units+sumU t:=by simp only [sumU]; omega
 rw [e,List.all_cons,decide_eq_true h,Bool.true_and]
theorem whW_bad {q:Record} {u:Int} {r:Record} {t:List Record} (h:¬ okP q r):whW q u (r :: t)=none:=by
 unfold whW
 rw [List.all_cons,decide_eq_false h,Bool.false_and,if_neg (by simp)]
theorem whW_over {q:Record} {u:Int} {t:List Record} (h0:0≤u) (h:errF (whR q u)≠0):whW q u t=none:=by
 unfold whW
 rw [if_neg]
 rintro ⟨h1,h2⟩
 have hp:=sumU_pos (q:=q) (t:=t) (fun p hp=>by have:=List.all_eq_true.1 h1 p hp; simpa using this)
 exact h (whole_fewer h2 h0 (by omega))
theorem comm_vals (p q:Record):eqVs (CorrelateCommon.vals (⟨⟨p.source,p.call⟩,p.kind,p.a,p.b,p.trunk,p.inbound⟩:CorrelateCommon)) (CorrelateCommon.vals (⟨⟨q.source,q.call⟩,q.kind,q.a,q.b,q.trunk,q.inbound⟩:CorrelateCommon))=decide (Comm p q):=by
 rw [Bool.eq_iff_iff,decide_eq_true_iff]
 simp [CorrelateCommon.vals,eqVs,eqV,Comm]
theorem p_whole (l:List Record) (hs:∀ r,r∈l→Sm r) (hl:l.length≤1000):f_correlate_whole l=some (optR (wholeF l)):=by
 cases l with
 | nil=>rfl
 | cons q l =>
  rw [wholeF_whW]
  unfold f_correlate_whole
  have hq:=hs q (List.mem_cons_self ..)
  have e0:nth (q :: l) (Int.toNat 0)=q:=rfl
  rw [if_neg (by simp; omega),ck_pos (by simp),e0]
  simp only [f_correlate_alone,Option.bind_some]
  refine loop_rec0 (q :: l) (fun s:Int×Int=>s.1) (fun s t=>some (optR (whW q s.2 t))) (fun s t=>0≤s.2∧s.2≤1099511627776∧∀ r,r∈t→Sm r) (by omega) ?_ ?_ rfl ⟨by decide,by decide,hs⟩
  ·rintro ⟨i,u⟩ ⟨h0,h1,h2⟩ hi
   simp only at h0 h1 hi ⊢
   unfold f_correlate_whole_l1 f_correlate_whole_j1
   rw [if_neg (by simp only [decide_eq_true_eq]; omega)]
   change ∃ r,Option.map _ ((f_validate_Check (whR q u)).bind _)=_∧_
   rw [p_Check _ (sm_wh hq u)]
   simp only [Option.bind_some,whW,List.all_nil,sumU,true_and,Int.add_zero]
   by_cases he:errF (whR q u)=0
   ·rw [if_neg (by simp [he]),if_pos he]
    exact ⟨_,rfl,rfl⟩
   ·rw [if_pos (by simpa using he),if_neg he]
    exact ⟨_,rfl,rfl⟩
  ·rintro ⟨i,u⟩ r t ⟨h0,h1,h2⟩ hi0 hi1 hn hlen
   simp only at h0 h1 hi0 hi1 hn hlen ⊢
   unfold f_correlate_whole_l1
   have hr:=h2 r (List.mem_cons_self ..)
   rw [if_pos (by simpa using hi1),ck_pos ⟨hi0,hi1⟩,hn,p_Check r hr,e0]
   simp only [f_correlate_commonOf,f_correlate_callOf,gcall_mk,Option.bind_some]
   by_cases hk:r.part≠0∧errF r=0
   ·have b1:(r.part==0)=false:=by simpa using hk.1
    have b2:(errF r != 0)=false:=by simp [hk.2]
    simp only [b1,b2,Bool.not_false,Bool.or_false,if_true,Bool.false_or]
    rw [ck_pos (by simp),comm_vals]
    by_cases hc:Comm r q
    ·rw [ck_pos (by omega)]
     have gu:=(errF_good hk.2).units
     have hok:okP q r:=⟨hk.1,hk.2,hc⟩
     by_cases hu:r.units > 1099511627776-u
     ·rw [if_pos (by simp [hc]; omega)]
      refine .inl ⟨_,rfl,?_⟩
      rw [whW_cons hok,whW_over (by omega)]
      ·rfl
      ·intro he
       have:=(errF_good he).units
       simp only [whR] at this
       omega
     ·rw [if_neg (by simp [hc]; omega),ck_pos (by omega),ck_pos (by omega)]
      refine .inr ⟨_,rfl,⟨by simp only; omega,by simp only; omega,fun p hp=>h2 p (List.mem_cons_of_mem _ hp)⟩,rfl,?_⟩
      rw [whW_cons hok]
    ·rw [ck_pos (by simp [hc]),if_pos (by simp [hc])]
     refine .inl ⟨_,rfl,?_⟩
     rw [whW_bad (fun h=>hc h.2.2)]
     rfl
   ·have hb:((r.part==0) || ((if (!(r.part==0))=true then errF r else default) != 0))=true:=by
     by_cases hp:r.part=0
     ·simp [hp]
     ·simp [hp]
      intro he; exact hk ⟨hp,he⟩
    simp only [hb,Bool.not_true,Bool.true_or,Bool.false_eq_true,if_false]
    rw [ck_pos (by simp),ck_pos (by simp),if_pos trivial]
    refine .inl ⟨_,rfl,?_⟩
    rw [whW_bad (fun h=>hk ⟨h.1,h.2.1⟩)]
    rfl
theorem p_rwhole (l:List Record) (hs:∀ r,r∈l→Sm r) (hl:l.length≤1000):f_r15_whole l=some (optR (wholeF l)):=by
 cases l with
 | nil =>
  unfold f_r15_whole
  refine loop_rec0 ([]:List Record) (fun s:Int×Int×Int×Int×List UInt8×List UInt8×Int×Int×Int×Bool=>s.1) (fun s t=>some (optR (wholeF []))) (fun s t=>s=(0,0,0,0,([]:List UInt8),([]:List UInt8),0,0,0,false)∧t=[]) (by simp) ?_ ?_ rfl ⟨rfl,rfl⟩
  ·rintro s ⟨h,_⟩ hi
   rw [h]
   exact ⟨_,rfl,rfl⟩
  ·rintro s a t ⟨_,h⟩
   cases h
 | cons q l =>
  rw [wholeF_whW]
  unfold f_r15_whole
  have hq:=hs q (List.mem_cons_self ..)
  have e0:nth (q :: l) (Int.toNat 0)=q:=rfl
  have hpos:(0:Int) < ((q :: l).length:Int):=by simp only [List.length_cons]; omega
  refine loop_rec0 (q :: l) (fun s:Int×Int×Int×Int×List UInt8×List UInt8×Int×Int×Int×Bool=>s.1) (fun s t=>some (optR (whW q s.2.2.2.2.2.2.2.1 t)))
   (fun s t=>(0≤s.2.2.2.2.2.2.2.1∧s.2.2.2.2.2.2.2.1≤1099511627776)∧(∀ r,r∈t→Sm r)∧(s.1=0∨(errF (whR q s.2.2.2.2.2.2.2.1)=0∧s=(s.1,q.source,q.serial,q.kind,q.a,q.b,q.start,s.2.2.2.2.2.2.2.1,q.trunk,q.inbound)))) (by omega) ?_ ?_ rfl ⟨by decide,hs,.inl rfl⟩
  ·rintro ⟨i,c0,c1,c2,c3,c4,c5,u,c10,c11⟩ ⟨h0,h1,h2⟩ hi
   simp only at h0 h1 h2 hi ⊢
   rcases h2 with h2 | ⟨h2,h3⟩
   ·omega
   ·injection h3 with _ h3
    injection h3 with e0 h3
    injection h3 with e1 h3
    injection h3 with e2 h3
    injection h3 with e3 h3
    injection h3 with e4 h3
    injection h3 with e5 h3
    injection h3 with _ h3
    injection h3 with e10 e11
    subst e0 e1 e2 e3 e4 e5 e10 e11
    unfold f_r15_whole_l1 f_r15_whole_j1
    rw [if_neg (by simp only [decide_eq_true_eq]; omega),decide_eq_true hpos]
    refine ⟨_,rfl,?_⟩
    simp only [whW,List.all_nil,sumU,true_and,Int.add_zero]
    rw [if_pos h2]
    rfl
  ·rintro ⟨i,c0,c1,c2,c3,c4,c5,u,c10,c11⟩ r t ⟨h0,h1,h2⟩ hi0 hi1 hn hlen
   simp only at h0 h1 h2 hi0 hi1 hn hlen ⊢
   clear h2
   unfold f_r15_whole_l1
   have hr:=h1 r (List.mem_cons_self ..)
   rw [if_pos (by simpa using hi1),ck_pos ⟨hi0,hi1⟩,hn,p_rCheck r hr,e0]
   simp only [f_r15_call,gcall_mk,Option.bind_some]
   by_cases hk:r.part≠0∧errF r=0
   ·have b1:(r.part==0)=false:=by simpa using hk.1
    have gu:=(errF_good hk.2).units
    rw [if_neg (by simp [b1,hk.2]),ck_pos (by omega),ck_pos ⟨Int.le_refl _,hpos⟩]
    by_cases hc:Comm r q
    ·have hok:okP q r:=⟨hk.1,hk.2,hc⟩
     rw [if_neg (by
      obtain ⟨a1,a2,a3,a4,a5,a6,a7⟩:=hc
      simp [a1,a2,a3,a4,a5,a6,a7])]
     change (∃ r_1,((f_r13_Check (whR q (u+r.units))).bind _)=_∧_)∨∃ s',((f_r13_Check (whR q (u+r.units))).bind _)=_∧_
     rw [p_rCheck _ (sm_wh hq _)]
     simp only [Option.bind_some]
     by_cases he:errF (whR q (u+r.units))=0
     ·have ge:=(errF_good he).units
      simp only [whR] at ge
      rw [if_neg (by simp [he]),ck_pos (by omega)]
      refine .inr ⟨_,rfl,⟨by simp only; omega,fun p hp=>h1 p (List.mem_cons_of_mem _ hp),.inr ⟨he,rfl⟩⟩,rfl,?_⟩
      rw [whW_cons hok]
     ·rw [if_pos (by simpa using he)]
      refine .inl ⟨_,rfl,?_⟩
      rw [whW_cons hok,whW_over (by omega) he]
      rfl
    ·rw [if_pos (by
      unfold Comm at hc
      simp only [Bool.or_eq_true,Bool.not_eq_true',Bool.and_eq_false_iff,bne_iff_ne,beq_eq_false_iff_ne]
      by_cases a1:r.source=q.source
      ·by_cases a2:r.call=q.call
       ·by_cases a3:r.kind=q.kind
        ·by_cases a4:r.a=q.a
         ·by_cases a5:r.b=q.b
          ·by_cases a6:r.trunk=q.trunk
           ·by_cases a7:r.inbound=q.inbound
            ·exact absurd ⟨a1,a2,a3,a4,a5,a6,a7⟩ hc
            ·exact .inr a7
           ·exact .inl (.inr a6)
          ·exact .inl (.inl (.inr a5))
         ·exact .inl (.inl (.inl (.inr a4)))
        ·exact .inl (.inl (.inl (.inl (.inr a3))))
       ·exact .inl (.inl (.inl (.inl (.inl (.inr a2)))))
      ·exact .inl (.inl (.inl (.inl (.inl (.inl a1))))))]
     refine .inl ⟨_,rfl,?_⟩
     rw [whW_bad (fun h=>hc h.2.2)]
     rfl
   ·rw [if_pos (by
     by_cases hp:r.part=0
     ·simp [hp]
     ·simp [hp]
      intro he; exact hk ⟨hp,he⟩)]
    refine .inl ⟨_,rfl,?_⟩
    rw [whW_bad (fun h=>hk ⟨h.1,h.2.1⟩)]
    rfl
theorem optR_if (b:Bool) (o:Option Record):(if b=true then optR o else noR)=optR (if b=true then o else none):=by split <;> rfl
theorem p_Complete (l:List Record) (hs:∀ r,r∈l→Sm r) (hl:l.length≤1000):f_correlate_Complete l=some (optR (complF l)):=by
 unfold f_correlate_Complete complF
 rw [←optR_if]
 refine loop_rec0 l (fun s:Int=>s) (fun s t=>some (if numB (s+1) t=true then optR (wholeF l) else noR)) (fun s t=>True) (by omega) ?_ ?_ rfl trivial
 ·intro i _ hi
  unfold f_correlate_Complete_l1 f_correlate_Complete_j1
  rw [if_neg (by simp only [decide_eq_true_eq]; omega),p_whole l hs hl]
  exact ⟨_,rfl,rfl⟩
 ·intro i r t _ hi0 hi1 hn hlen
  unfold f_correlate_Complete_l1
  rw [if_pos (by simpa using hi1),ck_pos ⟨hi0,hi1⟩,hn,ck_pos (by omega),ck_pos (fun _=>by omega)]
  have el:(i==(l.length:Int) - 1)=t.isEmpty:=by
   rw [Bool.eq_iff_iff]
   cases t with
   | nil=>simp at hlen ⊢; omega
   | cons=>simp at hlen ⊢; omega
  rw [el]
  simp only [numB]
  by_cases hp:r.part=i+1
  ·by_cases hla:r.last=t.isEmpty
   ·rw [if_neg (by simp [hp,hla]),ck_pos (by omega)]
    refine .inr ⟨_,rfl,trivial,rfl,?_⟩
    simp [hp,hla]
   ·rw [if_pos (by simp [hp,hla])]
    refine .inl ⟨_,rfl,?_⟩
    simp [hp,hla]; rfl
  ·rw [if_pos (by simp [hp])]
   refine .inl ⟨_,rfl,?_⟩
   simp [hp]; rfl
theorem p_rComplete (l:List Record) (hs:∀ r,r∈l→Sm r) (hl:l.length≤1000):f_r15_Complete l=some (optR (complF l)):=by
 unfold f_r15_Complete complF
 rw [←optR_if]
 refine loop_rec0 l (fun s:Int=>s) (fun s t=>some (if numB (s+1) t=true then optR (wholeF l) else noR)) (fun s t=>True) (by omega) ?_ ?_ rfl trivial
 ·intro i _ hi
  unfold f_r15_Complete_l1 f_r15_Complete_j1
  rw [if_neg (by simp only [decide_eq_true_eq]; omega),p_rwhole l hs hl]
  exact ⟨_,rfl,rfl⟩
 ·intro i r t _ hi0 hi1 hn hlen
  unfold f_r15_Complete_l1
  rw [if_pos (by simpa using hi1),ck_pos ⟨hi0,hi1⟩,hn,ck_pos (by omega),ck_pos (fun _=>⟨hi0,hi1⟩),ck_pos (fun _=>by omega)]
  have el:((i+1)==(l.length:Int))=t.isEmpty:=by
   rw [Bool.eq_iff_iff]
   cases t with
   | nil=>simp at hlen ⊢; omega
   | cons=>simp at hlen ⊢; omega
  rw [el]
  simp only [numB]
  by_cases hp:r.part=i+1
  ·by_cases hla:r.last=t.isEmpty
   ·rw [if_neg (by simp [hp,hla]),ck_pos (by omega)]
    refine .inr ⟨_,rfl,trivial,rfl,?_⟩
    simp [hp,hla]
   ·rw [if_pos (by simp [hp,hla])]
    refine .inl ⟨_,rfl,?_⟩
    simp [hp,hla]; rfl
  ·rw [if_pos (by simp [hp])]
   refine .inl ⟨_,rfl,?_⟩
   simp [hp]; rfl
theorem p_firsts (l:List Record) (x:Record) (last:Bool) (hl:l.length≤1000):f_r15_firsts l x last=some (posF last x 1 0 l):=by
 unfold f_r15_firsts
 refine loop_rec0 l (fun s:List Int×Int=>s.2) (fun s t=>some (s.1++posF last x ((s.1.length:Int)+1) s.2 t)) (fun s t=>(s.1.length:Int)≤s.2) (by omega) ?_ ?_ rfl (by simp)
 ·rintro ⟨out,i⟩ h hi
  simp only at h hi ⊢
  unfold f_r15_firsts_l1
  rw [if_neg (by simp only [decide_eq_true_eq]; omega)]
  exact ⟨_,rfl,by simp [posF]⟩
 ·rintro ⟨out,i⟩ r t h hi0 hi1 hn hlen
  simp only at h hi0 hi1 hn hlen ⊢
  unfold f_r15_firsts_l1
  rw [if_pos (by simpa using hi1),ck_pos ⟨hi0,hi1⟩,hn]
  simp only [f_r15_call,Option.bind_some]
  rw [ck_pos (fun _=>⟨hi0,hi1⟩),ck_pos (fun _=>by omega)]
  have ec:((r.source==x.source) && (r.call==x.call))=callB r x:=by rw [Bool.eq_iff_iff,callB_iff]; simp
  rw [ec,show posF last x ((out.length:Int)+1) i (r :: t)=(if callB r x=true∧r.part=(out.length:Int)+1 then (if last=true∧r.last=true then [i] else i :: posF last x ((out.length:Int)+1+1) (i+1) t) else posF last x ((out.length:Int)+1) (i+1) t) from rfl]
  by_cases hc:callB r x=true∧r.part=(out.length:Int)+1
  ·rw [if_pos (by simp [hc.1,hc.2]),ck_pos (by simp only [List.length_cons,List.length_nil]; omega),ck_pos (fun _=>⟨hi0,hi1⟩),if_pos hc]
   by_cases hla:last=true∧r.last=true
   ·rw [if_pos (by simp [hla.1,hla.2]),if_pos hla]
    exact .inl ⟨_,rfl,rfl⟩
   ·rw [if_neg (by simpa using hla),if_neg hla,ck_pos (by omega)]
    refine .inr ⟨_,rfl,by simp only [List.length_append,List.length_cons,List.length_nil]; omega,rfl,?_⟩
    simp
  ·rw [if_neg (by simpa using hc),if_neg hc,ck_pos (by omega)]
   exact .inr ⟨_,rfl,by simp only; omega,rfl,rfl⟩
theorem p_rpick (l:List Record) (at':List Int) (hl:l.length≤1000) (ha:at'.length≤1000):f_r15_pick l at'=some (pickA 0 at' l):=by
 unfold f_r15_pick
 refine (loop_rec0 l (fun s:List Record×List Record×Int×Int=>s.2.2.2) (fun s t=>some (s.1++(pickA s.2.2.2 (at'.drop s.2.2.1.toNat) t).1,s.2.1++(pickA s.2.2.2 (at'.drop s.2.2.1.toNat) t).2))
  (fun s t=>(0≤s.2.2.1∧s.2.2.1≤(at'.length:Int))∧(s.1.length:Int)≤s.2.2.2∧(s.2.1.length:Int)≤s.2.2.2) (by omega) ?_ ?_ rfl (by simp)).trans (by simp)
 ·rintro ⟨out,rest,k,i⟩ ⟨h0,h1⟩ hi
  simp only at h0 h1 hi ⊢
  unfold f_r15_pick_l1
  rw [if_neg (by simp only [decide_eq_true_eq]; omega)]
  exact ⟨_,rfl,by cases at'.drop k.toNat <;> simp [pickA]⟩
 ·rintro ⟨out,rest,k,i⟩ r t ⟨h0,h1,h2⟩ hi0 hi1 hn hlen
  simp only at h0 h1 h2 hi0 hi1 hn hlen ⊢
  unfold f_r15_pick_l1
  rw [if_pos (by simpa using hi1),ck_pos (fun h=>by simp at h; omega),ck_pos ⟨hi0,hi1⟩,hn]
  by_cases hk:k < (at'.length:Int)
  ·have hd:=drop_nth (l:=at') (k:=k.toNat) (by omega)
   rw [hd]
   by_cases he:nth at' k.toNat=i
   ·rw [if_pos (by simp [he,hk]),ck_pos (by simp only [List.length_cons,List.length_nil]; omega),ck_pos (by omega),ck_pos (by omega)]
    refine .inr ⟨_,rfl,⟨by simp only; omega,by simp only [List.length_append,List.length_cons,List.length_nil]; omega,by simp only; omega⟩,rfl,?_⟩
    simp only
    conv=>rhs; unfold pickA
    rw [if_pos he,show (k+1).toNat=k.toNat+1 from by omega]
    simp
   ·rw [if_neg (by simp [he]),ck_pos ⟨hi0,hi1⟩,ck_pos (by simp only [List.length_cons,List.length_nil]; omega),ck_pos (by omega)]
    refine .inr ⟨_,rfl,⟨by simp only; omega,by simp only; omega,by simp only [List.length_append,List.length_cons,List.length_nil]; omega⟩,rfl,?_⟩
    simp only
    rw [hd]
    conv=>rhs; unfold pickA
    rw [if_neg he]
    simp
  ·rw [if_neg (by simp [hk]),ck_pos ⟨hi0,hi1⟩,ck_pos (by simp only [List.length_cons,List.length_nil]; omega),ck_pos (by omega)]
   refine .inr ⟨_,rfl,⟨by simp only; omega,by simp only; omega,by simp only [List.length_append,List.length_cons,List.length_nil]; omega⟩,rfl,?_⟩
   simp only
   rw [List.drop_of_length_le (by omega),pickA_nil,pickA_nil]
   simp
theorem posF_len (last:Bool) (x:Record):∀ (n i:Int) (l:List Record),(posF last x n i l).length≤l.length
 | _,_,[]=>Nat.le_refl _
 | n,i,r :: l=>by
  have h1:=posF_len last x (n+1) (i+1) l
  have h2:=posF_len last x n (i+1) l
  unfold posF
  split
  ·split <;> simp only [List.length_cons,List.length_nil] <;> omega
  ·simp only [List.length_cons]; omega
theorem chn_sm {last:Bool} {x:Record} {n:Int} {l:List Record} (h:∀ r,r∈l→Sm r):(∀ r,r∈(chn last x n l).1→Sm r)∧(∀ r,r∈(chn last x n l).2→Sm r):=by
 have hp:=chn_perm last x n l
 exact ⟨fun r hr=>h r (hp.mem_iff.1 (List.mem_append.2 (.inl hr))),fun r hr=>h r (hp.mem_iff.1 (List.mem_append.2 (.inr hr)))⟩
theorem nth_mem {α:Type} [Inhabited α] {l:List α} {k:Nat} (h:k < l.length):nth l k∈l:=by rw [nth_eq h]; exact List.getElem_mem h
theorem nth_cons_succ {α:Type} [Inhabited α] {a:α} {t:List α} {j:Nat}:nth (a :: t) (j+1)=nth t j:=by simp [nth]
theorem nth_cons_zero {α:Type} [Inhabited α] {a:α} {t:List α}:nth (a :: t) 0=a:=by simp [nth]
theorem p_rbefore (a b:Record):f_r15_before a b=some (decide (Lt a b)):=by
 unfold f_r15_before
 by_cases h1:a.source=b.source
 ·rw [if_neg (by simp [h1])]
  by_cases h2:a.call=b.call
  ·rw [if_neg (by simp [h2])]
   congr 1
   rw [Bool.eq_iff_iff,decide_eq_true_iff,decide_eq_true_iff]
   unfold Lt; omega
  ·rw [if_pos (by simpa using h2)]
   congr 1
   rw [Bool.eq_iff_iff,decide_eq_true_iff,decide_eq_true_iff]
   unfold Lt; omega
 ·rw [if_pos (by simpa using h1)]
  congr 1
  rw [Bool.eq_iff_iff,decide_eq_true_iff,decide_eq_true_iff]
  unfold Lt; omega
def ncB (l:List Record) (t:List Record):Bool:=t.all fun x=>(complF (chn true x 1 l).1).isNone
def okB (r:Record):Bool:=decide (r.part≠0) && decide (errF r=0)
def srtB:Option Record→List Record→Bool
 | _,[]=>true
 | none,r :: t=>okB r && srtB (some r) t
 | some y,r :: t=>okB r && !decide (Lt r y) && srtB (some r) t
theorem srtB_iff:∀ (o:Option Record) (t:List Record),srtB o t=true↔Srt (o.toList++t)∧∀ r,r∈t→errF r=0∧r.part≠0
 | o,[]=>by cases o <;> simp [srtB,Srt]
 | none,r :: t=>by
  have ih:=srtB_iff (some r) t
  simp only [srtB,okB,Bool.and_eq_true,decide_eq_true_eq,ih,Option.toList_none,Option.toList_some,List.nil_append,List.singleton_append,List.mem_cons,forall_eq_or_imp]
  constructor
  ·intro h; exact ⟨h.2.1,⟨h.1.2,h.1.1⟩,h.2.2⟩
  ·intro h; exact ⟨⟨h.2.1.2,h.2.1.1⟩,h.1,h.2.2⟩
 | some y,r :: t=>by
  have ih:=srtB_iff (some r) t
  simp only [srtB,okB,Bool.and_eq_true,decide_eq_true_eq,ih,Option.toList_some,List.singleton_append,List.mem_cons,forall_eq_or_imp,Bool.not_eq_true',decide_eq_false_iff_not]
  constructor
  ·rintro ⟨⟨⟨h1,h2⟩,h3⟩,h4,h5⟩
   refine ⟨List.pairwise_cons.2 ⟨fun z hz=>?_,h4⟩,⟨h2,h1⟩,h5⟩
   rcases List.mem_cons.1 hz with e | hz
   ·rw [e]; exact h3
   ·exact Le_trans h3 ((List.pairwise_cons.1 h4).1 z hz)
  ·rintro ⟨h1,h2,h3⟩
   have h4:=List.pairwise_cons.1 h1
   exact ⟨⟨⟨h2.2,h2.1⟩,h4.1 r (List.mem_cons_self ..)⟩,h4.2,h3⟩
theorem opn_iff (l:List Record):(srtB none l && ncB l l)=true↔Opn l:=by
 rw [Bool.and_eq_true,srtB_iff]
 simp only [Option.toList_none,List.nil_append,ncB,List.all_eq_true,Option.isNone_iff_eq_none]
 constructor
 ·rintro ⟨⟨h1,h2⟩,h3⟩
  refine ⟨h1,h2,fun x=>?_⟩
  by_cases hx:∃ r,r∈l∧callB r x=true
  ·obtain ⟨r,hr,hc⟩:=hx
   rw [chn_eqx true (callB_symm hc)]
   exact h3 r hr
  ·rw [chn_none true (fun r hr hc=>hx ⟨r,hr,hc.1⟩)]
   rfl
 ·rintro ⟨h1,h2,h3⟩
  exact ⟨⟨h1,h2⟩,fun x _=>h3 x⟩
theorem p_ropen1 (l:List Record) (hs:∀ r,r∈l→Sm r) (hl:l.length≤1000):f_r15_Open_j1 l=some (ncB l l):=by
 unfold f_r15_Open_j1
 refine loop_rec0 l (fun s:Int=>s) (fun s t=>some (ncB l t)) (fun s t=>True) (by omega) ?_ ?_ rfl trivial
 ·intro i _ hi
  unfold f_r15_Open_l1
  rw [if_neg (by simp only [decide_eq_true_eq]; omega)]
  exact ⟨_,rfl,rfl⟩
 ·intro i r t _ hi0 hi1 hn hlen
  unfold f_r15_Open_l1
  rw [if_pos (by simpa using hi1),ck_pos ⟨hi0,hi1⟩,hn,p_firsts l r true hl]
  have hp:=posF_len true r 1 0 l
  simp only [Option.bind_some]
  rw [p_rpick l _ hl (by omega),pickA_posF]
  simp only [Option.bind_some]
  have hc:=chn_len (last:=true) (x:=r) (n:=1) (l:=l)
  rw [p_rComplete _ (chn_sm hs).1 (by omega)]
  simp only [Option.bind_some,ncB,List.all_cons]
  cases hcc:complF (chn true r 1 l).1 with
  | none =>
   rw [if_neg (by simp [optR,noR]),ck_pos (by omega)]
   exact .inr ⟨_,rfl,trivial,rfl,by simp⟩
  | some w =>
   rw [if_pos (show (optR (some w)).2=true from rfl)]
   exact .inl ⟨_,rfl,by simp⟩
theorem p_rOpen (l:List Record) (hs:∀ r,r∈l→Sm r) (hl:l.length≤1000):f_r15_Open l=some (srtB none l && ncB l l):=by
 unfold f_r15_Open
 have:=loop_rec0 l (fun s:Int=>s) (fun s t=>some (srtB (if s=0 then none else some (nth l (s-1).toNat)) t && ncB l l)) (fun s t=>∀ r,r∈t→Sm r) (by omega) (step:=fun s=>f_r15_Open_l2 l s) (s:=0) ?_ ?_ rfl hs
 ·exact this
 ·intro i _ hi
  unfold f_r15_Open_l2
  rw [if_neg (by simp only [decide_eq_true_eq]; omega),p_ropen1 l hs hl]
  exact ⟨_,rfl,by simp [srtB]⟩
 ·intro i r t hsm hi0 hi1 hn hlen
  unfold f_r15_Open_l2
  rw [if_pos (by simpa using hi1),ck_pos ⟨hi0,hi1⟩,ck_pos (fun _=>⟨hi0,hi1⟩),hn,p_rCheck r (hsm r (List.mem_cons_self ..))]
  simp only [gcall_mk,Option.bind_some]
  have e1:(i+1=0)=False:=by simp; omega
  have e2:(i+1-1).toNat=i.toNat:=by omega
  by_cases hk:r.part≠0∧errF r=0
  ·have b1:(r.part==0)=false:=by simpa using hk.1
   simp only [b1,hk.2,Bool.not_false,if_true,Bool.false_or,bne_self_eq_false,Bool.true_and]
   by_cases h0:i=0
   ·rw [ck_pos (by simp [h0]),ck_pos (by simp [h0]),ck_pos (by simp [h0])]
    simp only [h0,Int.lt_irrefl,decide_false,gcall,if_neg,Bool.false_eq_true,if_false,Option.bind_some,Bool.false_and,gt_iff_lt]
    rw [ck_pos (by omega)]
    refine .inr ⟨_,rfl,fun p hp=>hsm p (List.mem_cons_of_mem _ hp),rfl,?_⟩
    have hn':nth l 0=r:=by rw [←hn,h0]; rfl
    simp [srtB,okB,hk.1,hk.2,hn']
   ·have hp:i > 0:=by omega
    rw [ck_pos (fun _=>⟨hi0,hi1⟩),ck_pos (fun _=>by omega),ck_pos (fun _=>by omega)]
    simp only [hp,decide_true,p_rbefore,gcall_mk,Option.bind_some,if_true,Bool.true_and]
    rw [if_neg h0]
    generalize nth l (i-1).toNat=y
    by_cases hb:Lt r y
    ·rw [if_pos (by simpa using hb)]
     exact .inl ⟨_,rfl,by simp [srtB,hb]⟩
    ·rw [if_neg (by simpa using hb),ck_pos (by omega)]
     refine .inr ⟨_,rfl,fun p hp=>hsm p (List.mem_cons_of_mem _ hp),rfl,?_⟩
     simp only [e1,if_false,e2,hn]
     simp [srtB,okB,hk.1,hk.2,hb]
  ·have hb:((r.part==0) || ((if (!(r.part==0))=true then errF r else default) != 0))=true:=by
    by_cases hp:r.part=0
    ·simp [hp]
    ·simp [hp]
     intro he; exact hk ⟨hp,he⟩
   simp only [hb,Bool.not_true,Bool.true_or,Bool.false_and,gcall,Bool.false_eq_true,if_false,Option.bind_some]
   rw [ck_pos (by simp),ck_pos (by simp),ck_pos (by simp),if_pos trivial]
   refine .inl ⟨_,rfl,?_⟩
   have:okB r=false:=by
    unfold okB
    rw [Bool.eq_false_iff]
    simpa using hk
   by_cases h0:i=0 <;> simp [h0,srtB,this]
theorem p_cmp (x y:Int):f_cmp_Compare_int x y=some (if x < y then -1 else if y < x then 1 else 0):=by
 unfold f_cmp_Compare_int f_cmp_isNaN_int
 simp only [Option.bind_some,bne_self_eq_false,Bool.false_eq_true,if_false,decide_eq_true_eq,gt_iff_lt]
 split
 ·rfl
 ·split <;> rfl
theorem p_or (l:List Int) (hl:l.length≤1000):f_cmp_Or_int l=some ((l.find? (fun x=>x != 0)).getD 0):=by
 unfold f_cmp_Or_int
 refine loop_rec0 l (fun s:Int=>s) (fun s t=>some ((t.find? (fun x=>x != 0)).getD 0)) (fun s t=>True) (by omega) ?_ ?_ rfl trivial
 ·intro i _ hi
  unfold f_cmp_Or_int_l1
  rw [if_neg (by simp only [decide_eq_true_eq]; omega)]
  exact ⟨_,rfl,rfl⟩
 ·intro i r t _ hi0 hi1 hn hlen
  unfold f_cmp_Or_int_l1
  rw [if_pos (by simpa using hi1),ck_pos ⟨hi0,hi1⟩,hn]
  by_cases h:r=0
  ·rw [if_neg (by simp [h]),ck_pos (by omega)]
   refine .inr ⟨_,rfl,trivial,rfl,?_⟩
   rw [List.find?_cons_of_neg (by simp [h])]
  ·rw [if_pos (by simpa using h)]
   refine .inl ⟨_,rfl,?_⟩
   rw [List.find?_cons_of_pos (by simpa using h)]
   rfl
theorem p_before (a b:Record):∃ c,f_correlate_before a b=some c∧(c≤0↔¬ Lt b a):=by
 unfold f_correlate_before
 simp only [p_cmp,Option.bind_some]
 rw [p_or _ (by simp)]
 refine ⟨_,rfl,?_⟩
 unfold Lt
 by_cases h1:a.source < b.source
 ·simp [h1] <;> omega
 ·by_cases h2:b.source < a.source
  ·simp [h1,h2]
  ·by_cases h3:a.call < b.call
   ·simp [h1,h2,h3] <;> omega
   ·by_cases h4:b.call < a.call
    ·simp [h1,h2,h3,h4] <;> omega
    ·by_cases h5:a.part < b.part
     ·simp [h1,h2,h3,h4,h5] <;> omega
     ·by_cases h6:b.part < a.part
      ·simp [h1,h2,h3,h4,h5,h6] <;> omega
      ·simp [h1,h2,h3,h4,h5,h6] <;> omega
def callC (x:Record):CorrelateCall:=⟨x.source,x.call⟩
theorem call_vals (r x:Record):eqVs (CorrelateCall.vals ⟨r.source,r.call⟩) (CorrelateCall.vals (callC x))=callB r x:=by
 rw [Bool.eq_iff_iff,callB_iff]
 simp [CorrelateCall.vals,callC,eqVs,eqV]
def idxF (x:Record):Int→List Record→Int
 | _,[]=>-1
 | i,r :: t=>if callB r x=true then i else idxF x (i+1) t
def runN (x:Record):List Record→Nat
 | []=>0
 | r :: t=>if callB r x=true then runN x t+1 else 0
theorem p_index (l:List Record) (x:Record) (hl:l.length≤1000):g_api_Record l (callC x)=some (idxF x 0 l):=by
 unfold g_api_Record
 refine loop_rec0 l (fun s:Int=>s) (fun s t=>some (idxF x s t)) (fun s t=>True) (by omega) ?_ ?_ rfl trivial
 ·intro i _ hi
  unfold g_api_Record_l1
  rw [if_neg (by simp only [decide_eq_true_eq]; omega)]
  exact ⟨_,rfl,rfl⟩
 ·intro i r t _ hi0 hi1 hn hlen
  unfold g_api_Record_l1
  rw [if_pos (by simpa using hi1),ck_pos ⟨hi0,hi1⟩,hn]
  simp only [g_correlate_span_1,f_correlate_callOf,Option.bind_some,call_vals]
  by_cases h:callB r x=true
  ·rw [if_pos h]
   exact .inl ⟨_,rfl,by simp [idxF,h]⟩
  ·rw [if_neg h,ck_pos (by omega)]
   exact .inr ⟨_,rfl,trivial,rfl,by simp [idxF,h]⟩
theorem idx_lt:∀ (x:Record) (i:Int) (t:List Record),idxF x i t=-1∨(i≤idxF x i t∧idxF x i t < i+t.length)
 | x,i,[]=>.inl rfl
 | x,i,r :: t=>by
  unfold idxF
  have:=idx_lt x (i+1) t
  simp only [List.length_cons]
  split <;> omega
theorem p_span (l:List Record) (x:Record) (hl:l.length≤1000):f_correlate_span l (callC x)=some (if idxF x 0 l < 0 then (0,0) else (idxF x 0 l,idxF x 0 l+runN x (l.drop (idxF x 0 l).toNat))):=by
 unfold f_correlate_span
 rw [p_index l x hl]
 have hi:=idx_lt x 0 l
 simp only [Option.bind_some,decide_eq_true_eq]
 split
 ·rfl
 ·refine loop_rec l (fun s:Int=>s) (fun s t=>some (idxF x 0 l,s+(runN x t:Int))) (fun s t=>True) (by omega) ?_ ?_ (s:=idxF x 0 l) (by omega) trivial
  ·intro i _ hi
   unfold f_correlate_span_l1
   rw [ck_pos (fun h=>by simp at h; omega)]
   simp only [gcall,hi,Int.lt_irrefl,decide_false,Bool.false_eq_true,if_false,Option.bind_some,Bool.false_and]
   exact ⟨_,rfl,by simp [runN,hi]⟩
  ·intro i r t _ hi0 hi1 hn hlen
   unfold f_correlate_span_l1
   rw [ck_pos (fun _=>⟨hi0,hi1⟩),hn]
   simp only [gcall,hi1,decide_true,if_true,f_correlate_callOf,Option.bind_some,Bool.true_and,call_vals]
   by_cases h:callB r x=true
   ·rw [if_pos h,ck_pos (by omega)]
    refine .inr ⟨_,rfl,trivial,rfl,?_⟩
    simp only [runN,h,if_true]
    congr 2; omega
   ·rw [if_neg h]
    refine .inl ⟨_,rfl,?_⟩
    simp [runN,h]
theorem p_indexG (l:List Record) (x:Record) (hl:l.length≤1000):g_api_Record_v1 (callC x) l=some (idxF x 0 l):=by
 unfold g_api_Record_v1
 refine loop_rec0 l (fun s:Int=>s) (fun s t=>some (idxF x s t)) (fun s t=>True) (by omega) ?_ ?_ rfl trivial
 ·intro i _ hi
  unfold g_api_Record_v1_l1
  rw [if_neg (by simp only [decide_eq_true_eq]; omega)]
  exact ⟨_,rfl,rfl⟩
 ·intro i r t _ hi0 hi1 hn hlen
  unfold g_api_Record_v1_l1
  rw [if_pos (by simpa using hi1),ck_pos ⟨hi0,hi1⟩,ck_pos (by omega),hn]
  simp only [g_correlate_span_1,f_correlate_callOf,Option.bind_some,call_vals]
  by_cases h:callB r x=true
  ·rw [if_pos h]
   exact .inl ⟨_,rfl,by simp [idxF,h]⟩
  ·rw [if_neg h,ck_pos (by omega)]
   exact .inr ⟨_,rfl,trivial,rfl,by simp [idxF,h]⟩
theorem idx_ltG:∀ (x:Record) (i:Int) (t:List Record),idxF x i t=-1∨(i≤idxF x i t∧idxF x i t < i+t.length)
 | x,i,[]=>.inl rfl
 | x,i,r :: t=>by
  unfold idxF
  have:=idx_ltG x (i+1) t
  simp only [List.length_cons]
  split <;> omega
theorem p_spanG (l:List Record) (x:Record) (hl:l.length≤1000):g_correlate_span (callC x) l=some (if idxF x 0 l < 0 then (0,0) else (idxF x 0 l,idxF x 0 l+runN x (l.drop (idxF x 0 l).toNat))):=by
 unfold g_correlate_span
 rw [p_indexG l x hl]
 have hi:=idx_ltG x 0 l
 simp only [Option.bind_some,decide_eq_true_eq]
 split
 ·rfl
 ·refine loop_rec l (fun s:Int=>s) (fun s t=>some (idxF x 0 l,s+(runN x t:Int))) (fun s t=>True) (by omega) ?_ ?_ (s:=idxF x 0 l) (by omega) trivial
  ·intro i _ hi
   unfold g_correlate_span_l1
   rw [ck_pos (fun h=>by simp at h; omega),ck_pos (fun h=>by simp at h; omega)]
   simp only [gcall,hi,Int.lt_irrefl,decide_false,Bool.false_eq_true,if_false,Option.bind_some,Bool.false_and]
   exact ⟨_,rfl,by simp [runN,hi]⟩
  ·intro i r t _ hi0 hi1 hn hlen
   unfold g_correlate_span_l1
   rw [ck_pos (fun _=>⟨hi0,hi1⟩),ck_pos (fun _=>by omega),hn]
   simp only [gcall,hi1,decide_true,if_true,f_correlate_callOf,Option.bind_some,Bool.true_and,call_vals]
   by_cases h:callB r x=true
   ·rw [if_pos h,ck_pos (by omega)]
    refine .inr ⟨_,rfl,trivial,rfl,?_⟩
    simp only [runN,h,if_true]
    congr 2; omega
   ·rw [if_neg h]
    refine .inl ⟨_,rfl,?_⟩
    simp [runN,h]
def fI (k:Int):Int→List Record→Option Int
 | _,[]=>none
 | i,r :: t=>if r.part=k then some i else fI k (i+1) t
theorem fI_some {k:Int}:∀ {i:Int} {l:List Record} {j:Int},fI k i l=some j→i≤j∧j < i+l.length∧(nth l (j-i).toNat).part=k
 | i,[],j,h=>by cases h
 | i,r :: l,j,h=>by
  unfold fI at h
  simp only [List.length_cons]
  split at h
  ·rename_i hk
   cases h
   refine ⟨by omega,by omega,?_⟩
   rw [show (i-i).toNat=0 from by omega,nth_cons_zero]; exact hk
  ·have ih:=fI_some h
   refine ⟨by omega,by omega,?_⟩
   rw [show (j-i).toNat=(j-(i+1)).toNat+1 from by omega,nth_cons_succ]
   exact ih.2.2
theorem posF_unfold (last:Bool) (x:Record) (n:Int):∀ {i:Int} {l:List Record},Srt l→(∀ r,r∈l→callB r x=true)→posF last x n i l=match fI n i l with
  | none=>[]
  | some j=>j :: if last=true∧(nth l (j-i).toNat).last=true then [] else posF last x (n+1) i l
 | i,[],_,_=>rfl
 | i,r :: l,h,hc=>by
  have h2:=List.pairwise_cons.1 h
  have hr:=hc r (List.mem_cons_self ..)
  have hc2:∀ r,r∈l→callB r x=true:=fun y hy=>hc y (List.mem_cons_of_mem _ hy)
  by_cases hp:r.part=n
  ·have e1:fI n i (r :: l)=some i:=by unfold fI; rw [if_pos hp]
   have e2:posF last x (n+1) i (r :: l)=posF last x (n+1) (i+1) l:=by
    conv=>lhs; unfold posF
    rw [if_neg (by omega)]
   simp only [e1,e2]
   rw [show (i-i).toNat=0 from by omega,nth_cons_zero]
   conv=>lhs; unfold posF
   rw [if_pos ⟨hr,hp⟩]
   split <;> rfl
  ·have e1:fI n i (r :: l)=fI n (i+1) l:=by conv=>lhs; unfold fI; rw [if_neg hp]
   have e0:posF last x n i (r :: l)=posF last x n (i+1) l:=by
    conv=>lhs; unfold posF
    rw [if_neg (fun h=>hp h.2)]
   rw [e0,e1,posF_unfold last x n h2.2 hc2]
   cases hf:fI n (i+1) l with
   | none=>rfl
   | some j =>
    have hj:=fI_some hf
    have hm:nth l (j-(i+1)).toNat∈l:=nth_mem (by omega)
    have e2:posF last x (n+1) i (r :: l)=posF last x (n+1) (i+1) l:=by
     conv=>lhs; unfold posF
     rw [if_neg (fun h=>by
      have:=Le_part (h2.1 _ hm) (callB_tr hr (callB_symm (hc2 _ hm)))
      omega)]
    simp only [e2]
    rw [show (j-i).toNat=(j-(i+1)).toNat+1 from by omega,nth_cons_succ]
theorem p_cand (l:List Record) (x:Record) (last:Bool) (hl:l.length≤1000) (hs:Srt l) (hc:∀ r,r∈l→callB r x=true) (hp:∀ r,r∈l→r.part≤99):f_correlate_candidates l last=some (posF last x 1 0 l):=by
 unfold f_correlate_candidates
 refine loop_rec0 l (fun s:Int×List (Int×Int)=>s.1) (fun s t=>some (posF last x 1 0 l)) (fun s t=>∀ k,(alook s.2 k).or (fI k s.1 t)=fI k 0 l) (by omega) ?_ ?_ rfl (fun k=>by rw [alook_nil]; rfl)
 ·rintro ⟨i,m⟩ hm hi
  simp only at hm hi ⊢
  have hm':∀ k,alook m k=fI k 0 l:=fun k=>by rw [←hm k]; simp [fI]
  unfold f_correlate_candidates_l2 f_correlate_candidates_j1
  rw [if_neg (by simp only [decide_eq_true_eq]; omega)]
  have:loop (fun s:List Int×Int=>f_correlate_candidates_l1 l last m s.1 s.2) ([],1)=some (posF last x 1 0 l):=by
   refine (loop_spec (fun s:List Int×Int=>some (s.1++posF last x s.2 0 l)) (fun s=>1≤s.2∧s.2≤100∧(s.1.length:Int)≤s.2-1) (fun s=>(100-s.2).toNat) ?_ ⟨by decide,by decide,by decide⟩ (by decide)).trans (by simp)
   rintro ⟨out,k⟩ ⟨h0,h1,h2⟩
   simp only at h0 h1 h2 ⊢
   unfold f_correlate_candidates_l1
   rw [hm' k,posF_unfold last x k hs hc]
   cases hf:fI k 0 l with
   | none =>
    rw [if_pos (by simp)]
    exact .inl ⟨_,rfl,by simp⟩
   | some j =>
    have hj:=fI_some hf
    have hk:=hp _ (nth_mem (l:=l) (k:=(j-0).toNat) (by omega))
    rw [if_neg (by simp),ck_pos (by simp only [List.length_cons,List.length_nil]; omega)]
    simp only [Option.getD_some]
    rw [ck_pos (fun _=>by omega),show (j-0).toNat=j.toNat from by omega]
    by_cases hla:last=true∧(nth l j.toNat).last=true
    ·rw [if_pos (by simp [hla.1,hla.2]),if_pos hla]
     exact .inl ⟨_,rfl,rfl⟩
    ·rw [if_neg (by simpa using hla),if_neg hla,ck_pos (by omega)]
     refine .inr ⟨_,rfl,⟨by simp only; omega,by simp only; omega,by simp only [List.length_append,List.length_cons,List.length_nil]; omega⟩,by simp only; omega,?_⟩
     simp
  rw [this]
  exact ⟨_,rfl,rfl⟩
 ·rintro ⟨i,m⟩ r t hm hi0 hi1 hn hlen
  simp only at hm hi0 hi1 hn hlen ⊢
  unfold f_correlate_candidates_l2
  rw [if_pos (by simpa using hi1),ck_pos ⟨hi0,hi1⟩,hn]
  cases ha:alook m r.part with
  | none =>
   rw [if_pos (by simp),ck_pos (by omega)]
   refine .inr ⟨_,rfl,fun k=>?_,rfl,by first | rfl | trivial⟩
   simp only
   rw [alook_aset,←hm k]
   by_cases hk:r.part=k
   ·rw [if_pos (by simp [hk])]
    subst hk
    simp [ha,fI]
   ·rw [if_neg (by simpa using fun h=>hk h.symm)]
    simp [fI,hk]
  | some j =>
   rw [if_neg (by simp),ck_pos (by omega)]
   refine .inr ⟨_,rfl,fun k=>?_,rfl,by first | rfl | trivial⟩
   simp only
   rw [←hm k]
   by_cases hk:r.part=k
   ·subst hk
    simp [ha]
   ·simp [fI,hk]
theorem p_candG (l:List Record) (x:Record) (last:Bool) (hl:l.length≤1000) (hs:Srt l) (hc:∀ r,r∈l→callB r x=true) (hp:∀ r,r∈l→r.part≤99):g_correlate_candidates l last=some (posF last x 1 0 l):=by
 unfold g_correlate_candidates
 refine loop_rec0 l (fun s:Int×List (Int×Int)=>s.1) (fun s t=>some (posF last x 1 0 l)) (fun s t=>∀ k,(alook s.2 k).or (fI k s.1 t)=fI k 0 l) (by omega) ?_ ?_ rfl (fun k=>by rw [alook_nil]; rfl)
 ·rintro ⟨i,m⟩ hm hi
  simp only at hm hi ⊢
  have hm':∀ k,alook m k=fI k 0 l:=fun k=>by rw [←hm k]; simp [fI]
  unfold g_correlate_candidates_l2 g_correlate_candidates_j1
  rw [if_neg (by simp only [decide_eq_true_eq]; omega)]
  have:loop (fun s:List Int×Int=>g_correlate_candidates_l1 l last m s.1 s.2) ([],1)=some (posF last x 1 0 l):=by
   refine (loop_spec (fun s:List Int×Int=>some (s.1++posF last x s.2 0 l)) (fun s=>1≤s.2∧s.2≤100∧(s.1.length:Int)≤s.2-1) (fun s=>(100-s.2).toNat) ?_ ⟨by decide,by decide,by decide⟩ (by decide)).trans (by simp)
   rintro ⟨out,k⟩ ⟨h0,h1,h2⟩
   simp only at h0 h1 h2 ⊢
   unfold g_correlate_candidates_l1
   rw [hm' k,posF_unfold last x k hs hc]
   cases hf:fI k 0 l with
   | none =>
    rw [if_pos (by simp)]
    exact .inl ⟨_,rfl,by simp⟩
   | some j =>
    have hj:=fI_some hf
    have hk:=hp _ (nth_mem (l:=l) (k:=(j-0).toNat) (by omega))
    rw [if_neg (by simp),ck_pos (by simp only [List.length_cons,List.length_nil]; omega)]
    simp only [Option.getD_some]
    rw [ck_pos (fun _=>by omega),ck_pos (fun _=>by omega),show (j-0).toNat=j.toNat from by omega]
    by_cases hla:last=true∧(nth l j.toNat).last=true
    ·rw [if_pos (by simp [hla.1,hla.2]),if_pos hla]
     exact .inl ⟨_,rfl,rfl⟩
    ·rw [if_neg (by simpa using hla),if_neg hla,ck_pos (by omega)]
     refine .inr ⟨_,rfl,⟨by simp only; omega,by simp only; omega,by simp only [List.length_append,List.length_cons,List.length_nil]; omega⟩,by simp only; omega,?_⟩
     simp
  rw [this]
  exact ⟨_,rfl,rfl⟩
 ·rintro ⟨i,m⟩ r t hm hi0 hi1 hn hlen
  simp only at hm hi0 hi1 hn hlen ⊢
  unfold g_correlate_candidates_l2
  rw [if_pos (by simpa using hi1),ck_pos ⟨hi0,hi1⟩,ck_pos (by omega),hn]
  cases ha:alook m r.part with
  | none =>
   rw [if_pos (by simp),ck_pos (by omega)]
   refine .inr ⟨_,rfl,fun k=>?_,rfl,by first | rfl | trivial⟩
   simp only
   rw [alook_aset,←hm k]
   by_cases hk:r.part=k
   ·rw [if_pos (by simp [hk])]
    subst hk
    simp [ha,fI]
   ·rw [if_neg (by simpa using fun h=>hk h.symm)]
    simp [fI,hk]
  | some j =>
   rw [if_neg (by simp),ck_pos (by omega)]
   refine .inr ⟨_,rfl,fun k=>?_,rfl,by first | rfl | trivial⟩
   simp only
   rw [←hm k]
   by_cases hk:r.part=k
   ·subst hk
    simp [ha]
   ·simp [fI,hk]
def othF (at':List Int):Int→List Record→List Record
 | _,[]=>[]
 | i,r :: t=>if i∈at' then othF at' (i+1) t else r :: othF at' (i+1) t
theorem othF_congr {a b:List Int}:∀ {i:Int} {l:List Record},(∀ j,i≤j→(j∈a↔j∈b))→othF a i l=othF b i l
 | _,[],_=>rfl
 | i,r :: l,h=>by
  have ih:=othF_congr (i:=i+1) (l:=l) (fun j hj=>h j (by omega))
  unfold othF
  simp only [h i (Int.le_refl _),ih]
theorem othF_nil:∀ (i:Int) (l:List Record),othF [] i l=l
 | _,[]=>rfl
 | i,r :: l=>by unfold othF; rw [if_neg (by simp),othF_nil]
theorem pickA_asc:∀ (i:Int) (at':List Int) (l:List Record),at'.Pairwise (· < ·)→(∀ a,a∈at'→i≤a∧a < i+l.length)→pickA i at' l=(at'.map fun j=>nth l (j-i).toNat,othF at' i l)
 | i,[],l,_,_=>by rw [pickA_nil,othF_nil]; rfl
 | i,a :: at',[],_,h=>by have:=h a (List.mem_cons_self ..); simp at this; omega
 | i,a :: at',r :: l,hp,h=>by
  have h2:=List.pairwise_cons.1 hp
  have ha:=h a (List.mem_cons_self ..)
  unfold pickA
  by_cases e:a=i
  ·subst e
   rw [if_pos rfl,pickA_asc (a+1) at' l h2.2 (fun b hb=>by
    have h3:=h b (List.mem_cons_of_mem _ hb)
    have h4:=h2.1 b hb
    simp only [List.length_cons] at h3
    omega)]
   have e1:(at'.map fun j=>nth (r :: l) (j-a).toNat)=at'.map fun j=>nth l (j-(a+1)).toNat:=List.map_congr_left (fun b hb=>by
    have h4:=h2.1 b hb
    rw [show (b-a).toNat=(b-(a+1)).toNat+1 from by omega,nth_cons_succ])
   have e2:othF (a :: at') a (r :: l)=othF at' (a+1) l:=by
    conv=>lhs; unfold othF
    rw [if_pos (List.mem_cons_self ..)]
    exact othF_congr (fun j hj=>by simp; omega)
   simp only [List.map_cons,e1,e2]
   rw [show (a-a).toNat=0 from by omega,nth_cons_zero]
  ·have hall:∀ b,b∈a :: at'→i+1≤b∧b < i+1+l.length:=fun b hb=>by
    have h3:=h b hb
    simp only [List.length_cons] at h3
    rcases List.mem_cons.1 hb with hb | hb
    ·omega
    ·have:=h2.1 b hb; omega
   rw [if_neg e,pickA_asc (i+1) (a :: at') l hp hall]
   have e1:((a :: at').map fun j=>nth (r :: l) (j-i).toNat)=(a :: at').map fun j=>nth l (j-(i+1)).toNat:=List.map_congr_left (fun b hb=>by
    have h4:=hall b hb
    rw [show (b-i).toNat=(b-(i+1)).toNat+1 from by omega,nth_cons_succ])
   have e2:othF (a :: at') i (r :: l)=r :: othF (a :: at') (i+1) l:=by
    conv=>lhs; unfold othF
    rw [if_neg (fun hb=>by have:=hall i hb; omega)]
   rw [e1,e2]
theorem p_pick (l:List Record) (at':List Int) (hl:l.length≤1000) (hal:at'.length≤1000) (hp:at'.Pairwise (· < ·)) (hb:∀ a,a∈at'→0≤a∧a < (l.length:Int)):f_correlate_pick l at'=some (pickA 0 at' l):=by
 unfold f_correlate_pick
 rw [pickA_asc 0 at' l hp (fun a ha=>by have:=hb a ha; omega)]
 refine loop_rec0 at' (fun s:List Record×Int×List (Int×Bool)=>s.2.1) (fun s t=>some (at'.map (fun j=>nth l (j-0).toNat),othF at' 0 l))
  (fun s t=>(s.1.length:Int)≤s.2.1∧s.1++t.map (fun j=>nth l (j-0).toNat)=at'.map (fun j=>nth l (j-0).toNat)∧(∀ j,((alook s.2.2 j).getD false=true∨j∈t)↔j∈at')∧(∀ a,a∈t→0≤a∧a < (l.length:Int))) (by omega) ?_ ?_ (s:=(([]:List Record),(0:Int),([]:List (Int×Bool)))) rfl ⟨by simp,rfl,fun j=>by simp [alook_nil],hb⟩
 ·rintro ⟨out,i,m⟩ ⟨h1,h2,h3,h4⟩ hi
  simp only at h1 h2 h3 h4 hi ⊢
  have hm:∀ j,(alook m j).getD false=decide (j∈at'):=fun j=>by rw [Bool.eq_iff_iff,decide_eq_true_iff,←h3 j]; simp
  rw [List.map_nil,List.append_nil] at h2
  unfold f_correlate_pick_l2 f_correlate_pick_j1
  rw [if_neg (by simp only [decide_eq_true_eq]; omega),←h2]
  have:loop (fun s:List Record×Int=>f_correlate_pick_l1 l out m s.1 s.2) ([],0)=some (out,othF at' 0 l):=by
   refine (loop_rec0 l (fun s:List Record×Int=>s.2) (fun s t=>some (out,s.1++othF at' s.2 t)) (fun s t=>(s.1.length:Int)≤s.2) (by omega) ?_ ?_ rfl (by simp)).trans (by simp)
   ·rintro ⟨oth,k⟩ hq hk
    simp only at hq hk ⊢
    unfold f_correlate_pick_l1
    rw [if_neg (by simp only [decide_eq_true_eq]; omega)]
    exact ⟨_,rfl,by simp [othF]⟩
   ·rintro ⟨oth,k⟩ r t hq hk0 hk1 hn hlen
    simp only at hq hk0 hk1 hn hlen ⊢
    unfold f_correlate_pick_l1
    rw [if_pos (by simpa using hk1),ck_pos ⟨hk0,hk1⟩,hn,hm k]
    by_cases hmem:k∈at'
    ·rw [if_neg (by simpa using hmem),ck_pos (by omega)]
     refine .inr ⟨_,rfl,by simp only; omega,rfl,?_⟩
     simp [othF,hmem]
    ·rw [if_pos (by simpa using hmem),ck_pos (by simp only [List.length_cons,List.length_nil]; omega),ck_pos (by omega)]
     refine .inr ⟨_,rfl,by simp only [List.length_append,List.length_cons,List.length_nil]; omega,rfl,?_⟩
     simp [othF,hmem]
  rw [this]
  exact ⟨_,rfl,rfl⟩
 ·rintro ⟨out,i,m⟩ a t ⟨h1,h2,h3,h4⟩ hi0 hi1 hn hlen
  simp only at h1 h2 h3 h4 hi0 hi1 hn hlen ⊢
  have ha:=h4 a (List.mem_cons_self ..)
  unfold f_correlate_pick_l2
  rw [if_pos (by simpa using hi1),ck_pos ⟨hi0,hi1⟩,hn,ck_pos ha,ck_pos (by simp only [List.length_cons,List.length_nil]; omega),ck_pos (by omega)]
  refine .inr ⟨_,rfl,⟨?_,?_,fun j=>?_,fun b hb=>h4 b (List.mem_cons_of_mem _ hb)⟩,rfl,by first | rfl | trivial⟩
  ·simp only [List.length_append,List.length_cons,List.length_nil]; omega
  ·simp only
   rw [←h2,List.map_cons,show (a-0).toNat=a.toNat from by omega]
   simp
  ·simp only
   rw [alook_aset,←h3 j]
   by_cases hj:j=a
   ·rw [if_pos (by simp [hj])]; simp [hj]
   ·rw [if_neg (by simpa using hj)]; simp [hj]
theorem p_pickG (l:List Record) (at':List Int) (hl:l.length≤1000) (hal:at'.length≤1000) (hp:at'.Pairwise (· < ·)) (hb:∀ a,a∈at'→0≤a∧a < (l.length:Int)):g_correlate_pick l at'=some (pickA 0 at' l):=by
 unfold g_correlate_pick
 rw [pickA_asc 0 at' l hp (fun a ha=>by have:=hb a ha; omega)]
 refine loop_rec0 at' (fun s:List Record×Int×List (Int×Bool)=>s.2.1) (fun s t=>some (at'.map (fun j=>nth l (j-0).toNat),othF at' 0 l))
  (fun s t=>(s.1.length:Int)≤s.2.1∧s.1++t.map (fun j=>nth l (j-0).toNat)=at'.map (fun j=>nth l (j-0).toNat)∧(∀ j,((alook s.2.2 j).getD false=true∨j∈t)↔j∈at')∧(∀ a,a∈t→0≤a∧a < (l.length:Int))) (by omega) ?_ ?_ (s:=(([]:List Record),(0:Int),([]:List (Int×Bool)))) rfl ⟨by simp,rfl,fun j=>by simp [alook_nil],hb⟩
 ·rintro ⟨out,i,m⟩ ⟨h1,h2,h3,h4⟩ hi
  simp only at h1 h2 h3 h4 hi ⊢
  have hm:∀ j,(alook m j).getD false=decide (j∈at'):=fun j=>by rw [Bool.eq_iff_iff,decide_eq_true_iff,←h3 j]; simp
  rw [List.map_nil,List.append_nil] at h2
  unfold g_correlate_pick_l2 g_correlate_pick_j1
  rw [if_neg (by simp only [decide_eq_true_eq]; omega),←h2]
  have:loop (fun s:List Record×Int=>g_correlate_pick_l1 l out m s.1 s.2) ([],0)=some (out,othF at' 0 l):=by
   refine (loop_rec0 l (fun s:List Record×Int=>s.2) (fun s t=>some (out,s.1++othF at' s.2 t)) (fun s t=>(s.1.length:Int)≤s.2) (by omega) ?_ ?_ rfl (by simp)).trans (by simp)
   ·rintro ⟨oth,k⟩ hq hk
    simp only at hq hk ⊢
    unfold g_correlate_pick_l1
    rw [if_neg (by simp only [decide_eq_true_eq]; omega)]
    exact ⟨_,rfl,by simp [othF]⟩
   ·rintro ⟨oth,k⟩ r t hq hk0 hk1 hn hlen
    simp only at hq hk0 hk1 hn hlen ⊢
    unfold g_correlate_pick_l1
    rw [if_pos (by simpa using hk1),ck_pos ⟨hk0,hk1⟩,ck_pos (by omega),hn,hm k]
    by_cases hmem:k∈at'
    ·rw [if_neg (by simpa using hmem),ck_pos (by omega)]
     refine .inr ⟨_,rfl,by simp only; omega,rfl,?_⟩
     simp [othF,hmem]
    ·rw [if_pos (by simpa using hmem),ck_pos (by simp only [List.length_cons,List.length_nil]; omega),ck_pos (by omega)]
     refine .inr ⟨_,rfl,by simp only [List.length_append,List.length_cons,List.length_nil]; omega,rfl,?_⟩
     simp [othF,hmem]
  rw [this]
  exact ⟨_,rfl,rfl⟩
 ·rintro ⟨out,i,m⟩ a t ⟨h1,h2,h3,h4⟩ hi0 hi1 hn hlen
  simp only at h1 h2 h3 h4 hi0 hi1 hn hlen ⊢
  have ha:=h4 a (List.mem_cons_self ..)
  unfold g_correlate_pick_l2
  rw [if_pos (by simpa using hi1),ck_pos ⟨hi0,hi1⟩,hn,ck_pos ha,ck_pos (by omega),ck_pos (by simp only [List.length_cons,List.length_nil]; omega),ck_pos (by omega)]
  refine .inr ⟨_,rfl,⟨?_,?_,fun j=>?_,fun b hb=>h4 b (List.mem_cons_of_mem _ hb)⟩,rfl,by first | rfl | trivial⟩
  ·simp only [List.length_append,List.length_cons,List.length_nil]; omega
  ·simp only
   rw [←h2,List.map_cons,show (a-0).toNat=a.toNat from by omega]
   simp
  ·simp only
   rw [alook_aset,←h3 j]
   by_cases hj:j=a
   ·rw [if_pos (by simp [hj])]; simp [hj]
   ·rw [if_neg (by simpa using hj)]; simp [hj]
theorem idxF_spec (x:Record):∀ (i:Int) (l:List Record),0≤i→(idxF x i l=-1∧∀ r,r∈l→callB r x=false)∨(∃ pre r t,l=pre++r :: t∧(∀ y,y∈pre→callB y x=false)∧callB r x=true∧idxF x i l=i+pre.length)
 | i,[],_=>.inl ⟨rfl,by simp⟩
 | i,r :: l,h0=>by
  unfold idxF
  by_cases h:callB r x=true
  ·rw [if_pos h]
   exact .inr ⟨[],r,l,rfl,by simp,h,by simp⟩
  ·rw [if_neg h]
   rcases idxF_spec x (i+1) l (by omega) with ⟨h1,h2⟩ | ⟨pre,y,t,h1,h2,h3,h4⟩
   ·exact .inl ⟨h1,fun y hy=>by
     rcases List.mem_cons.1 hy with e | hy
     ·rw [e]; simpa using h
     ·exact h2 y hy⟩
   ·refine .inr ⟨r :: pre,y,t,by rw [h1]; rfl,fun z hz=>?_,h3,by rw [h4]; simp only [List.length_cons]; omega⟩
    rcases List.mem_cons.1 hz with e | hz
    ·rw [e]; simpa using h
    ·exact h2 z hz
theorem runN_run (x:Record):∀ (l:List Record),runN x l=(runF x l).length
 | []=>rfl
 | r :: l=>by
  have ih:=runN_run x l
  unfold runN
  unfold runF at ih ⊢
  by_cases h:callB r x=true
  ·rw [if_pos h,List.takeWhile_cons_of_pos (p:=fun r=>callB r x) h,List.length_cons,ih]
  ·rw [if_neg h,List.takeWhile_cons_of_neg (p:=fun r=>callB r x) h]; rfl
theorem span_dec {x:Record} {l:List Record} (hs:Srt l):(idxF x 0 l < 0∧∀ r,r∈l→callB r x=false)∨(∃ pre run post,l=pre++(run++post)∧idxF x 0 l=(pre.length:Int)∧runN x (l.drop (idxF x 0 l).toNat)=run.length∧0 < run.length∧(∀ r,r∈pre→callB r x=false)∧(∀ r,r∈run→callB r x=true)∧(∀ r,r∈post→callB r x=false)):=by
 rcases idxF_spec x 0 l (Int.le_refl _) with ⟨h1,h2⟩ | ⟨pre,r,t,h1,h2,h3,h4⟩
 ·exact .inl ⟨by omega,h2⟩
 ·right
  have e:∀ (l:List Record),runF r l=runF x l∧restF r l=restF x l:=fun l=>by
   unfold runF restF
   have:(fun y=>callB y r)=fun y=>callB y x:=funext fun y=>callB_eq h3
   rw [this]; exact ⟨rfl,rfl⟩
  have hsr:Srt (r :: t):=by rw [h1] at hs; exact (List.pairwise_append.1 hs).2.1
  have hd:l.drop (idxF x 0 l).toNat=r :: t:=by rw [h4,h1,show (0+(pre.length:Int)).toNat=pre.length from by omega,List.drop_left]
  refine ⟨pre,runF x (r :: t),restF x (r :: t),by rw [run_rest]; exact h1,by omega,by rw [hd,runN_run],?_,h2,run_call,fun y hy=>?_⟩
  ·unfold runF
   rw [List.takeWhile_cons_of_pos (p:=fun r=>callB r x) h3]
   simp
  ·rw [←callB_eq h3]
   rw [←(e (r :: t)).2] at hy
   exact rest_call hsr y hy
theorem joinL_fuel (x:Record):∀ (m m':Nat) (now:List Record),now.length < m→now.length < m'→joinL m now x=joinL m' now x
 | 0,_,_,h,_=>by omega
 | _,0,_,_,h=>by omega
 | m+1,m'+1,now,h,h'=>by
  unfold joinL
  cases hc:complF (chn true x 1 now).1 with
  | none=>rfl
  | some w =>
   have hl:=chn_len (last:=true) (x:=x) (n:=1) (l:=now)
   have hp:0 < (chn true x 1 now).1.length:=List.length_pos_iff.2 (compl_pos hc)
   simp only [joinL_fuel x m m' (chn true x 1 now).2 (by omega) (by omega)]
theorem joinL_len (x:Record):∀ (m:Nat) (now:List Record),(joinL m now x).1.length+(joinL m now x).2.length≤now.length
 | 0,now=>by simp [joinL]
 | m+1,now=>by
  unfold joinL
  split
  ·simp
  ·rename_i w hc
   have hl:=chn_len (last:=true) (x:=x) (n:=1) (l:=now)
   have hp:0 < (chn true x 1 now).1.length:=List.length_pos_iff.2 (compl_pos hc)
   have ih:=joinL_len x m (chn true x 1 now).2
   simp only [List.length_cons]
   omega
structure Wt (l:List Record):Prop where
 srt:Srt l
 ok:∀ r,r∈l→errF r=0
theorem Wt.sm {l:List Record} (h:Wt l):∀ r,r∈l→Sm r:=fun r hr=>good_sm (h.ok r hr)
theorem Wt.le {l:List Record} (h:Wt l):∀ r,r∈l→r.part≤99:=fun r hr=>(errF_good (h.ok r hr)).part.2
theorem Wt.sub {l l':List Record} (h:Wt l) (hs:l'.Sublist l):Wt l':=⟨h.srt.sublist hs,fun r hr=>h.ok r (hs.subset hr)⟩
theorem Opn.wt {l:List Record} (h:Opn l):Wt l:=⟨h.srt,fun r hr=>(h.ok r hr).1⟩
theorem Wt.ins {l:List Record} (h:Wt l) {p:Record} (hp:errF p=0):Wt (insP l p):=⟨insP_srt h.srt,fun r hr=>by
 rcases insP_mem.1 hr with e | hr
 ·rw [e]; exact hp
 ·exact h.ok r hr⟩
theorem joinL_sub (x:Record):∀ (m:Nat) (now:List Record),(joinL m now x).2.Sublist now
 | 0,now=>List.Sublist.refl _
 | m+1,now=>by
  unfold joinL
  split
  ·exact List.Sublist.refl _
  ·exact (joinL_sub x m _).trans (chn_sub _ _ _ _)
theorem Wt.step {l:List Record} (h:Wt l) {p:Record} (hp:errF p=0):Wt (stepJ l p).2:=by
 unfold stepJ
 split
 ·exact h
 ·exact (h.ins hp).sub (joinL_sub _ _ _)
theorem stepJ_len (l:List Record) (p:Record):(stepJ l p).1.length+(stepJ l p).2.length≤l.length+1:=by
 unfold stepJ
 split
 ·simp; omega
 ·have:=joinL_len p (l.length+2) (insP l p)
  rw [insP_len] at this
  exact this
theorem p_join (x:Record) (now out:List Record) (h:Wt now) (hl:now.length+out.length≤1000):g_correlate_join_v1 (callC x) now out=some ((joinL (now.length+1) now x).2,out++(joinL (now.length+1) now x).1):=by
 unfold g_correlate_join_v1
 refine loop_spec (fun s:List Record×List Record=>some ((joinL (s.1.length+1) s.1 x).2,s.2++(joinL (s.1.length+1) s.1 x).1)) (fun s=>Wt s.1∧s.1.length+s.2.length≤1000) (fun s=>s.1.length) ?_ ⟨h,hl⟩ (by simp only; omega)
 rintro ⟨l,o⟩ ⟨hw,hb⟩
 simp only at hw hb ⊢
 unfold g_correlate_join_v1_l1
 rw [p_spanG l x (by omega)]
 rcases span_dec (x:=x) hw.srt with ⟨h1,h2⟩ | ⟨pre,run,post,e,h1,h2,h3,h4,h5,h6⟩
 ·rw [if_pos h1]
  simp only [Option.bind_some]
  rw [ck_pos (by omega),ck_pos (by omega)]
  simp only [Int.toNat_zero,List.take_zero,List.drop_zero]
  rw [p_candG [] x true (by simp) .nil (by simp) (by simp)]
  simp only [Option.bind_some,posF]
  rw [p_pickG [] [] (by simp) (by simp) .nil (by simp)]
  simp only [Option.bind_some,pickA_nil]
  rw [p_Complete [] (by simp) (by simp),complF_nil]
  simp only [Option.bind_some,optR,noR,Bool.not_false,if_true]
  refine .inl ⟨_,rfl,?_⟩
  have:joinL (l.length+1) l x=([],l):=by
   unfold joinL
   rw [chn_none true (fun r hr hc=>by rw [h2 r hr] at hc; simp at hc)]
   rfl
  rw [this,List.append_nil]
 ·have hlen:l.length=pre.length+(run.length+post.length):=by rw [e]; simp
  rw [h2,h1,if_neg (by omega)]
  simp only [Option.bind_some]
  have hrs:run.Sublist l:=by
   rw [e]
   exact (List.sublist_append_left run post).trans (List.sublist_append_right pre _)
  have hsl:(l.take ((pre.length:Int)+(run.length:Int)).toNat).drop ((pre.length:Int)).toNat=run:=by
   rw [e,show ((pre.length:Int)+(run.length:Int)).toNat=pre.length+run.length from by omega,show ((pre.length:Int)).toNat=pre.length from by omega,←List.append_assoc,←List.length_append,List.take_left,List.drop_left]
  have hwr:=hw.sub hrs
  rw [ck_pos (by omega),ck_pos (by omega),hsl,p_candG run x true (by omega) hwr.srt h5 hwr.le]
  have hpl:=posF_len true x 1 0 run
  simp only [Option.bind_some]
  rw [p_pickG run _ (by omega) (by omega) (posF_asc _ _ _ _ _) (fun a ha=>by have:=posF_ge true x 1 0 run a ha; omega),pickA_posF]
  have hcl:=chn_len (last:=true) (x:=x) (n:=1) (l:=run)
  simp only [Option.bind_some]
  rw [p_Complete _ (chn_sm hwr.sm).1 (by omega)]
  simp only [Option.bind_some]
  have hch:chn true x 1 l=((chn true x 1 run).1,pre++((chn true x 1 run).2++post)):=by
   rw [e,chn_pre true (fun r hr hc=>by rw [h4 r hr] at hc; simp at hc),chn_post true h6]
  cases hc:complF (chn true x 1 run).1 with
  | none =>
   simp only [optR,noR,Bool.not_false,if_true]
   refine .inl ⟨_,rfl,?_⟩
   have:joinL (l.length+1) l x=([],l):=by
    unfold joinL
    rw [hch,hc]
   rw [this,List.append_nil]
  | some w =>
   have hp:0 < (chn true x 1 run).1.length:=List.length_pos_iff.2 (compl_pos hc)
   simp only [optR,Bool.not_true,Bool.false_eq_true,if_false]
   unfold x_ReplaceRecord
   rw [ck_pos ⟨by omega,by omega,by omega,by omega,by omega⟩]
   simp only [Option.bind_some]
   rw [ck_pos (by simp only [List.length_cons,List.length_nil]; omega)]
   have hrep:l.take ((pre.length:Int)).toNat++(chn true x 1 run).2++l.drop ((pre.length:Int)+(run.length:Int)).toNat=(chn true x 1 l).2:=by
    rw [hch]
    conv=>lhs; rw [e]
    rw [show ((pre.length:Int)+(run.length:Int)).toNat=pre.length+run.length from by omega,show ((pre.length:Int)).toNat=pre.length from by omega,List.take_left,←List.append_assoc pre run post,←List.length_append,List.drop_left,List.append_assoc]
   rw [hrep]
   have hl2:=chn_len (last:=true) (x:=x) (n:=1) (l:=l)
   rw [hch] at hl2
   simp only at hl2
   have hl3:(chn true x 1 l).2.length < l.length:=by rw [hch]; simp only; omega
   refine .inr ⟨_,rfl,⟨hw.sub (chn_sub _ _ _ _),by simp only [List.length_append,List.length_cons,List.length_nil]; omega⟩,by simp only; omega,?_⟩
   simp only
   have:joinL (l.length+1) l x=(w :: (joinL l.length (chn true x 1 l).2 x).1,(joinL l.length (chn true x 1 l).2 x).2):=by
    conv=>lhs; unfold joinL
    rw [show (chn true x 1 l).1=(chn true x 1 run).1 from by rw [hch],hc]
   rw [this,joinL_fuel x ((chn true x 1 l).2.length+1) l.length _ (by omega) (by omega)]
   simp
theorem p_Join (now l:List Record) (h:Wt now) (hv:∀ r,r∈l→errF r=0) (hl:now.length+l.length≤1000):f_correlate_Join now l=some (joinF now l):=by
 unfold f_correlate_Join x_CloneRecord
 rw [ck_pos (by omega)]
 simp only [Option.bind_some]
 refine (loop_rec0 l (fun s:List Record×List Record×Int=>s.2.2) (fun s t=>some (s.2.1++(joinF s.1 t).1,(joinF s.1 t).2)) (fun s t=>Wt s.1∧(∀ r,r∈t→errF r=0)∧s.1.length+s.2.1.length+t.length≤1000) (by omega) ?_ ?_ (s:=(now,([]:List Record),(0:Int))) rfl ⟨h,hv,by simp only [List.length_nil]; omega⟩).trans (by simp)
 ·rintro ⟨w,o,i⟩ ⟨h1,h2,h3⟩ hi
  simp only at h1 h2 h3 hi ⊢
  unfold f_correlate_Join_l1
  rw [if_neg (by simp only [decide_eq_true_eq]; omega)]
  exact ⟨_,rfl,by simp [joinF]⟩
 ·rintro ⟨w,o,i⟩ r t ⟨h1,h2,h3⟩ hi0 hi1 hn hlen
  simp only at h1 h2 h3 hi0 hi1 hn hlen ⊢
  simp only [List.length_cons] at h3
  have hr:=h2 r (List.mem_cons_self ..)
  have ht:∀ r,r∈t→errF r=0:=fun y hy=>h2 y (List.mem_cons_of_mem _ hy)
  unfold f_correlate_Join_l1
  rw [if_pos (by simpa using hi1),ck_pos ⟨hi0,hi1⟩,hn]
  by_cases hp:r.part=0
  ·rw [if_pos (by simpa using hp),ck_pos (by simp only [List.length_cons,List.length_nil]; omega),ck_pos (by omega)]
   refine .inr ⟨_,rfl,⟨h1,ht,by simp only [List.length_append,List.length_cons,List.length_nil]; omega⟩,rfl,?_⟩
   simp only [joinF,stepJ,hp,if_true]
   simp
  ·rw [if_neg (by simpa using hp)]
   have es:stepJ w r=joinL (w.length+2) (insP w r) r:=by unfold stepJ; rw [if_neg hp]
   have hins:=h1.ins hr
   have hil:=insP_len w r
   have key:loop (fun s=>f_correlate_Join_l2 l w o i s) 0=some (.inl ((stepJ w r).2,o++(stepJ w r).1,i+1)):=by
    refine loop_rec0 w (fun s:Int=>s) (fun s t=>(some (Sum.inl ((stepJ w r).2,o++(stepJ w r).1,i+1)):Option ((List Record×List Record×Int) ⊕ (List Record×List Record)))) (fun s t=>t=w.drop s.toNat∧insP w r=w.take s.toNat++insP t r) (by omega) ?_ ?_ rfl ⟨rfl,by simp⟩
    ·intro k ⟨_,hk⟩ hke
     unfold f_correlate_Join_l2 f_correlate_Join_j1
     rw [ck_pos (fun h=>by simp at h; omega),ck_pos (fun h=>by simp at h; omega)]
     have e0:decide (k < (w.length:Int))=false:=by simp; omega
     simp only [e0,gcall,Bool.false_eq_true,if_false,Option.bind_some,Bool.false_and,hn]
     unfold x_InsertRecord
     rw [ck_pos ⟨by omega,by omega,by simp,by simp only [List.length_cons,List.length_nil]; omega⟩]
     have e1:w.take k.toNat++[r]++w.drop k.toNat=insP w r:=by
      rw [hk,List.drop_of_length_le (by omega)]; simp [insP]
     simp only [Option.bind_some,f_correlate_callOf,e1]
     rw [show (⟨r.source,r.call⟩:CorrelateCall)=callC r from rfl,p_join r (insP w r) o hins (by omega),joinL_fuel r ((insP w r).length+1) (w.length+2) _ (by omega) (by omega),←es]
     simp only [Option.bind_some]
     rw [ck_pos (by omega)]
     exact ⟨_,rfl,rfl⟩
    ·intro k y u ⟨hdu,hk⟩ hk0 hk1 hny hkl
     have hu:w.drop (k.toNat+1)=u:=by
      rw [drop_nth (l:=w) (k:=k.toNat) (by omega)] at hdu
      injection hdu with _ h; exact h.symm
     unfold f_correlate_Join_l2 f_correlate_Join_j1
     rw [ck_pos (fun _=>⟨hk0,hk1⟩),ck_pos (fun _=>by omega)]
     obtain ⟨c,hc,hci⟩:=p_before y r
     have e0:decide (k < (w.length:Int))=true:=by simp; omega
     simp only [e0,gcall,if_true,hny,hn,hc,Option.bind_some,Bool.true_and]
     by_cases hlt:Lt r y
     ·rw [if_neg (by simp; exact Int.lt_of_not_ge (fun h=>(hci.1 h) hlt))]
      unfold x_InsertRecord
      rw [ck_pos ⟨by omega,by omega,by simp,by simp only [List.length_cons,List.length_nil]; omega⟩]
      have e1:w.take k.toNat++[r]++w.drop k.toNat=insP w r:=by
       rw [hk,drop_nth (l:=w) (k:=k.toNat) (by omega),hny]
       rw [hu]
       unfold insP
       rw [if_pos hlt]; simp
      simp only [Option.bind_some,f_correlate_callOf,e1]
      rw [show (⟨r.source,r.call⟩:CorrelateCall)=callC r from rfl,p_join r (insP w r) o hins (by omega),joinL_fuel r ((insP w r).length+1) (w.length+2) _ (by omega) (by omega),←es]
      simp only [Option.bind_some]
      rw [ck_pos (by omega)]
      exact .inl ⟨_,rfl,rfl⟩
     ·rw [if_pos (by simp; exact hci.2 hlt),ck_pos (by omega)]
      refine .inr ⟨_,rfl,⟨by rw [show (k+1).toNat=k.toNat+1 from by omega,hu],?_⟩,rfl,by first | rfl | trivial⟩
      rw [hk,show (k+1).toNat=k.toNat+1 from by omega,take_nth (by omega),hny]
      conv=>lhs; unfold insP
      rw [if_neg hlt]; simp
   rw [key]
   have hsl:=stepJ_len w r
   refine .inr ⟨_,rfl,⟨h1.step hr,ht,by simp only [List.length_append]; omega⟩,rfl,?_⟩
   simp only [joinF]
   simp
theorem p_rinsert (l:List Record) (p:Record) (hl:l.length≤1000):f_r15_insert l p=some (insP l p):=by
 unfold f_r15_insert
 refine (loop_rec0 l (fun s:List Record×Bool×Int=>s.2.2) (fun s t=>some (s.1++if s.2.1=true then t else insP t p)) (fun s t=>(s.1.length:Int)=s.2.2+if s.2.1=true then 1 else 0) (by omega) ?_ ?_ (s:=(([]:List Record),false,(0:Int))) rfl (by simp)).trans (by simp)
 ·rintro ⟨o,d,i⟩ h hi
  simp only at h hi ⊢
  have hb:(o.length:Int)≤i+1:=by rw [h]; split <;> omega
  unfold f_r15_insert_l1 f_r15_insert_j1
  rw [if_neg (by simp only [decide_eq_true_eq]; omega)]
  cases d
  ·simp only [Bool.not_false,if_true,Bool.false_eq_true,if_false]
   rw [ck_pos (by simp only [List.length_cons,List.length_nil]; omega)]
   exact ⟨_,rfl,by simp [insP]⟩
  ·exact ⟨_,rfl,by simp⟩
 ·rintro ⟨o,d,i⟩ r t h hi0 hi1 hn hlen
  simp only at h hi0 hi1 hn hlen ⊢
  have hb:(o.length:Int)≤i+1:=by rw [h]; split <;> omega
  unfold f_r15_insert_l1 f_r15_insert_j2
  rw [if_pos (by simpa using hi1),ck_pos (fun _=>⟨hi0,hi1⟩),hn]
  cases d
  ·simp only [Bool.not_false,gcall,if_true,p_rbefore,Option.bind_some,Bool.true_and,Bool.false_eq_true,if_false]
   by_cases hlt:Lt p r
   ·rw [if_pos (by simpa using hlt),ck_pos (by simp only [List.length_cons,List.length_nil]; omega),ck_pos ⟨hi0,hi1⟩,ck_pos (by simp only [List.length_append,List.length_cons,List.length_nil]; omega),ck_pos (by omega)]
    refine .inr ⟨_,rfl,?_,rfl,?_⟩
    ·simp only [Bool.false_eq_true,if_false] at h
     simp only [List.length_append,List.length_cons,List.length_nil,if_true]; omega
    ·simp [insP,hlt]
   ·rw [if_neg (by simpa using hlt),ck_pos ⟨hi0,hi1⟩,ck_pos (by simp only [List.length_cons,List.length_nil]; omega),ck_pos (by omega)]
    refine .inr ⟨_,rfl,?_,rfl,?_⟩
    ·simp only [List.length_append,List.length_cons,List.length_nil]; omega
    ·simp [insP,hlt]
  ·simp only [Bool.not_true,gcall,Bool.false_eq_true,if_false,Option.bind_some,Bool.false_and,if_true]
   rw [ck_pos ⟨hi0,hi1⟩,ck_pos (by simp only [List.length_cons,List.length_nil]; omega),ck_pos (by omega)]
   refine .inr ⟨_,rfl,?_,rfl,?_⟩
   ·simp only [List.length_append,List.length_cons,List.length_nil,if_true] at h ⊢; omega
   ·simp
theorem p_rjoin (v:List Record) (i:Int) (r:Record) (hn:nth v i.toNat=r) (hi0:0≤i) (hi1:i < (v.length:Int)) (now out:List Record) (hs:∀ r,r∈now→Sm r) (hl:now.length+out.length≤1000) (hv:v.length≤1000) :
  loop (fun s:List Record×List Record=>f_r15_Join_l2 v i s.1 s.2) (out,now)=some (.inl (out++(joinL (now.length+1) now r).1,(joinL (now.length+1) now r).2,i+1)):=by
 refine loop_spec (fun s:List Record×List Record=>(some (Sum.inl (s.1++(joinL (s.2.length+1) s.2 r).1,(joinL (s.2.length+1) s.2 r).2,i+1)):Option ((List Record×List Record×Int) ⊕ (List Record×List Record)))) (fun s=>(∀ r,r∈s.2→Sm r)∧s.2.length+s.1.length≤1000) (fun s=>s.2.length) ?_ ⟨hs,hl⟩ (by simp only; omega)
 rintro ⟨o,l⟩ ⟨hw,hb⟩
 simp only at hw hb ⊢
 unfold f_r15_Join_l2
 rw [ck_pos ⟨hi0,hi1⟩,hn,p_firsts l r true (by omega)]
 have hpl:=posF_len true r 1 0 l
 simp only [Option.bind_some]
 rw [p_rpick l _ (by omega) (by omega),pickA_posF]
 have hcl:=chn_len (last:=true) (x:=r) (n:=1) (l:=l)
 simp only [Option.bind_some]
 rw [p_rComplete _ (chn_sm hw).1 (by omega)]
 simp only [Option.bind_some]
 cases hc:complF (chn true r 1 l).1 with
 | none =>
  simp only [optR,noR,Bool.not_false,if_true]
  rw [ck_pos (by omega)]
  refine .inl ⟨_,rfl,?_⟩
  have:joinL (l.length+1) l r=([],l):=by unfold joinL; rw [hc]
  rw [this,List.append_nil]
 | some w =>
  have hp:0 < (chn true r 1 l).1.length:=List.length_pos_iff.2 (compl_pos hc)
  simp only [optR,Bool.not_true,Bool.false_eq_true,if_false]
  rw [ck_pos (by simp only [List.length_cons,List.length_nil]; omega)]
  refine .inr ⟨_,rfl,⟨(chn_sm hw).2,by simp only [List.length_append,List.length_cons,List.length_nil]; omega⟩,by simp only; omega,?_⟩
  have:joinL (l.length+1) l r=(w :: (joinL l.length (chn true r 1 l).2 r).1,(joinL l.length (chn true r 1 l).2 r).2):=by
   conv=>lhs; unfold joinL
   rw [hc]
  simp only
  rw [this,joinL_fuel r ((chn true r 1 l).2.length+1) l.length _ (by omega) (by omega)]
  simp
theorem stepJ_sm {now:List Record} {r:Record} (hs:∀ r,r∈now→Sm r) (hr:Sm r):∀ y,y∈(stepJ now r).2→Sm y:=by
 unfold stepJ
 split
 ·exact hs
 ·intro y hy
  rcases insP_mem.1 ((joinL_sub _ _ _).subset hy) with e | hy
  ·rw [e]; exact hr
  ·exact hs y hy
theorem p_rJoin (now l:List Record) (h:∀ r,r∈now→Sm r) (hv:∀ r,r∈l→Sm r) (hl:now.length+l.length≤1000):f_r15_Join now l=some (joinF now l):=by
 unfold f_r15_Join
 rw [ck_pos (by omega)]
 refine (loop_rec0 l (fun s:List Record×List Record×Int=>s.2.2) (fun s t=>some (s.1++(joinF s.2.1 t).1,(joinF s.2.1 t).2)) (fun s t=>(∀ r,r∈s.2.1→Sm r)∧(∀ r,r∈t→Sm r)∧s.2.1.length+s.1.length+t.length≤1000) (by omega) ?_ ?_ (s:=(([]:List Record),now,(0:Int))) rfl ⟨h,hv,by simp only [List.length_nil]; omega⟩).trans (by simp)
 ·rintro ⟨o,w,i⟩ ⟨h1,h2,h3⟩ hi
  simp only at h1 h2 h3 hi ⊢
  unfold f_r15_Join_l1
  rw [if_neg (by simp only [decide_eq_true_eq]; omega)]
  exact ⟨_,rfl,by simp [joinF]⟩
 ·rintro ⟨o,w,i⟩ r t ⟨h1,h2,h3⟩ hi0 hi1 hn hlen
  simp only at h1 h2 h3 hi0 hi1 hn hlen ⊢
  simp only [List.length_cons] at h3
  have hr:=h2 r (List.mem_cons_self ..)
  have ht:∀ r,r∈t→Sm r:=fun y hy=>h2 y (List.mem_cons_of_mem _ hy)
  unfold f_r15_Join_l1
  rw [if_pos (by simpa using hi1),ck_pos ⟨hi0,hi1⟩,hn]
  by_cases hp:r.part=0
  ·rw [if_pos (by simpa using hp),ck_pos ⟨hi0,hi1⟩,ck_pos (by simp only [List.length_cons,List.length_nil]; omega),ck_pos (by omega)]
   refine .inr ⟨_,rfl,⟨h1,ht,by simp only [List.length_append,List.length_cons,List.length_nil]; omega⟩,rfl,?_⟩
   simp only [joinF,stepJ,hp,if_true]
   simp
  ·have es:stepJ w r=joinL (w.length+2) (insP w r) r:=by unfold stepJ; rw [if_neg hp]
   have hil:=insP_len w r
   rw [if_neg (by simpa using hp),ck_pos ⟨hi0,hi1⟩,p_rinsert w r (by omega)]
   simp only [Option.bind_some]
   rw [p_rjoin l i r hn hi0 hi1 (insP w r) o (fun y hy=>by
    rcases insP_mem.1 hy with e | hy
    ·rw [e]; exact hr
    ·exact h1 y hy) (by omega) (by omega),joinL_fuel r ((insP w r).length+1) (w.length+2) _ (by omega) (by omega),←es]
   have hsl:=stepJ_len w r
   refine .inr ⟨_,rfl,⟨stepJ_sm h1 hr,ht,by simp only [List.length_append]; omega⟩,rfl,?_⟩
   simp only [joinF]
   simp
theorem expF_fuel (b:Int):∀ (m m':Nat) (l:List Record),l.length≤m→l.length≤m'→expF b m l=expF b m' l
 | 0,0,_,_,_=>rfl
 | 0,m'+1,[],_,_=>rfl
 | m+1,0,[],_,_=>rfl
 | m+1,m'+1,[],_,_=>rfl
 | m+1,m'+1,x :: l,h,h'=>by
  have hl:=rest_len x l
  simp only [List.length_cons] at h h'
  unfold expF
  rw [expF_fuel b m m' (restF x (x :: l)) (by omega) (by omega)]
theorem endF_cons (x:Record) (l:List Record):endF (x :: l)=(wholeF (pickA 0 (shrF (x :: l) (posF false x 1 0 (x :: l)) (posF false x 1 0 (x :: l)).length) (x :: l)).1).toList++(pickA 0 (shrF (x :: l) (posF false x 1 0 (x :: l)) (posF false x 1 0 (x :: l)).length) (x :: l)).2.map aloneF:=rfl
theorem shrF_succ (l:List Record) (at':List Int) (m:Nat):shrF l at' (m+1)=if (wholeF (pickA 0 (at'.take (m+1)) l).1).isSome=true then at'.take (m+1) else shrF l at' m:=rfl
theorem endF_len:∀ (l:List Record),(endF l).length≤l.length
 | []=>Nat.le_refl _
 | x :: l=>by
  rw [endF_cons]
  generalize shrF (x :: l) (posF false x 1 0 (x :: l)) (posF false x 1 0 (x :: l)).length=at'
  have hp:=(pickA_perm 0 at' (x :: l)).length_eq
  simp only [List.length_append,List.length_map,List.length_cons] at hp ⊢
  cases hw:wholeF (pickA 0 at' (x :: l)).1 with
  | none=>simp only [Option.toList_none,List.length_nil]; omega
  | some w =>
   have:0 < (pickA 0 at' (x :: l)).1.length:=by
    cases hq:(pickA 0 at' (x :: l)).1 with
    | nil=>rw [hq] at hw; cases hw
    | cons=>simp
   simp only [Option.toList_some,List.length_cons,List.length_nil]; omega
theorem run_cons (x:Record) (l:List Record):runF x (x :: l)=x :: runF x l:=List.takeWhile_cons_of_pos (p:=fun r=>callB r x) (callB_refl x)
theorem run_sub (x:Record) (l:List Record):(runF x l).Sublist l:=List.takeWhile_sublist _
theorem rest_sub (x:Record) (l:List Record):(restF x l).Sublist l:=List.dropWhile_sublist _
theorem take_run (x:Record) (l:List Record):l.take (runF x l).length=runF x l:=by
 conv=>lhs; rw [←run_rest x l]
 rw [run_rest,←run_rest x l,run_rest]
 conv=>lhs; arg 2; rw [←run_rest x l]
 exact List.take_left
theorem drop_run (x:Record) (l:List Record):l.drop (runF x l).length=restF x l:=by
 conv=>lhs; arg 2; rw [←run_rest x l]
 exact List.drop_left
theorem pickA_sm {i:Int} {at':List Int} {l:List Record} (h:∀ r,r∈l→Sm r):(∀ r,r∈(pickA i at' l).1→Sm r)∧(∀ r,r∈(pickA i at' l).2→Sm r):=by
 have hp:=pickA_perm i at' l
 exact ⟨fun r hr=>h r (hp.mem_iff.1 (List.mem_append.2 (.inl hr))),fun r hr=>h r (hp.mem_iff.1 (List.mem_append.2 (.inr hr)))⟩
theorem pickA_len (i:Int) (at':List Int) (l:List Record):(pickA i at' l).1.length≤l.length∧(pickA i at' l).2.length≤l.length:=by
 have hp:=(pickA_perm i at' l).length_eq
 rw [List.length_append] at hp
 omega
theorem optR_snd (o:Option Record):(optR o).2=o.isSome:=by cases o <;> rfl
theorem p_rend1 (l:List Record) (at':List Int) (hs:∀ r,r∈l→Sm r) (hl:l.length≤1000) (ha:at'.length≤1000):f_r15_end_j1 l at'=some ((wholeF (pickA 0 at' l).1).toList++(pickA 0 at' l).2.map aloneF):=by
 unfold f_r15_end_j1
 rw [p_rpick l at' hl ha]
 have hpl:=pickA_len 0 at' l
 simp only [Option.bind_some]
 rw [p_rwhole _ (pickA_sm hs).1 (by omega)]
 simp only [Option.bind_some]
 generalize hpk:pickA 0 at' l=pk at hpl ⊢
 have key:∀ (o:List Record) (c0 c1 c2:Int) (c3 c4:List UInt8) (c5 c6 c7 c8:Int) (c9:Bool) (c10:Int) (c11:Bool),o.length≤1→f_r15_end_j2 pk o c0 c1 c2 c3 c4 c5 c6 c7 c8 c9 c10 c11=some (o++pk.2.map aloneF):=by
  intro o c0 c1 c2 c3 c4 c5 c6 c7 c8 c9 c10 c11 ho
  unfold f_r15_end_j2
  refine loop_rec0 pk.2 (fun s:List Record×Int=>s.2) (fun s t=>some (s.1++t.map aloneF)) (fun s t=>(s.1.length:Int)≤s.2+1) (by omega) ?_ ?_ (s:=(o,(0:Int))) rfl (by simp only; omega)
  ·rintro ⟨q,i⟩ h hi
   simp only at h hi ⊢
   unfold f_r15_end_l1
   rw [if_neg (by simp only [decide_eq_true_eq]; omega)]
   exact ⟨_,rfl,by simp⟩
  ·rintro ⟨q,i⟩ r t h hi0 hi1 hn hlen
   simp only at h hi0 hi1 hn hlen ⊢
   unfold f_r15_end_l1
   rw [if_pos (by simpa using hi1),ck_pos ⟨hi0,hi1⟩,hn]
   simp only [f_r15_alone,Option.bind_some]
   rw [ck_pos (by simp only [List.length_cons,List.length_nil]; omega),ck_pos (by omega)]
   refine .inr ⟨_,rfl,by simp only [List.length_append,List.length_cons,List.length_nil]; omega,rfl,?_⟩
   simp only [List.map_cons,List.append_assoc]
   rfl
 cases hw:wholeF pk.1 with
 | none =>
  rw [if_neg (by simp [optR,noR]),key _ _ _ _ _ _ _ _ _ _ _ _ _ (by simp)]
  rfl
 | some w =>
  rw [if_pos (show (optR (some w)).2=true from rfl),ck_pos (by simp),key _ _ _ _ _ _ _ _ _ _ _ _ _ (by simp)]
  rfl
theorem p_rend (x:Record) (l:List Record) (hs:∀ r,r∈x :: l→Sm r) (hl:(x :: l).length≤1000):f_r15_end (x :: l)=some (endF (x :: l)):=by
 unfold f_r15_end
 rw [ck_pos (by simp only [List.length_cons]; omega),show nth (x :: l) (Int.toNat 0)=x from rfl,p_firsts _ x false hl]
 have hpl:=posF_len false x 1 0 (x :: l)
 simp only [Option.bind_some]
 generalize hP:posF false x 1 0 (x :: l)=P at hpl
 have he:endF (x :: l)=(wholeF (pickA 0 (shrF (x :: l) P P.length) (x :: l)).1).toList++(pickA 0 (shrF (x :: l) P P.length) (x :: l)).2.map aloneF:=by
  rw [endF_cons,hP]
 rw [he]
 generalize x :: l=run at *
 refine (loop_spec (fun s:List Int=>some ((wholeF (pickA 0 (shrF run P s.length) run).1).toList++(pickA 0 (shrF run P s.length) run).2.map aloneF)) (fun s=>s=P.take s.length∧s.length≤P.length) (fun s=>s.length) ?_ ⟨by simp,Nat.le_refl _⟩ (by omega))
 rintro s ⟨h1,h2⟩
 unfold f_r15_end_l2
 by_cases h0:s.length=0
 ·have:s=[]:=List.length_eq_zero_iff.1 h0
  subst this
  rw [if_neg (by simp),p_rend1 run [] hs hl (by simp)]
  exact .inl ⟨_,rfl,rfl⟩
 ·rw [if_pos (by simp; omega),p_rpick run s hl (by omega)]
  have hpk:=pickA_len 0 s run
  simp only [Option.bind_some]
  rw [p_rwhole _ (pickA_sm hs).1 (by omega)]
  simp only [Option.bind_some,optR_snd]
  obtain ⟨m,hm⟩:∃ m,s.length=m+1:=⟨s.length-1,by omega⟩
  have hsh:shrF run P s.length=if (wholeF (pickA 0 s run).1).isSome=true then s else shrF run P m:=by
   rw [hm,shrF_succ,←hm,←h1]
  rw [hsh]
  by_cases hw:(wholeF (pickA 0 s run).1).isSome=true
  ·rw [if_pos hw,if_pos hw,p_rend1 run s hs hl (by omega)]
   exact .inl ⟨_,rfl,rfl⟩
  ·rw [if_neg hw,if_neg hw,ck_pos (by omega),ck_pos (by omega)]
   have e:(s.take ((s.length:Int) - 1).toNat)=P.take m:=by
    rw [show ((s.length:Int) - 1).toNat=m from by omega]
    conv=>lhs; rw [h1]
    rw [List.take_take,hm]; congr 1; omega
   have el:(P.take m).length=m:=by rw [List.length_take]; omega
   rw [e]
   exact .inr ⟨_,rfl,⟨by rw [el],by rw [el]; omega⟩,by rw [el]; omega,by simp only [el]⟩
theorem p_rExpire (l:List Record) (b:Int) (hs:∀ r,r∈l→Sm r) (hl:l.length≤1000):f_r15_Expire l b=some (expF b l.length l):=by
 unfold f_r15_Expire
 refine (loop_spec (fun s:List Record×List Record×Int=>some (s.1++(expF b l.length (l.drop s.2.2.toNat)).1,s.2.1++(expF b l.length (l.drop s.2.2.toNat)).2)) (fun s=>0≤s.2.2∧s.2.2≤(l.length:Int)∧(s.1.length:Int)+s.2.1.length≤s.2.2) (fun s=>((l.length:Int) - s.2.2).toNat) ?_ (s:=(([]:List Record),([]:List Record),(0:Int))) ⟨by decide,by simp only; omega,by simp⟩ (by simp only; omega)).trans (by simp)
 rintro ⟨out,left,i⟩ ⟨h0,h1,h2⟩
 simp only at h0 h1 h2 ⊢
 unfold f_r15_Expire_l1
 by_cases hi:i < (l.length:Int)
 ·rw [if_pos (by simpa using hi)]
  have hd:=drop_nth (l:=l) (k:=i.toNat) (by omega)
  have hdl:(l.drop i.toNat).length=l.length-i.toNat:=List.length_drop
  generalize hx:nth l i.toNat=x at hd
  generalize ht:l.drop (i.toNat+1)=t at hd
  have hsd:∀ r,r∈x :: t→Sm r:=fun r hr=>hs r (by rw [←hd] at hr; exact List.mem_of_mem_drop hr)
  have hrn:(runF x (x :: t)).length=(runF x t).length+1:=by rw [run_cons]; rfl
  have hrl:(runF x (x :: t)).length≤(x :: t).length:=(run_sub x _).length_le
  rw [hd] at hdl
  have hk:(i:Int)+((runF x (x :: t)).length:Int)≤(l.length:Int):=by omega
  have hslice:(l.take (i+((runF x (x :: t)).length:Int)).toNat).drop i.toNat=runF x (x :: t):=by
   rw [List.drop_take,hd,show (i+((runF x (x :: t)).length:Int)).toNat-i.toNat=(runF x (x :: t)).length from by omega,take_run]
  have hrest:l.drop (i+((runF x (x :: t)).length:Int)).toNat=restF x (x :: t):=by
   rw [show (i+((runF x (x :: t)).length:Int)).toNat=i.toNat+(runF x (x :: t)).length from by omega,←List.drop_drop,hd,drop_run]
  have hel:=endF_len (runF x (x :: t))
  have hexp:expF b l.length (x :: t)=expF b ((restF x (x :: t)).length+1+t.length) (x :: t):=expF_fuel b _ _ _ (by omega) (by simp only [List.length_cons]; omega)
  obtain ⟨m,hm⟩:∃ m,l.length=m+1:=⟨l.length-1,by omega⟩
  have hrl2:=rest_len x t
  have hexp2:expF b l.length (x :: t)=if (runF x (x :: t)).any (fun r=>decide (b≤r.start))=true then ((expF b l.length (restF x (x :: t))).1,runF x (x :: t)++(expF b l.length (restF x (x :: t))).2) else (endF (runF x (x :: t))++(expF b l.length (restF x (x :: t))).1,(expF b l.length (restF x (x :: t))).2):=by
   conv=>lhs; rw [hm]; unfold expF
   simp only [List.length_cons] at hdl
   rw [expF_fuel b m l.length (restF x (x :: t)) (by omega) (by omega)]
  have hj:f_r15_Expire_j1 l out left i (i+((runF x (x :: t)).length:Int)) ((runF x (x :: t)).any (fun r=>decide (b≤r.start)))=some (.inl (if (runF x (x :: t)).any (fun r=>decide (b≤r.start))=true then (out,left++runF x (x :: t),i+((runF x (x :: t)).length:Int)) else (out++endF (runF x (x :: t)),left,i+((runF x (x :: t)).length:Int)))):=by
   unfold f_r15_Expire_j1
   rw [hslice]
   split
   ·rw [ck_pos (by omega),ck_pos (by omega)]
   ·rw [ck_pos (by omega)]
    have:f_r15_end (runF x (x :: t))=some (endF (runF x (x :: t))):=by
     rw [run_cons]
     have hss:=run_sub x (x :: t)
     rw [run_cons] at hss hrl
     simp only [List.length_cons] at hrl hdl
     exact p_rend x _ (fun r hr=>hsd r (hss.subset hr)) (by simp only [List.length_cons]; omega)
    rw [this]
    simp only [Option.bind_some]
    rw [ck_pos (by omega)]
  have hloop:loop (fun s:Int×Bool=>f_r15_Expire_l2 l b out left i s.1 s.2) (i,false)=some (.inl (if (runF x (x :: t)).any (fun r=>decide (b≤r.start))=true then (out,left++runF x (x :: t),i+((runF x (x :: t)).length:Int)) else (out++endF (runF x (x :: t)),left,i+((runF x (x :: t)).length:Int)))):=by
   rw [←hj]
   have hst:=loop_rec l (step:=fun s:Int×Bool=>f_r15_Expire_l2 l b out left i s.1 s.2) (fun s:Int×Bool=>s.1) (fun s _=>f_r15_Expire_j1 l out left i (i+((runF x (x :: t)).length:Int)) ((runF x (x :: t)).any (fun r=>decide (b≤r.start))))
    (fun s u=>s.1+((runF x u).length:Int)=i+((runF x (x :: t)).length:Int)∧(s.2 || (runF x u).any (fun r=>decide (b≤r.start)))=(runF x (x :: t)).any (fun r=>decide (b≤r.start))) (by omega) ?_ ?_ (s:=(i,false)) ⟨h0,by simp only; omega⟩ (by simp only [hd,Bool.false_or,and_self])
   ·exact hst
   ·rintro ⟨k,late⟩ ⟨e1,e2⟩ he
    simp only at e1 e2 he ⊢
    unfold f_r15_Expire_l2
    have hlt:decide (k < (l.length:Int))=false:=by simp; omega
    rw [ck_pos (by simp [hlt]),ck_pos (by simp [hlt])]
    simp only [hlt,gcall,Bool.false_eq_true,if_false,Option.bind_some,Bool.false_and]
    simp only [runF,List.takeWhile_nil,List.length_nil,List.any_nil,Bool.or_false] at e1 e2
    simp only [runF] at hj ⊢
    rw [show k=i+((List.takeWhile (fun r=>callB r x) (x :: t)).length:Int) from by omega,e2,hj]
    exact ⟨_,rfl,rfl⟩
   ·rintro ⟨k,late⟩ r u ⟨e1,e2⟩ hk0 hk1 hn hlen
    simp only at e1 e2 hk0 hk1 hn hlen ⊢
    unfold f_r15_Expire_l2
    have hlt:decide (k < (l.length:Int))=true:=by simpa using hk1
    rw [ck_pos (fun _=>⟨hk0,hk1⟩),ck_pos (fun _=>⟨h0,hi⟩)]
    simp only [hlt,gcall,if_true,hn,hx,f_r15_call,Option.bind_some,Bool.true_and]
    have ec:((r.source==x.source) && (r.call==x.call))=callB r x:=by rw [Bool.eq_iff_iff,callB_iff]; simp
    rw [ec]
    by_cases hc:callB r x=true
    ·rw [if_pos hc,ck_pos (fun _=>⟨hk0,hk1⟩),ck_pos (by omega)]
     have eru:runF x (r :: u)=r :: runF x u:=List.takeWhile_cons_of_pos (p:=fun r=>callB r x) hc
     rw [eru] at e1 e2
     simp only [List.length_cons,List.any_cons] at e1 e2
     refine .inr ⟨_,rfl,⟨by simp only; omega,?_⟩,rfl,by first | rfl | trivial⟩
     simp only
     rw [←e2]
     simp only [ge_iff_le,Bool.or_assoc]
    ·rw [if_neg hc]
     have eru:runF x (r :: u)=[]:=List.takeWhile_cons_of_neg (p:=fun r=>callB r x) hc
     rw [eru] at e1 e2
     simp only [List.length_nil,List.any_nil,Bool.or_false] at e1 e2
     rw [show k=i+((runF x (x :: t)).length:Int) from by omega,e2,hj]
     exact .inl ⟨_,rfl,rfl⟩
  rw [hloop,hd,hexp2]
  right
  split
  ·refine ⟨_,rfl,⟨by simp only; omega,hk,by simp only [List.length_append]; omega⟩,by simp only; omega,?_⟩
   simp only [hrest]
   simp
  ·refine ⟨_,rfl,⟨by simp only; omega,hk,by simp only [List.length_append]; omega⟩,by simp only; omega,?_⟩
   simp only [hrest]
   simp
 ·rw [if_neg (by simpa using hi),List.drop_of_length_le (by omega)]
  refine .inl ⟨_,rfl,?_⟩
  have:expF b l.length []=([],[]):=by cases l.length <;> rfl
  rw [this]; simp
def idxL (b:Int):Int→List Record→Int
 | _,[]=>-1
 | i,r :: t=>if b≤r.start then i else idxL b (i+1) t
theorem idxL_any (b:Int):∀ (i:Int) (t:List Record),0≤i→decide (idxL b i t≥0)=t.any (fun r=>decide (b≤r.start))
 | i,[],_=>by simp [idxL]
 | i,r :: t,h=>by
  unfold idxL
  by_cases hb:b≤r.start
  ·simp [hb,h]
  ·rw [if_neg hb,idxL_any b (i+1) t (by omega)]
   simp [hb]
theorem p_late (l:List Record) (b:Int) (hl:l.length≤1000):g_api_Record_v3 l b=some (l.any (fun r=>decide (b≤r.start))):=by
 unfold g_api_Record_v3
 have:g_api_Record_v2 l b=some (idxL b 0 l):=by
  unfold g_api_Record_v2
  refine loop_rec0 l (fun s:Int=>s) (fun s t=>some (idxL b s t)) (fun s t=>True) (by omega) ?_ ?_ rfl trivial
  ·intro i _ hi
   unfold g_api_Record_v2_l1
   rw [if_neg (by simp only [decide_eq_true_eq]; omega)]
   exact ⟨_,rfl,rfl⟩
  ·intro i r t _ hi0 hi1 hn hlen
   unfold g_api_Record_v2_l1
   rw [if_pos (by simpa using hi1),ck_pos ⟨hi0,hi1⟩,hn]
   simp only [g_correlate_Expire_1,Option.bind_some,ge_iff_le]
   by_cases h:b≤r.start
   ·rw [if_pos (by simpa using h)]
    exact .inl ⟨_,rfl,by simp [idxL,h]⟩
   ·rw [if_neg (by simpa using h),ck_pos (by omega)]
    exact .inr ⟨_,rfl,trivial,rfl,by simp [idxL,h]⟩
 rw [this]
 simp only [Option.bind_some]
 rw [idxL_any b 0 l (Int.le_refl _)]
theorem shrF_asc {l:List Record} {P:List Int} (hp:P.Pairwise (· < ·)):∀ (m:Nat),(shrF l P m).Pairwise (· < ·)∧(∀ a,a∈shrF l P m→a∈P)∧(shrF l P m).length≤P.length
 | 0=>⟨.nil,by simp [shrF],by simp [shrF]⟩
 | m+1=>by
  rw [shrF_succ]
  split
  ·exact ⟨hp.sublist (List.take_sublist _ _),fun a ha=>List.mem_of_mem_take ha,by rw [List.length_take]; omega⟩
  ·exact shrF_asc hp m
theorem p_chain (x:Record) (run:List Record) (hw:Wt run) (hc:∀ r,r∈run→callB r x=true) (hl:run.length≤1000):f_correlate_chain run=some (shrF run (posF false x 1 0 run) (posF false x 1 0 run).length):=by
 unfold f_correlate_chain
 rw [p_cand run x false hl hw.srt hc hw.le]
 have hpl:=posF_len false x 1 0 run
 have hge:=posF_ge false x 1 0 run
 have hpa:=posF_asc false x 1 0 run
 simp only [Option.bind_some]
 generalize posF false x 1 0 run=P at hpl hge hpa ⊢
 refine (loop_spec (fun s:List Int=>some (shrF run P s.length)) (fun s=>s=P.take s.length∧s.length≤P.length) (fun s=>s.length) ?_ ⟨by simp,Nat.le_refl _⟩ (by omega))
 rintro s ⟨h1,h2⟩
 unfold f_correlate_chain_l1
 by_cases h0:s.length=0
 ·have:s=[]:=List.length_eq_zero_iff.1 h0
  subst this
  rw [if_neg (by simp)]
  exact .inl ⟨_,rfl,rfl⟩
 ·have hsp:s.Pairwise (· < ·):=by rw [h1]; exact hpa.sublist (List.take_sublist _ _)
  have hsb:∀ a,a∈s→0≤a∧a < (run.length:Int):=fun a ha=>by
   rw [h1] at ha
   have:=hge a (List.mem_of_mem_take ha)
   omega
  rw [if_pos (by simp; omega),p_pick run s hl (by omega) hsp hsb]
  have hpk:=pickA_len 0 s run
  simp only [Option.bind_some]
  rw [p_whole _ (pickA_sm hw.sm).1 (by omega)]
  simp only [Option.bind_some,optR_snd]
  obtain ⟨m,hm⟩:∃ m,s.length=m+1:=⟨s.length-1,by omega⟩
  have hsh:shrF run P s.length=if (wholeF (pickA 0 s run).1).isSome=true then s else shrF run P m:=by
   rw [hm,shrF_succ,←hm,←h1]
  rw [hsh]
  by_cases hww:(wholeF (pickA 0 s run).1).isSome=true
  ·rw [if_pos hww,if_pos hww]
   exact .inl ⟨_,rfl,rfl⟩
  ·rw [if_neg hww,if_neg hww,ck_pos (by omega),ck_pos (by omega)]
   have e:(s.take ((s.length:Int) - 1).toNat)=P.take m:=by
    rw [show ((s.length:Int) - 1).toNat=m from by omega]
    conv=>lhs; rw [h1]
    rw [List.take_take,hm]; congr 1; omega
   have el:(P.take m).length=m:=by rw [List.length_take]; omega
   rw [e]
   exact .inr ⟨_,rfl,⟨by rw [el],by rw [el]; omega⟩,by rw [el]; omega,by simp only [el]⟩
theorem p_Expire (l:List Record) (b:Int) (hw:Wt l) (hl:l.length≤1000):f_correlate_Expire l b=some (expF b l.length l):=by
 unfold f_correlate_Expire x_CloneRecord
 rw [ck_pos (by omega)]
 simp only [Option.bind_some]
 refine (loop_spec (fun s:List Record×List Record×List Record=>some (s.1++(expF b l.length s.2.2).1,s.2.1++(expF b l.length s.2.2).2)) (fun s=>Wt s.2.2∧s.1.length+s.2.1.length+s.2.2.length≤l.length) (fun s=>s.2.2.length) ?_ (s:=(([]:List Record),([]:List Record),l)) ⟨hw,by simp⟩ (by simp only; omega)).trans (by simp)
 rintro ⟨out,left,rest⟩ ⟨h1,h2⟩
 simp only at h1 h2 ⊢
 unfold f_correlate_Expire_l1
 cases rest with
 | nil =>
  rw [if_neg (by simp)]
  refine .inl ⟨_,rfl,?_⟩
  have:expF b l.length []=([],[]):=by cases l.length <;> rfl
  rw [this]; simp
 | cons x t =>
  simp only [List.length_cons] at h2
  have hrl:=(run_sub x (x :: t)).length_le
  have hrn:(runF x (x :: t)).length=(runF x t).length+1:=by rw [run_cons]; rfl
  have hwr:Wt (runF x (x :: t)):=h1.sub (run_sub _ _)
  have hws:Wt (restF x (x :: t)):=h1.sub (rest_sub _ _)
  have hrl2:=rest_len x t
  have htot:(runF x (x :: t)).length+(restF x (x :: t)).length=t.length+1:=by
   have:=congrArg List.length (run_rest x (x :: t))
   rw [List.length_append] at this
   exact this
  have hel:=endF_len (runF x (x :: t))
  obtain ⟨m,hm⟩:∃ m,l.length=m+1:=⟨l.length-1,by omega⟩
  have hexp2:expF b l.length (x :: t)=if (runF x (x :: t)).any (fun r=>decide (b≤r.start))=true then ((expF b l.length (restF x (x :: t))).1,runF x (x :: t)++(expF b l.length (restF x (x :: t))).2) else (endF (runF x (x :: t))++(expF b l.length (restF x (x :: t))).1,(expF b l.length (restF x (x :: t))).2):=by
   conv=>lhs; rw [hm]; unfold expF
   rw [expF_fuel b m l.length (restF x (x :: t)) (by omega) (by omega)]
  have hix:idxF x 0 (x :: t)=0:=by unfold idxF; rw [if_pos (callB_refl x)]
  simp only [List.length_cons] at hrl
  rw [if_pos (by simp),ck_pos (by simp only [List.length_cons]; omega),show nth (x :: t) (Int.toNat 0)=x from rfl]
  simp only [f_correlate_callOf,Option.bind_some]
  rw [show (⟨x.source,x.call⟩:CorrelateCall)=callC x from rfl,p_span (x :: t) x (by simp only [List.length_cons]; omega),hix,if_neg (by omega)]
  simp only [Option.bind_some,Int.toNat_zero,List.drop_zero,runN_run,Int.zero_add,Int.toNat_natCast]
  rw [ck_pos (by simp only [List.length_cons]; omega),ck_pos (by simp only [List.length_cons]; omega)]
  simp only [take_run,drop_run]
  rw [p_late _ b (by omega)]
  simp only [Option.bind_some]
  rw [hexp2]
  by_cases hany:(runF x (x :: t)).any (fun r=>decide (b≤r.start))=true
  ·rw [if_pos hany,if_pos hany,ck_pos (by omega)]
   refine .inr ⟨_,rfl,⟨hws,by simp only [List.length_append]; omega⟩,by simp only [List.length_cons]; omega,?_⟩
   simp
  ·rw [if_neg hany,if_neg hany,p_chain x _ hwr run_call (by omega)]
   have hpl:=posF_len false x 1 0 (runF x (x :: t))
   have hge:=posF_ge false x 1 0 (runF x (x :: t))
   obtain ⟨q1,q2,q3⟩:=shrF_asc (l:=runF x (x :: t)) (posF_asc false x 1 0 (runF x (x :: t))) (posF false x 1 0 (runF x (x :: t))).length
   simp only [Option.bind_some]
   rw [p_pick _ _ (by omega) (by omega) q1 (fun a ha=>by have:=hge a (q2 a ha); omega)]
   have he:endF (runF x (x :: t))=(wholeF (pickA 0 (shrF (runF x (x :: t)) (posF false x 1 0 (runF x (x :: t))) (posF false x 1 0 (runF x (x :: t))).length) (runF x (x :: t))).1).toList++(pickA 0 (shrF (runF x (x :: t)) (posF false x 1 0 (runF x (x :: t))) (posF false x 1 0 (runF x (x :: t))).length) (runF x (x :: t))).2.map aloneF:=by
    rw [run_cons]; exact endF_cons x _
   generalize shrF (runF x (x :: t)) (posF false x 1 0 (runF x (x :: t))) (posF false x 1 0 (runF x (x :: t))).length=at' at he
   have hpk:=pickA_len 0 at' (runF x (x :: t))
   have hpm:=pickA_sm (i:=0) (at':=at') hwr.sm
   simp only [Option.bind_some]
   rw [p_whole _ hpm.1 (by omega)]
   simp only [Option.bind_some]
   generalize hpg:pickA 0 at' (runF x (x :: t))=pk at hpk he
   have key:∀ (o:List Record) (c0 c1 c2:Int) (c3 c4:List UInt8) (c5 c6 c7 c8:Int) (c9:Bool) (c10:Int) (c11:Bool),o.length≤2000→f_correlate_Expire_j1 left (x :: t) ((0:Int),((runF x (x :: t)).length:Int)) pk o c0 c1 c2 c3 c4 c5 c6 c7 c8 c9 c10 c11=some (.inl (o++pk.2.map aloneF,left,restF x (x :: t))):=by
    intro o c0 c1 c2 c3 c4 c5 c6 c7 c8 c9 c10 c11 ho
    unfold f_correlate_Expire_j1
    refine loop_rec0 pk.2 (fun s:List Record×Int=>s.2) (fun s t'=>(some (Sum.inl (s.1++t'.map aloneF,left,restF x (x :: t))):Option ((List Record×List Record×List Record) ⊕ (List Record×List Record)))) (fun s t'=>(s.1.length:Int)≤s.2+2000) (by omega) ?_ ?_ (s:=(o,(0:Int))) rfl (by simp only; omega)
    ·rintro ⟨q,i⟩ h hi
     simp only at h hi ⊢
     unfold f_correlate_Expire_l2
     rw [if_neg (by simp only [decide_eq_true_eq]; omega)]
     refine ⟨_,rfl,?_⟩
     simp only [Int.toNat_natCast,drop_run]
     simp
    ·rintro ⟨q,i⟩ r t' h hi0 hi1 hn hlen
     simp only at h hi0 hi1 hn hlen ⊢
     unfold f_correlate_Expire_l2
     rw [if_pos (by simpa using hi1),ck_pos ⟨hi0,hi1⟩,hn]
     simp only [f_correlate_alone,Option.bind_some]
     rw [ck_pos (by simp only [List.length_cons,List.length_nil]; omega),ck_pos (by omega)]
     refine .inr ⟨_,rfl,by simp only [List.length_append,List.length_cons,List.length_nil]; omega,rfl,?_⟩
     simp only [List.map_cons,List.append_assoc]
     rfl
   cases hww:wholeF pk.1 with
   | none =>
    rw [hww] at he
    rw [if_neg (by simp [optR,noR]),key _ _ _ _ _ _ _ _ _ _ _ _ _ (by omega)]
    refine .inr ⟨_,rfl,⟨hws,?_⟩,by simp only [List.length_cons]; omega,?_⟩
    ·have:=congrArg List.length he
     simp only [Option.toList_none,List.nil_append] at this
     simp only [List.length_append]; omega
    ·rw [he]; simp
   | some w =>
    rw [hww] at he
    rw [if_pos (show (optR (some w)).2=true from rfl),ck_pos (by simp only [List.length_cons,List.length_nil]; omega),key _ _ _ _ _ _ _ _ _ _ _ _ _ (by simp only [List.length_append,List.length_cons,List.length_nil]; omega)]
    refine .inr ⟨_,rfl,⟨hws,?_⟩,by simp only [List.length_cons]; omega,?_⟩
    ·have:=congrArg List.length he
     simp only [Option.toList_some,List.length_append,List.length_cons,List.length_nil] at this
     simp only [List.length_append,List.length_cons,List.length_nil]; omega
    ·rw [he]; simp [optR]
theorem awake_true:f_w16_awake=some true:=by kernel_rfl
def nextF (s:Int):Int→List Head→Int
 | k,[]=>k
 | k,h :: t=>nextF s (if h.source=s then h.number+1 else k) t
def OkN (h:Head):Prop:=-9223372036854775808≤h.number∧h.number≤9223372036854775806
theorem p_rnext (l:List Head) (n:Nat) (s:Int) (hn:n≤l.length) (hl:l.length≤100000) (hok:∀ h,h∈l.take n→OkN h):f_r16_next l (n:Int) s=some (nextF s 1 (l.take n)):=by
 unfold f_r16_next
 have htl:(l.take n).length=n:=by rw [List.length_take]; omega
 refine loop_rec0 (l.take n) (fun st:Int×Int=>st.2) (fun st t=>some (nextF s st.1 t)) (fun st t=>∀ h,h∈t→OkN h) (by omega) ?_ ?_ (s:=((1:Int),(0:Int))) rfl hok
 ·rintro ⟨k,i⟩ _ hi
  simp only at hi ⊢
  unfold f_r16_next_l1
  rw [if_neg (by simp only [decide_eq_true_eq]; omega)]
  exact ⟨_,rfl,rfl⟩
 ·rintro ⟨k,i⟩ h t ht hi0 hi1 hx hlen
  simp only at ht hi0 hi1 hx hlen ⊢
  have hx':nth l i.toNat=h:=by
   rw [←hx,nth_eq (by omega),nth_eq (by omega),List.getElem_take]
  have:=ht h (List.mem_cons_self ..)
  unfold OkN at this
  unfold f_r16_next_l1
  rw [if_pos (by simp only [decide_eq_true_eq]; omega),ck_pos (by omega),hx']
  by_cases hs:h.source=s
  ·rw [if_pos (by simpa using hs),ck_pos (by omega),ck_pos (by omega),ck_pos (by omega)]
   refine .inr ⟨_,rfl,fun x hx=>ht x (List.mem_cons_of_mem _ hx),rfl,?_⟩
   simp only [nextF,hs,if_true]
  ·rw [if_neg (by simpa using hs),ck_pos (by omega)]
   refine .inr ⟨_,rfl,fun x hx=>ht x (List.mem_cons_of_mem _ hx),rfl,?_⟩
   simp only [nextF,hs,if_false]
def okH (h:Head):Prop:=(1≤h.source∧h.source≤99)∧(1≤h.number∧h.number≤999999999)∧(1≤h.format∧h.format≤3)∧(0≤h.count∧h.count≤4096)
instance (h:Head):Decidable (okH h):=by unfold okH; infer_instance
def hdB:List Head→List Head→Bool
 | _,[]=>true
 | d,h :: t=>decide (okH h∧h.number=nextF h.source 1 d) && hdB (d++[h]) t
theorem okH_okN {h:Head} (o:okH h):OkN h:=by unfold okH at o; unfold OkN; omega
theorem hdB_ok:∀ {d l:List Head},hdB d l=true→∀ h,h∈l→okH h
 | _,[],_,h,hm=>by cases hm
 | d,x :: l,hb,h,hm=>by
  simp only [hdB,Bool.and_eq_true,decide_eq_true_eq] at hb
  rcases List.mem_cons.1 hm with rfl | hm
  ·exact hb.1.1
  ·exact hdB_ok hb.2 h hm
theorem p_rheads (v:Intake) (hl:v.heads.length≤100000):f_r16_heads v=some (hdB [] v.heads):=by
 unfold f_r16_heads
 have:=loop_rec0 v.heads (step:=fun s=>f_r16_heads_l1 v s) (fun s:Int=>s) (fun s t=>some (hdB (v.heads.take s.toNat) t)) (fun s t=>∀ h,h∈v.heads.take s.toNat→okH h) (by omega) (s:=0) ?_ ?_ rfl (by simp)
 ·exact this
 ·intro i _ hi
  unfold f_r16_heads_l1
  rw [if_neg (by simp only [decide_eq_true_eq]; omega)]
  exact ⟨_,rfl,rfl⟩
 ·intro i h t ht hi0 hi1 hx hlen
  unfold f_r16_heads_l1
  rw [if_pos (by simpa using hi1),ck_pos ⟨hi0,hi1⟩,hx]
  by_cases h1:(1≤h.source∧h.source≤99)∧(1≤h.number∧h.number≤999999999)
  ·have e1:((((decide (h.source < 1)) || (decide (h.source > 99))) || (decide (h.number < 1))) || (decide (h.number > 999999999)))=false:=by simp; omega
   have hn:f_r16_next v.heads i h.source=some (nextF h.source 1 (v.heads.take i.toNat)):=by
    have:=p_rnext v.heads i.toNat h.source (by omega) hl (fun x hx=>okH_okN (ht x hx))
    rwa [show ((i.toNat:Nat):Int)=i from by omega] at this
   simp only [e1,Bool.not_false,gcall,if_true,hn,Option.bind_some,Bool.false_or]
   by_cases h2:okH h∧h.number=nextF h.source 1 (v.heads.take i.toNat)
   ·have h3:=h2.1
    unfold okH at h3
    rw [if_neg (by simp [h2.2.symm]; omega),ck_pos (by omega)]
    refine .inr ⟨_,rfl,?_,rfl,?_⟩
    ·rw [show (i+1).toNat=i.toNat+1 from by omega,take_nth (by omega),hx]
     intro y hy
     rcases List.mem_append.1 hy with hy | hy
     ·exact ht y hy
     ·simp at hy; subst hy; exact h2.1
    ·rw [show (i+1).toNat=i.toNat+1 from by omega,take_nth (by omega),hx]
     simp only [hdB,decide_eq_true h2,Bool.true_and]
   ·rw [if_pos (by
     unfold okH at h2
     simp only [Bool.or_eq_true,bne_iff_ne,decide_eq_true_eq]
     by_cases hq:h.number=nextF h.source 1 (v.heads.take i.toNat)
     ·have:¬((1≤h.format∧h.format≤3)∧(0≤h.count∧h.count≤4096)):=fun hh=>h2 ⟨⟨h1.1,h1.2,hh.1,hh.2⟩,hq⟩
      omega
     ·exact .inl (.inl (.inl (.inl hq))))]
    exact .inl ⟨_,rfl,by simp only [hdB,decide_eq_false h2,Bool.false_and]⟩
  ·have e1:((((decide (h.source < 1)) || (decide (h.source > 99))) || (decide (h.number < 1))) || (decide (h.number > 999999999)))=true:=by simp; omega
   simp only [e1,Bool.not_true,gcall,Bool.false_eq_true,if_false,Option.bind_some,Bool.true_or,if_true]
   refine .inl ⟨_,rfl,?_⟩
   have:¬(okH h∧h.number=nextF h.source 1 (v.heads.take i.toNat)):=fun hh=>h1 ⟨hh.1.1,hh.1.2.1⟩
   simp only [hdB,decide_eq_false this,Bool.false_and]
def okR (r:Range):Prop:=(1≤r.source∧r.source≤99)∧1≤r.from_∧r.from_≤r.to_∧r.to_≤999999999
instance (r:Range):Decidable (okR r):=by unfold okR; infer_instance
def RLt (p r:Range):Prop:=p.source < r.source∨(p.source=r.source∧p.to_+1 < r.from_)
instance (p r:Range):Decidable (RLt p r):=by unfold RLt; infer_instance
def canB:Option Range→List Range→Bool
 | _,[]=>true
 | none,r :: t=>decide (okR r) && canB (some r) t
 | some p,r :: t=>decide (okR r∧RLt p r) && canB (some r) t
structure Can (l:List Range):Prop where
 ok:∀ r,r∈l→okR r
 srt:l.Pairwise RLt
theorem canB_iff:∀ (o:Option Range) (t:List Range),(∀ p,o=some p→okR p)→(canB o t=true↔(∀ r,r∈t→okR r)∧(o.toList++t).Pairwise RLt)
 | o,[],_=>by cases o <;> simp [canB]
 | none,r :: t,_=>by
  simp only [canB,Bool.and_eq_true,decide_eq_true_eq,Option.toList_none,List.nil_append]
  constructor
  ·rintro ⟨h1,h2⟩
   have ih:=(canB_iff (some r) t (fun p hp=>by cases hp; exact h1)).1 h2
   simp only [Option.toList_some,List.singleton_append] at ih
   refine ⟨fun x hx=>?_,ih.2⟩
   rcases List.mem_cons.1 hx with rfl | hx
   ·exact h1
   ·exact ih.1 x hx
  ·rintro ⟨h1,h2⟩
   refine ⟨h1 r (List.mem_cons_self ..),(canB_iff (some r) t (fun p hp=>by cases hp; exact h1 r (List.mem_cons_self ..))).2 ⟨fun x hx=>h1 x (List.mem_cons_of_mem _ hx),by simpa using h2⟩⟩
 | some p,r :: t,hp=>by
  simp only [canB,Bool.and_eq_true,decide_eq_true_eq,Option.toList_some,List.singleton_append]
  constructor
  ·rintro ⟨⟨h1,h3⟩,h2⟩
   have ih:=(canB_iff (some r) t (fun p hp=>by cases hp; exact h1)).1 h2
   simp only [Option.toList_some,List.singleton_append] at ih
   refine ⟨fun x hx=>?_,List.pairwise_cons.2 ⟨fun x hx=>?_,ih.2⟩⟩
   ·rcases List.mem_cons.1 hx with rfl | hx
    ·exact h1
    ·exact ih.1 x hx
   ·rcases List.mem_cons.1 hx with rfl | hx
    ·exact h3
    ·have h4:=(List.pairwise_cons.1 ih.2).1 x hx
     unfold okR at h1
     unfold RLt at h3 h4 ⊢
     omega
  ·rintro ⟨h1,h2⟩
   have h3:=List.pairwise_cons.1 h2
   have hr:=h1 r (List.mem_cons_self ..)
   exact ⟨⟨hr,h3.1 r (List.mem_cons_self ..)⟩,(canB_iff (some r) t (fun p hp=>by cases hp; exact hr)).2 ⟨fun x hx=>h1 x (List.mem_cons_of_mem _ hx),by simpa using h3.2⟩⟩
theorem can_iff (l:List Range):canB none l=true↔Can l:=by
 rw [canB_iff none l (fun p hp=>by cases hp)]
 simp only [Option.toList_none,List.nil_append]
 exact ⟨fun h=>⟨h.1,h.2⟩,fun h=>⟨h.ok,h.srt⟩⟩
theorem ident_iff (s n:Int):((((decide (s≥1)) && (decide (s≤99))) && (decide (n≥1))) && (decide (n≤999999999)))=decide ((1≤s∧s≤99)∧1≤n∧n≤999999999):=by
 rw [Bool.eq_iff_iff,decide_eq_true_iff]; simp; omega
theorem p_rcan (l:List Range) (hl:l.length≤100000):f_r14_Check l=some (canB none l):=by
 unfold f_r14_Check
 have:=loop_rec0 l (step:=fun s=>f_r14_Check_l1 l s) (fun s:Int=>s) (fun s t=>some (canB (if s=0 then none else some (nth l (s-1).toNat)) t)) (fun s t=>s≠0→okR (nth l (s-1).toNat)) (by omega) (s:=0) ?_ ?_ rfl (by simp)
 ·exact this
 ·intro i _ hi
  unfold f_r14_Check_l1
  rw [if_neg (by simp only [decide_eq_true_eq]; omega)]
  exact ⟨_,rfl,by simp [canB]⟩
 ·intro i r t hpv hi0 hi1 hx hlen
  unfold f_r14_Check_l1
  rw [if_pos (by simpa using hi1),ck_pos ⟨hi0,hi1⟩,hx]
  simp only [f_r14_identity,ident_iff,Option.bind_some,Bool.not_not,gcall_mk]
  have e1:(i+1=0)=False:=by simp; omega
  have e2:(i+1-1).toNat=i.toNat:=by omega
  by_cases hr:okR r
  ·have hr':=hr
   unfold okR at hr'
   have d1:decide ((1≤r.source∧r.source≤99)∧1≤r.from_∧r.from_≤999999999)=true:=by simp; omega
   have d2:decide ((1≤r.source∧r.source≤99)∧1≤r.to_∧r.to_≤999999999)=true:=by simp; omega
   simp only [d1,d2,if_true,Bool.not_true,Bool.false_or]
   rw [if_neg (by simp; omega)]
   by_cases h0:i=0
   ·subst h0
    rw [ck_pos (by simp),ck_pos (by simp),ck_pos (by simp),ck_pos (by simp),ck_pos (by simp),ck_pos (by simp),ck_pos (by simp),if_neg (by simp),ck_pos (by omega)]
    refine .inr ⟨_,rfl,fun _=>?_,rfl,?_⟩
    ·rw [e2,hx]; exact hr
    ·simp only [e1,if_false,e2,hx,if_true]
     simp only [canB,decide_eq_true hr,Bool.true_and]
   ·have hp:=hpv h0
    have hgt:i > 0:=by omega
    rw [if_neg h0]
    generalize nth l (i-1).toNat=p at hp ⊢
    have hp':=hp
    unfold okR at hp'
    simp only [hgt,decide_true,Bool.true_and]
    rw [ck_pos (fun _=>by omega),ck_pos (fun _=>by omega),ck_pos (fun _=>by omega),ck_pos (fun _=>by omega),ck_pos (fun _=>by omega),ck_pos (fun _=>by omega),ck_pos (fun _=>by omega)]
    by_cases hlt:RLt p r
    ·have hlt':=hlt
     unfold RLt at hlt'
     rw [if_neg (by simp; omega),ck_pos (by omega)]
     refine .inr ⟨_,rfl,fun _=>?_,rfl,?_⟩
     ·rw [e2,hx]; exact hr
     ·simp only [e1,if_false,e2,hx]
      simp only [canB,decide_eq_true (And.intro hr hlt),Bool.true_and]
    ·have hlt':=hlt
     unfold RLt at hlt'
     rw [if_pos (by simp; omega)]
     exact .inl ⟨_,rfl,by simp only [canB,decide_eq_false (fun h:okR r∧RLt p r=>hlt h.2),Bool.false_and]⟩
  ·have hr':=hr
   unfold okR at hr'
   rw [if_pos (by
    by_cases d1:(1≤r.source∧r.source≤99)∧1≤r.from_∧r.from_≤999999999
    ·by_cases d2:(1≤r.source∧r.source≤99)∧1≤r.to_∧r.to_≤999999999
     ·simp only [decide_eq_true d1,decide_eq_true d2,if_true,Bool.not_true,Bool.false_or,decide_eq_true_eq]; omega
     ·simp only [decide_eq_true d1,decide_eq_false d2,if_true,Bool.not_true,Bool.not_false,Bool.false_or,Bool.true_or]
    ·simp only [decide_eq_false d1,Bool.not_false,Bool.true_or])]
   refine .inl ⟨_,rfl,?_⟩
   by_cases h0:i=0
   ·simp [h0,canB,hr]
   ·simp [h0,canB,hr]
def hasB (l:List Range) (s n:Int):Bool:=l.any fun r=>decide (r.source=s∧r.from_≤n∧n≤r.to_)
def idB (s n:Int):Bool:=decide ((1≤s∧s≤99)∧1≤n∧n≤999999999)
theorem p_rHas (l:List Range) (s n:Int) (hl:l.length≤100000):f_r14_Has l s n=some (hasB l s n && idB s n):=by
 unfold f_r14_Has
 refine loop_rec0 l (fun st:Int=>st) (fun st t=>some (hasB t s n && idB s n)) (fun st t=>True) (by omega) ?_ ?_ rfl trivial
 ·intro i _ hi
  unfold f_r14_Has_l1
  rw [if_neg (by simp only [decide_eq_true_eq]; omega)]
  exact ⟨_,rfl,by simp [hasB]⟩
 ·intro i r t _ hi0 hi1 hx hlen
  unfold f_r14_Has_l1
  rw [if_pos (by simpa using hi1),ck_pos ⟨hi0,hi1⟩,ck_pos (fun _=>⟨hi0,hi1⟩),ck_pos (fun _=>⟨hi0,hi1⟩),hx]
  by_cases h:r.source=s∧r.from_≤n∧n≤r.to_
  ·rw [if_pos (by simp [h.1,h.2.1,h.2.2])]
   simp only [f_r14_identity,ident_iff,Option.bind_some]
   exact .inl ⟨_,rfl,by simp [hasB,h,idB]⟩
  ·rw [if_neg (by simp only [Bool.and_eq_true,beq_iff_eq,decide_eq_true_eq]; exact fun hh=>h ⟨hh.1.1,hh.1.2,hh.2⟩),ck_pos (by omega)]
   refine .inr ⟨_,rfl,trivial,rfl,?_⟩
   unfold hasB
   rw [List.any_cons,decide_eq_false h,Bool.false_or]
def cntR (s:Int):List Range→Int
 | []=>0
 | r :: t=>(if r.source=s then r.to_-r.from_+1 else 0)+cntR s t
def cntH (s:Int):List Head→Int
 | []=>0
 | h :: t=>(if h.source=s then h.count else 0)+cntH s t
def ctB (l:List Range) (hs:List Head):Nat→Int→Bool
 | 0,_=>true
 | m+1,s=>decide (cntR s l≤cntH s hs) && ctB l hs m (s+1)
theorem cntR_bd (s:Int):∀ {l:List Range},(∀ r,r∈l→okR r)→0≤cntR s l∧cntR s l≤l.length*1000000000
 | [],_=>by simp [cntR]
 | r :: l,h=>by
  have ih:=cntR_bd s (l:=l) (fun x hx=>h x (List.mem_cons_of_mem _ hx))
  have hr:=h r (List.mem_cons_self ..)
  unfold okR at hr
  simp only [cntR,List.length_cons]
  split <;> omega
theorem cntH_bd (s:Int):∀ {l:List Head},(∀ r,r∈l→okH r)→0≤cntH s l∧cntH s l≤l.length*5000
 | [],_=>by simp [cntH]
 | r :: l,h=>by
  have ih:=cntH_bd s (l:=l) (fun x hx=>h x (List.mem_cons_of_mem _ hx))
  have hr:=h r (List.mem_cons_self ..)
  unfold okH at hr
  simp only [cntH,List.length_cons]
  split <;> omega
theorem p_ct2 (v:Intake) (s n:Int) (hs:1≤s∧s≤99) (hh:∀ h,h∈v.heads→okH h) (hl:v.heads.length≤100000) (hn:0≤n∧n≤100000000000000):f_r16_counted_j1 v s n=some (if n-cntH s v.heads > 0 then .inr false else .inl (s+1)):=by
 unfold f_r16_counted_j1
 refine loop_rec0 v.heads (fun st:Int×Int=>st.2) (fun st t=>(some (if st.1-cntH s t > 0 then Sum.inr false else Sum.inl (s+1)):Option (Int ⊕ Bool))) (fun st t=>(-5000*st.2≤st.1∧st.1≤100000000000000)∧∀ h,h∈t→okH h) (by omega) ?_ ?_ (s:=(n,(0:Int))) rfl ⟨by simp only; omega,hh⟩
 ·rintro ⟨k,i⟩ ⟨hb,_⟩ hi
  simp only at hb hi ⊢
  unfold f_r16_counted_l2 f_r16_counted_j2
  rw [if_neg (by simp only [decide_eq_true_eq]; omega)]
  simp only [cntH,Int.sub_zero,decide_eq_true_eq]
  by_cases h:k > 0
  ·rw [if_pos h,if_pos h]; exact ⟨_,rfl,rfl⟩
  ·rw [if_neg h,if_neg h,ck_pos (by omega)]; exact ⟨_,rfl,rfl⟩
 ·rintro ⟨k,i⟩ h t ⟨hb,ht⟩ hi0 hi1 hx hlen
  simp only at hb ht hi0 hi1 hx hlen ⊢
  have ho:=ht h (List.mem_cons_self ..)
  unfold okH at ho
  unfold f_r16_counted_l2
  rw [if_pos (by simpa using hi1),ck_pos ⟨hi0,hi1⟩,hx]
  by_cases he:h.source=s
  ·rw [if_pos (by simpa using he),ck_pos ⟨hi0,hi1⟩,ck_pos (by omega),ck_pos (by omega)]
   refine .inr ⟨_,rfl,⟨by simp only; omega,fun x hx=>ht x (List.mem_cons_of_mem _ hx)⟩,rfl,?_⟩
   simp only [cntH,he,if_true]
   rw [show k-h.count-cntH s t=k-(h.count+cntH s t) from by omega]
  ·rw [if_neg (by simpa using he),ck_pos (by omega)]
   refine .inr ⟨_,rfl,⟨by simp only; omega,fun x hx=>ht x (List.mem_cons_of_mem _ hx)⟩,rfl,?_⟩
   simp only [cntH,he,if_false,Int.zero_add]
theorem p_ct3 (v:Intake) (s:Int) (hs:1≤s∧s≤99) (hh:∀ h,h∈v.heads→okH h) (hr:∀ r,r∈v.seen→okR r) (hl:v.heads.length≤100000) (hl2:v.seen.length≤10000):loop (fun st:Int×Int=>f_r16_counted_l3 v s st.1 st.2) (0,0)=some (if cntR s v.seen-cntH s v.heads > 0 then .inr false else .inl (s+1)):=by
 refine (loop_rec0 v.seen (fun st:Int×Int=>st.2) (fun st t=>(some (if (st.1+cntR s t) - cntH s v.heads > 0 then Sum.inr false else Sum.inl (s+1)):Option (Int ⊕ Bool))) (fun st t=>(0≤st.1∧st.1≤st.2*1000000000)∧∀ r,r∈t→okR r) (by omega) ?_ ?_ (s:=((0:Int),(0:Int))) rfl ⟨by simp,hr⟩).trans (by simp)
 ·rintro ⟨k,i⟩ ⟨hb,_⟩ hi
  simp only at hb hi ⊢
  unfold f_r16_counted_l3
  rw [if_neg (by simp only [decide_eq_true_eq]; omega),p_ct2 v s k hs hh hl (by omega)]
  exact ⟨_,rfl,by simp [cntR]⟩
 ·rintro ⟨k,i⟩ r t ⟨hb,ht⟩ hi0 hi1 hx hlen
  simp only at hb ht hi0 hi1 hx hlen ⊢
  have ho:=ht r (List.mem_cons_self ..)
  unfold okR at ho
  unfold f_r16_counted_l3
  rw [if_pos (by simpa using hi1),ck_pos ⟨hi0,hi1⟩,hx]
  by_cases he:r.source=s
  ·rw [if_pos (by simpa using he),ck_pos ⟨hi0,hi1⟩,ck_pos (by omega),ck_pos ⟨hi0,hi1⟩,ck_pos (by omega),ck_pos (by omega),ck_pos (by omega)]
   refine .inr ⟨_,rfl,⟨by simp only; omega,fun x hx=>ht x (List.mem_cons_of_mem _ hx)⟩,rfl,?_⟩
   simp only [cntR,he,if_true]
   rw [show k+r.to_-r.from_+1+cntR s t=k+(r.to_-r.from_+1+cntR s t) from by omega]
  ·rw [if_neg (by simpa using he),ck_pos (by omega)]
   refine .inr ⟨_,rfl,⟨by simp only; omega,fun x hx=>ht x (List.mem_cons_of_mem _ hx)⟩,rfl,?_⟩
   simp only [cntR,he,if_false,Int.zero_add]
theorem p_rcounted (v:Intake) (hh:∀ h,h∈v.heads→okH h) (hr:∀ r,r∈v.seen→okR r) (hl:v.heads.length≤100000) (hl2:v.seen.length≤10000):f_r16_counted v=some (ctB v.seen v.heads 99 1):=by
 unfold f_r16_counted
 refine loop_spec (fun s:Int=>some (ctB v.seen v.heads (100-s).toNat s)) (fun s=>1≤s∧s≤100) (fun s=>(100-s).toNat) ?_ (s:=1) (by decide) (by decide)
 rintro s ⟨h1,h2⟩
 unfold f_r16_counted_l1
 by_cases hs:s≤99
 ·rw [if_pos (by simpa using hs),p_ct3 v s ⟨h1,hs⟩ hh hr hl hl2,show (100-s).toNat=(100-(s+1)).toNat+1 from by omega]
  simp only [ctB]
  by_cases hc:cntR s v.seen-cntH s v.heads > 0
  ·rw [if_pos hc]
   exact .inl ⟨_,rfl,by rw [decide_eq_false (by omega),Bool.false_and]⟩
  ·rw [if_neg hc]
   exact .inr ⟨s+1,rfl,by omega,by omega,by rw [decide_eq_true (show cntR s v.seen≤cntH s v.heads by omega),Bool.true_and]⟩
 ·rw [if_neg (by simpa using hs)]
  have:s=100:=by omega
  subst this
  exact .inl ⟨_,rfl,rfl⟩
def sameId (a b:Record):Bool:=decide (a.source=b.source) && decide (a.serial=b.serial)
def opB (l:List Range):List Record→List Record→Bool
 | _,[]=>true
 | d,r :: t=>(hasB l r.source r.serial && idB r.source r.serial) && !(d.any fun x=>sameId x r) && opB l (d++[r]) t
def ckF (v:Intake):Bool:=hdB [] v.heads && canB none v.seen && (srtB none v.open_ && ncB v.open_ v.open_) && ctB v.seen v.heads 99 1 && opB v.seen [] v.open_
structure SmI (v:Intake):Prop where
 seen:v.seen.length≤1000
 heads:v.heads.length≤1000
 opens:v.open_.length≤1000
 sm:∀ r,r∈v.open_→Sm r
theorem p_rids (v:Intake) (i:Int) (hi0:0≤i) (hi1:i < (v.open_.length:Int)) (hl:v.open_.length≤1000):loop (fun s=>f_r16_Check_l2 v i s) 0=some (if ((v.open_.take i.toNat).any fun x=>sameId x (nth v.open_ i.toNat))=true then .inr false else .inl (i+1)):=by
 have htl:(v.open_.take i.toNat).length=i.toNat:=by rw [List.length_take]; omega
 refine loop_rec0 (v.open_.take i.toNat) (fun s:Int=>s) (fun s t=>(some (if (t.any fun x=>sameId x (nth v.open_ i.toNat))=true then Sum.inr false else Sum.inl (i+1)):Option (Int ⊕ Bool))) (fun s t=>True) (by omega) ?_ ?_ rfl trivial
 ·intro k _ hk
  unfold f_r16_Check_l2
  rw [if_neg (by simp only [decide_eq_true_eq]; omega),ck_pos (by omega)]
  exact ⟨_,rfl,rfl⟩
 ·intro k x t _ hk0 hk1 hx hlen
  have hx':nth v.open_ k.toNat=x:=by rw [←hx,nth_eq (by omega),nth_eq (by omega),List.getElem_take]
  unfold f_r16_Check_l2
  rw [if_pos (by simp only [decide_eq_true_eq]; omega),ck_pos (by omega),ck_pos (fun _=>by omega),hx']
  rw [List.any_cons]
  by_cases h:sameId x (nth v.open_ i.toNat)=true
  ·have h':=h
   simp only [sameId,Bool.and_eq_true,decide_eq_true_eq] at h'
   rw [if_pos (by simp [h'.1,h'.2]),h,Bool.true_or]
   exact .inl ⟨_,rfl,rfl⟩
  ·have h':=h
   simp only [sameId,Bool.and_eq_true,decide_eq_true_eq] at h'
   rw [if_neg (by simpa using h'),ck_pos (by omega),Bool.eq_false_iff.2 h,Bool.false_or]
   exact .inr ⟨_,rfl,trivial,rfl,rfl⟩
theorem p_rck (v:Intake) (hs:SmI v):f_r16_Check v=some (ckF v):=by
 unfold f_r16_Check ckF
 rw [p_rheads v (by have:=hs.heads; omega)]
 simp only [Option.bind_some,Bool.not_not]
 cases h1:hdB [] v.heads with
 | false=>simp [gcall]
 | true =>
  have hh:=hdB_ok h1
  simp only [gcall,if_true]
  rw [p_rcan v.seen (by have:=hs.seen; omega)]
  simp only [Option.bind_some]
  cases h2:canB none v.seen with
  | false=>simp
  | true =>
   have hc:=(can_iff _).1 h2
   simp only [Bool.not_true,Bool.or_self,Bool.not_false,if_true]
   rw [p_rOpen v.open_ hs.sm hs.opens]
   simp only [Option.bind_some]
   cases h3:(srtB none v.open_ && ncB v.open_ v.open_) with
   | false=>simp
   | true =>
    simp only [Bool.not_true,Bool.or_self,Bool.not_false,if_true]
    rw [p_rcounted v hh hc.ok (by have:=hs.heads; omega) (by have:=hs.seen; omega)]
    simp only [Option.bind_some]
    cases h4:ctB v.seen v.heads 99 1 with
    | false=>simp
    | true =>
     simp only [Bool.not_true,Bool.or_self,Bool.false_eq_true,if_false,Bool.true_and]
     have hol:=hs.opens
     refine (loop_rec0 v.open_ (step:=fun s=>f_r16_Check_l1 v s) (fun s:Int=>s) (fun s t=>some (opB v.seen (v.open_.take s.toNat) t)) (fun s t=>True) (by omega) (s:=0) ?_ ?_ rfl trivial)
     ·intro i _ hi
      unfold f_r16_Check_l1
      rw [if_neg (by simp only [decide_eq_true_eq]; omega)]
      exact ⟨_,rfl,rfl⟩
     ·intro i r t _ hi0 hi1 hx hlen
      unfold f_r16_Check_l1
      rw [if_pos (by simpa using hi1),ck_pos ⟨hi0,hi1⟩,hx,p_rHas v.seen r.source r.serial (by have:=hs.seen; omega)]
      simp only [Option.bind_some,opB]
      cases h5:(hasB v.seen r.source r.serial && idB r.source r.serial) with
      | false =>
       rw [if_pos (by rfl)]
       exact .inl ⟨_,rfl,by simp⟩
      | true =>
       rw [if_neg (by simp),p_rids v i hi0 hi1 hol,hx]
       cases h6:((v.open_.take i.toNat).any fun x=>sameId x r) with
       | true =>
        rw [if_pos rfl]
        exact .inl ⟨_,rfl,by simp⟩
       | false =>
        rw [if_neg (by simp)]
        refine .inr ⟨_,rfl,trivial,rfl,?_⟩
        rw [show (i+1).toNat=i.toNat+1 from by omega,take_nth (by omega),hx]
        simp
structure Good16 (v:Intake):Prop where
 heads:hdB [] v.heads=true
 can:Can v.seen
 opn:Opn v.open_
 cnt:ctB v.seen v.heads 99 1=true
 ids:opB v.seen [] v.open_=true
theorem ckF_iff (v:Intake):ckF v=true↔Good16 v:=by
 unfold ckF
 simp only [Bool.and_eq_true]
 rw [can_iff]
 constructor
 ·rintro ⟨⟨⟨⟨h1,h2⟩,h3⟩,h4⟩,h5⟩
  exact ⟨h1,h2,(opn_iff _).1 (by simpa using h3),h4,h5⟩
 ·rintro ⟨h1,h2,h3,h4,h5⟩
  exact ⟨⟨⟨⟨h1,h2⟩,by simpa using (opn_iff _).2 h3⟩,h4⟩,h5⟩
theorem few_tot (l:List Record):∃ b,f_w16_few l=some b∧(b=true→l.length≤40∧∀ r,r∈l→Sm r):=by
 unfold f_w16_few
 obtain ⟨b,h1,h2⟩:=loop_post (step:=fun i:Int=>f_w16_few_l1 l i) (fun b=>b=true→l.length≤40∧∀ r,r∈l→Sm r) (fun i:Int=>0≤i∧i≤41∧i≤(l.length:Int)∧∀ r,r∈l.take i.toNat→Sm r) (fun i=>(41-i).toNat) (fun i hI=>by
  obtain ⟨h0,h1,h2,h3⟩:=hI
  show (∃ r,f_w16_few_l1 l i=_∧_)∨∃ s',f_w16_few_l1 l i=_∧_
  unfold f_w16_few_l1
  by_cases h:i < (l.length:Int)∧i < 41
  ·rw [if_pos (by simp [h]),ck_pos (by omega),ck_pos (by omega)]
   by_cases hs:Sm (nth l i.toNat)
   ·have hs':=hs
    unfold Sm at hs'
    rw [if_neg (by simp; omega),ck_pos (by omega)]
    refine .inr ⟨i+1,rfl,⟨by omega,by omega,by omega,?_⟩,by omega⟩
    rw [show (i+1).toNat=i.toNat+1 from by omega,take_nth (by omega)]
    intro r hr
    rcases List.mem_append.1 hr with hr | hr
    ·exact h3 r hr
    ·simp at hr; subst hr; exact hs
   ·have hs':=hs
    unfold Sm at hs'
    rw [if_pos (by simp; omega)]
    exact .inl ⟨_,rfl,by simp⟩
  ·rw [if_neg (by simp; omega)]
   unfold f_w16_few_j1
   refine .inl ⟨_,rfl,fun hb=>?_⟩
   simp at hb
   have:i=l.length:=by omega
   refine ⟨by omega,fun r hr=>h3 r ?_⟩
   rw [List.take_of_length_le (by omega)]
   exact hr) (s:=0) ⟨by omega,by omega,by omega,by simp⟩ (by omega)
 exact ⟨b,h1,h2⟩
theorem small_tot (v:Intake):∃ b,f_w16_small v=some b∧(b=true→v.seen.length≤40∧v.heads.length≤40∧v.open_.length≤40∧SmI v):=by
 unfold f_w16_small
 obtain ⟨b,h1,h2⟩:=few_tot v.open_
 rw [h1,gcall_mk]
 refine ⟨_,rfl,fun h=>?_⟩
 simp only [Bool.and_eq_true,decide_eq_true_eq] at h
 rw [if_pos (by simp [h.1])] at h
 obtain ⟨h3,h4⟩:=h2 h.2
 exact ⟨by omega,by omega,h3,⟨by omega,by omega,by omega,h4⟩⟩
theorem Head.eq_refl (h:Head):eqVs h.vals h.vals=true:=by simp [Head.vals,eqVs,eqV]
theorem Range.eq_refl (h:Range):eqVs h.vals h.vals=true:=by simp [Range.vals,eqVs,eqV]
theorem Reject.eq_refl (h:Reject):eqVs h.vals h.vals=true:=by simp [Reject.vals,eqVs,eqV]
theorem p_Same09 (a:List Record) (hl:a.length≤10000):f_r09_Same a a=some true:=by
 unfold f_r09_Same
 rw [if_neg (by simp),loop_all a (fun _=>true) true true (by omega) (fun i h0 h1=>?_) (fun i hi=>?_)]
 ·simp
 ·unfold f_r09_Same_l1
  rw [if_pos (by simpa using h1),ck_pos (by omega),ck_pos (by omega),if_neg (by rw [Record.eq_refl]; simp),ck_pos (by omega)]
  rfl
 ·unfold f_r09_Same_l1
  rw [if_neg (by simp; omega)]
theorem p_Same (a:List Record) (hl:a.length≤10000):f_r13_Same a a=some true:=by
 unfold f_r13_Same
 rw [p_Same09 a hl]; rfl
theorem p_Same14 (a:List Range) (hl:a.length≤10000):f_r14_Same a a=some true:=by
 unfold f_r14_Same
 rw [if_neg (by simp),loop_all a (fun _=>true) true true (by omega) (fun i h0 h1=>?_) (fun i hi=>?_)]
 ·simp
 ·unfold f_r14_Same_l1
  rw [if_pos (by simpa using h1),ck_pos (by omega),ck_pos (by omega),if_neg (by rw [Range.eq_refl]; simp),ck_pos (by omega)]
  rfl
 ·unfold f_r14_Same_l1
  rw [if_neg (by simp; omega)]
theorem p_SameRejects (a:List Reject) (hl:a.length≤10000):f_r13_SameRejects a a=some true:=by
 unfold f_r13_SameRejects f_r09_SameRejects
 rw [if_neg (by simp),loop_all a (fun _=>true) true true (by omega) (fun i h0 h1=>?_) (fun i hi=>?_)]
 ·simp
 ·unfold f_r09_SameRejects_l1
  rw [if_pos (by simpa using h1),ck_pos (by omega),ck_pos (by omega),if_neg (by rw [Reject.eq_refl]; simp),ck_pos (by omega)]
  rfl
 ·unfold f_r09_SameRejects_l1
  rw [if_neg (by simp; omega)]
theorem p_Same16 (v:Intake) (h1:v.seen.length≤10000) (h2:v.open_.length≤10000) (h3:v.heads.length≤10000):f_r16_Same v v=some true:=by
 unfold f_r16_Same
 rw [if_neg (by simp),loop_all v.heads (fun _=>true) true true (by omega) (fun i h0 h1=>?_) (fun i hi=>?_)]
 ·simp
 ·unfold f_r16_Same_l1
  rw [if_pos (by simpa using h1),ck_pos (by omega),ck_pos (by omega),if_neg (by rw [Head.eq_refl]; simp),ck_pos (by omega)]
  rfl
 ·unfold f_r16_Same_l1 f_r16_Same_j1
  rw [if_neg (by simp; omega),p_Same14 _ h1,p_Same09 _ h2]
  rfl
theorem expF_len (b:Int):∀ (m:Nat) (l:List Record),(expF b m l).1.length+(expF b m l).2.length≤l.length
 | 0,l=>by simp [expF]
 | m+1,[]=>by simp [expF]
 | m+1,x :: l=>by
  have h1:=expF_len b m (restF x (x :: l))
  have h2:=congrArg List.length (run_rest x (x :: l))
  have h3:=endF_len (runF x (x :: l))
  rw [List.length_append] at h2
  unfold expF
  split <;> simp only [List.length_append] <;> omega
theorem nextF_snoc (s:Int):∀ (k:Int) (l:List Head) (h:Head),nextF s k (l++[h])=if h.source=s then h.number+1 else nextF s k l
 | k,[],h=>by simp only [List.nil_append,nextF]
 | k,x :: l,h=>by simp only [List.cons_append,nextF]; exact nextF_snoc s _ l h
theorem p_Next (v:Intake) (s:Int) (hl:v.heads.length≤100000) (hok:∀ h,h∈v.heads→OkN h):f_intake_Next v s=some (if 1≤s∧s≤99 then nextF s 1 v.heads else 0):=by
 unfold f_intake_Next
 by_cases hs:1≤s∧s≤99
 ·rw [if_neg (by simp; omega),if_pos hs,ck_pos (by omega)]
  refine (loop_spec (fun i:Int=>some (nextF s 1 (v.heads.take (i+1).toNat))) (fun i=>-1≤i∧i < (v.heads.length:Int)) (fun i=>(i+1).toNat) ?_ (s:=(v.heads.length:Int) - 1) (by omega) (by omega)).trans ?_
  ·rintro i ⟨h1,h2⟩
   unfold f_intake_Next_l1
   by_cases h0:i≥0
   ·have hm:nth v.heads i.toNat∈v.heads:=nth_mem (by omega)
    have ho:=hok _ hm
    unfold OkN at ho
    rw [if_pos (by simpa using h0),ck_pos (by omega),show (i+1).toNat=i.toNat+1 from by omega,take_nth (by omega),nextF_snoc]
    by_cases he:(nth v.heads i.toNat).source=s
    ·rw [if_pos (by simpa using he),ck_pos (by omega),ck_pos (by omega),if_pos he]
     exact .inl ⟨_,rfl,rfl⟩
    ·rw [if_neg (by simpa using he),ck_pos (by omega),if_neg he]
     exact .inr ⟨i-1,rfl,by omega,by omega,by rw [show i-1+1=i from by omega]⟩
   ·rw [if_neg (by simpa using h0)]
    have:i=-1:=by omega
    subst this
    exact .inl ⟨_,rfl,rfl⟩
  ·rw [show ((v.heads.length:Int) - 1+1).toNat=v.heads.length from by omega,List.take_length]
 ·rw [if_pos (by simp; omega),if_neg hs]
theorem p_rNext (v:Intake) (s:Int) (hl:v.heads.length≤100000) (hok:∀ h,h∈v.heads→OkN h):f_r16_Next v s=some (if 1≤s∧s≤99 then nextF s 1 v.heads else 0):=by
 unfold f_r16_Next
 by_cases hs:1≤s∧s≤99
 ·have:=p_rnext v.heads v.heads.length s (Nat.le_refl _) hl (by rw [List.take_length]; exact hok)
  rw [List.take_length] at this
  rw [if_neg (by simp; omega),if_pos hs,this]; rfl
 ·rw [if_pos (by simp; omega),if_neg hs]
theorem Head.eq_iff (a b:Head):eqVs a.vals b.vals=true↔a=b:=by cases a; cases b; simp [Head.vals,eqVs,eqV]
theorem Record.eq_iff (a b:Record):eqVs a.vals b.vals=true↔a=b:=by cases a; cases b; simp [Record.vals,eqVs,eqV]
def CntM (m:List (Int×Int)) (l:List Head):Prop:=∀ s,(alook m s).getD 0=cntH s l
theorem cntH_snoc (s:Int):∀ (l:List Head) (h:Head),cntH s (l++[h])=cntH s l+(if h.source=s then h.count else 0)
 | [],h=>by simp [cntH]
 | x :: l,h=>by simp only [List.cons_append,cntH,cntH_snoc s l h]; omega
theorem CntM.step {m:List (Int×Int)} {l:List Head} (h:CntM m l) (x:Head):CntM (aset m x.source ((alook m x.source).getD 0+x.count)) (l++[x]):=fun s=>by
 rw [alook_aset,cntH_snoc]
 by_cases he:x.source=s
 ·rw [if_pos (by simpa using he.symm),if_pos he,Option.getD_some,h x.source,he]
 ·rw [if_neg (by simpa using fun e:s=x.source=>he e.symm),if_neg he,h s]; omega
theorem headC {x:Head} {d:List Head} {y:Int} (hy:y=if 1≤x.source∧x.source≤99 then nextF x.source 1 d else 0) (hn:1≤nextF x.source 1 d):((((((((!(eqVs (Head.vals x) (Head.vals (⟨x.source,y,x.format,x.count⟩:Head)))) || (decide (x.source < 1))) || (decide (x.source > 99))) || (decide (x.format < 1))) || (decide (x.format≥4))) || (decide (x.count < 0))) || (decide (x.count > 4096))) || (decide (x.number > 999999999)))=!decide (okH x∧x.number=nextF x.source 1 d):=by
 have e:eqVs (Head.vals x) (Head.vals (⟨x.source,y,x.format,x.count⟩:Head))=decide (x.number=y):=by
  rw [Bool.eq_iff_iff,Head.eq_iff,decide_eq_true_iff]
  cases x; simp
 rw [e,Bool.eq_iff_iff]
 unfold okH
 simp only [Bool.or_eq_true,Bool.not_eq_true',decide_eq_false_iff_not,decide_eq_true_eq]
 by_cases hs:1≤x.source∧x.source≤99
 ·rw [if_pos hs] at hy; subst hy; omega
 ·omega
theorem nextF_pos (s:Int):∀ {k:Int} {l:List Head},1≤k→(∀ h,h∈l→okH h)→1≤nextF s k l
 | k,[],hk,_=>hk
 | k,x :: l,hk,h=>by
  have:=h x (List.mem_cons_self ..)
  unfold okH at this
  simp only [nextF]
  exact nextF_pos s (by split <;> omega) (fun y hy=>h y (List.mem_cons_of_mem _ hy))
theorem p_nx (l:List Head) (i:Int) (h0:0≤i) (h1:i≤(l.length:Int)) (s:Int) (hl:l.length≤100000) (hok:∀ h,h∈l.take i.toNat→okH h):f_intake_Next (⟨([]:List Range),([]:List Record),l.take i.toNat⟩:Intake) s=some (if 1≤s∧s≤99 then nextF s 1 (l.take i.toNat) else 0) :=
 p_Next _ s (by simp only [List.length_take]; omega) (fun h hh=>okH_okN (hok h hh))
theorem iter_inl {S R:Type} {step:S→Option (S ⊕ R)} {n:Nat} {s s':S} (h:step s=some (.inl s')):iter step (n+1) s=iter step n s':=by simp [iter,h]
theorem iter_inr {S R:Type} {step:S→Option (S ⊕ R)} {n:Nat} {s:S} {r:R} (h:step s=some (.inr r)):iter step (n+1) s=some r:=by simp [iter,h]
theorem iter_none {S R:Type} {step:S→Option (S ⊕ R)} {n:Nat} {s:S} (h:step s=none):iter step (n+1) s=none:=by simp [iter,h]
theorem p_heads (l:List Head) (hl:l.length≤100000):(hdB [] l=true→∃ m,g_intake_heads l=some m∧CntM m l)∧(hdB [] l=false→g_intake_heads l=none∧g_intake_heads_v1 l=some ()):=by
 have key:∀ (t:List Head) (n:Nat) (i:Int) (m:List (Int×Int)),t.length≤n→0≤i→i≤(l.length:Int)→l.drop i.toNat=t→(∀ h,h∈l.take i.toNat→okH h)→CntM m (l.take i.toNat) →
   (hdB (l.take i.toNat) t=true→∃ m',iter (fun s=>g_intake_heads_l1 l s.1 s.2) (n+1) (i,m)=some m'∧CntM m' l)∧(hdB (l.take i.toNat) t=false→iter (fun s=>g_intake_heads_l1 l s.1 s.2) (n+1) (i,m)=none∧iter (fun s=>g_intake_heads_v1_l1 l s.1 s.2) (n+1) (i,m)=some ()):=by
  intro t
  induction t with
  | nil =>
   intro n i m hn h0 h1 hd hok hm
   have hlen:l.length≤i.toNat:=by
    have:=congrArg List.length hd
    rw [List.length_drop] at this
    simp only [List.length_nil] at this
    omega
   refine ⟨fun _=>⟨m,?_,?_⟩,fun h=>by simp [hdB] at h⟩
   ·refine iter_inr ?_
    show g_intake_heads_l1 l i m=_
    unfold g_intake_heads_l1
    rw [if_neg (by simp only [decide_eq_true_eq]; omega)]
   ·rwa [List.take_of_length_le hlen] at hm
  | cons x t ih =>
   intro n i m hn h0 h1 hd hok hm
   have hlen:i.toNat < l.length:=by
    have:=congrArg List.length hd
    rw [List.length_drop] at this
    simp only [List.length_cons] at this
    omega
   have hx:nth l i.toNat=x:=by
    have:=drop_nth (l:=l) (k:=i.toNat) hlen
    rw [hd] at this
    exact (List.cons.inj this).1.symm
   have hd':l.drop (i+1).toNat=t:=by
    have:=drop_nth (l:=l) (k:=i.toNat) hlen
    rw [hd] at this
    rw [show (i+1).toNat=i.toNat+1 from by omega]
    exact (List.cons.inj this).2.symm
   have hc:=headC (x:=x) (d:=l.take i.toNat) rfl (nextF_pos _ (by omega) hok)
   by_cases hq:okH x∧x.number=nextF x.source 1 (l.take i.toNat)
   ·have hq1:=hq.1
    have hb:=cntH_bd x.source hok
    rw [List.length_take] at hb
    unfold okH at hq1
    have htk:l.take (i+1).toNat=l.take i.toNat++[x]:=by rw [show (i+1).toNat=i.toNat+1 from by omega,take_nth hlen,hx]
    have hok':∀ h,h∈l.take (i+1).toNat→okH h:=by
     rw [htk]; intro y hy
     rcases List.mem_append.1 hy with hy | hy
     ·exact hok y hy
     ·simp at hy; subst hy; exact hq.1
    have hm':=hm.step x
    rw [←htk] at hm'
    have hb2:=hm x.source
    obtain ⟨n,rfl⟩:∃ k,n=k+1:=⟨n-1,by simp only [List.length_cons] at hn; omega⟩
    have:=ih n (i+1) _ (by simp only [List.length_cons] at hn; omega) (by omega) (by omega) hd' hok' hm'
    have e1:g_intake_heads_l1 l i m=some (.inl (i+1,aset m x.source ((alook m x.source).getD 0+x.count))):=by
     unfold g_intake_heads_l1
     rw [if_pos (by simp only [decide_eq_true_eq]; omega),ck_pos (by omega),ck_pos (by omega),hx,p_nx l i h0 h1 _ hl hok]
     simp only [Option.bind_some]
     rw [hc,if_neg (by simp [hq]),ck_pos (by omega),ck_pos (by omega)]
    have e2:g_intake_heads_v1_l1 l i m=some (.inl (i+1,aset m x.source ((alook m x.source).getD 0+x.count))):=by
     unfold g_intake_heads_v1_l1
     rw [if_pos (by simp only [decide_eq_true_eq]; omega),ck_pos (by omega),ck_pos (by omega),hx,p_nx l i h0 h1 _ hl hok]
     simp only [Option.bind_some]
     rw [hc,if_neg (by simp [hq]),ck_pos (by omega),ck_pos (by omega)]
    rw [iter_inl (step:=fun s:Int×List (Int×Int)=>g_intake_heads_l1 l s.1 s.2) (s:=(i,m)) e1,iter_inl (step:=fun s:Int×List (Int×Int)=>g_intake_heads_v1_l1 l s.1 s.2) (s:=(i,m)) e2]
    simp only [hdB,decide_eq_true hq,Bool.true_and]
    rw [←htk]
    exact this
   ·simp only [hdB,decide_eq_false hq,Bool.false_and]
    refine ⟨fun h=>(Bool.false_ne_true h).elim,fun _=>?_⟩
    have e1:g_intake_heads_l1 l i m=none:=by
     unfold g_intake_heads_l1
     rw [if_pos (by simp only [decide_eq_true_eq]; omega),ck_pos (by omega),ck_pos (by omega),hx,p_nx l i h0 h1 _ hl hok]
     simp only [Option.bind_some]
     rw [hc,if_pos (by simp [hq])]
    have e2:g_intake_heads_v1_l1 l i m=some (.inr ()):=by
     unfold g_intake_heads_v1_l1
     rw [if_pos (by simp only [decide_eq_true_eq]; omega),ck_pos (by omega),ck_pos (by omega),hx,p_nx l i h0 h1 _ hl hok]
     simp only [Option.bind_some]
     rw [hc,if_pos (by simp [hq])]
    exact ⟨iter_none (step:=fun s:Int×List (Int×Int)=>g_intake_heads_l1 l s.1 s.2) (s:=(i,m)) e1,iter_inr (step:=fun s:Int×List (Int×Int)=>g_intake_heads_v1_l1 l s.1 s.2) (s:=(i,m)) e2⟩
 have:=key l 18446744073709551615 0 [] (by omega) (by omega) (by omega) rfl (by simp) (fun s=>by simp [alook_nil,cntH])
 exact this
theorem half {i j:Int} (h0:0≤i) (h1:i≤1000000) (h2:0≤j) (h3:j≤1000000):IntKind.wrap .i64 (Int.fdiv (IntKind.wrap .u64 (i+j)) (2 ^ (min (Int.toNat (1)) 64)))=(i+j) / 2:=by
 have e1:IntKind.wrap .u64 (i+j)=i+j:=by
  have:IntKind.wrap .u64 (i+j)=(i+j) % 18446744073709551616:=rfl
  rw [this]; omega
 have e2:Int.fdiv (i+j) (2 ^ (min (Int.toNat (1)) 64))=(i+j) / 2:=by
  rw [Int.fdiv_eq_ediv_of_nonneg _ (by decide)]; rfl
 rw [e1,e2]
 exact i64w (by omega) (by omega)
def PL (s n:Int) (r:Range):Prop:=r.source > s∨(r.source=s∧r.to_≥n)
instance (s n:Int) (r:Range):Decidable (PL s n r):=by unfold PL; infer_instance
theorem PL_mono {s n:Int} {a b:Range} (h:RLt a b) (hb:okR b) (hp:PL s n a):PL s n b:=by
 unfold PL RLt okR at *; omega
def plN (s n:Int) (l:List Range):Nat:=(l.takeWhile fun r=>!decide (PL s n r)).length
theorem plN_le (s n:Int) (l:List Range):plN s n l≤l.length:=(List.takeWhile_sublist _).length_le
theorem plN_cons (s n:Int) (r:Range) (l:List Range):plN s n (r :: l)=if PL s n r then 0 else plN s n l+1:=by
 unfold plN
 rw [List.takeWhile_cons]
 by_cases h:PL s n r <;> simp [h]
theorem plN_uniq (s n:Int):∀ {l:List Range} {k:Nat},k≤l.length→(∀ j,j < k→¬PL s n (nth l j))→(k < l.length→PL s n (nth l k))→plN s n l=k
 | [],k,hk,_,_=>by simp at hk; subst hk; rfl
 | r :: l,0,_,_,h=>by
  rw [plN_cons,if_pos]
  have:=h (by simp)
  rwa [nth_cons_zero] at this
 | r :: l,k+1,hk,h1,h2=>by
  have:=h1 0 (by omega)
  rw [nth_cons_zero] at this
  rw [plN_cons,if_neg this,plN_uniq s n (k:=k) (by simpa using hk) (fun j hj=>by
   have:=h1 (j+1) (by omega)
   rwa [nth_cons_succ] at this) (fun hk=>by
   have:=h2 (by simpa using hk)
   rwa [nth_cons_succ] at this)]
theorem Can.mono {l:List Range} (h:Can l) {s n:Int} {i j:Nat} (hij:i≤j) (hj:j < l.length) (hp:PL s n (nth l i)):PL s n (nth l j):=by
 by_cases e:i=j
 ·subst e; exact hp
 ·have:=List.pairwise_iff_getElem.1 h.srt i j (by omega) hj (by omega)
  rw [←nth_eq,←nth_eq] at this
  exact PL_mono this (h.ok _ (nth_mem hj)) hp
theorem p_Search (l:List Range) (s n:Int) (hc:Can l) (hl:l.length≤100000):g_sort_Search (l.length:Int) l s n=some (plN s n l:Int):=by
 unfold g_sort_Search
 obtain ⟨r,h1,h2⟩:=loop_post (step:=fun st:Int×Int=>g_sort_Search_l1 l s n st.1 st.2) (fun r=>r=(plN s n l:Int)) (fun st:Int×Int=>0≤st.1∧st.1≤st.2∧st.2≤(l.length:Int)∧(∀ k:Nat,(k:Int) < st.1→¬PL s n (nth l k))∧(st.2 < (l.length:Int)→PL s n (nth l st.2.toNat))) (fun st=>(st.2-st.1).toNat) (by
  rintro ⟨i,j⟩ ⟨a0,a1,a2,a3,a4⟩
  simp only at a0 a1 a2 a3 a4 ⊢
  unfold g_sort_Search_l1 g_dedup_place_1
  by_cases h:i < j
  ·rw [if_pos (by simpa using h),ck_pos (by omega),ck_pos (by omega),half a0 (by omega) (by omega) (by omega),ck_pos (by omega)]
   simp only [Option.bind_some]
   have e:((decide (((nth l ((i+j) / 2).toNat).source) > s)) || ((((nth l ((i+j) / 2).toNat).source)==s) && (decide (((nth l ((i+j) / 2).toNat).to_)≥n))))=decide (PL s n (nth l ((i+j) / 2).toNat)):=by
    rw [Bool.eq_iff_iff]; unfold PL; simp
   rw [e]
   by_cases hp:PL s n (nth l ((i+j) / 2).toNat)
   ·rw [if_neg (by simp [hp])]
    exact .inr ⟨_,rfl,⟨by omega,by simp only; omega,by simp only; omega,a3,fun _=>hp⟩,by simp only; omega⟩
   ·rw [if_pos (by simp [hp]),ck_pos (by omega)]
    refine .inr ⟨_,rfl,⟨by simp only; omega,by simp only; omega,a2,fun k hk hpk=>hp (hc.mono (i:=k) (by simp only at hk; omega) (by omega) hpk),a4⟩,by simp only; omega⟩
  ·rw [if_neg (by simpa using h)]
   refine .inl ⟨_,rfl,?_⟩
   have e:j=i:=by omega
   subst e
   have:=plN_uniq s n (l:=l) (k:=j.toNat) (by omega) (fun k hk=>a3 k (by omega)) (fun hk=>a4 (by omega))
   omega) (s:=((0:Int),(l.length:Int))) ⟨by simp,by simp,by simp,fun k hk=>by simp only at hk; omega,fun h=>by simp at h⟩ (by simp only; omega)
 rw [h1,h2]
theorem has_plN {l:List Range} (hc:Can l) (s n:Int):hasB l s n=(decide (plN s n l < l.length) && (decide ((nth l (plN s n l)).source=s) && decide ((nth l (plN s n l)).from_≤n))):=by
 induction l with
 | nil=>rfl
 | cons r l ih =>
  have hs:=List.pairwise_cons.1 hc.srt
  have hc':Can l:=⟨fun x hx=>hc.ok x (List.mem_cons_of_mem _ hx),hs.2⟩
  rw [plN_cons]
  by_cases hp:PL s n r
  ·rw [if_pos hp,nth_cons_zero]
   have hr:=hc.ok r (List.mem_cons_self ..)
   unfold hasB
   rw [List.any_cons]
   by_cases hh:r.source=s∧r.from_≤n
   ·have:n≤r.to_:=by unfold PL at hp; omega
    simp [hh.1,hh.2,this]
   ·have h1:decide (r.source=s∧r.from_≤n∧n≤r.to_)=false:=decide_eq_false (fun h=>hh ⟨h.1,h.2.1⟩)
    have h2:(l.any fun r=>decide (r.source=s∧r.from_≤n∧n≤r.to_))=false:=by
     rw [List.any_eq_false]
     intro x hx hx2
     have hx2:=of_decide_eq_true hx2
     have h3:=hs.1 x hx
     unfold PL RLt okR at *
     omega
    rw [h1,h2,Bool.or_false]
    have:(decide (r.source=s) && decide (r.from_≤n))=false:=by
     rw [←Bool.decide_and]; exact decide_eq_false hh
    rw [this,Bool.and_false]
  ·rw [if_neg hp,nth_cons_succ]
   have:hasB (r :: l) s n=hasB l s n:=by
    unfold hasB
    rw [List.any_cons,decide_eq_false (by unfold PL at hp; omega),Bool.false_or]
   rw [this,ih hc']
   simp
theorem p_Has (l:List Range) (s n:Int) (hc:Can l) (hl:l.length≤100000):f_dedup_Has l s n=some (hasB l s n && idB s n):=by
 unfold f_dedup_Has f_dedup_place
 rw [p_Search l s n hc hl]
 have hle:=plN_le s n l
 simp only [Option.bind_some,f_dedup_identity,ident_iff]
 rw [ck_pos (fun h=>by simp at h; omega),ck_pos (fun h=>by simp at h; omega),has_plN hc]
 congr 1
 unfold idB
 rw [show ((plN s n l:Nat):Int).toNat=plN s n l from by omega]
 have e:decide (((plN s n l:Nat):Int) < (l.length:Int))=decide (plN s n l < l.length):=by
  rw [Bool.eq_iff_iff,decide_eq_true_iff,decide_eq_true_iff]; omega
 rw [e]
 generalize decide ((1≤s∧s≤99)∧1≤n∧n≤999999999)=b1
 generalize decide (plN s n l < l.length)=b2
 rw [show ((nth l (plN s n l)).source==s)=decide ((nth l (plN s n l)).source=s) from rfl]
 generalize decide ((nth l (plN s n l)).source=s)=b3
 generalize decide ((nth l (plN s n l)).from_≤n)=b4
 cases b1 <;> cases b2 <;> cases b3 <;> cases b4 <;> rfl
theorem p_dCheck (l:List Range) (hl:l.length≤100000):f_dedup_Check l=some (canB none l):=by
 unfold f_dedup_Check
 have:=loop_rec0 l (step:=fun s=>f_dedup_Check_l1 l s) (fun s:Int=>s) (fun s t=>some (canB (if s=0 then none else some (nth l (s-1).toNat)) t)) (fun s t=>s≠0→okR (nth l (s-1).toNat)) (by omega) (s:=0) ?_ ?_ rfl (by simp)
 ·exact this
 ·intro i _ hi
  unfold f_dedup_Check_l1
  rw [if_neg (by simp only [decide_eq_true_eq]; omega)]
  exact ⟨_,rfl,by simp [canB]⟩
 ·intro i r t hpv hi0 hi1 hx hlen
  unfold f_dedup_Check_l1
  rw [if_pos (by simpa using hi1),ck_pos ⟨hi0,hi1⟩,hx]
  simp only [f_dedup_identity,ident_iff,Option.bind_some,Bool.not_not,gcall_mk]
  have e1:(i+1=0)=False:=by simp; omega
  have e2:(i+1-1).toNat=i.toNat:=by omega
  by_cases hr:okR r
  ·have hr':=hr
   unfold okR at hr'
   have d1:decide ((1≤r.source∧r.source≤99)∧1≤r.from_∧r.from_≤999999999)=true:=by simp; omega
   have d2:decide ((1≤r.source∧r.source≤99)∧1≤r.to_∧r.to_≤999999999)=true:=by simp; omega
   simp only [d1,d2,if_true,Bool.not_true,Bool.false_or]
   rw [if_neg (by simp; omega)]
   by_cases h0:i=0
   ·subst h0
    rw [if_neg (by simp),ck_pos (by omega)]
    refine .inr ⟨_,rfl,fun _=>?_,rfl,?_⟩
    ·rw [e2,hx]; exact hr
    ·simp only [e1,if_false,e2,hx,if_true]
     simp only [canB,decide_eq_true hr,Bool.true_and]
   ·have hp:=hpv h0
    have hgt:i > 0:=by omega
    rw [if_neg h0]
    rw [if_pos (by simpa using hgt),ck_pos (by omega),ck_pos (by omega)]
    generalize nth l (i-1).toNat=p at hp ⊢
    have hp':=hp
    unfold okR at hp'
    rw [ck_pos (fun _=>by omega)]
    by_cases hlt:RLt p r
    ·have hlt':=hlt
     unfold RLt at hlt'
     rw [if_neg (by simp; omega),ck_pos (by omega)]
     refine .inr ⟨_,rfl,fun _=>?_,rfl,?_⟩
     ·rw [e2,hx]; exact hr
     ·simp only [e1,if_false,e2,hx]
      simp only [canB,decide_eq_true (And.intro hr hlt),Bool.true_and]
    ·have hlt':=hlt
     unfold RLt at hlt'
     rw [if_pos (by simp; omega)]
     exact .inl ⟨_,rfl,by simp only [canB,decide_eq_false (fun h:okR r∧RLt p r=>hlt h.2),Bool.false_and]⟩
  ·have hr':=hr
   unfold okR at hr'
   rw [if_pos (by
    by_cases d1:(1≤r.source∧r.source≤99)∧1≤r.from_∧r.from_≤999999999
    ·by_cases d2:(1≤r.source∧r.source≤99)∧1≤r.to_∧r.to_≤999999999
     ·simp only [decide_eq_true d1,decide_eq_true d2,if_true,Bool.not_true,Bool.false_or,decide_eq_true_eq]; omega
     ·simp only [decide_eq_true d1,decide_eq_false d2,if_true,Bool.not_true,Bool.not_false,Bool.false_or,Bool.true_or]
    ·simp only [decide_eq_false d1,Bool.not_false,Bool.true_or])]
   refine .inl ⟨_,rfl,?_⟩
   by_cases h0:i=0
   ·simp [h0,canB,hr]
   ·simp [h0,canB,hr]
theorem chn_hitL {x r:Record} {n:Int} {l:List Record} (hc:callB r x=true∧r.part=n) (hl:r.last=true):chn true x n (r :: l)=([r],l):=by
 rw [chn,if_pos hc,if_pos ⟨rfl,hl⟩]
theorem chn_hitN {x r:Record} {n:Int} {l:List Record} (hc:callB r x=true∧r.part=n) (hl:¬r.last=true):chn true x n (r :: l)=(r :: (chn true x (n+1) l).1,(chn true x (n+1) l).2):=by
 rw [chn,if_pos hc,if_neg (fun h=>hl h.2)]
theorem chn_miss {x r:Record} {n:Int} {l:List Record} (hc:¬(callB r x=true∧r.part=n)):chn true x n (r :: l)=((chn true x n l).1,r :: (chn true x n l).2):=by
 rw [chn,if_neg hc]
theorem chn_done {x:Record}:∀ {n:Int} {pre:List Record} (post:List Record),(chn true x n pre).1.getLast?.map (·.last)=some true→(chn true x n (pre++post)).1=(chn true x n pre).1
 | n,[],post,h=>by simp [chn] at h
 | n,r :: l,post,h=>by
  rw [List.cons_append]
  by_cases hc:callB r x=true∧r.part=n
  ·by_cases hl:r.last=true
   ·rw [chn_hitL hc hl,chn_hitL hc hl]
   ·rw [chn_hitN hc hl] at h ⊢
    rw [chn_hitN hc hl]
    simp only at h ⊢
    have hne:(chn true x (n+1) l).1≠[]:=by
     intro e
     rw [e] at h
     simp at h
     exact hl h
    have h':(chn true x (n+1) l).1.getLast?.map (·.last)=some true:=by
     rw [←h]
     cases hcc:(chn true x (n+1) l).1 with
     | nil=>exact absurd hcc hne
     | cons y t=>simp [List.getLast?_cons_cons]
    rw [chn_done post h']
  ·rw [chn_miss hc] at h ⊢
   rw [chn_miss hc]
   exact chn_done post h
theorem pre_nc {pre post:List Record} (h:∀ x,complF (chn true x 1 (pre++post)).1=none) (x:Record):complF (chn true x 1 pre).1=none:=by
 cases hc:complF (chn true x 1 pre).1 with
 | none=>rfl
 | some w =>
  have:=chn_done post (complF_last hc).2
  have h2:=h x
  rw [this,hc] at h2
  cases h2
theorem insP_end:∀ {l:List Record} {p:Record},(∀ y,y∈l→Le y p)→insP l p=l++[p]
 | [],p,_=>rfl
 | y :: l,p,h=>by
  have h1:=h y (List.mem_cons_self ..)
  unfold Le at h1
  unfold insP
  rw [if_neg h1,insP_end (fun z hz=>h z (List.mem_cons_of_mem _ hz)),List.cons_append]
theorem again_of {l:List Record} (h:Opn l):∀ (post pre:List Record),pre++post=l→joinF pre post=([],l)
 | [],pre,e=>by rw [←e,List.append_nil]; rfl
 | r :: post,pre,e=>by
  have hr:=h.ok r (by rw [←e]; simp)
  have hs:Srt (pre++r :: post):=by rw [e]; exact h.srt
  have hle:∀ y,y∈pre→Le y r:=fun y hy=>(List.pairwise_append.1 hs).2.2 y hy r (List.mem_cons_self ..)
  have e':(pre++[r])++post=l:=by rw [←e]; simp
  have hnc:complF (chn true r 1 (pre++[r])).1=none:=pre_nc (post:=post) (by rw [e']; exact h.nc) r
  have hst:stepJ pre r=([],pre++[r]):=by
   unfold stepJ
   rw [if_neg hr.2,insP_end hle]
   show joinL (pre.length+1+1) (pre++[r]) r=_
   unfold joinL
   rw [hnc]
  unfold joinF
  rw [hst,again_of h post (pre++[r]) e']
  rfl
theorem opn_nil:Opn []:=⟨List.Pairwise.nil,by simp,fun x=>by simp [chn,complF_nil]⟩
theorem again_iff {l:List Record} (hv:∀ r,r∈l→errF r=0):(joinF [] l).1=[]∧(joinF [] l).2=l↔Opn l:=by
 constructor
 ·rintro ⟨_,h2⟩
  have:=joinF_opn opn_nil hv
  rwa [h2] at this
 ·intro h
  rw [again_of h l [] rfl]
  exact ⟨rfl,rfl⟩
instance:DecidableEq Record:=fun a b=>decidable_of_iff _ (Record.eq_iff a b)
theorem joinF_len:∀ (now l:List Record),(joinF now l).2.length≤now.length+l.length
 | now,[]=>by simp [joinF]
 | now,r :: l=>by
  have h1:=stepJ_len now r
  have h2:=joinF_len (stepJ now r).2 l
  simp only [joinF,List.length_cons]
  omega
theorem p_eqRec (a b:List Record) (hl:a.length≤100000):f_api_Record a b=some (decide (a=b)):=by
 unfold f_api_Record
 by_cases he:a.length=b.length
 ·rw [if_neg (by simp [he])]
  refine (loop_rec0 a (fun s:Int=>s) (fun s t=>some (decide (t=b.drop s.toNat))) (fun s t=>t.length=(b.drop s.toNat).length) (by omega) ?_ ?_ (s:=0) rfl (by simpa using he)).trans (by simp)
  ·intro i hh hi
   unfold f_api_Record_l1
   rw [if_neg (by simp only [decide_eq_true_eq]; omega)]
   refine ⟨_,rfl,?_⟩
   have:b.drop i.toNat=[]:=by
    apply List.eq_nil_of_length_eq_zero; rw [←hh]; rfl
   rw [this]; simp
  ·intro i r t hh hi0 hi1 hx hlen
   unfold f_api_Record_l1
   rw [if_pos (by simpa using hi1),ck_pos ⟨hi0,hi1⟩,ck_pos (by omega),hx,drop_nth (l:=b) (k:=i.toNat) (by omega)]
   by_cases hq:r=nth b i.toNat
   ·rw [if_neg (by rw [(Record.eq_iff _ _).2 hq]; simp),ck_pos (by omega)]
    refine .inr ⟨_,rfl,?_,rfl,?_⟩
    ·rw [show (i+1).toNat=i.toNat+1 from by omega,List.length_drop]; omega
    ·rw [show (i+1).toNat=i.toNat+1 from by omega]
     congr 1
     rw [Bool.eq_iff_iff,decide_eq_true_iff,decide_eq_true_iff]
     simp [hq]
   ·have:eqVs r.vals (nth b i.toNat).vals=false:=by
     cases h:eqVs r.vals (nth b i.toNat).vals with
     | false=>rfl
     | true=>exact absurd ((Record.eq_iff _ _).1 h) hq
    rw [if_pos (by rw [this]; rfl)]
    refine .inl ⟨_,rfl,?_⟩
    congr 1
    rw [decide_eq_false_iff_not]
    intro h; exact hq (List.cons.inj h).1
 ·rw [if_pos (by simpa using fun h=>he (by omega))]
  congr 1
  symm
  rw [decide_eq_false_iff_not]
  intro h; exact he (by rw [h])
def opC (l:List Range):List Record→List Record→Bool
 | _,[]=>true
 | d,r :: t=>(okB r && !(d.any fun x=>sameId x r) && (hasB l r.source r.serial && idB r.source r.serial)) && opC l (d++[r]) t
theorem opC_eq (l:List Range):∀ (t d:List Record),opC l d t=(t.all okB && opB l d t)
 | [],d=>rfl
 | r :: t,d=>by
  simp only [opC,opB,List.all_cons,opC_eq l t]
  generalize okB r=b1
  generalize (d.any fun x=>sameId x r)=b2
  generalize (hasB l r.source r.serial && idB r.source r.serial)=b3
  generalize t.all okB=b4
  generalize opB l (d++[r]) t=b5
  revert b1 b2 b3 b4 b5
  decide
def FndM (m:List (IntakeIdentity×Bool)) (l:List Record):Prop:=∀ s n,(alook m (⟨s,n⟩:IntakeIdentity)).getD false=l.any fun x=>decide (x.source=s) && decide (x.serial=n)
theorem FndM.step {m:List (IntakeIdentity×Bool)} {l:List Record} (h:FndM m l) (x:Record):FndM (aset m (⟨x.source,x.serial⟩:IntakeIdentity) true) (l++[x]):=fun s n=>by
 rw [alook_aset,List.any_append,List.any_cons,List.any_nil,Bool.or_false,←h s n]
 by_cases he:x.source=s∧x.serial=n
 ·rw [if_pos (by rw [he.1,he.2]; simp),Option.getD_some,he.1,he.2]; simp
 ·rw [if_neg (by
   intro e
   have:=eq_of_beq e
   injection this with e1 e2
   exact he ⟨e1.symm,e2.symm⟩)]
  have:(decide (x.source=s) && decide (x.serial=n))=false:=by rw [←Bool.decide_and]; exact decide_eq_false he
  rw [this,Bool.or_false]
theorem p_copen1 (v:Intake) (m:List (IntakeIdentity×Bool)) (hl:v.open_.length≤1000) (hv:∀ r,r∈v.open_→okB r=true):f_intake_open_j1 v m=some (srtB none v.open_ && ncB v.open_ v.open_):=by
 unfold f_intake_open_j1
 have hv':∀ r,r∈v.open_→errF r=0:=fun r hr=>by
  have:=hv r hr
  simp only [okB,Bool.and_eq_true,decide_eq_true_eq] at this
  exact this.2
 rw [p_Join [] v.open_ opn_nil.wt hv' (by simpa using hl)]
 simp only [Option.bind_some]
 have hj:=joinF_len [] v.open_
 rw [p_eqRec _ _ (by simp at hj; omega),gcall_mk]
 simp only [Option.bind_some]
 congr 1
 rw [Bool.eq_iff_iff,opn_iff,←again_iff hv']
 cases h1:(joinF [] v.open_).1 with
 | nil=>simp
 | cons y t=>simp; omega
theorem p_copen (v:Intake) (hs:SmI v) (hc:Can v.seen):f_intake_open v=some (opC v.seen [] v.open_ && (srtB none v.open_ && ncB v.open_ v.open_)):=by
 unfold f_intake_open
 have hol:=hs.opens
 have hsl:=hs.seen
 refine (loop_rec0 v.open_ (fun st:Int×List (IntakeIdentity×Bool)=>st.1) (fun st t=>some (opC v.seen (v.open_.take st.1.toNat) t && (srtB none v.open_ && ncB v.open_ v.open_))) (fun st t=>FndM st.2 (v.open_.take st.1.toNat)∧∀ r,r∈v.open_.take st.1.toNat→okB r=true) (by omega) ?_ ?_ (s:=((0:Int),([]:List (IntakeIdentity×Bool)))) rfl ⟨fun s n=>by simp [alook_nil],by simp⟩).trans (by simp)
 ·rintro ⟨i,m⟩ ⟨_,hh⟩ hi
  simp only at hh hi ⊢
  rw [List.take_of_length_le (by omega)] at hh
  unfold f_intake_open_l1
  rw [if_neg (by simp only [decide_eq_true_eq]; omega),p_copen1 v m hol hh]
  exact ⟨_,rfl,by simp [opC]⟩
 ·rintro ⟨i,m⟩ r t ⟨hm,hh⟩ hi0 hi1 hx hlen
  simp only at hm hh hi0 hi1 hx hlen ⊢
  have hrm:r∈v.open_:=by rw [←hx]; exact nth_mem (by omega)
  unfold f_intake_open_l1
  rw [if_pos (by simpa using hi1),ck_pos ⟨hi0,hi1⟩,hx,p_Check r (hs.sm r hrm),gcall_mk]
  simp only [Option.bind_some]
  rw [p_Has v.seen _ _ hc (by omega),gcall_mk,hm]
  simp only [Option.bind_some]
  have e:(((((r.part==0) || ((if (!(r.part==0))=true then errF r else default) != 0)) || ((v.open_.take i.toNat).any fun x=>decide (x.source=r.source) && decide (x.serial=r.serial))) || (!(if (!(((r.part==0) || ((if (!(r.part==0))=true then errF r else default) != 0)) || ((v.open_.take i.toNat).any fun x=>decide (x.source=r.source) && decide (x.serial=r.serial))))=true then (hasB v.seen r.source r.serial && idB r.source r.serial) else default))))=!(okB r && !((v.open_.take i.toNat).any fun x=>sameId x r) && (hasB v.seen r.source r.serial && idB r.source r.serial)):=by
   have e1:((v.open_.take i.toNat).any fun x=>sameId x r)=((v.open_.take i.toNat).any fun x=>decide (x.source=r.source) && decide (x.serial=r.serial)):=rfl
   rw [e1]
   generalize ((v.open_.take i.toNat).any fun x=>decide (x.source=r.source) && decide (x.serial=r.serial))=b2
   generalize (hasB v.seen r.source r.serial && idB r.source r.serial)=b3
   unfold okB
   by_cases h1:r.part=0
   ·simp [h1]
   ·by_cases h2:errF r=0
    ·simp [h1,h2]; cases b2 <;> cases b3 <;> simp
    ·simp [h1,h2]
  rw [e]
  have htk:v.open_.take (i+1).toNat=v.open_.take i.toNat++[r]:=by rw [show (i+1).toNat=i.toNat+1 from by omega,take_nth (by omega),hx]
  cases hb:(okB r && !((v.open_.take i.toNat).any fun x=>sameId x r) && (hasB v.seen r.source r.serial && idB r.source r.serial)) with
  | false =>
   rw [if_pos (by simp)]
   exact .inl ⟨_,rfl,by simp only [opC,hb,Bool.false_and]⟩
  | true =>
   rw [if_neg (by simp),ck_pos (by omega)]
   refine .inr ⟨_,rfl,⟨?_,?_⟩,rfl,?_⟩
   ·simp only; rw [htk]; exact hm.step r
   ·simp only; rw [htk]
    intro y hy
    rcases List.mem_append.1 hy with hy | hy
    ·exact hh y hy
    ·simp at hy; subst hy
     simp only [Bool.and_eq_true] at hb
     exact hb.1.1
   ·simp only; rw [htk]; simp only [opC,hb,Bool.true_and]
def prB (hs:List Head):List Range→List Range→Bool
 | _,[]=>true
 | d,r :: t=>decide (cntR r.source (d++[r])≤cntH r.source hs) && prB hs (d++[r]) t
theorem cntR_app (s:Int):∀ (a b:List Range),cntR s (a++b)=cntR s a+cntR s b
 | [],b=>by simp [cntR]
 | r :: a,b=>by simp only [List.cons_append,cntR,cntR_app s a b]; omega
theorem ctB_iff (l:List Range) (hs:List Head):∀ (m:Nat) (s:Int),ctB l hs m s=true↔∀ k:Int,s≤k→k < s+m→cntR k l≤cntH k hs
 | 0,s=>by simp only [ctB,true_iff]; intro k h1 h2; omega
 | m+1,s=>by
  rw [ctB,Bool.and_eq_true,decide_eq_true_iff,ctB_iff l hs m (s+1)]
  constructor
  ·rintro ⟨h1,h2⟩ k h3 h4
   by_cases e:k=s
   ·subst e; exact h1
   ·exact h2 k (by omega) (by omega)
  ·intro h
   exact ⟨h s (by omega) (by omega),fun k h3 h4=>h k (by omega) (by omega)⟩
theorem prB_of (hs:List Head):∀ {t d:List Range},(∀ r,r∈t→okR r)→(∀ s,cntR s (d++t)≤cntH s hs)→prB hs d t=true
 | [],d,_,_=>rfl
 | r :: t,d,hk,h=>by
  have hk':∀ r,r∈t→okR r:=fun x hx=>hk x (List.mem_cons_of_mem _ hx)
  have e:(d++[r])++t=d++r :: t:=by simp
  rw [prB,prB_of hs hk' (by rw [e]; exact h),Bool.and_true,decide_eq_true_iff]
  have h1:=h r.source
  rw [←e,cntR_app] at h1
  have:=(cntR_bd r.source hk').1
  omega
theorem prB_to (hs:List Head):∀ {t d:List Range},prB hs d t=true→(∀ s,cntR s d≤cntH s hs)→∀ s,cntR s (d++t)≤cntH s hs
 | [],d,_,h,s=>by rw [List.append_nil]; exact h s
 | r :: t,d,hp,h,s=>by
  rw [prB,Bool.and_eq_true,decide_eq_true_iff] at hp
  have e:(d++[r])++t=d++r :: t:=by simp
  rw [←e]
  refine prB_to hs hp.2 (fun k=>?_) s
  by_cases he:r.source=k
  ·subst he; exact hp.1
  ·rw [cntR_app]; simp only [cntR,if_neg he]; have:=h k; omega
theorem cntR_out {s:Int} (hs:¬(1≤s∧s≤99)):∀ {l:List Range},(∀ r,r∈l→okR r)→cntR s l=0
 | [],_=>rfl
 | r :: l,h=>by
  have:=h r (List.mem_cons_self ..)
  unfold okR at this
  rw [cntR,if_neg (by omega),cntR_out hs (fun x hx=>h x (List.mem_cons_of_mem _ hx))]; rfl
theorem prB_ctB {l:List Range} {hs:List Head} (hl:∀ r,r∈l→okR r) (hh:∀ h,h∈hs→okH h):prB hs [] l=ctB l hs 99 1:=by
 rw [Bool.eq_iff_iff,ctB_iff]
 constructor
 ·intro h k _ _
  have:=prB_to hs h (fun s=>by rw [cntR]; exact (cntH_bd s hh).1) k
  simpa using this
 ·intro h
  refine prB_of hs hl (fun s=>?_)
  rw [List.nil_append]
  by_cases hs':1≤s∧s≤99
  ·exact h s hs'.1 (by omega)
  ·rw [cntR_out hs' hl]; exact (cntH_bd s hh).1
def SeenM (m:List (Int×Int)) (l:List Range):Prop:=∀ s,(alook m s).getD 0=cntR s l
theorem SeenM.step {m:List (Int×Int)} {l:List Range} (h:SeenM m l) (x:Range):SeenM (aset m x.source ((alook m x.source).getD 0+((x.to_-x.from_)+1))) (l++[x]):=fun s=>by
 rw [alook_aset,cntR_app]
 simp only [cntR]
 by_cases he:x.source=s
 ·rw [if_pos (by simpa using he.symm),if_pos he,Option.getD_some,h x.source,he]; omega
 ·rw [if_neg (by simpa using fun e:s=x.source=>he e.symm),if_neg he,h s]; omega
theorem p_cnt (v:Intake) (m:List (Int×Int)) (hm:CntM m v.heads) (hok:∀ r,r∈v.seen→okR r) (hl:v.seen.length≤1000):loop (fun s:Int×List (Int×Int)=>f_intake_Check_l1 v m s.1 s.2) (0,([]:List (Int×Int)))=some (prB v.heads [] v.seen):=by
 refine (loop_rec0 v.seen (fun st:Int×List (Int×Int)=>st.1) (fun st t=>some (prB v.heads (v.seen.take st.1.toNat) t)) (fun st t=>SeenM st.2 (v.seen.take st.1.toNat)) (by omega) ?_ ?_ (s:=((0:Int),([]:List (Int×Int)))) rfl (fun s=>by simp [alook_nil,cntR])).trans (by simp)
 ·rintro ⟨i,e⟩ _ hi
  simp only at hi ⊢
  unfold f_intake_Check_l1
  rw [if_neg (by simp only [decide_eq_true_eq]; omega)]
  exact ⟨_,rfl,rfl⟩
 ·rintro ⟨i,e⟩ r t he hi0 hi1 hx hlen
  simp only at he hi0 hi1 hx hlen ⊢
  have hr:=hok r (by rw [←hx]; exact nth_mem (by omega))
  unfold okR at hr
  have hb:=cntR_bd r.source (l:=v.seen.take i.toNat) (fun x hx=>hok x (List.mem_of_mem_take hx))
  rw [List.length_take] at hb
  have hs:=he r.source
  have htk:v.seen.take (i+1).toNat=v.seen.take i.toNat++[r]:=by rw [show (i+1).toNat=i.toNat+1 from by omega,take_nth (by omega),hx]
  have hst:=he.step r
  unfold f_intake_Check_l1
  rw [if_pos (by simpa using hi1),ck_pos ⟨hi0,hi1⟩,hx,ck_pos (by omega),ck_pos (by omega),ck_pos (by omega),hst r.source,hm r.source]
  by_cases hc:cntR r.source (v.seen.take i.toNat++[r])≤cntH r.source v.heads
  ·rw [if_neg (by simp only [decide_eq_true_eq]; omega),ck_pos (by omega)]
   refine .inr ⟨_,rfl,?_,rfl,?_⟩
   ·simp only; rw [htk]; exact hst
   ·simp only; rw [htk]; simp only [prB,decide_eq_true hc,Bool.true_and]
  ·rw [if_pos (by simp only [decide_eq_true_eq]; omega)]
   exact .inl ⟨_,rfl,by simp only [prB,decide_eq_false hc,Bool.false_and]⟩
theorem p_ck (v:Intake) (hs:SmI v):f_intake_Check v=some (ckF v):=by
 have h16:=hs.heads
 have h17:=hs.seen
 unfold f_intake_Check
 obtain ⟨hT,hF⟩:=p_heads v.heads (by omega)
 unfold ckF
 cases h1:hdB [] v.heads with
 | false =>
  obtain ⟨e1,e2⟩:=hF h1
  rw [if_neg (by rw [e1]; simp),e2]
  simp [gcall]
 | true =>
  obtain ⟨m,e1,hm⟩:=hT h1
  have hh:=hdB_ok h1
  rw [if_pos (by rw [e1]; rfl),e1,p_dCheck v.seen (by omega)]
  simp only [Option.bind_some,Bool.not_not,gcall,if_true]
  cases h2:canB none v.seen with
  | false=>simp
  | true =>
   have hc:=(can_iff _).1 h2
   simp only [Bool.not_true,Bool.or_self,Bool.not_false,if_true]
   rw [p_copen v hs hc,opC_eq]
   simp only [Option.bind_some]
   cases h3:(srtB none v.open_ && ncB v.open_ v.open_) with
   | false=>simp
   | true =>
    have ha:v.open_.all okB=true:=by
     have:=(opn_iff _).1 h3
     rw [List.all_eq_true]
     intro r hr
     have:=this.ok r hr
     simp [okB,this.1,this.2]
    rw [ha]
    cases h5:opB v.seen [] v.open_ with
    | false=>simp
    | true =>
     simp only [Bool.and_true,Bool.not_true,Bool.or_self,Bool.false_eq_true,if_false,Bool.true_and]
     rw [p_cnt v m hm hc.ok (by omega),prB_ctB hc.ok hh]
def TL (s n:Int) (r:Range):Prop:=r.source=s∧r.to_+1=n
def TR (s n:Int) (r:Range):Prop:=r.source=s∧r.from_-1=n
instance (s n:Int) (r:Range):Decidable (TL s n r):=by unfold TL; infer_instance
instance (s n:Int) (r:Range):Decidable (TR s n r):=by unfold TR; infer_instance
def dA (s n:Int) (out:List Range) (done:Bool) (f t:Int):List Range→List Range
 | []=>if done=true then out else out++[⟨s,f,t⟩]
 | r :: l=>if TL s n r then dA s n out done r.from_ t l
  else if TR s n r then dA s n out done f r.to_ l
  else if done=true∨¬PL s n r then dA s n (out++[r]) done f t l
  else dA s n (out++[⟨s,f,t⟩,r]) true f t l
def addR (s n f:Int):List Range→List Range
 | []=>[⟨s,f,n⟩]
 | r :: l=>if TR s n r then ⟨s,f,r.to_⟩ :: l else ⟨s,f,n⟩ :: r :: l
def addF (s n:Int):List Range→List Range
 | []=>[⟨s,n,n⟩]
 | r :: l=>if PL s n r then addR s n n (r :: l) else if TL s n r then addR s n r.from_ l else r :: addF s n l
theorem dA_done {s n f t:Int}:∀ {l out:List Range},(∀ r,r∈l→¬TL s n r∧¬TR s n r)→dA s n out true f t l=out++l
 | [],out,_=>by simp [dA]
 | r :: l,out,h=>by
  have hr:=h r (List.mem_cons_self ..)
  rw [dA,if_neg hr.1,if_neg hr.2,if_pos (.inl rfl),dA_done (fun x hx=>h x (List.mem_cons_of_mem _ hx))]
  simp
theorem dA_rest {s n f t:Int} {l out:List Range} (h:∀ r,r∈l→PL s n r∧¬TL s n r∧¬TR s n r):dA s n out false f t l=out++⟨s,f,t⟩ :: l:=by
 cases l with
 | nil=>simp [dA]
 | cons r l =>
  have hr:=h r (List.mem_cons_self ..)
  rw [dA,if_neg hr.2.1,if_neg hr.2.2,if_neg (by simp [hr.1]),dA_done (fun x hx=>(h x (List.mem_cons_of_mem _ hx)).2)]
  simp
theorem dA_R {s n f:Int} {l out:List Range} (hc:Can l) (h:∀ r,r∈l→PL s n r) (hh:hasB l s n=false):dA s n out false f n l=out++addR s n f l:=by
 cases l with
 | nil=>simp [dA,addR]
 | cons r l =>
  have hr:=h r (List.mem_cons_self ..)
  have ho:=hc.ok r (List.mem_cons_self ..)
  have hs:=List.pairwise_cons.1 hc.srt
  have hn:¬(r.source=s∧r.from_≤n∧n≤r.to_):=by
   have:=List.any_eq_false.1 hh r (List.mem_cons_self ..)
   simpa using this
  have h1:¬TL s n r:=by unfold TL; unfold PL at hr; omega
  have h2:∀ x,x∈l→PL s n x∧¬TL s n x∧¬TR s n x:=fun x hx=>by
   have h3:=hs.1 x hx
   have h4:=h x (List.mem_cons_of_mem _ hx)
   have h5:=hc.ok x (List.mem_cons_of_mem _ hx)
   refine ⟨h4,?_,?_⟩
   ·unfold TL; unfold PL at h4; omega
   ·unfold TR; unfold RLt at h3; unfold okR at ho; unfold PL at hr; omega
  rw [dA,if_neg h1,addR]
  by_cases h3:TR s n r
  ·rw [if_pos h3,if_pos h3,dA_rest h2]
  ·rw [if_neg h3,if_neg h3,if_neg (by simp [hr]),dA_done (fun x hx=>(h2 x hx).2)]
   simp
theorem Can.tail {r:Range} {l:List Range} (h:Can (r :: l)):Can l:=⟨fun x hx=>h.ok x (List.mem_cons_of_mem _ hx),(List.pairwise_cons.1 h.srt).2⟩
theorem has_tail {r:Range} {l:List Range} {s n:Int} (h:hasB (r :: l) s n=false):hasB l s n=false:=by
 unfold hasB at *
 rw [List.any_cons,Bool.or_eq_false_iff] at h
 exact h.2
theorem dA_add {s n:Int}:∀ {l out:List Range},Can l→hasB l s n=false→dA s n out false n n l=out++addF s n l
 | [],out,_,_=>by simp [dA,addF]
 | r :: l,out,hc,hh=>by
  have ho:=hc.ok r (List.mem_cons_self ..)
  have hs:=List.pairwise_cons.1 hc.srt
  by_cases hp:PL s n r
  ·rw [addF,if_pos hp]
   exact dA_R hc (fun x hx=>by
    rcases List.mem_cons.1 hx with rfl | hx
    ·exact hp
    ·exact PL_mono (hs.1 x hx) (hc.ok x (List.mem_cons_of_mem _ hx)) hp) hh
  ·rw [addF,if_neg hp,dA]
   by_cases h1:TL s n r
   ·rw [if_pos h1,if_pos h1]
    exact dA_R hc.tail (fun x hx=>by
     have h3:=hs.1 x hx
     have h5:=hc.ok x (List.mem_cons_of_mem _ hx)
     unfold TL at h1; unfold RLt at h3; unfold okR at h5; unfold PL; omega) (has_tail hh)
   ·rw [if_neg h1,if_neg h1,if_neg (by unfold TR; unfold PL at hp; unfold okR at ho; omega),if_pos (.inr hp),dA_add hc.tail (has_tail hh)]
    simp
theorem p_rAdd (l:List Range) (s n:Int) (hc:Can l) (hl:l.length≤100000):f_r14_Add l s n=some (if idB s n=true∧hasB l s n=false then (addF s n l,true) else ([],false)):=by
 unfold f_r14_Add
 simp only [f_r14_identity,ident_iff,Option.bind_some,Bool.not_not]
 rw [show decide ((1≤s∧s≤99)∧1≤n∧n≤999999999)=idB s n from rfl,p_rHas l s n hl,gcall_mk]
 simp only [Option.bind_some]
 cases hi:idB s n with
 | false=>simp
 | true =>
  cases hh:hasB l s n with
  | true=>simp
  | false =>
   rw [if_neg (by simp),if_pos ⟨rfl,rfl⟩]
   have hi':=of_decide_eq_true hi
   refine (loop_rec0 l (fun st:List Range×Bool×Int×Int×Int=>st.2.2.1) (fun st t=>some (dA s n st.1 st.2.1 st.2.2.2.1 st.2.2.2.2 t,true)) (fun st t=>st.1.length+2*t.length≤500000∧∀ r,r∈t→okR r) (by omega) ?_ ?_ (s:=(([]:List Range),false,(0:Int),n,n)) rfl ⟨by simp; omega,hc.ok⟩).trans (by simp only; rw [dA_add hc hh]; simp)
   ·rintro ⟨o,d,i,f,t⟩ ⟨hb,_⟩ hi
    simp only at hb hi ⊢
    unfold f_r14_Add_l1 f_r14_Add_j1
    rw [if_neg (by simp only [decide_eq_true_eq]; omega)]
    cases d with
    | true=>exact ⟨_,rfl,by simp [dA]⟩
    | false =>
     rw [if_pos (by rfl),ck_pos (by simp; simp at hb; omega)]
     exact ⟨_,rfl,by simp [dA]⟩
   ·rintro ⟨o,d,i,f,t⟩ r tl ⟨hb,hk⟩ hi0 hi1 hx hlen
    simp only at hb hk hi0 hi1 hx hlen ⊢
    simp only [List.length_cons] at hb
    have hr:=hk r (List.mem_cons_self ..)
    have hk':∀ x,x∈tl→okR x:=fun x hx=>hk x (List.mem_cons_of_mem _ hx)
    unfold okR at hr
    unfold f_r14_Add_l1
    rw [if_pos (by simpa using hi1),ck_pos ⟨hi0,hi1⟩,hx,ck_pos (fun _=>by omega),ck_pos (fun _=>by omega)]
    rw [dA]
    by_cases h1:TL s n r
    ·have h1':=h1
     unfold TL at h1'
     rw [if_pos (by simp [h1'.1,h1'.2]),if_pos h1,ck_pos (by omega)]
     exact .inr ⟨_,rfl,⟨by simp only; omega,hk'⟩,rfl,rfl⟩
    ·have h1':=h1
     unfold TL at h1'
     rw [if_neg (by simpa using h1'),if_neg h1]
     by_cases h2:TR s n r
     ·have h2':=h2
      unfold TR at h2'
      rw [if_pos (by simp [h2'.1,h2'.2]),if_pos h2,ck_pos (by omega)]
      exact .inr ⟨_,rfl,⟨by simp only; omega,hk'⟩,rfl,rfl⟩
     ·have h2':=h2
      unfold TR at h2'
      rw [if_neg (by simpa using h2'),if_neg h2]
      by_cases h3:d=true∨¬PL s n r
      ·rw [if_pos (by
        unfold PL at h3
        simp only [Bool.or_eq_true,Bool.and_eq_true,beq_iff_eq,decide_eq_true_eq]
        rcases h3 with h3 | h3
        ·exact .inl (.inl h3)
        ·omega),if_pos h3,ck_pos (by simp; omega),ck_pos (by omega)]
       exact .inr ⟨_,rfl,⟨by simp; omega,hk'⟩,rfl,rfl⟩
      ·rw [if_neg (by
        unfold PL at h3
        simp only [Bool.or_eq_true,Bool.and_eq_true,beq_iff_eq,decide_eq_true_eq]
        rintro ((h4 | h4) | h4)
        ·exact h3 (.inl h4)
        ·exact h3 (.inr (by omega))
        ·exact h3 (.inr (by omega))),if_neg h3,ck_pos (by simp; omega),ck_pos (by omega)]
       exact .inr ⟨_,rfl,⟨by simp; omega,hk'⟩,rfl,rfl⟩
theorem at_mid {α:Type} [Inhabited α] {A B:List α} {x:α} {p:Nat} (h:A.length=p):nth (A++x :: B) p=x:=by
 subst h; rw [nth_eq (by simp)]; simp
theorem at_mid1 {α:Type} [Inhabited α] {A B:List α} {x b:α} {p:Nat} (h:A.length=p):nth (A++x :: b :: B) (p+1)=b:=by
 have:=at_mid (A:=A++[x]) (B:=B) (x:=b) (p:=p+1) (by simp [h])
 rwa [List.append_assoc,List.singleton_append] at this
theorem set_mid {α:Type} {A B:List α} {x y:α} {p:Nat} (h:A.length=p):(A++x :: B).set p y=A++y :: B:=by
 subst h; simp
theorem del_mid {α:Type} {A B:List α} {x b:α} {p:Nat} (h:A.length=p):(A++x :: b :: B).take (p+1)++(A++x :: b :: B).drop (p+2)=A++x :: B:=by
 subst h
 have e1:(A++x :: b :: B).take (A.length+1)=A++[x]:=by
  rw [show A++x :: b :: B=(A++[x])++b :: B from by simp,List.take_append_of_le_length (by simp),List.take_of_length_le (by simp)]
 have e2:(A++x :: b :: B).drop (A.length+2)=B:=by
  rw [show A++x :: b :: B=(A++[x,b])++B from by simp,show A.length+2=(A++[x,b]).length from by simp,List.drop_left]
 rw [e1,e2]; simp
def mrgL:List Range→Range→List Range→List Range
 | [],x,B=>x :: B
 | [a],x,B=>if a.source=x.source∧a.to_+1=x.from_ then ⟨a.source,a.from_,x.to_⟩ :: B else a :: x :: B
 | a :: b :: A,x,B=>a :: mrgL (b :: A) x B
theorem mrgL_snoc (x:Range) (B:List Range) (a:Range):∀ (A:List Range),mrgL (A++[a]) x B=if a.source=x.source∧a.to_+1=x.from_ then A++⟨a.source,a.from_,x.to_⟩ :: B else A++a :: x :: B
 | []=>by simp [mrgL]
 | [c]=>by simp only [List.singleton_append,mrgL]; split <;> simp
 | c :: d :: A=>by
  have:=mrgL_snoc x B a (d :: A)
  simp only [List.cons_append] at this ⊢
  rw [mrgL,this]
  split <;> simp
theorem p_ins1 (A B:List Range) (x:Range) (p:Int) (hp:(A.length:Int)=p) (hl:A.length+B.length≤500000) (hA:∀ a,a∈A→okR a):g_dedup_insert_j1 p (A++x :: B)=some (mrgL A x B):=by
 unfold g_dedup_insert_j1
 rcases List.eq_nil_or_concat A with rfl | ⟨A',a,rfl⟩
 ·simp only [List.length_nil] at hp
  have:p=0:=by omega
  subst this
  simp [gcall,mrgL,ck]
 ·rw [List.concat_eq_append] at *
  have ha:=hA a (by simp)
  unfold okR at ha
  simp only [List.length_append,List.length_cons,List.length_nil] at hp hl
  have hgt:p > 0:=by omega
  have e1:(p-1).toNat=A'.length:=by omega
  have e2:p.toNat=A'.length+1:=by omega
  have e3:(p+1).toNat=A'.length+2:=by omega
  rw [List.append_assoc,List.singleton_append]
  simp only [hgt,decide_true,gcall,if_true]
  rw [ck_pos (fun _=>by omega),ck_pos (fun _=>by simp; omega),ck_pos (fun _=>by simp; omega),ck_pos (fun _=>by simp; omega),ck_pos (fun _=>by simp; omega),e1,e2,at_mid rfl,at_mid1 rfl]
  unfold f_dedup_touch
  rw [ck_pos (fun _=>by omega)]
  simp only [Option.bind_some,Bool.true_and]
  rw [mrgL_snoc]
  by_cases h:a.source=x.source∧a.to_+1=x.from_
  ·rw [if_pos (by simp [h.1,h.2]),if_pos h,ck_pos (by omega),ck_pos (by simp; omega),ck_pos (by simp),ck_pos (by simp; omega),ck_pos (by simp),ck_pos (by omega),set_mid rfl]
   unfold x_DeleteRange
   rw [ck_pos (by simp; omega),e2,e3,del_mid rfl]
   rfl
  ·rw [if_neg (by simpa using h),if_neg h]
def addB (s n:Int) (A:List Range):List Range→List Range
 | []=>mrgL A ⟨s,n,n⟩ []
 | b :: B'=>if TR s n b then mrgL A ⟨s,n,b.to_⟩ B' else mrgL A ⟨s,n,n⟩ (b :: B')
theorem addR_mrg {s n:Int} {A B:List Range} (hA:∀ a,a∈A→¬PL s n a) (hB:∀ b,b∈B→PL s n b) (hs:A.Pairwise RLt) (hk:∀ a,a∈A→okR a):addF s n (A++B)=addB s n A B:=by
 induction A with
 | nil =>
  cases B with
  | nil=>rfl
  | cons b B' =>
   rw [List.nil_append,addF,if_pos (hB b (List.mem_cons_self ..)),addR]
   simp only [addB]
   split <;> rfl
 | cons a A ih =>
  have h1:=hA a (List.mem_cons_self ..)
  have ih:=ih (fun x hx=>hA x (List.mem_cons_of_mem _ hx)) (List.pairwise_cons.1 hs).2 (fun x hx=>hk x (List.mem_cons_of_mem _ hx))
  rw [List.cons_append,addF,if_neg h1]
  cases A with
  | nil =>
   rw [List.nil_append]
   by_cases h2:TL s n a
   ·rw [if_pos h2]
    have h2':=h2
    unfold TL at h2'
    cases B with
    | nil=>simp [addR,addB,mrgL,h2'.1,h2'.2]
    | cons b B' =>
     simp only [addR,addB,mrgL]
     split <;> simp [h2'.1,h2'.2]
   ·rw [if_neg h2]
    have h2':¬(a.source=s∧a.to_+1=n):=h2
    cases B with
    | nil=>simp [addF,addB,mrgL,h2']
    | cons b B' =>
     rw [addF,if_pos (hB b (List.mem_cons_self ..))]
     simp only [addR,addB,mrgL]
     split <;> simp [h2']
  | cons c A' =>
   have h3:=(List.pairwise_cons.1 hs).1 c (List.mem_cons_self ..)
   have h4:=hA c (by simp)
   have h5:=hk c (by simp)
   rw [if_neg (by unfold TL; unfold RLt at h3; unfold PL at h4; unfold okR at h5; omega),ih]
   cases B with
   | nil=>simp only [addB,mrgL]
   | cons b B' =>
    simp only [addB]
    split <;> simp only [mrgL]
theorem plN_take (s n:Int):∀ (l:List Range),∀ a,a∈l.take (plN s n l)→¬PL s n a
 | [],a,h=>by simp at h
 | r :: l,a,h=>by
  rw [plN_cons] at h
  by_cases hp:PL s n r
  ·rw [if_pos hp] at h; simp at h
  ·rw [if_neg hp,List.take_succ_cons] at h
   rcases List.mem_cons.1 h with rfl | h
   ·exact hp
   ·exact plN_take s n l a h
theorem plN_drop {s n:Int}:∀ {l:List Range},Can l→∀ b,b∈l.drop (plN s n l)→PL s n b
 | [],_,b,h=>by simp at h
 | r :: l,hc,b,h=>by
  rw [plN_cons] at h
  by_cases hp:PL s n r
  ·rw [if_pos hp,List.drop_zero] at h
   rcases List.mem_cons.1 h with rfl | h
   ·exact hp
   ·exact PL_mono ((List.pairwise_cons.1 hc.srt).1 b h) (hc.ok b (List.mem_cons_of_mem _ h)) hp
  ·rw [if_neg hp,List.drop_succ_cons] at h
   exact plN_drop hc.tail b h
theorem p_place (l:List Range) (s n:Int) (hc:Can l) (hl:l.length≤100000):g_dedup_place s n l=some (plN s n l:Int):=by
 unfold g_dedup_place
 have e:∀ i j,g_sort_Search_v1_l1 s n l i j=g_sort_Search_l1 l s n i j:=fun i j=>by
  unfold g_sort_Search_v1_l1 g_sort_Search_l1
  have:∀ k,g_dedup_place_1_v1 k s n l=g_dedup_place_1 k l s n:=fun k=>by
   unfold g_dedup_place_1_v1 g_dedup_place_1
   by_cases h:(0:Int)≤k∧k < (l.length:Int)
   ·rw [ck_pos h,ck_pos h,ck_pos (by omega)]
   ·unfold ck; rw [if_neg h,if_neg h]
  simp only [this]
 have:g_sort_Search_v1 (l.length:Int) s n l=g_sort_Search (l.length:Int) l s n:=by
  unfold g_sort_Search_v1 g_sort_Search
  simp only [e]
 rw [this,p_Search l s n hc hl]; rfl
theorem p_gHas (l:List Range) (s n:Int) (hc:Can l) (hl:l.length≤100000):g_dedup_Has s n l=some (hasB l s n && idB s n):=by
 have hp:=p_place l s n hc hl
 have:=p_Has l s n hc hl
 have hle:=plN_le s n l
 unfold f_dedup_Has f_dedup_place at this
 rw [p_Search l s n hc hl] at this
 unfold g_dedup_Has
 rw [hp]
 simp only [Option.bind_some,f_dedup_identity] at this ⊢
 rw [ck_pos (fun h=>by simp at h; omega),ck_pos (fun h=>by simp at h; omega)] at this
 rw [ck_pos (fun h=>by simp at h; omega),ck_pos (fun h=>by simp at h; omega),ck_pos (fun h=>by simp at h; omega),ck_pos (fun h=>by simp at h; omega)]
 exact this
theorem p_ins_nil (A:List Range) (s n:Int) (p:Nat) (hp:g_dedup_place s n (A++[])=some (p:Int)) (hlA:A.length=p) (hl:A.length≤100000) (hkA:∀ a,a∈A→okR a):g_dedup_insert s n (A++[])=some (mrgL A ⟨s,n,n⟩ []):=by
 unfold g_dedup_insert
 rw [hp,Option.bind_some]
 unfold x_InsertRange
 rw [List.append_nil,ck_pos ⟨by omega,by omega,by simp,by simp; omega⟩,Option.bind_some,show ((p:Nat):Int).toNat=p from by omega,List.take_of_length_le (by omega),List.drop_of_length_le (by omega),List.append_nil]
 have hf:decide ((p:Int)+1 < ((A++[(⟨s,n,n⟩:Range)]).length:Int))=false:=by
  rw [decide_eq_false_iff_not,List.length_append,List.length_singleton]; omega
 simp only [hf]
 rw [ck_pos (by omega),ck_pos (fun h=>absurd h Bool.false_ne_true),ck_pos (fun h=>absurd h Bool.false_ne_true),ck_pos (fun h=>absurd h Bool.false_ne_true),ck_pos (fun h=>absurd h Bool.false_ne_true),ck_pos (fun h=>absurd h Bool.false_ne_true)]
 simp only [gcall,Bool.false_eq_true,if_false,Option.bind_some,Bool.false_and]
 exact p_ins1 A [] _ _ (by omega) (by rw [List.length_nil]; omega) hkA
theorem p_ins_cons (A B':List Range) (b:Range) (s n:Int) (p:Nat) (hp:g_dedup_place s n (A++b :: B')=some (p:Int)) (hlA:A.length=p) (hl:A.length+B'.length≤100000) (hkA:∀ a,a∈A→okR a) (hb:okR b) (hn:0≤n∧n≤999999999):g_dedup_insert s n (A++b :: B')=some (if TR s n b then mrgL A ⟨s,n,b.to_⟩ B' else mrgL A ⟨s,n,n⟩ (b :: B')):=by
 unfold g_dedup_insert
 rw [hp,Option.bind_some]
 unfold x_InsertRange
 have e3:((p:Int)+1).toNat=p+1:=by omega
 have e4:((p:Int)+2).toNat=p+2:=by omega
 have hlen:(A++b :: B').length=p+(B'.length+1):=by rw [List.length_append,List.length_cons,hlA]
 rw [ck_pos ⟨by omega,by omega,by simp,by rw [hlen,List.length_singleton]; omega⟩,Option.bind_some,show ((p:Nat):Int).toNat=p from by omega,List.take_append_of_le_length (by omega),List.take_of_length_le (by omega),show List.drop p (A++b :: B')=b :: B' from by rw [←hlA,List.drop_left],List.append_assoc,List.singleton_append]
 unfold okR at hb
 have hlen2:(A++(⟨s,n,n⟩:Range) :: b :: B').length=p+(B'.length+2):=by rw [List.length_append,List.length_cons,List.length_cons,hlA]
 have ht:decide ((p:Int)+1 < ((A++(⟨s,n,n⟩:Range) :: b :: B').length:Int))=true:=by rw [decide_eq_true_iff,hlen2]; omega
 simp only [ht]
 rw [ck_pos (by omega),ck_pos (fun _=>by rw [hlen2]; omega),ck_pos (fun _=>by rw [hlen2]; omega),ck_pos (fun _=>by omega),ck_pos (fun _=>by rw [hlen2]; omega),ck_pos (fun _=>by rw [hlen2]; omega),e3,at_mid hlA,at_mid1 hlA]
 unfold f_dedup_touch
 rw [ck_pos (fun _=>by simp only; omega)]
 simp only [gcall,if_true,Option.bind_some,Bool.true_and]
 by_cases h:TR s n b
 ·have h':=h
  unfold TR at h'
  rw [if_pos (by simp; omega),if_pos h,ck_pos (by omega),ck_pos (by rw [hlen2]; omega),ck_pos (by rw [hlen2]; omega),ck_pos (by rw [hlen2]; omega),ck_pos (by rw [hlen2]; omega),ck_pos (by omega),ck_pos (by omega),set_mid hlA]
  unfold x_DeleteRange
  have hlen3:(A++(⟨s,n,b.to_⟩:Range) :: b :: B').length=p+(B'.length+2):=by rw [List.length_append,List.length_cons,List.length_cons,hlA]
  rw [ck_pos (by rw [hlen3]; omega),e3,e4,del_mid hlA]
  simp only [Option.bind_some]
  exact p_ins1 A B' _ _ (by omega) (by omega) hkA
 ·have h':=h
  unfold TR at h'
  rw [if_neg (by simp; omega),if_neg h]
  exact p_ins1 A (b :: B') _ _ (by omega) (by rw [List.length_cons]; omega) hkA
theorem p_insert (l:List Range) (s n:Int) (hc:Can l) (hn:0≤n∧n≤999999999) (hl:l.length≤100000):g_dedup_insert s n l=some (addF s n l):=by
 have hp:=p_place l s n hc hl
 have hle:=plN_le s n l
 have hA:=plN_take s n l
 have hB:=plN_drop (s:=s) (n:=n) hc
 have hlA:(l.take (plN s n l)).length=plN s n l:=by rw [List.length_take]; omega
 have hlB:(l.drop (plN s n l)).length=l.length-plN s n l:=by rw [List.length_drop]
 have hkA:∀ a,a∈l.take (plN s n l)→okR a:=fun a ha=>hc.ok a (List.mem_of_mem_take ha)
 have hkB:∀ b,b∈l.drop (plN s n l)→okR b:=fun b hb=>hc.ok b (List.mem_of_mem_drop hb)
 have key:=addR_mrg hA hB (hc.srt.sublist (List.take_sublist _ _)) hkA
 have e:=List.take_append_drop (plN s n l) l
 cases hBc:l.drop (plN s n l) with
 | nil =>
  rw [hBc] at key e
  have:=p_ins_nil (l.take (plN s n l)) s n (plN s n l) (by rw [e]; exact hp) hlA (by omega) hkA
  rw [e] at this key
  rw [this,key]; rfl
 | cons b B' =>
  rw [hBc] at key e hlB
  rw [List.length_cons] at hlB
  have:=p_ins_cons (l.take (plN s n l)) B' b s n (plN s n l) (by rw [e]; exact hp) hlA (by omega) hkA (hkB b (by rw [hBc]; exact List.mem_cons_self ..)) hn
  rw [e] at this key
  rw [this,key]; rfl
def chkL (src:Int):List Record→Int
 | []=>0
 | r :: l=>if errF r=0 then (if r.source=src then chkL src l else 8) else errF r
def hdF (s n f:Int):Int:=if (s < 1∨99 < s)∨(n < 1∨999999999 < n) then 6 else if f < 1∨3 < f then 7 else 0
def chkF (b:Batch):Int:=if hdF b.source b.number b.format=0 then (if 4096 < b.records.length then 5 else chkL b.source b.records) else hdF b.source b.number b.format
def SmL (l:List Record):Prop:=∀ r,r∈l→r.a.length < 1000000000∧r.b.length < 1000000000
theorem SmL.nth {l:List Record} (h:SmL l) {k:Nat} (hk:k < l.length):(Go.Abs.nth l k).a.length < 1000000000∧(Go.Abs.nth l k).b.length < 1000000000:=by
 rw [nth_eq hk]; exact h _ (List.getElem_mem hk)
theorem p_checkL (b:Batch) (h:SmL b.records) (hl:b.records.length≤4096):loop (fun s=>f_batch_Check_l1 b s) 0=some (chkL b.source b.records):=by
 have:=loop_spec (step:=fun s=>f_batch_Check_l1 b s) (fun i:Int=>some (chkL b.source (b.records.drop i.toNat))) (fun i=>0≤i∧i≤(b.records.length:Int)) (fun i=>((b.records.length:Int) - i).toNat) (fun i hI=>by
  obtain ⟨h0,h1⟩:=hI
  show (∃ r,f_batch_Check_l1 b i=_∧_)∨∃ s',f_batch_Check_l1 b i=_∧_
  unfold f_batch_Check_l1
  by_cases hi:i < (b.records.length:Int)
  ·have hd:=drop_nth (l:=b.records) (k:=i.toNat) (by omega)
   have hs:=h.nth (k:=i.toNat) (by omega)
   rw [if_pos (by simpa using hi),ck_pos ⟨h0,hi⟩,p_Encode _ hs.1 hs.2,hd]
   generalize Go.Abs.nth b.records i.toNat=r at *
   simp only [Option.bind_some,chkL]
   by_cases he:errF r=0
   ·rw [if_neg (by simp [he]),if_pos he]
    by_cases hsrc:r.source=b.source
    ·rw [if_neg (by simp [hsrc]),if_pos hsrc,ck_pos (by omega)]
     refine .inr ⟨i+1,rfl,⟨by omega,by omega⟩,by omega,?_⟩
     rw [show (i+1).toNat=i.toNat+1 from by omega]
    ·rw [if_pos (by simpa using hsrc),if_neg hsrc]
     exact .inl ⟨_,rfl,rfl⟩
   ·rw [if_pos (by simpa using he),if_neg he]
    exact .inl ⟨_,rfl,rfl⟩
  ·rw [if_neg (by simpa using hi),List.drop_of_length_le (by omega)]
   exact .inl ⟨_,rfl,rfl⟩) (s:=0) ⟨by omega,by omega⟩ (by omega)
 simpa using this
theorem p_rcheckL (b:Batch) (h:SmL b.records) (hl:b.records.length≤4096):loop (fun s=>f_r12_Check_l1 b s) 0=some (chkL b.source b.records):=by
 have:=loop_spec (step:=fun s=>f_r12_Check_l1 b s) (fun i:Int=>some (chkL b.source (b.records.drop i.toNat))) (fun i=>0≤i∧i≤(b.records.length:Int)) (fun i=>((b.records.length:Int) - i).toNat) (fun i hI=>by
  obtain ⟨h0,h1⟩:=hI
  show (∃ r,f_r12_Check_l1 b i=_∧_)∨∃ s',f_r12_Check_l1 b i=_∧_
  unfold f_r12_Check_l1
  by_cases hi:i < (b.records.length:Int)
  ·have hd:=drop_nth (l:=b.records) (k:=i.toNat) (by omega)
   have hs:=h.nth (k:=i.toNat) (by omega)
   rw [if_pos (by simpa using hi),ck_pos ⟨h0,hi⟩,p_rError _ hs.1 hs.2,hd]
   generalize Go.Abs.nth b.records i.toNat=r at *
   simp only [Option.bind_some,chkL]
   by_cases he:errF r=0
   ·rw [if_neg (by simp [he]),if_pos he,ck_pos ⟨h0,hi⟩]
    by_cases hsrc:r.source=b.source
    ·rw [if_neg (by simp [hsrc]),if_pos hsrc,ck_pos (by omega)]
     refine .inr ⟨i+1,rfl,⟨by omega,by omega⟩,by omega,?_⟩
     rw [show (i+1).toNat=i.toNat+1 from by omega]
    ·rw [if_pos (by simpa using hsrc),if_neg hsrc]
     exact .inl ⟨_,rfl,rfl⟩
   ·rw [if_pos (by simpa using he),if_neg he]
    exact .inl ⟨_,rfl,rfl⟩
  ·rw [if_neg (by simpa using hi),List.drop_of_length_le (by omega)]
   exact .inl ⟨_,rfl,rfl⟩) (s:=0) ⟨by omega,by omega⟩ (by omega)
 simpa using this
theorem p_head (h:Head):f_batch_checkHead h=some (if hdF h.source h.number h.format=0 then (if h.count < 0∨4096 < h.count then 5 else 0) else hdF h.source h.number h.format):=by
 unfold f_batch_checkHead
 simp only [f_batch_within,Option.bind_some,gcall_mk]
 by_cases h1:(h.source < 1∨99 < h.source)∨(h.number < 1∨999999999 < h.number)
 ·have e:hdF h.source h.number h.format=6:=if_pos h1
  rw [e]
  show _=some (6:Int)
  by_cases hs:h.source < 1∨99 < h.source
  ·rw [if_pos (by simp; omega)]
  ·have hn:h.number < 1∨999999999 < h.number:=by omega
   rw [if_pos (by simp; omega)]
 ·by_cases h2:h.format < 1∨3 < h.format
  ·have e:hdF h.source h.number h.format=7:=by unfold hdF; rw [if_neg h1,if_pos h2]
   rw [e]
   show _=some (7:Int)
   rw [if_neg (by simp; omega),if_pos (by simp; omega)]
  ·have e:hdF h.source h.number h.format=0:=by unfold hdF; rw [if_neg h1,if_neg h2]
   rw [e]
   show _=some (if h.count < 0∨4096 < h.count then 5 else 0)
   rw [if_neg (by simp; omega),if_neg (by simp; omega)]
   by_cases h3:h.count < 0∨4096 < h.count
   ·rw [if_pos h3,if_pos (by simp; omega)]
   ·rw [if_neg h3,if_neg (by simp; omega)]
theorem p_rhead (s n f:Int):f_r12_head s n f=some (hdF s n f):=by
 unfold f_r12_head hdF
 by_cases h1:(s < 1∨99 < s)∨(n < 1∨999999999 < n)
 ·rw [if_pos h1,if_pos (by simp; omega)]
 ·rw [if_neg h1,if_neg (by simp; omega)]
  by_cases h2:f < 1∨3 < f
  ·rw [if_pos h2,if_pos (by simp; omega)]
  ·rw [if_neg h2,if_neg (by simp; omega)]
theorem p_bChk (b:Batch) (h:SmL b.records):f_batch_Check b=some (chkF b):=by
 unfold f_batch_Check f_batch_headOf chkF
 simp only [Option.bind_some,p_head]
 by_cases h1:hdF b.source b.number b.format=0
 ·simp only [h1,if_true]
  by_cases h2:4096 < b.records.length
  ·have h2':(b.records.length:Int) < 0∨4096 < (b.records.length:Int):=by omega
   rw [if_pos h2',if_pos h2]; rfl
  ·have h2':¬ ((b.records.length:Int) < 0∨4096 < (b.records.length:Int)):=by omega
   rw [if_neg h2',if_neg h2]
   exact p_checkL b h (by omega)
 ·simp only [if_neg h1]
  rw [if_pos (by simpa using h1)]
theorem p_rbChk (b:Batch) (h:SmL b.records):f_r12_Check b=some (chkF b):=by
 unfold f_r12_Check chkF
 simp only [Option.bind_some,p_rhead]
 by_cases h1:hdF b.source b.number b.format=0
 ·rw [if_neg (by simp [h1]),if_pos h1]
  by_cases h2:4096 < b.records.length
  ·rw [if_pos (by simp; omega),if_pos h2]
  ·rw [if_neg (by simp; omega),if_neg h2]
   exact p_rcheckL b h (by omega)
 ·rw [if_pos (by simpa using h1),if_neg h1]
theorem chkL_ok {s:Int}:∀ {l:List Record},chkL s l=0→∀ r,r∈l→errF r=0
 | [],_,r,h=>by cases h
 | x :: l,hc,r,h=>by
  rw [chkL] at hc
  by_cases he:errF x=0
  ·rw [if_pos he] at hc
   by_cases hs:x.source=s
   ·rw [if_pos hs] at hc
    rcases List.mem_cons.1 h with rfl | h
    ·exact he
    ·exact chkL_ok hc r h
   ·rw [if_neg hs] at hc; omega
  ·rw [if_neg he] at hc; exact absurd hc he
theorem chkF_ok {b:Batch} (h:chkF b=0):(1≤b.source∧b.source≤99)∧(1≤b.number∧b.number≤999999999)∧(1≤b.format∧b.format≤3)∧b.records.length≤4096∧∀ r,r∈b.records→errF r=0:=by
 unfold chkF at h
 by_cases h1:hdF b.source b.number b.format=0
 ·rw [if_pos h1] at h
  by_cases h2:4096 < b.records.length
  ·rw [if_pos h2] at h; omega
  ·rw [if_neg h2] at h
   unfold hdF at h1
   by_cases h3:(b.source < 1∨99 < b.source)∨(b.number < 1∨999999999 < b.number)
   ·rw [if_pos h3] at h1; omega
   ·rw [if_neg h3] at h1
    by_cases h4:b.format < 1∨3 < b.format
    ·rw [if_pos h4] at h1; omega
    ·exact ⟨by omega,by omega,by omega,by omega,chkL_ok h⟩
 ·rw [if_neg h1] at h; exact absurd h h1
theorem err_id {r:Record} (h:errF r=0):idB r.source r.serial=true:=by
 have g:=errF_good h
 have h1:=g.source
 have h2:=g.serial
 unfold idB
 rw [decide_eq_true_iff]
 exact ⟨by omega,by omega⟩
theorem addR_can {s n f:Int} {l:List Range} (hc:Can l) (hi:idB s n=true) (hf:1≤f∧f≤n) (h:∀ r,r∈l→PL s n r) (hh:hasB l s n=false):Can (addR s n f l)∧∀ p,okR p→(RLt p ⟨s,f,n⟩)→(∀ r,r∈l→RLt p r)→∀ x,x∈addR s n f l→RLt p x:=by
 have hi':=of_decide_eq_true hi
 cases l with
 | nil =>
  refine ⟨⟨fun x hx=>?_,by simp [addR]⟩,fun p hp h1 h2 x hx=>?_⟩
  ·simp [addR] at hx; subst hx; unfold okR; simp only; omega
  ·simp [addR] at hx; subst hx; exact h1
 | cons r l =>
  have hr:=h r (List.mem_cons_self ..)
  have ho:=hc.ok r (List.mem_cons_self ..)
  have hs:=List.pairwise_cons.1 hc.srt
  have hn:¬(r.source=s∧r.from_≤n∧n≤r.to_):=by
   have:=List.any_eq_false.1 hh r (List.mem_cons_self ..)
   simpa using this
  rw [addR]
  by_cases h3:TR s n r
  ·rw [if_pos h3]
   unfold TR at h3
   have ho':=ho
   unfold okR at ho'
   refine ⟨⟨fun x hx=>?_,List.pairwise_cons.2 ⟨fun x hx=>?_,hs.2⟩⟩,fun p hp h1 h2 x hx=>?_⟩
   ·rcases List.mem_cons.1 hx with rfl | hx
    ·unfold okR; simp only; omega
    ·exact hc.ok x (List.mem_cons_of_mem _ hx)
   ·have:=hs.1 x hx
    unfold RLt at this ⊢; simp only; omega
   ·rcases List.mem_cons.1 hx with rfl | hx
    ·unfold RLt at h1 ⊢; simp only at h1 ⊢; omega
    ·exact h2 x (List.mem_cons_of_mem _ hx)
  ·rw [if_neg h3]
   unfold TR at h3
   have ho':=ho
   unfold okR at ho'
   have hlt:RLt ⟨s,f,n⟩ r:=by
    unfold RLt; unfold PL at hr; simp only; omega
   refine ⟨⟨fun x hx=>?_,List.pairwise_cons.2 ⟨fun x hx=>?_,hc.srt⟩⟩,fun p hp h1 h2 x hx=>?_⟩
   ·rcases List.mem_cons.1 hx with rfl | hx
    ·unfold okR; simp only; omega
    ·exact hc.ok x hx
   ·rcases List.mem_cons.1 hx with rfl | hx
    ·exact hlt
    ·have:=hs.1 x hx
     unfold RLt at this hlt ⊢; simp only at hlt ⊢; omega
   ·rcases List.mem_cons.1 hx with rfl | hx
    ·exact h1
    ·exact h2 x hx
theorem addF_can {s n:Int} (hi:idB s n=true):∀ {l:List Range},Can l→hasB l s n=false→Can (addF s n l)∧∀ p,okR p→RLt p ⟨s,n,n⟩→(∀ r,r∈l→RLt p r)→∀ x,x∈addF s n l→RLt p x
 | [],hc,hh=>addR_can hc hi (by have:=of_decide_eq_true hi; omega) (by simp) hh
 | r :: l,hc,hh=>by
  have hi':=of_decide_eq_true hi
  have ho:=hc.ok r (List.mem_cons_self ..)
  have hs:=List.pairwise_cons.1 hc.srt
  have ho':=ho
  unfold okR at ho'
  by_cases hp:PL s n r
  ·rw [addF,if_pos hp]
   exact addR_can hc hi (by omega) (fun x hx=>by
    rcases List.mem_cons.1 hx with rfl | hx
    ·exact hp
    ·exact PL_mono (hs.1 x hx) (hc.ok x (List.mem_cons_of_mem _ hx)) hp) hh
  ·rw [addF,if_neg hp]
   by_cases h1:TL s n r
   ·rw [if_pos h1]
    have h1':=h1
    unfold TL at h1'
    have:=addR_can (f:=r.from_) hc.tail hi (by omega) (fun x hx=>by
     have h3:=hs.1 x hx
     have h5:=hc.ok x (List.mem_cons_of_mem _ hx)
     unfold RLt at h3; unfold okR at h5; unfold PL; omega) (has_tail hh)
    refine ⟨this.1,fun p hq h2 h3 x hx=>this.2 p hq ?_ (fun y hy=>h3 y (List.mem_cons_of_mem _ hy)) x hx⟩
    have:=h3 r (List.mem_cons_self ..)
    unfold RLt at this ⊢; simp only; omega
   ·rw [if_neg h1]
    unfold TL at h1
    unfold PL at hp
    obtain ⟨k1,k2⟩:=addF_can hi hc.tail (has_tail hh)
    refine ⟨⟨fun x hx=>?_,List.pairwise_cons.2 ⟨k2 r ho ?_ hs.1,k1.srt⟩⟩,fun p hq h2 h3 x hx=>?_⟩
    ·rcases List.mem_cons.1 hx with rfl | hx
     ·exact ho
     ·exact k1.ok x hx
    ·unfold RLt; simp only; omega
    ·rcases List.mem_cons.1 hx with rfl | hx
     ·exact h3 x (List.mem_cons_self ..)
     ·exact k2 p hq h2 (fun y hy=>h3 y (List.mem_cons_of_mem _ hy)) x hx
theorem addR_len (s n f:Int) (l:List Range):(addR s n f l).length≤l.length+1:=by
 cases l with
 | nil=>simp [addR]
 | cons r l=>rw [addR]; split <;> simp
theorem addF_len (s n:Int):∀ (l:List Range),(addF s n l).length≤l.length+1
 | []=>by simp [addF]
 | r :: l=>by
  have h1:=addR_len s n n (r :: l)
  have h2:=addR_len s n r.from_ l
  have h3:=addF_len s n l
  rw [addF]
  split
  ·exact h1
  ·split
   ·simp only [List.length_cons]; omega
   ·simp only [List.length_cons]; omega
abbrev Tri:=List Range×List Record×List Reject
def inW (w:Window) (r:Record):Prop:=¬(r.start < w.earliest∨r.start > w.latest)
instance (w:Window) (r:Record):Decidable (inW w r):=by unfold inW; infer_instance
def rjF (r:Record) (i e:Int):Reject:=⟨r.source,r.serial,i,e⟩
def dP (w:Window):List Range→Int→List Record→Tri
  | l,i,[]=>(l,[],[])
  | l,i,r :: t =>
    if inW w r then
      (if hasB l r.source r.serial=false then ((dP w (addF r.source r.serial l) (i+1) t).1,r :: (dP w (addF r.source r.serial l) (i+1) t).2.1,(dP w (addF r.source r.serial l) (i+1) t).2.2)
       else ((dP w l (i+1) t).1,(dP w l (i+1) t).2.1,rjF r i 13 :: (dP w l (i+1) t).2.2))
    else ((dP w l (i+1) t).1,(dP w l (i+1) t).2.1,rjF r i 15 :: (dP w l (i+1) t).2.2)
def gP:List Range→List (Int×Record)→Tri
 | l,[]=>(l,[],[])
 | l,p :: t =>
  if hasB l p.2.source p.2.serial=false then ((gP (addF p.2.source p.2.serial l) t).1,p.2 :: (gP (addF p.2.source p.2.serial l) t).2.1,(gP (addF p.2.source p.2.serial l) t).2.2)
  else ((gP l t).1,(gP l t).2.1,rjF p.2 p.1 13 :: (gP l t).2.2)
def pW (w:Window):Int→List Record→List (Int×Record)
 | i,[]=>[]
 | i,r :: t=>if inW w r then (i,r) :: pW w (i+1) t else pW w (i+1) t
def nW (w:Window):Int→List Record→List Reject
 | i,[]=>[]
 | i,r :: t=>if inW w r then nW w (i+1) t else rjF r i 15 :: nW w (i+1) t
def enR:Int→List Record→List (Int×Record)
 | i,[]=>[]
 | i,r :: t=>(i,r) :: enR (i+1) t
theorem dP_gP (w:Window):∀ (t:List Record) (l:List Range) (i:Int),(dP w l i t).1=(gP l (pW w i t)).1∧(dP w l i t).2.1=(gP l (pW w i t)).2.1∧(dP w l i t).2.2.Perm (nW w i t++(gP l (pW w i t)).2.2)
 | [],l,i=>⟨rfl,rfl,List.Perm.refl _⟩
 | r :: t,l,i=>by
  by_cases h:inW w r
  ·by_cases hh:hasB l r.source r.serial=false
   ·obtain ⟨a,b,c⟩:=dP_gP w t (addF r.source r.serial l) (i+1)
    simp only [dP,pW,nW,gP,if_pos h,if_pos hh]
    exact ⟨a,by rw [b],c⟩
   ·obtain ⟨a,b,c⟩:=dP_gP w t l (i+1)
    simp only [dP,pW,nW,gP,if_pos h,if_neg hh]
    exact ⟨a,b,(c.cons _).trans List.perm_middle.symm⟩
  ·obtain ⟨a,b,c⟩:=dP_gP w t l (i+1)
   simp only [dP,pW,nW,if_neg h]
   exact ⟨a,b,c.cons _⟩
theorem dP_idx (w:Window):∀ (t:List Record) (l:List Range) (i:Int),(∀ x,x∈(dP w l i t).2.2→i≤x.index)∧(dP w l i t).2.2.Pairwise (fun a b=>a.index < b.index)
 | [],l,i=>⟨fun x hx=>by simp [dP] at hx,by simp [dP]⟩
 | r :: t,l,i=>by
  by_cases h:inW w r
  ·by_cases hh:hasB l r.source r.serial=false
   ·obtain ⟨a,b⟩:=dP_idx w t (addF r.source r.serial l) (i+1)
    simp only [dP,if_pos h,if_pos hh]
    exact ⟨fun x hx=>by have:=a x hx; omega,b⟩
   ·obtain ⟨a,b⟩:=dP_idx w t l (i+1)
    simp only [dP,if_pos h,if_neg hh]
    refine ⟨fun x hx=>?_,List.pairwise_cons.2 ⟨fun x hx=>?_,b⟩⟩
    ·rcases List.mem_cons.1 hx with rfl | hx
     ·exact Int.le_refl _
     ·have:=a x hx; omega
    ·have:=a x hx; simp only [rjF]; omega
  ·obtain ⟨a,b⟩:=dP_idx w t l (i+1)
   simp only [dP,if_neg h]
   refine ⟨fun x hx=>?_,List.pairwise_cons.2 ⟨fun x hx=>?_,b⟩⟩
   ·rcases List.mem_cons.1 hx with rfl | hx
    ·exact Int.le_refl _
    ·have:=a x hx; omega
   ·have:=a x hx; simp only [rjF]; omega
theorem insR_pm (x:Reject):∀ (l:List Reject),(insR x l).Perm (x :: l)
 | []=>List.Perm.refl _
 | y :: l=>by
  rw [insR]
  split
  ·exact List.Perm.refl _
  ·exact ((insR_pm x l).cons y).trans (List.Perm.swap x y l)
theorem sortR_pm:∀ (l:List Reject),(sortR l).Perm l
 | []=>List.Perm.refl _
 | x :: l=>(insR_pm x _).trans ((sortR_pm l).cons x)
theorem insR_st (x:Reject):∀ {l:List Reject},l.Pairwise (fun a b=>a.index≤b.index)→(insR x l).Pairwise (fun a b=>a.index≤b.index)
 | [],_=>by simp [insR]
 | y :: l,h=>by
  have h':=List.pairwise_cons.1 h
  rw [insR]
  by_cases hxy:x.index≤y.index
  ·rw [if_pos hxy]
   refine List.pairwise_cons.2 ⟨fun z hz=>?_,h⟩
   rcases List.mem_cons.1 hz with rfl | hz
   ·exact hxy
   ·have:=h'.1 z hz; omega
  ·rw [if_neg hxy]
   refine List.pairwise_cons.2 ⟨fun z hz=>?_,insR_st x h'.2⟩
   rcases List.mem_cons.1 ((insR_pm x l).mem_iff.1 hz) with rfl | hz
   ·omega
   ·exact h'.1 z hz
theorem sortR_st:∀ (l:List Reject),(sortR l).Pairwise (fun a b=>a.index≤b.index)
 | []=>List.Pairwise.nil
 | x :: l=>insR_st x (sortR_st l)
theorem rej_uniq:∀ {l l':List Reject},l.Pairwise (fun a b=>a.index≤b.index)→l'.Pairwise (fun a b=>a.index < b.index)→l.Perm l'→l=l'
 | [],l',_,_,p=>by rw [List.Perm.nil_eq p]
 | a :: l,[],_,_,p=>by have:=p.length_eq; simp at this
 | a :: l,b :: l',h,h',p=>by
  have h1:=List.pairwise_cons.1 h
  have h2:=List.pairwise_cons.1 h'
  have e:a=b:=by
   rcases List.mem_cons.1 (p.mem_iff.1 (List.mem_cons_self ..)) with e | ha
   ·exact e
   ·rcases List.mem_cons.1 (p.mem_iff.2 (List.mem_cons_self ..)) with e | hb
    ·exact e.symm
    ·have:=h1.1 b hb
     have:=h2.1 a ha
     omega
  subst e
  rw [rej_uniq h1.2 h2.2 p.cons_inv]
theorem p_sort {l d:List Reject} (hd:d.Pairwise (fun a b=>a.index < b.index)) (p:d.Perm l) (hl:l.length≤100000):x_SortReject l=some d:=by
 unfold x_SortReject
 have hn:(l.map (·.index)).Nodup:=by
  refine (p.map (·.index)).nodup_iff.1 ?_
  rw [List.Nodup,List.pairwise_map]
  exact hd.imp (fun h=>by omega)
 rw [ck_pos ⟨by omega,hn⟩,rej_uniq (sortR_st l) hd ((sortR_pm l).trans p.symm)]
theorem gP_map (f:Int→Int):∀ (ps:List (Int×Record)) (l:List Range),gP l (ps.map fun p=>(f p.1,p.2))=((gP l ps).1,(gP l ps).2.1,(gP l ps).2.2.map fun x=>⟨x.source,x.serial,f x.index,x.err⟩)
 | [],l=>rfl
 | p :: t,l=>by
  simp only [List.map_cons,gP]
  by_cases hh:hasB l p.2.source p.2.serial=false
  ·simp only [if_pos hh,gP_map f t]
  ·simp only [if_neg hh,gP_map f t,List.map_cons,rjF]
theorem en_pos (full:List Int):∀ (ps:List (Int×Record)) (k:Int),0≤k→(∀ j,j < ps.length→nth full (k.toNat+j)=nth (ps.map (·.1)) j)→(enR k (ps.map (·.2))).map (fun p=>(nth full p.1.toNat,p.2))=ps
 | [],k,_,_=>rfl
 | p :: ps,k,h0,h=>by
  have h1:=h 0 (by simp)
  rw [Nat.add_zero,List.map_cons,nth_cons_zero] at h1
  simp only [List.map_cons,enR,h1]
  congr 1
  exact en_pos full ps (k+1) (by omega) (fun j hj=>by
   have:=h (j+1) (by simpa using hj)
   rw [List.map_cons,nth_cons_succ] at this
   rw [←this]; congr 1; omega)
theorem gP_idx {lo hi:Int}:∀ {ps:List (Int×Record)} {l:List Range},(∀ p,p∈ps→lo≤p.1∧p.1 < hi)→∀ x,x∈(gP l ps).2.2→lo≤x.index∧x.index < hi
 | [],l,_,x,hx=>by simp [gP] at hx
 | p :: t,l,h,x,hx=>by
  have h':=fun q hq=>h q (List.mem_cons_of_mem _ hq)
  rw [gP] at hx
  by_cases hh:hasB l p.2.source p.2.serial=false
  ·rw [if_pos hh] at hx; exact gP_idx h' x hx
  ·rw [if_neg hh] at hx
   rcases List.mem_cons.1 hx with rfl | hx
   ·exact h p (List.mem_cons_self ..)
   ·exact gP_idx h' x hx
theorem en_idx:∀ (t:List Record) (i:Int) (p:Int×Record),p∈enR i t→i≤p.1∧p.1 < i+t.length
 | [],i,p,h=>by simp [enR] at h
 | r :: t,i,p,h=>by
  rcases List.mem_cons.1 h with rfl | h
  ·simp only [List.length_cons]; omega
  ·have:=en_idx t (i+1) p h
   simp only [List.length_cons]; omega
theorem gP_len:∀ (ps:List (Int×Record)) (l:List Range),(gP l ps).2.1.length+(gP l ps).2.2.length=ps.length∧(gP l ps).1.length≤l.length+ps.length
 | [],l=>by simp [gP]
 | p :: t,l=>by
  rw [gP]
  by_cases hh:hasB l p.2.source p.2.serial=false
  ·have:=gP_len t (addF p.2.source p.2.serial l)
   have h2:=addF_len p.2.source p.2.serial l
   rw [if_pos hh]; simp only [List.length_cons]; omega
  ·have:=gP_len t l
   rw [if_neg hh]; simp only [List.length_cons]; omega
theorem pW_len (w:Window):∀ (t:List Record) (i:Int),(pW w i t).length+(nW w i t).length=t.length
 | [],i=>rfl
 | r :: t,i=>by
  have:=pW_len w t (i+1)
  rw [pW,nW]
  by_cases h:inW w r
  ·rw [if_pos h,if_pos h]; simp only [List.length_cons]; omega
  ·rw [if_neg h,if_neg h]; simp only [List.length_cons]; omega
theorem pW_mem (w:Window):∀ (t:List Record) (i:Int) (p:Int×Record),p∈pW w i t→i≤p.1∧p.1 < i+t.length∧nth t (p.1-i).toNat=p.2∧p.2∈t
 | [],i,p,h=>by simp [pW] at h
 | r :: t,i,p,h=>by
  have key:p∈pW w (i+1) t→i≤p.1∧p.1 < i+(r :: t).length∧nth (r :: t) (p.1-i).toNat=p.2∧p.2∈r :: t:=fun h=>by
   obtain ⟨a,b,c,d⟩:=pW_mem w t (i+1) p h
   refine ⟨by omega,by simp only [List.length_cons]; omega,?_,List.mem_cons_of_mem _ d⟩
   rw [show (p.1-i).toNat=(p.1-(i+1)).toNat+1 from by omega,nth_cons_succ]; exact c
  rw [pW] at h
  by_cases hw:inW w r
  ·rw [if_pos hw] at h
   rcases List.mem_cons.1 h with rfl | h
   ·refine ⟨Int.le_refl _,by simp only [List.length_cons]; omega,?_,List.mem_cons_self ..⟩
    rw [show (i-i).toNat=0 from by omega,nth_cons_zero]
   ·exact key h
  ·rw [if_neg hw] at h; exact key h
theorem gP_mem:∀ {ps:List (Int×Record)} {l:List Range} {r:Record},r∈(gP l ps).2.1→∃ p,p∈ps∧p.2=r
 | [],l,r,h=>by simp [gP] at h
 | p :: t,l,r,h=>by
  rw [gP] at h
  by_cases hh:hasB l p.2.source p.2.serial=false
  ·rw [if_pos hh] at h
   rcases List.mem_cons.1 h with rfl | h
   ·exact ⟨p,List.mem_cons_self ..,rfl⟩
   ·obtain ⟨q,h1,h2⟩:=gP_mem h; exact ⟨q,List.mem_cons_of_mem _ h1,h2⟩
  ·rw [if_neg hh] at h
   obtain ⟨q,h1,h2⟩:=gP_mem h; exact ⟨q,List.mem_cons_of_mem _ h1,h2⟩
theorem joinF_len2:∀ (now l:List Record),(joinF now l).1.length+(joinF now l).2.length≤now.length+l.length
 | now,[]=>by simp [joinF]
 | now,r :: l=>by
  have h1:=stepJ_len now r
  have h2:=joinF_len2 (stepJ now r).2 l
  simp only [joinF,List.length_cons,List.length_append]
  omega
theorem p_win (r:Record) (w:Window):f_validate_Window r w=some (if inW w r then 0 else 15):=by
 unfold f_validate_Window
 by_cases h:inW w r
 ·rw [if_pos h,if_neg (by unfold inW at h; simpa using h)]
 ·rw [if_neg h,if_pos (by unfold inW at h; have h':=Decidable.not_not.1 h; simpa using h')]
theorem p_rwin (r:Record) (w:Window):f_r13_Window r w=some (if inW w r then 0 else 15):=p_win r w
theorem p_timely (l:List Record) (w:Window) (hl:l.length≤100000):g_intake_timely l w=some ((pW w 0 l).map (·.1),nW w 0 l):=by
 unfold g_intake_timely
 refine (loop_rec0 l (fun st:List Reject×List Int×Int=>st.2.2) (fun st t=>some (st.2.1++(pW w st.2.2 t).map (·.1),st.1++nW w st.2.2 t)) (fun st t=>st.1.length+st.2.1.length+t.length≤100000) (by omega) ?_ ?_ (s:=(([]:List Reject),([]:List Int),(0:Int))) rfl (by simpa using hl)).trans (by simp)
 ·rintro ⟨y,a,i⟩ _ hi
  simp only at hi ⊢
  unfold g_intake_timely_l1
  rw [if_neg (by simp only [decide_eq_true_eq]; omega)]
  exact ⟨_,rfl,by simp [pW,nW]⟩
 ·rintro ⟨y,a,i⟩ r t hb hi0 hi1 hx hlen
  simp only at hb hi0 hi1 hx hlen ⊢
  simp only [List.length_cons] at hb
  unfold g_intake_timely_l1
  rw [if_pos (by simpa using hi1),ck_pos ⟨hi0,hi1⟩,hx,p_win,Option.bind_some]
  by_cases h:inW w r
  ·rw [if_pos h,if_neg (by simp),ck_pos (by simp only [List.length_singleton]; omega),ck_pos (by omega)]
   refine .inr ⟨_,rfl,by simp only [List.length_append,List.length_singleton]; omega,rfl,?_⟩
   simp only [pW,nW,if_pos h,List.map_cons,List.append_assoc,List.singleton_append]
  ·rw [if_neg h,if_pos (by simp),ck_pos (by simp only [List.length_singleton]; omega),ck_pos (by omega)]
   refine .inr ⟨_,rfl,by simp only [List.length_append,List.length_singleton]; omega,rfl,?_⟩
   simp only [pW,nW,if_neg h,rjF,List.append_assoc,List.singleton_append]
theorem p_filter (l:List Range) (recs:List Record) (hc:Can l) (hv:∀ r,r∈recs→errF r=0) (hl:l.length+recs.length≤50000):f_dedup_Filter l recs=some (gP l (enR 0 recs)):=by
 unfold f_dedup_Filter x_CloneRange
 rw [ck_pos (by omega),Option.bind_some]
 refine (loop_rec0 recs (fun st:List Range×List Record×Int×List Reject=>st.2.2.1) (fun st t=>some ((gP st.1 (enR st.2.2.1 t)).1,st.2.1++(gP st.1 (enR st.2.2.1 t)).2.1,st.2.2.2++(gP st.1 (enR st.2.2.1 t)).2.2)) (fun st t=>Can st.1∧(st.1.length+t.length≤50000∧st.2.1.length+st.2.2.2.length+t.length≤50000)∧∀ r,r∈t→errF r=0) (by omega) ?_ ?_ (s:=(l,([]:List Record),(0:Int),([]:List Reject))) rfl ⟨hc,⟨hl,by simp only [List.length_nil]; omega⟩,hv⟩).trans (by simp)
 ·rintro ⟨y,o,i,e⟩ _ hi
  simp only at hi ⊢
  unfold f_dedup_Filter_l1 f_dedup_Filter_j1
  rw [if_neg (by simp only [decide_eq_true_eq]; omega)]
  exact ⟨_,rfl,by simp [gP,enR]⟩
 ·rintro ⟨y,o,i,e⟩ r t ⟨hy,⟨hb1,hb2⟩,ht⟩ hi0 hi1 hx hlen
  simp only at hy hb1 hb2 ht hi0 hi1 hx hlen ⊢
  simp only [List.length_cons] at hb1 hb2
  have hr:=ht r (List.mem_cons_self ..)
  have hid:=err_id hr
  have hid':=of_decide_eq_true hid
  have ht':∀ x,x∈t→errF x=0:=fun x hx=>ht x (List.mem_cons_of_mem _ hx)
  unfold f_dedup_Filter_l1
  rw [if_pos (by simpa using hi1),ck_pos ⟨hi0,hi1⟩,hx]
  simp only [f_dedup_identity,ident_iff,Option.bind_some]
  rw [show decide ((1≤r.source∧r.source≤99)∧1≤r.serial∧r.serial≤999999999)=true from hid,if_neg (by simp),p_gHas y _ _ hy (by omega),Option.bind_some,hid,Bool.and_true]
  simp only [enR,gP]
  by_cases hh:hasB y r.source r.serial=false
  ·rw [if_neg (by simp [hh]),if_pos hh,p_insert y _ _ hy (by omega) (by omega),Option.bind_some,ck_pos (by simp only [List.length_singleton]; omega),ck_pos (by omega)]
   have:=addF_len r.source r.serial y
   refine .inr ⟨_,rfl,⟨(addF_can hid hy hh).1,⟨by simp only; omega,by simp only [List.length_append,List.length_singleton]; omega⟩,ht'⟩,rfl,?_⟩
   simp only [List.append_assoc,List.singleton_append]
  ·rw [if_pos (by simpa using hh),if_neg hh]
   unfold g_dedup_Filter_1
   rw [ck_pos ⟨hi0,hi1⟩,ck_pos ⟨hi0,hi1⟩,hx,ck_pos (by simp only [List.length_singleton]; omega),Option.bind_some,ck_pos (by omega)]
   refine .inr ⟨_,rfl,⟨hy,⟨by simp only; omega,by simp only [List.length_append,List.length_singleton]; omega⟩,ht'⟩,rfl,?_⟩
   simp only [rjF,List.append_assoc,List.singleton_append]
def atF (a:List Int) (x:Reject):Reject:=⟨x.source,x.serial,nth a x.index.toNat,x.err⟩
abbrev Res:=Intake×(List Record)×(List Reject)×Int
theorem p_acc1 (b:Batch) (y3:List Int×List Reject) (y4:List Range×List Record×List Head) (y5:Tri) (R:Res) (hidx:∀ x,x∈y5.2.2→0≤x.index∧x.index < (y3.1.length:Int)) (hl:y3.2.length+y5.2.2.length≤100000)
  (hj:f_intake_Accept_j2 b y4 y5 (y3.2++y5.2.2.map (atF y3.1))=some R):loop (fun s:List Reject×Int=>f_intake_Accept_l1 b y3 y4 y5 s.1 s.2) (y3.2,0)=some R:=by
 refine loop_rec0 y5.2.2 (fun st:List Reject×Int=>st.2) (fun st t=>some R) (fun st t=>st.1++t.map (atF y3.1)=y3.2++y5.2.2.map (atF y3.1)∧∀ x,x∈t→0≤x.index∧x.index < (y3.1.length:Int)) (by omega) ?_ ?_ (s:=(y3.2,(0:Int))) rfl ⟨rfl,hidx⟩
 ·rintro ⟨y,i⟩ ⟨hh,_⟩ hi
  simp only [List.map_nil,List.append_nil] at hh hi ⊢
  unfold f_intake_Accept_l1
  rw [if_neg (by simp only [decide_eq_true_eq]; omega),hh,hj]
  exact ⟨_,rfl,rfl⟩
 ·rintro ⟨y,i⟩ x t ⟨hh,hk⟩ hi0 hi1 hx hlen
  simp only at hh hk hi0 hi1 hx hlen ⊢
  have hkx:=hk x (List.mem_cons_self ..)
  have hle:=congrArg List.length hh
  simp only [List.length_append,List.length_map,List.length_cons] at hle
  unfold f_intake_Accept_l1
  rw [if_pos (by simpa using hi1),ck_pos ⟨hi0,hi1⟩,hx,ck_pos hkx,ck_pos (by simp only [List.length_singleton]; omega),ck_pos (by omega)]
  refine .inr ⟨_,rfl,⟨?_,fun z hz=>hk z (List.mem_cons_of_mem _ hz)⟩,rfl,trivial⟩
  rw [←hh]
  simp only [List.map_cons,atF,List.append_assoc,List.singleton_append]
theorem p_acc2 (v:Intake) (b:Batch) (y3:List Int×List Reject) (R:Res) (hat:∀ i,i∈y3.1→0≤i∧i < (b.records.length:Int)) (hl:y3.1.length≤100000)
  (hj:f_intake_Accept_j1 v b y3 (y3.1.map fun i=>nth b.records i.toNat)=some R):loop (fun s:List Record×Int=>f_intake_Accept_l2 v b y3 s.1 s.2) (([]:List Record),0)=some R:=by
 refine loop_rec0 y3.1 (fun st:List Record×Int=>st.2) (fun st t=>some R) (fun st t=>st.1++t.map (fun i=>nth b.records i.toNat)=y3.1.map (fun i=>nth b.records i.toNat)∧∀ x,x∈t→0≤x∧x < (b.records.length:Int)) (by omega) ?_ ?_ (s:=(([]:List Record),(0:Int))) rfl ⟨rfl,hat⟩
 ·rintro ⟨y,i⟩ ⟨hh,_⟩ hi
  simp only [List.map_nil,List.append_nil] at hh hi ⊢
  unfold f_intake_Accept_l2
  rw [if_neg (by simp only [decide_eq_true_eq]; omega),hh,hj]
  exact ⟨_,rfl,rfl⟩
 ·rintro ⟨y,i⟩ x t ⟨hh,hk⟩ hi0 hi1 hx hlen
  simp only at hh hk hi0 hi1 hx hlen ⊢
  have hkx:=hk x (List.mem_cons_self ..)
  have hle:=congrArg List.length hh
  simp only [List.length_append,List.length_map,List.length_cons] at hle
  unfold f_intake_Accept_l2
  rw [if_pos (by simpa using hi1),ck_pos ⟨hi0,hi1⟩,hx,ck_pos hkx,ck_pos (by simp only [List.length_singleton]; omega),ck_pos (by omega)]
  refine .inr ⟨_,rfl,⟨?_,fun z hz=>hk z (List.mem_cons_of_mem _ hz)⟩,rfl,trivial⟩
  rw [←hh]
  simp only [List.map_cons,List.append_assoc,List.singleton_append]
def noS:Intake:=⟨([]:List Range),([]:List Record),([]:List Head)⟩
def yesF (v:Intake) (b:Batch) (w:Window):Res:=((⟨(dP w v.seen 0 b.records).1,(joinF v.open_ (dP w v.seen 0 b.records).2.1).2,v.heads++[(⟨b.source,b.number,b.format,(b.records.length:Int)⟩:Head)]⟩:Intake),(joinF v.open_ (dP w v.seen 0 b.records).2.1).1,(dP w v.seen 0 b.records).2.2,0)
def accF (v:Intake) (b:Batch) (w:Window):Res:=if chkF b=0 then (if b.number=nextF b.source 1 v.heads then yesF v b w else (noS,[],[],20)) else (noS,[],[],chkF b)
structure SmA (v:Intake) (b:Batch):Prop where
 good:Good16 v
 seen:v.seen.length≤600
 heads:v.heads.length≤600
 opens:v.open_.length≤600
 recs:b.records.length≤100
 sm:∀ r,r∈b.records→Sm r
theorem SmA.sml {v:Intake} {b:Batch} (h:SmA v b):SmL b.records:=fun r hr=>by
 have:=h.sm r hr
 unfold Sm at this
 omega
theorem SmA.okN {v:Intake} {b:Batch} (h:SmA v b):∀ x,x∈v.heads→OkN x:=fun x hx=>okH_okN (hdB_ok h.good.heads x hx)
theorem dP_mem {w:Window} {l:List Range} {t:List Record} {i:Int} {r:Record} (h:r∈(dP w l i t).2.1):r∈t:=by
 rw [(dP_gP w t l i).2.1] at h
 obtain ⟨p,h1,h2⟩:=gP_mem h
 have:=(pW_mem w t i p h1).2.2.2
 rwa [h2] at this
theorem dP_len (w:Window) (l:List Range) (t:List Record) (i:Int):(dP w l i t).2.1.length+(dP w l i t).2.2.length≤t.length∧(dP w l i t).1.length≤l.length+t.length:=by
 obtain ⟨a,b,c⟩:=dP_gP w t l i
 have h1:=gP_len (pW w i t) l
 have h2:=pW_len w t i
 have h3:=c.length_eq
 rw [List.length_append] at h3
 rw [a,b,h3]
 omega
theorem p_j1 (v:Intake) (b:Batch) (h:SmA v b) (ps:List (Int×Record)) (no:List Reject) (T:Tri) (hv:∀ r,r∈ps.map (·.2)→errF r=0) (hl:ps.length+no.length≤100) (hT1:T.1=(gP v.seen ps).1) (hT2:T.2.1=(gP v.seen ps).2.1) (hT3:T.2.2.Perm (no++(gP v.seen ps).2.2)) (hsrt:T.2.2.Pairwise (fun a b=>a.index < b.index)) (hm:∀ r,r∈T.2.1→errF r=0) (hlen:T.2.1.length+T.2.2.length≤100) :
  f_intake_Accept_j1 v b (ps.map (·.1),no) (ps.map (·.2))=some ((⟨T.1,(joinF v.open_ T.2.1).2,v.heads++[(⟨b.source,b.number,b.format,(b.records.length:Int)⟩:Head)]⟩:Intake),(joinF v.open_ T.2.1).1,T.2.2,0):=by
 have hs:=h.seen
 have hh:=h.heads
 have ho:=h.opens
 have hen:=en_pos (ps.map (·.1)) ps 0 (by omega) (fun j hj=>by rw [show (0:Int).toNat+j=j from by omega])
 have hgm:=gP_map (fun i=>nth (ps.map (·.1)) i.toNat) (enR 0 (ps.map (·.2))) v.seen
 rw [hen] at hgm
 have hgl:=gP_len (enR 0 (ps.map (·.2))) v.seen
 have hel:(enR 0 (ps.map (·.2))).length=ps.length:=by
  have:=congrArg List.length hen
  rwa [List.length_map] at this
 have hix:∀ x,x∈(gP v.seen (enR 0 (ps.map (·.2)))).2.2→0≤x.index∧x.index < (ps.length:Int):=gP_idx (fun p hp=>by
  have:=en_idx _ _ p hp
  rw [List.length_map] at this
  omega)
 have hf:=p_filter v.seen (ps.map (·.2)) h.good.can hv (by rw [List.length_map]; omega)
 unfold f_intake_Accept_j1 g_intake_copied x_CloneRange x_CloneRecord x_CloneHead
 rw [ck_pos (by omega),ck_pos (by omega),ck_pos (by omega)]
 simp only [Option.bind_some]
 rw [hf,Option.bind_some]
 generalize gP v.seen (enR 0 (ps.map (·.2)))=E at *
 rw [hgm] at hT1 hT2 hT3
 generalize gP v.seen ps=G at *
 generalize hat:ps.map (·.1)=at1 at *
 have hal:at1.length=ps.length:=by rw [←hat,List.length_map]
 have hj2:f_intake_Accept_j2 b (v.seen,v.open_,v.heads) E (no++E.2.2.map (atF at1))=some ((⟨T.1,(joinF v.open_ T.2.1).2,v.heads++[(⟨b.source,b.number,b.format,(b.records.length:Int)⟩:Head)]⟩:Intake),(joinF v.open_ T.2.1).1,T.2.2,0):=by
  unfold f_intake_Accept_j2
  have e3:T.2.2.Perm (no++E.2.2.map (atF at1)):=hT3
  rw [p_sort hsrt e3 (by rw [←e3.length_eq]; omega),Option.bind_some]
  simp only at hT1 hT2 ⊢
  rw [←hT1,←hT2,p_Join v.open_ _ h.good.opn.wt hm (by omega),Option.bind_some,ck_pos (by simp only [List.length_singleton]; omega)]
 exact p_acc1 b (at1,no) (v.seen,v.open_,v.heads) E _ (fun x hx=>by have:=hix x hx; simp only; omega) (by simp only; omega) hj2
theorem p_Accept (v:Intake) (b:Batch) (w:Window) (h:SmA v b):f_intake_Accept v b w=some (accF v b w):=by
 have hs:=h.seen
 have hh:=h.heads
 have ho:=h.opens
 have hr:=h.recs
 unfold f_intake_Accept accF
 rw [p_bChk b h.sml,Option.bind_some]
 by_cases hc:chkF b=0
 ·obtain ⟨k1,k2,k3,k4,k5⟩:=chkF_ok hc
  rw [if_neg (by simp [hc]),if_pos hc,p_Next v _ (by omega) h.okN,Option.bind_some,if_pos k1]
  by_cases hn:b.number=nextF b.source 1 v.heads
  ·rw [if_neg (by simp [hn]),if_pos hn,p_timely b.records w (by omega),Option.bind_some]
   have hpl:=pW_len w b.records 0
   obtain ⟨d1,d2,d3⟩:=dP_gP w b.records v.seen 0
   have hdl:=dP_len w v.seen b.records 0
   have hL:((pW w 0 b.records).map (·.1)).map (fun i=>nth b.records i.toNat)=(pW w 0 b.records).map (·.2):=by
    rw [List.map_map]
    refine List.map_congr_left (fun p hp=>?_)
    have:=(pW_mem w b.records 0 p hp).2.2.1
    simpa using this
   have hvL:∀ r,r∈(pW w 0 b.records).map (·.2)→errF r=0:=fun r hr=>by
    obtain ⟨p,h1,h2⟩:=List.mem_map.1 hr
    rw [←h2]; exact k5 _ (pW_mem w b.records 0 p h1).2.2.2
   have hat:∀ i,i∈(pW w 0 b.records).map (·.1)→0≤i∧i < (b.records.length:Int):=fun i hi=>by
    obtain ⟨p,h1,h2⟩:=List.mem_map.1 hi
    have:=pW_mem w b.records 0 p h1
    rw [←h2]; omega
   have hj:=p_j1 v b h (pW w 0 b.records) (nW w 0 b.records) (dP w v.seen 0 b.records) hvL (by omega) d1 d2 d3 (dP_idx w b.records v.seen 0).2 (fun r hr=>k5 r (dP_mem hr)) (by omega)
   unfold yesF
   generalize dP w v.seen 0 b.records=T at *
   generalize nW w 0 b.records=no at *
   have hll:((pW w 0 b.records).map (·.1)).length≤100000:=by rw [List.length_map]; omega
   generalize (pW w 0 b.records).map (·.1)=at1 at *
   generalize (pW w 0 b.records).map (·.2)=ls at *
   subst hL
   exact p_acc2 v b (at1,no) _ hat hll hj
  ·rw [if_pos (by simpa using hn),if_neg hn]; rfl
 ·rw [if_pos (by simpa using hc),if_neg hc]; rfl
theorem p_rAccept (v:Intake) (b:Batch) (w:Window) (h:SmA v b):f_r16_Accept v b w=some (accF v b w):=by
 have hs:=h.seen
 have hh:=h.heads
 have ho:=h.opens
 have hr:=h.recs
 unfold f_r16_Accept accF
 rw [p_rbChk b h.sml,Option.bind_some]
 by_cases hc:chkF b=0
 ·obtain ⟨k1,k2,k3,k4,k5⟩:=chkF_ok hc
  rw [if_neg (by simp [hc]),if_pos hc,p_rNext v _ (by omega) h.okN,Option.bind_some,if_pos k1]
  by_cases hn:b.number=nextF b.source 1 v.heads
  ·rw [if_neg (by simp [hn]),if_pos hn,ck_pos (by omega)]
   refine loop_rec0 b.records (fun st:List Range×List Record×List Reject×Int=>st.2.2.2) (fun st t=>some (yesF v b w)) (fun st t=>((dP w st.1 st.2.2.2 t).1=(dP w v.seen 0 b.records).1∧st.2.1++(dP w st.1 st.2.2.2 t).2.1=(dP w v.seen 0 b.records).2.1∧st.2.2.1++(dP w st.1 st.2.2.2 t).2.2=(dP w v.seen 0 b.records).2.2)∧Can st.1∧(st.1.length+t.length≤50000∧st.2.1.length+st.2.2.1.length+t.length≤50000)∧∀ r,r∈t→errF r=0) (by omega) ?_ ?_ (s:=(v.seen,([]:List Record),([]:List Reject),(0:Int))) rfl ⟨⟨rfl,by simp,by simp⟩,h.good.can,⟨by simp only; omega,by simp only [List.length_nil]; omega⟩,k5⟩
   ·rintro ⟨y,f,e,i⟩ ⟨⟨a1,a2,a3⟩,_,_⟩ hi
    simp only [dP,List.append_nil] at a1 a2 a3 hi ⊢
    unfold f_r16_Accept_l1 f_r16_Accept_j1
    have hdl:=dP_len w v.seen b.records 0
    rw [if_neg (by simp only [decide_eq_true_eq]; omega),a1,a2,a3,p_rJoin v.open_ _ h.good.opn.wt.sm (fun r hr=>h.sm r (dP_mem hr)) (by omega),Option.bind_some,List.nil_append,ck_pos (by simp only [List.length_nil]; omega),ck_pos (by simp only [List.length_singleton]; omega)]
    exact ⟨_,rfl,rfl⟩
   ·rintro ⟨y,f,e,i⟩ r t ⟨⟨a1,a2,a3⟩,hy,⟨hb1,hb2⟩,ht⟩ hi0 hi1 hx hlen
    simp only at a1 a2 a3 hy hb1 hb2 ht hi0 hi1 hx hlen ⊢
    simp only [List.length_cons] at hb1 hb2
    have hid:=err_id (ht r (List.mem_cons_self ..))
    have ht':∀ x,x∈t→errF x=0:=fun x hx=>ht x (List.mem_cons_of_mem _ hx)
    unfold f_r16_Accept_l1
    rw [if_pos (by simpa using hi1),ck_pos ⟨hi0,hi1⟩,hx,p_rwin,Option.bind_some]
    rw [dP] at a1 a2 a3
    by_cases hw:inW w r
    ·rw [if_pos hw] at a1 a2 a3 ⊢
     rw [if_pos (by rfl),p_rAdd y _ _ hy (by omega),Option.bind_some]
     by_cases hq:hasB y r.source r.serial=false
     ·rw [if_pos hq] at a1 a2 a3
      rw [if_pos (show idB r.source r.serial=true∧hasB y r.source r.serial=false from ⟨hid,hq⟩)]
      simp only [if_true]
      rw [ck_pos (by simp only [List.length_singleton]; omega),ck_pos (by omega)]
      have:=addF_len r.source r.serial y
      refine .inr ⟨_,rfl,⟨⟨a1,?_,a3⟩,(addF_can hid hy hq).1,⟨by simp only; omega,by simp only [List.length_append,List.length_singleton]; omega⟩,ht'⟩,rfl,trivial⟩
      rw [←a2]; simp only [List.append_assoc,List.singleton_append]
     ·rw [if_neg hq] at a1 a2 a3
      rw [if_neg (show ¬(idB r.source r.serial=true∧hasB y r.source r.serial=false) from fun k=>hq k.2)]
      simp only [Bool.false_eq_true,if_false]
      unfold f_r16_Accept_j2
      rw [hx,ck_pos (by simp only [List.length_singleton]; omega),ck_pos (by omega)]
      refine .inr ⟨_,rfl,⟨⟨a1,a2,?_⟩,hy,⟨by simp only; omega,by simp only [List.length_append,List.length_singleton]; omega⟩,ht'⟩,rfl,trivial⟩
      rw [←a3]; simp only [rjF,List.append_assoc,List.singleton_append]
    ·rw [if_neg hw] at a1 a2 a3 ⊢
     rw [if_neg (by decide)]
     unfold f_r16_Accept_j2
     rw [hx,ck_pos (by simp only [List.length_singleton]; omega),ck_pos (by omega)]
     refine .inr ⟨_,rfl,⟨⟨a1,a2,?_⟩,hy,⟨by simp only; omega,by simp only [List.length_append,List.length_singleton]; omega⟩,ht'⟩,rfl,trivial⟩
     rw [←a3]; simp only [rjF,List.append_assoc,List.singleton_append]
  ·rw [if_pos (by simpa using hn),if_neg hn]; rfl
 ·rw [if_pos (by simpa using hc),if_neg hc]; rfl
theorem accF_len (v:Intake) (b:Batch) (w:Window) (h:SmA v b):(accF v b w).1.seen.length≤10000∧(accF v b w).1.open_.length≤10000∧(accF v b w).1.heads.length≤10000∧(accF v b w).2.1.length≤10000∧(accF v b w).2.2.1.length≤10000:=by
 have hs:=h.seen
 have hh:=h.heads
 have ho:=h.opens
 have hr:=h.recs
 have hdl:=dP_len w v.seen b.records 0
 have hj:=joinF_len2 v.open_ (dP w v.seen 0 b.records).2.1
 unfold accF
 split
 ·split
  ·simp only [yesF,List.length_append,List.length_singleton]; omega
  ·simp [noS]
 ·simp [noS]
theorem has_addR {s n f:Int} {l:List Range} (hf:f≤n) (h:∀ r,r∈l→PL s n r∧okR r) (hh:hasB l s n=false) (s' n':Int):hasB (addR s n f l) s' n'=(hasB l s' n' || decide (s=s'∧f≤n'∧n'≤n)):=by
 cases l with
 | nil=>simp [addR,hasB]
 | cons r l =>
  have hr:=h r (List.mem_cons_self ..)
  have hn:¬(r.source=s∧r.from_≤n∧n≤r.to_):=by
   have:=List.any_eq_false.1 hh r (List.mem_cons_self ..)
   simpa using this
  have ho:=hr.2
  have hp:=hr.1
  unfold okR at ho
  unfold PL at hp
  rw [addR]
  unfold hasB
  by_cases h3:TR s n r
  ·rw [if_pos h3]
   unfold TR at h3
   rw [List.any_cons,List.any_cons]
   generalize (l.any fun r=>decide (r.source=s'∧r.from_≤n'∧n'≤r.to_))=q
   rw [Bool.eq_iff_iff]
   simp only [Bool.or_eq_true,decide_eq_true_eq]
   constructor
   ·rintro (k | k)
    ·by_cases k2:n'≤n
     ·exact .inr (by omega)
     ·exact .inl (.inl (by omega))
    ·exact .inl (.inr k)
   ·rintro ((k | k) | k)
    ·exact .inl (by omega)
    ·exact .inr k
    ·exact .inl (by omega)
  ·rw [if_neg h3,List.any_cons,Bool.or_comm]
theorem has_addF {s n:Int}:∀ {l:List Range},Can l→hasB l s n=false→∀ s' n',hasB (addF s n l) s' n'=(hasB l s' n' || decide (s=s'∧n=n'))
 | [],_,_,s',n'=>by
  simp only [addF,hasB,List.any_cons,List.any_nil,Bool.or_false,Bool.false_or]
  rw [Bool.eq_iff_iff,decide_eq_true_iff,decide_eq_true_iff]; omega
 | r :: l,hc,hh,s',n'=>by
  have ho:=hc.ok r (List.mem_cons_self ..)
  have hs:=List.pairwise_cons.1 hc.srt
  have ho':=ho
  unfold okR at ho'
  have e0:decide (s=s'∧n≤n'∧n'≤n)=decide (s=s'∧n=n'):=by rw [Bool.eq_iff_iff,decide_eq_true_iff,decide_eq_true_iff]; omega
  by_cases hp:PL s n r
  ·rw [addF,if_pos hp,has_addR (by omega) (fun x hx=>⟨by
    rcases List.mem_cons.1 hx with rfl | hx
    ·exact hp
    ·exact PL_mono (hs.1 x hx) (hc.ok x (List.mem_cons_of_mem _ hx)) hp,hc.ok x hx⟩) hh,e0]
  ·rw [addF,if_neg hp]
   by_cases h1:TL s n r
   ·rw [if_pos h1]
    have h1':=h1
    unfold TL at h1'
    rw [has_addR (by omega) (fun x hx=>⟨by
     have h3:=hs.1 x hx
     have h5:=hc.ok x (List.mem_cons_of_mem _ hx)
     unfold RLt at h3; unfold okR at h5; unfold PL; omega,hc.ok x (List.mem_cons_of_mem _ hx)⟩) (has_tail hh)]
    unfold hasB
    rw [List.any_cons]
    generalize (l.any fun r=>decide (r.source=s'∧r.from_≤n'∧n'≤r.to_))=q
    rw [Bool.eq_iff_iff]
    simp only [Bool.or_eq_true,decide_eq_true_eq]
    constructor
    ·rintro (k | k)
     ·exact .inl (.inr k)
     ·by_cases k2:n'=n
      ·exact .inr (by omega)
      ·exact .inl (.inl (by omega))
    ·rintro ((k | k) | k)
     ·exact .inr (by omega)
     ·exact .inl k
     ·exact .inr (by omega)
   ·rw [if_neg h1]
    have ih:=has_addF hc.tail (has_tail hh) s' n'
    unfold hasB at ih ⊢
    rw [List.any_cons,List.any_cons,ih,Bool.or_assoc]
theorem cnt_addR {s n f:Int} {l:List Range} (k:Int):cntR k (addR s n f l)=cntR k l+(if s=k then n-f+1 else 0):=by
 cases l with
 | nil=>simp [addR,cntR]
 | cons r l =>
  rw [addR]
  by_cases h3:TR s n r
  ·rw [if_pos h3]
   unfold TR at h3
   simp only [cntR]
   by_cases hk:s=k
   ·rw [if_pos hk,if_pos (by omega),if_pos hk]; omega
   ·rw [if_neg hk,if_neg (by omega),if_neg hk]; omega
  ·rw [if_neg h3]
   simp only [cntR]; omega
theorem cnt_addF {s n:Int} (k:Int):∀ (l:List Range),cntR k (addF s n l)=cntR k l+(if s=k then 1 else 0)
 | []=>by simp only [addF,cntR]; split <;> omega
 | r :: l=>by
  rw [addF]
  by_cases hp:PL s n r
  ·rw [if_pos hp,cnt_addR]; split <;> omega
  ·rw [if_neg hp]
   by_cases h1:TL s n r
   ·rw [if_pos h1,cnt_addR]
    unfold TL at h1
    simp only [cntR]
    by_cases hk:s=k
    ·rw [if_pos hk,if_pos hk,if_pos (by omega)]; omega
    ·rw [if_neg hk,if_neg hk,if_neg (by omega)]; omega
   ·rw [if_neg h1]
    simp only [cntR,cnt_addF k l]; omega
def NS (a b:Record):Prop:=¬(a.source=b.source∧a.serial=b.serial)
theorem NS_symm {a b:Record} (h:NS a b):NS b a:=fun k=>h ⟨k.1.symm,k.2.symm⟩
theorem opB_iff (l:List Range):∀ (t d:List Record),opB l d t=true↔(∀ r,r∈t→hasB l r.source r.serial=true∧idB r.source r.serial=true)∧(∀ a,a∈d→∀ r,r∈t→NS a r)∧t.Pairwise NS
 | [],d=>by simp [opB]
 | r :: t,d=>by
  rw [opB,Bool.and_eq_true,Bool.and_eq_true,Bool.and_eq_true,opB_iff l t (d++[r])]
  have e:(!(d.any fun x=>sameId x r))=true↔∀ a,a∈d→NS a r:=by
   rw [Bool.not_eq_true',List.any_eq_false]
   simp only [sameId,Bool.and_eq_true,decide_eq_true_eq]
   exact Iff.rfl
  rw [e,List.pairwise_cons]
  constructor
  ·rintro ⟨⟨⟨h1,h2⟩,h3⟩,h4,h5,h6⟩
   refine ⟨fun x hx=>?_,fun a ha x hx=>?_,fun x hx=>h5 r (by simp) x hx,h6⟩
   ·rcases List.mem_cons.1 hx with rfl | hx
    ·exact ⟨h1,h2⟩
    ·exact h4 x hx
   ·rcases List.mem_cons.1 hx with rfl | hx
    ·exact h3 a ha
    ·exact h5 a (List.mem_append_left _ ha) x hx
  ·rintro ⟨h1,h2,h3,h4⟩
   refine ⟨⟨h1 r (List.mem_cons_self ..),fun a ha=>h2 a ha r (List.mem_cons_self ..)⟩,fun x hx=>h1 x (List.mem_cons_of_mem _ hx),fun a ha x hx=>?_,h4⟩
   rcases List.mem_append.1 ha with ha | ha
   ·exact h2 a ha x (List.mem_cons_of_mem _ hx)
   ·simp at ha; subst ha; exact h3 x hx
theorem ids_iff (l:List Range) (t:List Record):opB l [] t=true↔(∀ r,r∈t→hasB l r.source r.serial=true∧idB r.source r.serial=true)∧t.Pairwise NS:=by
 rw [opB_iff]; simp
theorem stepJ_ns {now:List Record} {r:Record} (h:now.Pairwise NS) (hr:∀ a,a∈now→NS a r):(stepJ now r).2.Pairwise NS∧∀ x,x∈(stepJ now r).2→x=r∨x∈now:=by
 unfold stepJ
 split
 ·exact ⟨h,fun x hx=>.inr hx⟩
 ·have hi:(insP now r).Pairwise NS:=((insP_perm now r).pairwise_iff NS_symm).2 (List.pairwise_cons.2 ⟨fun a ha=>NS_symm (hr a ha),h⟩)
  have hsub:=joinL_sub r (now.length+2) (insP now r)
  exact ⟨hi.sublist hsub,fun x hx=>insP_mem.1 (hsub.subset hx)⟩
theorem joinF_ns:∀ {l now:List Record},(now++l).Pairwise NS→(joinF now l).2.Pairwise NS∧∀ x,x∈(joinF now l).2→x∈now++l
 | [],now,h=>by
  rw [List.append_nil] at h
  exact ⟨h,fun x hx=>by simpa [joinF] using hx⟩
 | r :: l,now,h=>by
  have h':=List.pairwise_append.1 h
  obtain ⟨k1,k2⟩:=stepJ_ns h'.1 (fun a ha=>h'.2.2 a ha r (List.mem_cons_self ..))
  have hl:=List.pairwise_cons.1 h'.2.1
  have:((stepJ now r).2++l).Pairwise NS:=List.pairwise_append.2 ⟨k1,hl.2,fun a ha b hb=>by
   rcases k2 a ha with rfl | ha
   ·exact hl.1 b hb
   ·exact h'.2.2 a ha b (List.mem_cons_of_mem _ hb)⟩
  obtain ⟨m1,m2⟩:=joinF_ns this
  simp only [joinF]
  refine ⟨m1,fun x hx=>?_⟩
  rcases List.mem_append.1 (m2 x hx) with hx | hx
  ·rcases k2 x hx with rfl | hx
   ·simp
   ·simp [hx]
  ·simp [hx]
theorem dP_keep (w:Window):∀ (t:List Record) (l:List Range) (i:Int),Can l→(∀ r,r∈t→errF r=0)→Can (dP w l i t).1∧(∀ s n,hasB l s n=true→hasB (dP w l i t).1 s n=true)∧(∀ r,r∈(dP w l i t).2.1→hasB (dP w l i t).1 r.source r.serial=true∧hasB l r.source r.serial=false)∧(dP w l i t).2.1.Pairwise NS∧(∀ r,r∈t→inW w r→hasB (dP w l i t).1 r.source r.serial=true)
 | [],l,i,hc,_=>⟨hc,fun _ _ h=>h,by simp [dP],by simp [dP],by simp⟩
 | r :: t,l,i,hc,hv=>by
  have hid:=err_id (hv r (List.mem_cons_self ..))
  have hv':∀ x,x∈t→errF x=0:=fun x hx=>hv x (List.mem_cons_of_mem _ hx)
  by_cases hw:inW w r
  ·by_cases hh:hasB l r.source r.serial=false
   ·obtain ⟨a1,a2,a3,a4,a5⟩:=dP_keep w t (addF r.source r.serial l) (i+1) (addF_can hid hc hh).1 hv'
    have hadd:=has_addF hc hh
    have hself:hasB (addF r.source r.serial l) r.source r.serial=true:=by rw [hadd]; simp
    simp only [dP,if_pos hw,if_pos hh]
    refine ⟨a1,fun s n h=>a2 s n (by rw [hadd,h,Bool.true_or]),fun x hx=>?_,List.pairwise_cons.2 ⟨fun x hx k=>?_,a4⟩,fun x hx hxw=>?_⟩
    ·rcases List.mem_cons.1 hx with rfl | hx
     ·exact ⟨a2 _ _ hself,hh⟩
     ·have:=a3 x hx
      rw [hadd,Bool.or_eq_false_iff] at this
      exact ⟨this.1,this.2.1⟩
    ·have:=(a3 x hx).2
     rw [←k.1,←k.2,hself] at this
     cases this
    ·rcases List.mem_cons.1 hx with rfl | hx
     ·exact a2 _ _ hself
     ·exact a5 x hx hxw
   ·obtain ⟨a1,a2,a3,a4,a5⟩:=dP_keep w t l (i+1) hc hv'
    simp only [dP,if_pos hw,if_neg hh]
    refine ⟨a1,a2,a3,a4,fun x hx hxw=>?_⟩
    rcases List.mem_cons.1 hx with rfl | hx
    ·exact a2 _ _ (by simpa using hh)
    ·exact a5 x hx hxw
  ·obtain ⟨a1,a2,a3,a4,a5⟩:=dP_keep w t l (i+1) hc hv'
   simp only [dP,if_neg hw]
   refine ⟨a1,a2,a3,a4,fun x hx hxw=>?_⟩
   rcases List.mem_cons.1 hx with rfl | hx
   ·exact absurd hxw hw
   ·exact a5 x hx hxw
theorem chkL_src {s:Int}:∀ {l:List Record},chkL s l=0→∀ r,r∈l→r.source=s
 | [],_,r,h=>by cases h
 | x :: l,hc,r,h=>by
  rw [chkL] at hc
  by_cases he:errF x=0
  ·rw [if_pos he] at hc
   by_cases hs:x.source=s
   ·rw [if_pos hs] at hc
    rcases List.mem_cons.1 h with rfl | h
    ·exact hs
    ·exact chkL_src hc r h
   ·rw [if_neg hs] at hc; omega
  ·rw [if_neg he] at hc; exact absurd hc he
theorem chkF_src {b:Batch} (h:chkF b=0):∀ r,r∈b.records→r.source=b.source:=by
 unfold chkF at h
 by_cases h1:hdF b.source b.number b.format=0
 ·rw [if_pos h1] at h
  by_cases h2:4096 < b.records.length
  ·rw [if_pos h2] at h; omega
  ·rw [if_neg h2] at h; exact chkL_src h
 ·rw [if_neg h1] at h; exact absurd h h1
theorem dP_cnt (w:Window) (s k:Int):∀ (t:List Record) (l:List Range) (i:Int),(∀ r,r∈t→r.source=s)→cntR k (dP w l i t).1=cntR k l+(if s=k then ((dP w l i t).2.1.length:Int) else 0)
 | [],l,i,_=>by simp [dP]
 | r :: t,l,i,h=>by
  have hr:=h r (List.mem_cons_self ..)
  have h':∀ x,x∈t→x.source=s:=fun x hx=>h x (List.mem_cons_of_mem _ hx)
  by_cases hw:inW w r
  ·by_cases hh:hasB l r.source r.serial=false
   ·have ih:=dP_cnt w s k t (addF r.source r.serial l) (i+1) h'
    simp only [dP,if_pos hw,if_pos hh,List.length_cons]
    rw [ih,cnt_addF,hr]
    by_cases hk:s=k
    ·simp only [if_pos hk]; omega
    ·simp only [if_neg hk]; omega
   ·simp only [dP,if_pos hw,if_neg hh]; exact dP_cnt w s k t l (i+1) h'
  ·simp only [dP,if_neg hw]; exact dP_cnt w s k t l (i+1) h'
theorem hdB_snoc:∀ {l d:List Head} {h:Head},hdB d l=true→okH h→h.number=nextF h.source 1 (d++l)→hdB d (l++[h])=true
 | [],d,h,_,ho,hn=>by
  rw [List.append_nil] at hn
  simp only [List.nil_append,hdB,Bool.and_true,decide_eq_true_eq]
  exact ⟨ho,hn⟩
 | x :: l,d,h,hb,ho,hn=>by
  simp only [hdB,List.cons_append,Bool.and_eq_true] at hb ⊢
  refine ⟨hb.1,hdB_snoc hb.2 ho ?_⟩
  rw [hn]; simp
theorem good_yes {v:Intake} {b:Batch} {w:Window} (h:SmA v b) (hc:chkF b=0) (hn:b.number=nextF b.source 1 v.heads):Good16 (yesF v b w).1:=by
 obtain ⟨k1,k2,k3,k4,k5⟩:=chkF_ok hc
 obtain ⟨a1,a2,a3,a4,a5⟩:=dP_keep w b.records v.seen 0 h.good.can k5
 have hfv:∀ r,r∈(dP w v.seen 0 b.records).2.1→errF r=0:=fun r hr=>k5 r (dP_mem hr)
 have hids:=(ids_iff _ _).1 h.good.ids
 have hdl:=dP_len w v.seen b.records 0
 refine ⟨hdB_snoc h.good.heads ?_ (by simpa using hn),a1,joinF_opn h.good.opn hfv,?_,?_⟩
 ·unfold okH; simp only; omega
 ·rw [ctB_iff]
  intro k _ _
  have h1:=(ctB_iff _ _ _ _).1 h.good.cnt k (by omega) (by omega)
  show cntR k (dP w v.seen 0 b.records).1≤cntH k (v.heads++[_])
  rw [dP_cnt w b.source k b.records v.seen 0 (chkF_src hc),cntH_snoc]
  simp only
  split <;> omega
 ·rw [ids_iff]
  have hns:(v.open_++(dP w v.seen 0 b.records).2.1).Pairwise NS:=List.pairwise_append.2 ⟨hids.2,a4,fun x hx y hy k=>by
   have h1:=(hids.1 x hx).1
   have h2:=(a3 y hy).2
   rw [k.1,k.2,h2] at h1
   cases h1⟩
  obtain ⟨m1,m2⟩:=joinF_ns hns
  refine ⟨fun r hr=>?_,m1⟩
  rcases List.mem_append.1 (m2 r hr) with hx | hx
  ·exact ⟨a2 _ _ (hids.1 r hx).1,(hids.1 r hx).2⟩
  ·exact ⟨(a3 r hx).1,err_id (hfv r hx)⟩
theorem good_close {v:Intake} (h:Good16 v) (b:Int):Good16 ⟨v.seen,(expF b v.open_.length v.open_).2,v.heads⟩:=by
 have hs:=expF_sub b v.open_.length v.open_
 have hids:=(ids_iff _ _).1 h.ids
 exact ⟨h.heads,h.can,expF_opn h.opn b (Nat.le_refl _),h.cnt,(ids_iff _ _).2 ⟨fun r hr=>hids.1 r (hs.subset hr),hids.2.sublist hs⟩⟩
def rjW (w:Window) (r:Record) (i:Int):Reject:=rjF r i (if inW w r then 13 else 15)
def rjs (w:Window):Int→List Record→List Reject
 | _,[]=>[]
 | i,r :: t=>rjW w r i :: rjs w (i+1) t
theorem dP_all (w:Window):∀ (t:List Record) (l:List Range) (i:Int),(∀ r,r∈t→inW w r→hasB l r.source r.serial=true)→dP w l i t=(l,[],rjs w i t)
 | [],l,i,_=>rfl
 | r :: t,l,i,h=>by
  have ih:=dP_all w t l (i+1) (fun x hx=>h x (List.mem_cons_of_mem _ hx))
  by_cases hw:inW w r
  ·have hh:=h r (List.mem_cons_self ..) hw
   simp only [dP,if_pos hw,rjs,rjW,ih,hh,Bool.true_eq_false,if_false]
  ·simp only [dP,if_neg hw,rjs,rjW,ih]
theorem rjs_len (w:Window):∀ (t:List Record) (i:Int),(rjs w i t).length=t.length
 | [],_=>rfl
 | r :: t,i=>by simp [rjs,rjs_len w t]
theorem rjs_nth (w:Window):∀ (t:List Record) (i:Int) (k:Nat),k < t.length→nth (rjs w i t) k=rjW w (nth t k) (i+k)
 | [],_,k,h=>by simp at h
 | r :: t,i,0,_=>by rw [rjs,nth_cons_zero,nth_cons_zero]; simp
 | r :: t,i,k+1,h=>by
  rw [rjs,nth_cons_succ,nth_cons_succ,rjs_nth w t (i+1) k (by simpa using h)]
  congr 1; omega
theorem again_loop (b:Batch) (w:Window) (y:Res) (hy:y.2.2.1=rjs w 0 b.records) (hl:b.records.length≤1000):loop (fun s:Int=>f_w16_IntakeAgain_l1 b w y s) 0=some true:=by
 have hlen:y.2.2.1.length=b.records.length:=by rw [hy,rjs_len]
 refine loop_spec (fun i:Int=>some true) (fun i=>0≤i∧i≤(b.records.length:Int)) (fun i=>((b.records.length:Int) - i).toNat) ?_ (s:=0) (by omega) (by omega)
 rintro i ⟨h0,h1⟩
 unfold f_w16_IntakeAgain_l1
 rw [hlen]
 by_cases hi:i < (b.records.length:Int)
 ·rw [if_pos (by simpa using hi),ck_pos ⟨h0,hi⟩,p_rwin,Option.bind_some]
  have hn:=rjs_nth w b.records 0 i.toNat (by omega)
  rw [show (0:Int)+(i.toNat:Int)=i from by omega] at hn
  have hj:∀ e:Int,e=(if inW w (nth b.records i.toNat) then 13 else 15)→f_w16_IntakeAgain_j1 y i e=some (.inl (i+1)):=fun e he=>by
   unfold f_w16_IntakeAgain_j1
   rw [hlen,ck_pos ⟨h0,hi⟩,ck_pos (fun _=>⟨h0,hi⟩),hy,hn,if_neg (by simp [rjW,rjF,he]),ck_pos (by omega)]
  refine .inr ⟨i+1,?_,by omega,by omega,rfl⟩
  by_cases hw:inW w (nth b.records i.toNat)
  ·rw [if_pos hw,if_neg (by simp)]; exact hj 13 (by rw [if_pos hw])
  ·rw [if_neg hw,if_pos (by simp)]; exact hj 15 (by rw [if_neg hw])
 ·rw [if_neg (by simpa using hi),awake_true]
  exact .inl ⟨_,rfl,rfl⟩
theorem chkL_congr {s:Int} {l:List Record} (b c:Batch) (hs:c.source=b.source) (hf:c.format=b.format) (hr:c.records=b.records) (hn:1≤c.number∧c.number≤999999999) (h:chkF b=0):chkF c=0:=by
 obtain ⟨k1,k2,k3,k4,k5⟩:=chkF_ok h
 unfold chkF at h ⊢
 have e1:hdF b.source b.number b.format=0:=by unfold hdF; rw [if_neg (by omega),if_neg (by omega)]
 have e2:hdF c.source c.number c.format=0:=by unfold hdF; rw [if_neg (by omega),if_neg (by omega)]
 rw [if_pos e1,if_neg (by omega)] at h
 rw [if_pos e2,hr,hs,if_neg (by omega)]
 exact h
theorem again_true (v:Intake) (b:Batch) (w:Window):f_w16_IntakeAgain v b w=some true:=by
 unfold f_w16_IntakeAgain
 obtain ⟨c,h1,h2⟩:=small_tot v
 obtain ⟨d,h3,h4⟩:=few_tot b.records
 rw [h1,h3]
 simp only [Option.bind_some,Bool.not_not]
 cases c with
 | false=>simp [gcall,awake_true]
 | true =>
  obtain ⟨a1,a2,a3,hs⟩:=h2 rfl
  cases d with
  | false=>simp [gcall,awake_true]
  | true =>
   obtain ⟨b1,b2⟩:=h4 rfl
   simp only [gcall,if_true,Option.bind_some,Bool.not_true,Bool.or_self,Bool.not_false]
   rw [p_rck v hs]
   simp only [Option.bind_some]
   cases hck:ckF v with
   | false=>simp [awake_true]
   | true =>
    have hA:SmA v b:=⟨(ckF_iff v).1 hck,by omega,by omega,by omega,by omega,b2⟩
    rw [if_neg (by simp),p_Accept v b w hA,Option.bind_some]
    by_cases hc:chkF b=0
    ·by_cases hn:b.number=nextF b.source 1 v.heads
     ·obtain ⟨k1,k2,k3,k4,k5⟩:=chkF_ok hc
      have e1:accF v b w=yesF v b w:=by unfold accF; rw [if_pos hc,if_pos hn]
      rw [e1]
      have hg:=good_yes (w:=w) hA hc hn
      have hdl:=dP_len w v.seen b.records 0
      have hjl:=joinF_len2 v.open_ (dP w v.seen 0 b.records).2.1
      obtain ⟨_,_,_,_,kp⟩:=dP_keep w b.records v.seen 0 hA.good.can k5
      have e0:(yesF v b w).2.2.2=0:=rfl
      by_cases hmax:b.number=999999999
      ·rw [if_pos (by simp [hmax]),awake_true]; rfl
      ·rw [if_neg (by simp [e0,hmax])]
       have hseen:(yesF v b w).1.seen=(dP w v.seen 0 b.records).1:=rfl
       have hopen:(yesF v b w).1.open_=(joinF v.open_ (dP w v.seen 0 b.records).2.1).2:=rfl
       have hheads:(yesF v b w).1.heads=v.heads++[(⟨b.source,b.number,b.format,(b.records.length:Int)⟩:Head)]:=rfl
       generalize hv':(yesF v b w).1=v' at *
       have hA':SmA v' b:=⟨hg,by rw [hseen]; omega,by rw [hheads,List.length_append,List.length_singleton]; omega,by rw [hopen]; omega,by omega,b2⟩
       have hA'':SmA v' (⟨b.source,b.number+1,b.format,b.records⟩:Batch):=⟨hA'.good,hA'.seen,hA'.heads,hA'.opens,hA'.recs,hA'.sm⟩
       have hnx:nextF b.source 1 v'.heads=b.number+1:=by rw [hheads,nextF_snoc,if_pos rfl]
       have e2:accF v' b w=(noS,[],[],20):=by
        unfold accF; rw [if_pos hc,if_neg (by rw [hnx]; omega)]
       have hc2:chkF (⟨b.source,b.number+1,b.format,b.records⟩:Batch)=0:=chkL_congr (s:=0) (l:=[]) b _ rfl rfl rfl ⟨by simp only; omega,by simp only; omega⟩ hc
       have e3:accF v' (⟨b.source,b.number+1,b.format,b.records⟩:Batch) w=yesF v' (⟨b.source,b.number+1,b.format,b.records⟩:Batch) w:=by
        unfold accF; rw [if_pos hc2,if_pos hnx.symm]
       have hdp:dP w v'.seen 0 b.records=(v'.seen,[],rjs w 0 b.records):=dP_all w b.records v'.seen 0 (by rw [hseen]; exact kp)
       rw [p_Accept v' b w hA',Option.bind_some,e2,if_neg (by simp),ck_pos (by omega),p_Accept v' _ w hA'',Option.bind_some,e3]
       have q0:(yesF v' (⟨b.source,b.number+1,b.format,b.records⟩:Batch) w).2.2.2=0:=rfl
       have q1:(yesF v' (⟨b.source,b.number+1,b.format,b.records⟩:Batch) w).2.1=[]:=by
        show (joinF v'.open_ (dP w v'.seen 0 b.records).2.1).1=[]
        rw [hdp]; rfl
       have q2:(yesF v' (⟨b.source,b.number+1,b.format,b.records⟩:Batch) w).2.2.1=rjs w 0 b.records:=by
        show (dP w v'.seen 0 b.records).2.2=_
        rw [hdp]
       have q3:(yesF v' (⟨b.source,b.number+1,b.format,b.records⟩:Batch) w).1.open_=v'.open_:=by
        show (joinF v'.open_ (dP w v'.seen 0 b.records).2.1).2=_
        rw [hdp]; rfl
       generalize yesF v' (⟨b.source,b.number+1,b.format,b.records⟩:Batch) w=Y at *
       have e4:(((Y.2.2.2 != 0) || ((Y.2.1.length:Int) != 0)) || ((Y.2.2.1.length:Int) != (b.records.length:Int)))=false:=by
        rw [q0,q1,q2,rjs_len]; simp
       rw [e4,q3,p_Same _ (by have:=hA'.opens; omega)]
       simp only [gcall,Bool.not_false,if_true,Option.bind_some,Bool.not_true,Bool.or_self,Bool.false_eq_true,if_false]
       exact again_loop b w Y q2 (by omega)
     ·have e1:accF v b w=(noS,[],[],20):=by unfold accF; rw [if_pos hc,if_neg hn]
      rw [e1,if_pos (by simp),awake_true]; rfl
    ·have e1:accF v b w=(noS,[],[],chkF b):=by unfold accF; rw [if_neg hc]
     rw [e1,if_pos (by simp [hc]),awake_true]; rfl
def cloF (v:Intake) (b:Int):Intake×List Record:=(⟨v.seen,(expF b v.open_.length v.open_).2,v.heads⟩,(expF b v.open_.length v.open_).1)
theorem p_Close (v:Intake) (b:Int) (hg:Good16 v) (h1:v.seen.length≤600) (h2:v.open_.length≤600) (h3:v.heads.length≤600):f_intake_Close v b=some (cloF v b):=by
 unfold f_intake_Close f_intake_copied x_CloneRange x_CloneRecord x_CloneHead
 rw [ck_pos (by omega),ck_pos (by omega),ck_pos (by omega)]
 simp only [Option.bind_some]
 rw [p_Expire v.open_ b hg.opn.wt (by omega)]
 rfl
theorem p_rClose (v:Intake) (b:Int) (hg:Good16 v) (h1:v.seen.length≤600) (h2:v.open_.length≤600) (h3:v.heads.length≤600):f_r16_Close v b=some (cloF v b):=by
 unfold f_r16_Close
 rw [p_rExpire v.open_ b hg.opn.wt.sm (by omega)]
 simp only [Option.bind_some]
 rw [ck_pos (by omega),ck_pos (by omega)]
 rfl
structure RunI (V:Intake) (i:Int):Prop where
 good:Good16 V
 seen:(V.seen.length:Int)≤40*i
 heads:(V.heads.length:Int)≤i
 opens:(V.open_.length:Int)≤40*i
theorem RunI.up {V:Intake} {i:Int} (h:RunI V i):RunI V (i+1):=⟨h.good,by have:=h.seen; omega,by have:=h.heads; omega,by have:=h.opens; omega⟩
theorem RunI.smI {V:Intake} {i:Int} (h:RunI V i) (hi:i≤12):SmI V:=⟨by have:=h.seen; omega,by have:=h.heads; omega,by have:=h.opens; omega,h.good.opn.wt.sm⟩
theorem p_runj1 (V:Intake) (i:Int) (h:RunI V (i+1)) (hi:0≤i∧i < 12) (a:List Range) (b:List Record) (c:List Head) (d:List Range) (e:List Record) (f:List Head) :
  f_w16_IntakeRuns_j1 i V.seen V.open_ V.heads V.seen V.open_ V.heads a b c d e f=some (.inl (i+1,V.seen,V.open_,V.heads,V.seen,V.open_,V.heads)):=by
 have h1:=h.seen
 have h2:=h.heads
 have h3:=h.opens
 unfold f_w16_IntakeRuns_j1
 have hs:=p_Same16 V (by omega) (by omega) (by omega)
 have hk:=p_ck V (h.smI (by omega))
 rw [(ckF_iff V).2 h.good] at hk
 obtain ⟨s,o,hd⟩:=V
 rw [hs,hk]
 simp only [Option.bind_some,gcall,Bool.not_true,Bool.not_false,if_true,Bool.or_self,Bool.false_eq_true,if_false]
 rw [ck_pos (by omega)]
theorem RunI.next {V:Intake} {i:Int} (h:RunI V i) (hi:i≤12) (s:Int):f_intake_Next V s=some (if 1≤s∧s≤99 then nextF s 1 V.heads else 0) :=
 p_Next V s (by have:=h.heads; omega) (fun x hx=>okH_okN (hdB_ok h.good.heads x hx))
theorem runs_true (v:List Billinglaw16Step):f_w16_IntakeRuns v=some true:=by
 unfold f_w16_IntakeRuns
 by_cases hlen:(v.length:Int) > 12
 ·rw [if_pos (by simpa using hlen),awake_true]; rfl
 ·rw [if_neg (by simpa using hlen)]
  refine loop_rec0 v (fun st:Int×List Range×List Record×List Head×List Range×List Record×List Head=>st.1) (fun st t=>some true) (fun st t=>∃ V,RunI V st.1∧st.2=(V.seen,V.open_,V.heads,V.seen,V.open_,V.heads)) (by omega) ?_ ?_ (s:=((0:Int),([]:List Range),([]:List Record),([]:List Head),([]:List Range),([]:List Record),([]:List Head))) rfl ⟨noS,⟨⟨rfl,⟨by simp [noS],by simp [noS]⟩,opn_nil,by
    rw [ctB_iff]; intro k _ _; exact Int.le_refl _,rfl⟩,by simp [noS],by simp [noS],by simp [noS]⟩,rfl⟩
  ·rintro ⟨i,s1,o1,h1,s2,o2,h2⟩ _ hi
   simp only at hi ⊢
   unfold f_w16_IntakeRuns_l1
   rw [if_neg (by simp only [decide_eq_true_eq]; omega),awake_true]
   exact ⟨_,rfl,rfl⟩
  ·rintro ⟨i,s1,o1,h1,s2,o2,h2⟩ x t ⟨V,hR,hst⟩ hi0 hi1 hx hle
   simp only [Prod.mk.injEq] at hR hst hi0 hi1 hx hle ⊢
   obtain ⟨rfl,rfl,rfl,rfl,rfl,rfl⟩:=hst
   have b1:=hR.seen
   have b2:=hR.heads
   have b3:=hR.opens
   have hV:(⟨V.seen,V.open_,V.heads⟩:Intake)=V:=rfl
   unfold f_w16_IntakeRuns_l1
   obtain ⟨c,h3,h4⟩:=few_tot x.batch.records
   rw [if_pos (by simpa using hi1),ck_pos ⟨hi0,hi1⟩,hx,h3,Option.bind_some,hV]
   cases c with
   | false =>
    rw [if_pos (by rfl),awake_true]
    exact .inl ⟨_,rfl,rfl⟩
   | true =>
    obtain ⟨r1,r2⟩:=h4 rfl
    rw [if_neg (by simp)]
    by_cases hcl:x.close=true
    ·rw [if_pos hcl,p_Close V _ hR.good (by omega) (by omega) (by omega),p_rClose V _ hR.good (by omega) (by omega) (by omega)]
     have hj:=expF_len x.before V.open_.length V.open_
     simp only [Option.bind_some]
     rw [p_Same _ (by simp only [cloF]; omega)]
     simp only [Option.bind_some,Bool.not_true,Bool.false_eq_true,if_false]
     have hR':RunI (cloF V x.before).1 (i+1):=⟨good_close hR.good x.before,by simp only [cloF]; omega,by simp only [cloF]; omega,by simp only [cloF]; omega⟩
     rw [p_runj1 (cloF V x.before).1 i hR' ⟨hi0,by omega⟩]
     exact .inr ⟨_,rfl,⟨_,hR',rfl⟩,rfl,trivial⟩
    ·rw [if_neg hcl,hR.next (by omega),Option.bind_some]
     have hA:SmA V x.batch:=⟨hR.good,by omega,by omega,by omega,by omega,r2⟩
     obtain ⟨l1,l2,l3,l4,l5⟩:=accF_len V x.batch x.window hA
     rw [p_Accept V _ _ hA,p_rAccept V _ _ hA,Option.bind_some,Option.bind_some,p_Same _ l4,p_SameRejects _ l5]
     simp only [bne_self_eq_false,Bool.not_false,gcall,if_true,Option.bind_some,Bool.not_true,Bool.or_self,Bool.false_eq_true,if_false]
     by_cases hz:(accF V x.batch x.window).2.2.2=0
     ·by_cases hc:chkF x.batch=0
      ·by_cases hn:x.batch.number=nextF x.batch.source 1 V.heads
       ·obtain ⟨k1,k2,k3,k4,k5⟩:=chkF_ok hc
        have e1:accF V x.batch x.window=yesF V x.batch x.window:=by unfold accF; rw [if_pos hc,if_pos hn]
        have hg:=good_yes (w:=x.window) hA hc hn
        have hdl:=dP_len x.window V.seen x.batch.records 0
        have hjl:=joinF_len2 V.open_ (dP x.window V.seen 0 x.batch.records).2.1
        have q1:(yesF V x.batch x.window).1.seen=(dP x.window V.seen 0 x.batch.records).1:=rfl
        have q2:(yesF V x.batch x.window).1.open_=(joinF V.open_ (dP x.window V.seen 0 x.batch.records).2.1).2:=rfl
        have q3:(yesF V x.batch x.window).1.heads=V.heads++[(⟨x.batch.source,x.batch.number,x.batch.format,(x.batch.records.length:Int)⟩:Head)]:=rfl
        have hR':RunI (yesF V x.batch x.window).1 (i+1):=⟨hg,by rw [q1]; omega,by rw [q3,List.length_append,List.length_singleton]; omega,by rw [q2]; omega⟩
        rw [e1] at hz ⊢
        generalize yesF V x.batch x.window=Y at *
        rw [if_pos (by rw [hz]; rfl),if_pos k1,ck_pos (by omega)]
        unfold f_w16_IntakeRuns_j2
        rw [hx]
        have hnx:=hR'.next (by omega) x.batch.source
        rw [if_pos k1,q3,nextF_snoc,if_pos rfl] at hnx
        have hY:(⟨Y.1.seen,Y.1.open_,Y.1.heads⟩:Intake)=Y.1:=rfl
        rw [hY,hnx,Option.bind_some,if_neg (by rw [←hn]; simp),p_runj1 Y.1 i hR' ⟨hi0,by omega⟩]
        exact .inr ⟨_,rfl,⟨_,hR',rfl⟩,rfl,trivial⟩
       ·exfalso
        unfold accF at hz
        rw [if_pos hc,if_neg hn] at hz
        simp at hz
      ·exfalso
       unfold accF at hz
       rw [if_neg hc] at hz
       exact hc hz
     ·rw [if_neg (by simpa using hz)]
      unfold f_w16_IntakeRuns_j2
      rw [hx,hV,hR.next (by omega),Option.bind_some,if_neg (by simp),p_runj1 V i hR.up ⟨hi0,by omega⟩]
      exact .inr ⟨_,rfl,⟨_,hR.up,rfl⟩,rfl,trivial⟩
end Go.Proofs.YtpnegjippkneoaaGreatDoor
namespace Go.Abs
open Go.RowKit Go.ChangeShapes Go.WideShapes Go.Deep
inductive Sh where
 | i (k:IntKind)
 | b
 | s
 | sl (row:List Sh)
inductive DFits:Sh→D→Prop where
 | i (k:IntKind) (n:Int) (h:(Lit.int k n).wf=true):DFits (.i k) (.ex (.int k n))
 | b (x:Bool):DFits .b (.ex (.bool x))
 | s (l:List UInt8) (h:l.length≤maxLen):DFits .s (.ex (.string ⟨l.toArray⟩))
 | sl (row:List Sh) (rows:List (List D)) (hn:rows.length≤maxLen) (h1:∀ r,r∈rows→r.length=row.length)
   (h:∀ r,r∈rows→∀ (i:Nat) sh d,row[i]?=some sh→r[i]?=some d→DFits sh d):DFits (.sl row) (.sl row.length rows)
def shapeFs (P:Program) (rec:TypeId→Option (List Sh)):List Field→Nat→Option (List Sh)
 | [],_=>some []
 | f :: fs,off=>match rec f.type with
  | some r=>if Nat.beq f.offset off && Nat.beq r.length (P.cellsOf f.type) then (shapeFs P rec fs (off+r.length)).map (r++·) else none
  | none=>none
def shape (P:Program):Nat→TypeId→Option (List Sh)
 | 0,_=>none
 | n+1,t=>match P.underlying t with
  | some (.int k)=>some [.i k]
  | some .bool=>some [.b]
  | some .string=>some [.s]
  | some (.slice e)=>match shape P n e with
   | some r=>if Nat.beq r.length (P.cellsOf e) && Nat.blt 0 r.length then some [.sl r] else none
   | none=>none
  | some (.struct fs)=>match shapeFs P (shape P n) fs.toList 0 with
   | some r=>if Nat.beq r.length (P.cellsOf t) then some r else none
   | none=>none
  | _=>none
def Opens (lim:Nat→Nat) (w:World) (shs:List Sh) (cs:List Value):Prop :=
 ∃ ds:List D,ds.length=shs.length∧cs.length=shs.length∧∀ (i:Nat) sh d c,shs[i]?=some sh→ds[i]?=some d→cs[i]?=some c→DFits sh d∧DRep lim w d c∧c.oneCell'=true
theorem Opens.one {lim:Nat→Nat} {w:World} {sh:Sh} {d:D} {c:Value} (h1:DFits sh d) (h2:DRep lim w d c) (h3:c.oneCell'=true):Opens lim w [sh] [c]:=by
 refine ⟨[d],rfl,rfl,fun i sh' d' c' ha hb hc=>?_⟩
 cases i with
 | zero=>simp at ha hb hc; subst ha; subst hb; subst hc; exact ⟨h1,h2,h3⟩
 | succ i=>simp at ha
theorem Opens.nil {lim:Nat→Nat} {w:World}:Opens lim w [] []:=⟨[],rfl,rfl,fun i _ _ _ h=>by simp at h⟩
theorem Opens.append {lim:Nat→Nat} {w:World} {s1 s2:List Sh} {c1 c2:List Value} (h:Opens lim w s1 c1) (k:Opens lim w s2 c2):Opens lim w (s1++s2) (c1++c2):=by
 obtain ⟨d1,a1,b1,e1⟩:=h
 obtain ⟨d2,a2,b2,e2⟩:=k
 refine ⟨d1++d2,by simp [a1,a2],by simp [b1,b2],fun i sh d c ha hb hc=>?_⟩
 by_cases hi:i < s1.length
 ·rw [List.getElem?_append_left hi] at ha
  rw [List.getElem?_append_left (by omega)] at hb hc
  exact e1 i sh d c ha hb hc
 ·rw [List.getElem?_append_right (by omega)] at ha hb hc
  rw [a1] at hb
  rw [b1] at hc
  exact e2 _ sh d c ha hb hc
section opening
variable {H:Type} {enc:TypeId×Value→H} {P:Program} {w:World} {held:Bool} {lim:Nat→Nat}
theorem opens_fields {rec:TypeId→Option (List Sh)} (cs:List Value):∀ (fs:List Field) (off:Nat) (shs:List Sh),shapeFs P rec fs off=some shs→cs.length=off+shs.length →
  (∀ (i:Nat) f,fs[i]?=some f→∀ r,rec f.type=some r→r.length=P.cellsOf f.type→Opens lim w r ((cs.drop f.offset).take (P.cellsOf f.type)))→Opens lim w shs (cs.drop off)
 | [],off,shs,h,hl,_=>by
  simp [shapeFs] at h; subst h
  rw [List.drop_of_length_le (by simp at hl; omega)]
  exact .nil
 | f :: fs,off,shs,h,hl,hf=>by
  unfold shapeFs at h
  split at h
  ·rename_i r hr
   split at h
   ·rename_i hc
    rw [Bool.and_eq_true] at hc
    replace hc:=And.intro (Nat.eq_of_beq_eq_true hc.1) (Nat.eq_of_beq_eq_true hc.2)
    obtain ⟨rest,hrest,rfl⟩:=Option.map_eq_some_iff.1 h
    simp only [List.length_append] at hl
    have h1:=hf 0 f rfl r hr hc.2
    have h2:=opens_fields cs fs (off+r.length) rest hrest (by omega) fun i g hg=>hf (i+1) g (by simpa using hg)
    have e:cs.drop off=(cs.drop f.offset).take (P.cellsOf f.type)++cs.drop (off+r.length):=by
     rw [hc.1,←hc.2,←List.drop_drop,List.take_append_drop]
    rw [e]
    exact h1.append h2
   ·cases h
  ·cases h
theorem opens_shape (hlim:∀ b off u,w.cell? ⟨b,off,none⟩=some u→off < lim b):∀ (n:Nat) (t:TypeId) (shs:List Sh),shape P n t=some shs→∀ fuel cs x,DataW.trod enc P w 0 (fun _=>true) held fuel t cs=some x→Opens lim w shs cs
 | 0,_,_,h=>by simp [shape] at h
 | n+1,t,shs,h=>by
  intro fuel cs x ht
  unfold shape at h
  split at h
  ·rename_i k hu
   cases h
   obtain ⟨m,rfl,_,hw⟩:=DataW.trod_int hu ht
   exact .one (.i k m hw) (.ex _) rfl
  ·rename_i hu
   cases h
   obtain ⟨b,rfl,_⟩:=DataW.trod_bool hu ht
   exact .one (.b b) (.ex _) rfl
  ·rename_i hu
   cases h
   obtain ⟨⟨a⟩,rfl,_,hs⟩:=DataW.trod_string hu ht
   exact .one (.s a.toList (by simpa [ByteArray.size] using hs)) (.ex _) rfl
  ·rename_i e hu
   split at h
   ·rename_i r hr
    split at h
    ·rename_i hc
     cases h
     rw [Bool.and_eq_true] at hc
     obtain ⟨hc1,hc2⟩:=And.intro (Nat.eq_of_beq_eq_true hc.1) (blt_lt hc.2)
     rcases open_slice hu ht with ⟨rfl,_⟩ | ⟨a,len,cap,m,n',D0,Pl,rfl,hb,hl,hm,hmm,hx,hi⟩
     ·exact .one (.sl r [] (Nat.zero_le _) (fun _ h=>by cases h) (fun _ h=>by cases h)) (.nil _ _) rfl
     ·simp only [if_true] at hmm
      subst hmm
      obtain ⟨F,hF⟩:=choose_lt (n:=m) (p:=fun i (ds:List D)=>ds.length=r.length∧∀ (j:Nat) sh d,r[j]?=some sh→ds[j]?=some d→∃ c,w.cell? (a.add (i*r.length+j))=some c∧DFits sh d∧DRep lim w d c∧c.oneCell'=true) (fun i hi'=>by
       obtain ⟨cs',h1,h2⟩:=hi i hi'
       obtain ⟨ds,k1,k2,k3⟩:=opens_shape hlim n e r hr n' cs' _ h2
       obtain ⟨_,h3,h4⟩:=World.cells?_some h1
       refine ⟨ds,k1,fun j sh d hj hd=>?_⟩
       have hjl:j < r.length:=(List.getElem?_eq_some_iff.1 hj).1
       have hc':cs'[j]?=some (cs'[j]'(by omega)):=List.getElem?_eq_getElem (by omega)
       refine ⟨cs'[j]'(by omega),?_,k3 j sh d _ hj hd hc'⟩
       rw [←hc',←h4 j (by omega),←hc1,Go.Deep.add_add])
      have hfit:DFits (.sl r) (.sl r.length ((List.range len).map F)):=by
       refine .sl r _ (by simp; omega) (fun row hrow=>?_) fun row hrow i sh d hs hd=>?_
       ·obtain ⟨i,hi2,rfl⟩:=List.mem_map.1 hrow
        exact (hF i (by have:=List.mem_range.1 hi2; omega)).1
       ·obtain ⟨i',hi2,rfl⟩:=List.mem_map.1 hrow
        obtain ⟨c,_,hh,_⟩:=(hF i' (by have:=List.mem_range.1 hi2; omega)).2 i sh d hs hd
        exact hh
      refine .one hfit ?_ rfl
      rcases Nat.eq_zero_or_pos m with h0 | h0
      ·subst h0
       have:len=0:=by omega
       subst this
       exact .nil _ _
      ·have hspot:a.spot=none:=by
        obtain ⟨cs',h1,h2⟩:=hi 0 h0
        obtain ⟨_,h3,h4⟩:=World.cells?_some h1
        have h5:=h4 0 (by omega)
        have h6:cs'[0]?=some (cs'[0]'(by omega)):=List.getElem?_eq_getElem (by omega)
        rw [h6] at h5
        unfold World.cell? at h5
        split at h5
        ·split at h5
         ·cases h5
         ·rename_i hsp
          simpa [Addr.add] using hsp
        ·cases h5
       obtain ⟨b,off,sp⟩:=a
       simp only at hspot
       subst hspot
       have hcell:∀ i j,i < m→j < r.length→∀ sh d,r[j]?=some sh→(F i)[j]?=some d→∃ c,w.cell? ⟨b,off+(i*r.length+j),none⟩=some c∧DFits sh d∧DRep lim w d c∧c.oneCell'=true:=fun i j hi' hj sh d hs hd=>by
        obtain ⟨c,h1,h2⟩:=(hF i hi').2 j sh d hs hd
        rw [Addr.add_lit] at h1
        exact ⟨c,h1,h2⟩
       have hlen:((List.range len).map F).length=len:=by simp
       have key:=DRep.sl (lim:=lim) (w:=w) r.length ((List.range len).map F) b off m (by rw [hlen]; exact hl) (fun row hrow=>by
        obtain ⟨i,hi2,rfl⟩:=List.mem_map.1 hrow
        exact (hF i (by have:=List.mem_range.1 hi2; omega)).1) (fun k hk=>by
        rw [hlen] at hk
        have hdiv:k / r.length < len:=Nat.div_lt_of_lt_mul (by rw [Nat.mul_comm]; exact hk)
        have hmod:k % r.length < r.length:=Nat.mod_lt _ hc2
        obtain ⟨c,h1,h2,h3,h4⟩:=hcell (k / r.length) (k % r.length) (by omega) hmod _ _ (List.getElem?_eq_getElem hmod) (List.getElem?_eq_getElem (by rw [(hF _ (by omega)).1]; exact hmod))
        have e:k / r.length*r.length+k % r.length=k:=by rw [Nat.mul_comm]; exact Nat.div_add_mod k r.length
        rw [e] at h1
        exact ⟨hlim _ _ _ h1,c,h1,h4⟩) (fun i j row c u h1 h2 h3=>by
        rw [List.getElem?_map] at h1
        obtain ⟨i',hi2,rfl⟩:=Option.map_eq_some_iff.1 h1
        have hil:i < len:=by have:=(List.getElem?_eq_some_iff.1 hi2).1; simpa using this
        have:i'=i:=by rw [List.getElem?_range hil] at hi2; cases hi2; rfl
        subst this
        have hjl:j < r.length:=by have:=(List.getElem?_eq_some_iff.1 h2).1; rw [(hF _ (by omega)).1] at this; exact this
        obtain ⟨c',k1,k2,k3,k4⟩:=hcell i' j (by omega) hjl _ _ (List.getElem?_eq_getElem hjl) h2
        rw [h3] at k1
        cases k1
        exact k3)
       rw [hlen] at key
       exact key
    ·cases h
   ·cases h
  ·rename_i fs hu
   split at h
   ·rename_i r hr
    split at h
    ·rename_i hc
     cases h
     have hc':=Nat.eq_of_beq_eq_true hc
     obtain ⟨ys,n',_,hy,hlen,hyl,hf⟩:=DataW.trod_struct hu ht
     have:=opens_fields (lim:=lim) (w:=w) (P:=P) cs fs.toList 0 _ hr (by omega) fun i f hi r' hr' hl'=>by
      have h1:=hf i f (by simpa using hi)
      have hys:ys[i]?=some (ys[i]'(by have:=(List.getElem?_eq_some_iff.1 hi).1; simp at this; omega)):=List.getElem?_eq_getElem _
      exact opens_shape hlim n f.type r' hr' n' _ _ (h1.trans hys)
     simpa using this
    ·cases h
   ·cases h
  ·cases h
end opening
end Go.Abs
namespace Go.Abs
open Go.RowKit Go.ChangeShapes Go.WideShapes Go.Deep Go.ChangeAt
def limW (w:World) (b:Nat):Nat:=match w.heap[b]? with
 | some (.cells c _ _)=>c.size
 | _=>0
theorem limW_lt (w:World) (b off:Nat) (u:Value) (h:w.cell? ⟨b,off,none⟩=some u):off < limW w b:=by
 unfold World.cell? at h
 unfold limW
 split at h
 ·rename_i c e k hb
  simp only at hb
  rw [hb]
  simp only [Option.isSome_none,Bool.false_eq_true,if_false] at h
  exact (Array.getElem?_eq_some_iff.1 h).1
 ·cases h
theorem Opens.top {lim:Nat→Nat} {w:World} {sh:Sh} {c:Value} (h:Opens lim w [sh] [c]):∃ d,DFits sh d∧DRep lim w d c:=by
 obtain ⟨ds,h1,_,h3⟩:=h
 match ds,h1 with
 | [d],_=>exact ⟨d,(h3 0 sh d c rfl rfl rfl).1,(h3 0 sh d c rfl rfl rfl).2.1⟩
section top
variable {H:Type} {enc:TypeId×Value→H} {P:Program} {w:World} {held:Bool} {r:Reach} {b0:Nat} {t:TypeId} {v:Value} {d:DataW H} {ps:List MemPlace}
theorem top_slice {n:Nat} {e:TypeId} {row:List Sh} (hs:shape P n t=some [.sl row]) (ht:P.underlying t=some (.slice e)) (hv:Value.okWide P w r b0 t v) (h:DataW.Trod enc P w 0 (fun _=>true) held t v d ps):∃ x,DFits (.sl row) x∧DRep (limW w) w x v:=by
 obtain ⟨a,l,c,rfl⟩:=okWide_slice ht hv
 obtain ⟨fuel,hf⟩:=h
 exact (opens_shape (limW_lt w) n t _ hs fuel _ _ hf).top
end top
theorem rows_of {α:Type} {row:α→List D} {p:α→Prop}:∀ {rows:List (List D)},(∀ r,r∈rows→∃ x,p x∧r=row x)→∃ l:List α,rows=l.map row∧∀ x,x∈l→p x
 | [],_=>⟨[],rfl,fun x h=>by cases h⟩
 | r :: rows,h=>by
  obtain ⟨x,hx,rfl⟩:=h r List.mem_cons_self
  obtain ⟨l,rfl,hl⟩:=rows_of (rows:=rows) (row:=row) (p:=p) fun r' hr=>h r' (List.mem_cons_of_mem _ hr)
  exact ⟨x :: l,rfl,fun y hy=>by rcases List.mem_cons.1 hy with rfl | hy; exact hx; exact hl y hy⟩
theorem DFits.sl_inv {row:List Sh} {d:D} (h:DFits (.sl row) d):∃ rows,d=.sl row.length rows∧rows.length≤maxLen∧∀ r,r∈rows→r.length=row.length∧∀ (i:Nat) sh d,row[i]?=some sh→r[i]?=some d→DFits sh d:=by
 cases h with
 | sl _ rows hn h1 h=>exact ⟨rows,rfl,hn,fun r hr=>⟨h1 r hr,h r hr⟩⟩
theorem DFits.i_inv {d:D} (h:DFits (.i .i64) d):∃ n:Int,d=.ex (.int .i64 n)∧-9223372036854775808≤n∧n≤9223372036854775807:=by
 cases h with
 | i _ n hw=>simp only [Lit.wf,Bool.and_eq_true,decide_eq_true_eq] at hw; exact ⟨n,rfl,hw⟩
theorem DFits.b_inv {d:D} (h:DFits .b d):∃ x:Bool,d=.ex (.bool x):=by cases h with | b x=>exact ⟨x,rfl⟩
section
variable {H:Type} {enc:TypeId×Value→H} {P:Program}
theorem post_of_below {f:Func} {s:ChangeSpec} {apart fresh handsOn again:Bool} {W W':World} {args:Array Value} {v:Value} {ds gs:List (DataW H)} {before pa pv:List MemPlace}
  (hW:DataW.Whole enc P f.params.toList s.vars apart W args.toList ds gs before)
  (hres:∀ (b:Nat) (sp:Nat→Bool) (hd:Bool),DataW.TrodAll enc P W' b sp hd f.resultTypes.toList (v.resultList f.resultTypes.size) (s.fn H (ds++gs)).results [])
  (hargs:∀ sp:Nat→Bool,(∀ p∈before,sp p.block=true)→DataW.TrodAll enc P W' 0 sp true f.params.toList args.toList (s.fn H (ds++gs)).args pa)
  (hvars:∀ sp:Nat→Bool,(∀ p∈before,sp p.block=true)→DataW.TrodVars enc P W' sp s.vars (s.fn H (ds++gs)).vars pv)
  (hps:before=pa++pv) (hb:Below W.heap.size W W')
  (hok:∀ (j:Nat) (t:TypeId) (r:Value),f.resultTypes[j]?=some t→(v.resultList f.resultTypes.size)[j]?=some r→Value.okWide P W' .any 0 t r) :
  s.post enc P f apart fresh handsOn again W args v W':=by
 have hlt:∀ p∈before,p.block < W.heap.size:=fun p hp=>hW.lt p hp
 have hold:∀ p∈before,(fun b=>decide (b < W.heap.size)) p.block=true:=fun p hp=>by simpa using hlt p hp
 refine ⟨ds,gs,before,[],pa,pv,hW,hres _ _ _,hargs _ hold,hvars _ hold,World.keptBut_mono (fun p hp=>⟨hp,?_⟩) (hb.frame (·∈before)),fun _=>?_⟩
 ·rw [hps,List.mem_append] at hp
  exact Or.inr hp
 ·obtain ⟨_,_,_,_,_,hz,hn⟩:=hW
  refine ⟨hok,_,_,([]++pa)++pv,⟨[]++pa,pv,trodAll_append (hargs _ (fun _ _=>rfl)) (hres _ _ _),hvars _ (fun _ _=>rfl),rfl,?_,?_⟩,?_⟩
  ·intro b off hp
   have hin:MemPlace.cell b off∈before:=by rw [hps]; simpa using hp
   rw [hb.frozen (hlt _ hin)]
   exact hz b off hin
  ·intro ha
   have:=hn ha
   rw [hps] at this
   simpa using this
  ·intro p hp _
   rw [hps]
   simpa using hp
end
theorem trodAll_stays {H:Type} {enc:TypeId×Value→H} {P:Program} (hl:laidOutB P=true) {W W':World} (hb:Below W.heap.size W W') (sp:Nat→Bool):∀ {ts:List TypeId} {vs:List Value} {ds:List (DataW H)} {ps:List MemPlace},
  (ts.all fun t=>P.readableRec t && decide (t < P.types.size))=true→DataW.TrodAll enc P W 0 (fun _=>true) true ts vs ds ps→(∀ x∈ps,x.block < W.heap.size)→(∀ x∈ps,sp x.block=true)→DataW.TrodAll enc P W' 0 sp true ts vs ds ps
 | [],[],[],_,_,h,_,_=>h
 | t :: ts,v :: vs,d :: ds,ps,hr,h,hlt,hsp=>by
  obtain ⟨p,q,h1,h2,rfl⟩:=h
  simp only [List.all_cons,Bool.and_eq_true,decide_eq_true_eq] at hr
  refine ⟨p,q,?_,?_,rfl⟩
  ·exact WideElems.Trod_stays hl hr.1.1 hr.1.2 h1 (fun x hx=>hb.same (hlt x (List.mem_append_left _ hx))) (fun x hx=>hsp x (List.mem_append_left _ hx))
  ·exact trodAll_stays hl hb sp (by simpa using hr.2) h2 (fun x hx=>hlt x (List.mem_append_right _ hx)) (fun x hx=>hsp x (List.mem_append_right _ hx))
theorem DFits.s_inv' {d:D} (h:DFits .s d):∃ l:List UInt8,d=.ex (.string ⟨l.toArray⟩)∧l.length≤maxLen:=by cases h with | s l h=>exact ⟨l,rfl,h⟩
theorem rows_of' {α:Type} {row:α→List D} {p:α→Prop} {rows:List (List D)} (h:∀ r,r∈rows→∃ x,r=row x∧p x):∃ l:List α,rows=l.map row∧∀ x,x∈l→p x :=
 rows_of fun r hr=>let ⟨x,h1,h2⟩:=h r hr; ⟨x,h2,h1⟩
theorem DFits.sl_of {sh:List Sh} {d:D} {α:Type} {row:α→List D} {p:α→Prop} (h:DFits (.sl sh) d)
  (hr:∀ r:List D,r.length=sh.length→(∀ (i:Nat) h d,sh[i]?=some h→r[i]?=some d→DFits h d)→∃ x,r=row x∧p x) :
  ∃ l:List α,d=.sl sh.length (l.map row)∧l.length≤maxLen∧∀ z,z∈l→p z:=by
 obtain ⟨rows,rfl,hn,h2⟩:=h.sl_inv
 obtain ⟨l,rfl,hl⟩:=rows_of' (row:=row) (p:=p) fun r hrm=>hr r (h2 r hrm).1 (h2 r hrm).2
 exact ⟨l,rfl,by simpa using hn,hl⟩
section top
variable {H:Type} {enc:TypeId×Value→H} {P:Program} {w:World} {held:Bool} {r:Reach} {b0:Nat} {t:TypeId} {v:Value} {d:DataW H} {ps:List MemPlace}
theorem top_agg {n:Nat} {shs:List Sh} {fs:Array Field} (hs:shape P n t=some shs) (ht:P.underlying t=some (.struct fs)) (hv:Value.okWide P w r b0 t v) (h:DataW.Trod enc P w 0 (fun _=>true) held t v d ps) :
  ∃ x:List D,x.length=shs.length∧(∀ (i:Nat) sh d,shs[i]?=some sh→x[i]?=some d→DFits sh d)∧DRep (limW w) w (.agg x) v:=by
 obtain ⟨cs,rfl,_⟩:=okWide_struct ht hv
 obtain ⟨fuel,hf⟩:=h
 obtain ⟨ds,h1,h2,h3⟩:=opens_shape (limW_lt w) n t _ hs fuel _ _ hf
 have h2':cs.size=shs.length:=by simpa [Value.cells] using h2
 refine ⟨ds,h1,fun i sh d hi hd=>?_,.agg ds cs (by omega) (fun i u hu=>?_) fun i c u hc hu=>?_⟩
 ·have hil:i < cs.size:=by have:=(List.getElem?_eq_some_iff.1 hi).1; omega
  exact (h3 i sh d cs[i] hi hd (by simp [Value.cells,hil])).1
 ·have hil:i < shs.length:=by have:=(Array.getElem?_eq_some_iff.1 hu).1; omega
  exact (h3 i shs[i] (ds[i]'(by omega)) u (List.getElem?_eq_getElem hil) (List.getElem?_eq_getElem (by omega)) (by simpa [Value.cells] using hu)).2.2
 ·have hil:i < shs.length:=by have:=(Array.getElem?_eq_some_iff.1 hu).1; omega
  exact (h3 i shs[i] c u (List.getElem?_eq_getElem hil) hc (by simpa [Value.cells] using hu)).2.1
end top
end Go.Abs
