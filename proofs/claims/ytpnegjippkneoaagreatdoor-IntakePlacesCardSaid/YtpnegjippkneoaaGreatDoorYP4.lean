/- Our own texts MH MI MJ MK ML MM MN MO MP C1 C2 C3 of this seat in one. -/
import Derived.Test.YtpnegjippkneoaaGreatDoorYP3
import Derived.Deep.Slices
import Derived.ChangeArms
import Derived.ProofKit
import Derived.Below
import Derived.ChangeSame
set_option linter.unusedSimpArgs false
set_option linter.unusedVariables false
set_option linter.unusedSectionVars false
namespace Go.Proofs.YtpnegjippkneoaaGreatDoor
open Go.RowKit Go.Abs
theorem at_mid {α:Type} [Inhabited α] {A B:List α} {x:α} {p:Nat} (h:A.length=p):nth (A++x :: B) p=x:=by
 subst h; rw [nth_eq (by simp)]; simp
theorem at_mid1 {α:Type} [Inhabited α] {A B:List α} {x b:α} {p:Nat} (h:A.length=p):nth (A++x :: b :: B) (p+1)=b:=by
 have:=at_mid (A:=A++[x]) (B:=B) (x:=b) (p:=p+1) (by simp [h])
 rwa [List.append_assoc,List.singleton_append] at this
theorem set_mid {α:Type} {A B:List α} {x y:α} {p:Nat} (h:A.length=p):(A++x :: B).set p y=A++y :: B:=by
 subst h; simp
theorem del_mid {α:Type} {A B:List α} {x b:α} {p:Nat} (h:A.length=p):(A++x :: b :: B).take (p+1)++(A++x :: b :: B).drop (p+2)=A++x :: B:=by
 subst h
 have e1:(A++x :: b :: B).take (A.length+1)=A++[x]:=by
  rw [show A++x :: b :: B=(A++[x])++b :: B from by simp,List.take_append_of_le_length (by simp),List.take_of_length_le (by simp)]
 have e2:(A++x :: b :: B).drop (A.length+2)=B:=by
  rw [show A++x :: b :: B=(A++[x,b])++B from by simp,show A.length+2=(A++[x,b]).length from by simp,List.drop_left]
 rw [e1,e2]; simp
def mrgL:List Range→Range→List Range→List Range
 | [],x,B=>x :: B
 | [a],x,B=>if a.source=x.source∧a.to_+1=x.from_ then ⟨a.source,a.from_,x.to_⟩ :: B else a :: x :: B
 | a :: b :: A,x,B=>a :: mrgL (b :: A) x B
theorem mrgL_snoc (x:Range) (B:List Range) (a:Range):∀ (A:List Range),mrgL (A++[a]) x B=if a.source=x.source∧a.to_+1=x.from_ then A++⟨a.source,a.from_,x.to_⟩ :: B else A++a :: x :: B
 | []=>by simp [mrgL]
 | [c]=>by simp only [List.singleton_append,mrgL]; split <;> simp
 | c :: d :: A=>by
  have:=mrgL_snoc x B a (d :: A)
  simp only [List.cons_append] at this ⊢
  rw [mrgL,this]
  split <;> simp
theorem p_ins1 (A B:List Range) (x:Range) (p:Int) (hp:(A.length:Int)=p) (hl:A.length+B.length≤500000) (hA:∀ a,a∈A→okR a):g_dedup_insert_j1 p (A++x :: B)=some (mrgL A x B):=by
 unfold g_dedup_insert_j1
 rcases List.eq_nil_or_concat A with rfl | ⟨A',a,rfl⟩
 ·simp only [List.length_nil] at hp
  have:p=0:=by omega
  subst this
  simp [gcall,mrgL,ck]
 ·rw [List.concat_eq_append] at *
  have ha:=hA a (by simp)
  unfold okR at ha
  simp only [List.length_append,List.length_cons,List.length_nil] at hp hl
  have hgt:p > 0:=by omega
  have e1:(p-1).toNat=A'.length:=by omega
  have e2:p.toNat=A'.length+1:=by omega
  have e3:(p+1).toNat=A'.length+2:=by omega
  rw [List.append_assoc,List.singleton_append]
  simp only [hgt,decide_true,gcall,if_true]
  rw [ck_pos (fun _=>by omega),ck_pos (fun _=>by simp; omega),ck_pos (fun _=>by simp; omega),ck_pos (fun _=>by simp; omega),ck_pos (fun _=>by simp; omega),e1,e2,at_mid rfl,at_mid1 rfl]
  unfold f_dedup_touch
  rw [ck_pos (fun _=>by omega)]
  simp only [Option.bind_some,Bool.true_and]
  rw [mrgL_snoc]
  by_cases h:a.source=x.source∧a.to_+1=x.from_
  ·rw [if_pos (by simp [h.1,h.2]),if_pos h,ck_pos (by omega),ck_pos (by simp; omega),ck_pos (by simp),ck_pos (by simp; omega),ck_pos (by simp),ck_pos (by omega),set_mid rfl]
   unfold x_DeleteRange
   rw [ck_pos (by simp; omega),e2,e3,del_mid rfl]
   rfl
  ·rw [if_neg (by simpa using h),if_neg h]
def addB (s n:Int) (A:List Range):List Range→List Range
 | []=>mrgL A ⟨s,n,n⟩ []
 | b :: B'=>if TR s n b then mrgL A ⟨s,n,b.to_⟩ B' else mrgL A ⟨s,n,n⟩ (b :: B')
theorem addR_mrg {s n:Int} {A B:List Range} (hA:∀ a,a∈A→¬PL s n a) (hB:∀ b,b∈B→PL s n b) (hs:A.Pairwise RLt) (hk:∀ a,a∈A→okR a):addF s n (A++B)=addB s n A B:=by
 induction A with
 | nil =>
  cases B with
  | nil=>rfl
  | cons b B' =>
   rw [List.nil_append,addF,if_pos (hB b (List.mem_cons_self ..)),addR]
   simp only [addB]
   split <;> rfl
 | cons a A ih =>
  have h1:=hA a (List.mem_cons_self ..)
  have ih:=ih (fun x hx=>hA x (List.mem_cons_of_mem _ hx)) (List.pairwise_cons.1 hs).2 (fun x hx=>hk x (List.mem_cons_of_mem _ hx))
  rw [List.cons_append,addF,if_neg h1]
  cases A with
  | nil =>
   rw [List.nil_append]
   by_cases h2:TL s n a
   ·rw [if_pos h2]
    have h2':=h2
    unfold TL at h2'
    cases B with
    | nil=>simp [addR,addB,mrgL,h2'.1,h2'.2]
    | cons b B' =>
     simp only [addR,addB,mrgL]
     split <;> simp [h2'.1,h2'.2]
   ·rw [if_neg h2]
    have h2':¬(a.source=s∧a.to_+1=n):=h2
    cases B with
    | nil=>simp [addF,addB,mrgL,h2']
    | cons b B' =>
     rw [addF,if_pos (hB b (List.mem_cons_self ..))]
     simp only [addR,addB,mrgL]
     split <;> simp [h2']
  | cons c A' =>
   have h3:=(List.pairwise_cons.1 hs).1 c (List.mem_cons_self ..)
   have h4:=hA c (by simp)
   have h5:=hk c (by simp)
   rw [if_neg (by unfold TL; unfold RLt at h3; unfold PL at h4; unfold okR at h5; omega),ih]
   cases B with
   | nil=>simp only [addB,mrgL]
   | cons b B' =>
    simp only [addB]
    split <;> simp only [mrgL]
theorem plN_take (s n:Int):∀ (l:List Range),∀ a,a∈l.take (plN s n l)→¬PL s n a
 | [],a,h=>by simp at h
 | r :: l,a,h=>by
  rw [plN_cons] at h
  by_cases hp:PL s n r
  ·rw [if_pos hp] at h; simp at h
  ·rw [if_neg hp,List.take_succ_cons] at h
   rcases List.mem_cons.1 h with rfl | h
   ·exact hp
   ·exact plN_take s n l a h
theorem plN_drop {s n:Int}:∀ {l:List Range},Can l→∀ b,b∈l.drop (plN s n l)→PL s n b
 | [],_,b,h=>by simp at h
 | r :: l,hc,b,h=>by
  rw [plN_cons] at h
  by_cases hp:PL s n r
  ·rw [if_pos hp,List.drop_zero] at h
   rcases List.mem_cons.1 h with rfl | h
   ·exact hp
   ·exact PL_mono ((List.pairwise_cons.1 hc.srt).1 b h) (hc.ok b (List.mem_cons_of_mem _ h)) hp
  ·rw [if_neg hp,List.drop_succ_cons] at h
   exact plN_drop hc.tail b h
theorem p_place (l:List Range) (s n:Int) (hc:Can l) (hl:l.length≤100000):g_dedup_place s n l=some (plN s n l:Int):=by
 unfold g_dedup_place
 have e:∀ i j,g_sort_Search_v1_l1 s n l i j=g_sort_Search_l1 l s n i j:=fun i j=>by
  unfold g_sort_Search_v1_l1 g_sort_Search_l1
  have:∀ k,g_dedup_place_1_v1 k s n l=g_dedup_place_1 k l s n:=fun k=>by
   unfold g_dedup_place_1_v1 g_dedup_place_1
   by_cases h:(0:Int)≤k∧k < (l.length:Int)
   ·rw [ck_pos h,ck_pos h,ck_pos (by omega)]
   ·unfold ck; rw [if_neg h,if_neg h]
  simp only [this]
 have:g_sort_Search_v1 (l.length:Int) s n l=g_sort_Search (l.length:Int) l s n:=by
  unfold g_sort_Search_v1 g_sort_Search
  simp only [e]
 rw [this,p_Search l s n hc hl]; rfl
theorem p_gHas (l:List Range) (s n:Int) (hc:Can l) (hl:l.length≤100000):g_dedup_Has s n l=some (hasB l s n && idB s n):=by
 have hp:=p_place l s n hc hl
 have:=p_Has l s n hc hl
 have hle:=plN_le s n l
 unfold f_dedup_Has f_dedup_place at this
 rw [p_Search l s n hc hl] at this
 unfold g_dedup_Has
 rw [hp]
 simp only [Option.bind_some,f_dedup_identity] at this ⊢
 rw [ck_pos (fun h=>by simp at h; omega),ck_pos (fun h=>by simp at h; omega)] at this
 rw [ck_pos (fun h=>by simp at h; omega),ck_pos (fun h=>by simp at h; omega),ck_pos (fun h=>by simp at h; omega),ck_pos (fun h=>by simp at h; omega)]
 exact this
theorem p_ins_nil (A:List Range) (s n:Int) (p:Nat) (hp:g_dedup_place s n (A++[])=some (p:Int)) (hlA:A.length=p) (hl:A.length≤100000) (hkA:∀ a,a∈A→okR a):g_dedup_insert s n (A++[])=some (mrgL A ⟨s,n,n⟩ []):=by
 unfold g_dedup_insert
 rw [hp,Option.bind_some]
 unfold x_InsertRange
 rw [List.append_nil,ck_pos ⟨by omega,by omega,by simp,by simp; omega⟩,Option.bind_some,show ((p:Nat):Int).toNat=p from by omega,List.take_of_length_le (by omega),List.drop_of_length_le (by omega),List.append_nil]
 have hf:decide ((p:Int)+1 < ((A++[(⟨s,n,n⟩:Range)]).length:Int))=false:=by
  rw [decide_eq_false_iff_not,List.length_append,List.length_singleton]; omega
 simp only [hf]
 rw [ck_pos (by omega),ck_pos (fun h=>absurd h Bool.false_ne_true),ck_pos (fun h=>absurd h Bool.false_ne_true),ck_pos (fun h=>absurd h Bool.false_ne_true),ck_pos (fun h=>absurd h Bool.false_ne_true),ck_pos (fun h=>absurd h Bool.false_ne_true)]
 simp only [gcall,Bool.false_eq_true,if_false,Option.bind_some,Bool.false_and]
 exact p_ins1 A [] _ _ (by omega) (by rw [List.length_nil]; omega) hkA
theorem p_ins_cons (A B':List Range) (b:Range) (s n:Int) (p:Nat) (hp:g_dedup_place s n (A++b :: B')=some (p:Int)) (hlA:A.length=p) (hl:A.length+B'.length≤100000) (hkA:∀ a,a∈A→okR a) (hb:okR b) (hn:0≤n∧n≤999999999):g_dedup_insert s n (A++b :: B')=some (if TR s n b then mrgL A ⟨s,n,b.to_⟩ B' else mrgL A ⟨s,n,n⟩ (b :: B')):=by
 unfold g_dedup_insert
 rw [hp,Option.bind_some]
 unfold x_InsertRange
 have e3:((p:Int)+1).toNat=p+1:=by omega
 have e4:((p:Int)+2).toNat=p+2:=by omega
 have hlen:(A++b :: B').length=p+(B'.length+1):=by rw [List.length_append,List.length_cons,hlA]
 rw [ck_pos ⟨by omega,by omega,by simp,by rw [hlen,List.length_singleton]; omega⟩,Option.bind_some,show ((p:Nat):Int).toNat=p from by omega,List.take_append_of_le_length (by omega),List.take_of_length_le (by omega),show List.drop p (A++b :: B')=b :: B' from by rw [←hlA,List.drop_left],List.append_assoc,List.singleton_append]
 unfold okR at hb
 have hlen2:(A++(⟨s,n,n⟩:Range) :: b :: B').length=p+(B'.length+2):=by rw [List.length_append,List.length_cons,List.length_cons,hlA]
 have ht:decide ((p:Int)+1 < ((A++(⟨s,n,n⟩:Range) :: b :: B').length:Int))=true:=by rw [decide_eq_true_iff,hlen2]; omega
 simp only [ht]
 rw [ck_pos (by omega),ck_pos (fun _=>by rw [hlen2]; omega),ck_pos (fun _=>by rw [hlen2]; omega),ck_pos (fun _=>by omega),ck_pos (fun _=>by rw [hlen2]; omega),ck_pos (fun _=>by rw [hlen2]; omega),e3,at_mid hlA,at_mid1 hlA]
 unfold f_dedup_touch
 rw [ck_pos (fun _=>by simp only; omega)]
 simp only [gcall,if_true,Option.bind_some,Bool.true_and]
 by_cases h:TR s n b
 ·have h':=h
  unfold TR at h'
  rw [if_pos (by simp; omega),if_pos h,ck_pos (by omega),ck_pos (by rw [hlen2]; omega),ck_pos (by rw [hlen2]; omega),ck_pos (by rw [hlen2]; omega),ck_pos (by rw [hlen2]; omega),ck_pos (by omega),ck_pos (by omega),set_mid hlA]
  unfold x_DeleteRange
  have hlen3:(A++(⟨s,n,b.to_⟩:Range) :: b :: B').length=p+(B'.length+2):=by rw [List.length_append,List.length_cons,List.length_cons,hlA]
  rw [ck_pos (by rw [hlen3]; omega),e3,e4,del_mid hlA]
  simp only [Option.bind_some]
  exact p_ins1 A B' _ _ (by omega) (by omega) hkA
 ·have h':=h
  unfold TR at h'
  rw [if_neg (by simp; omega),if_neg h]
  exact p_ins1 A (b :: B') _ _ (by omega) (by rw [List.length_cons]; omega) hkA
theorem p_insert (l:List Range) (s n:Int) (hc:Can l) (hn:0≤n∧n≤999999999) (hl:l.length≤100000):g_dedup_insert s n l=some (addF s n l):=by
 have hp:=p_place l s n hc hl
 have hle:=plN_le s n l
 have hA:=plN_take s n l
 have hB:=plN_drop (s:=s) (n:=n) hc
 have hlA:(l.take (plN s n l)).length=plN s n l:=by rw [List.length_take]; omega
 have hlB:(l.drop (plN s n l)).length=l.length-plN s n l:=by rw [List.length_drop]
 have hkA:∀ a,a∈l.take (plN s n l)→okR a:=fun a ha=>hc.ok a (List.mem_of_mem_take ha)
 have hkB:∀ b,b∈l.drop (plN s n l)→okR b:=fun b hb=>hc.ok b (List.mem_of_mem_drop hb)
 have key:=addR_mrg hA hB (hc.srt.sublist (List.take_sublist _ _)) hkA
 have e:=List.take_append_drop (plN s n l) l
 cases hBc:l.drop (plN s n l) with
 | nil =>
  rw [hBc] at key e
  have:=p_ins_nil (l.take (plN s n l)) s n (plN s n l) (by rw [e]; exact hp) hlA (by omega) hkA
  rw [e] at this key
  rw [this,key]; rfl
 | cons b B' =>
  rw [hBc] at key e hlB
  rw [List.length_cons] at hlB
  have:=p_ins_cons (l.take (plN s n l)) B' b s n (plN s n l) (by rw [e]; exact hp) hlA (by omega) hkA (hkB b (by rw [hBc]; exact List.mem_cons_self ..)) hn
  rw [e] at this key
  rw [this,key]; rfl
def chkL (src:Int):List Record→Int
 | []=>0
 | r :: l=>if errF r=0 then (if r.source=src then chkL src l else 8) else errF r
def hdF (s n f:Int):Int:=if (s < 1∨99 < s)∨(n < 1∨999999999 < n) then 6 else if f < 1∨3 < f then 7 else 0
def chkF (b:Batch):Int:=if hdF b.source b.number b.format=0 then (if 4096 < b.records.length then 5 else chkL b.source b.records) else hdF b.source b.number b.format
def SmL (l:List Record):Prop:=∀ r,r∈l→r.a.length < 1000000000∧r.b.length < 1000000000
theorem SmL.nth {l:List Record} (h:SmL l) {k:Nat} (hk:k < l.length):(Go.Abs.nth l k).a.length < 1000000000∧(Go.Abs.nth l k).b.length < 1000000000:=by
 rw [nth_eq hk]; exact h _ (List.getElem_mem hk)
theorem p_checkL (b:Batch) (h:SmL b.records) (hl:b.records.length≤4096):loop (fun s=>f_batch_Check_l1 b s) 0=some (chkL b.source b.records):=by
 have:=loop_spec (step:=fun s=>f_batch_Check_l1 b s) (fun i:Int=>some (chkL b.source (b.records.drop i.toNat))) (fun i=>0≤i∧i≤(b.records.length:Int)) (fun i=>((b.records.length:Int) - i).toNat) (fun i hI=>by
  obtain ⟨h0,h1⟩:=hI
  show (∃ r,f_batch_Check_l1 b i=_∧_)∨∃ s',f_batch_Check_l1 b i=_∧_
  unfold f_batch_Check_l1
  by_cases hi:i < (b.records.length:Int)
  ·have hd:=drop_nth (l:=b.records) (k:=i.toNat) (by omega)
   have hs:=h.nth (k:=i.toNat) (by omega)
   rw [if_pos (by simpa using hi),ck_pos ⟨h0,hi⟩,p_Encode _ hs.1 hs.2,hd]
   generalize Go.Abs.nth b.records i.toNat=r at *
   simp only [Option.bind_some,chkL]
   by_cases he:errF r=0
   ·rw [if_neg (by simp [he]),if_pos he]
    by_cases hsrc:r.source=b.source
    ·rw [if_neg (by simp [hsrc]),if_pos hsrc,ck_pos (by omega)]
     refine .inr ⟨i+1,rfl,⟨by omega,by omega⟩,by omega,?_⟩
     rw [show (i+1).toNat=i.toNat+1 from by omega]
    ·rw [if_pos (by simpa using hsrc),if_neg hsrc]
     exact .inl ⟨_,rfl,rfl⟩
   ·rw [if_pos (by simpa using he),if_neg he]
    exact .inl ⟨_,rfl,rfl⟩
  ·rw [if_neg (by simpa using hi),List.drop_of_length_le (by omega)]
   exact .inl ⟨_,rfl,rfl⟩) (s:=0) ⟨by omega,by omega⟩ (by omega)
 simpa using this
theorem p_head (h:Head):f_batch_checkHead h=some (if hdF h.source h.number h.format=0 then (if h.count < 0∨4096 < h.count then 5 else 0) else hdF h.source h.number h.format):=by
 unfold f_batch_checkHead
 simp only [f_batch_within,Option.bind_some,gcall_mk]
 by_cases h1:(h.source < 1∨99 < h.source)∨(h.number < 1∨999999999 < h.number)
 ·have e:hdF h.source h.number h.format=6:=if_pos h1
  rw [e]
  show _=some (6:Int)
  by_cases hs:h.source < 1∨99 < h.source
  ·rw [if_pos (by simp; omega)]
  ·have hn:h.number < 1∨999999999 < h.number:=by omega
   rw [if_pos (by simp; omega)]
 ·by_cases h2:h.format < 1∨3 < h.format
  ·have e:hdF h.source h.number h.format=7:=by unfold hdF; rw [if_neg h1,if_pos h2]
   rw [e]
   show _=some (7:Int)
   rw [if_neg (by simp; omega),if_pos (by simp; omega)]
  ·have e:hdF h.source h.number h.format=0:=by unfold hdF; rw [if_neg h1,if_neg h2]
   rw [e]
   show _=some (if h.count < 0∨4096 < h.count then 5 else 0)
   rw [if_neg (by simp; omega),if_neg (by simp; omega)]
   by_cases h3:h.count < 0∨4096 < h.count
   ·rw [if_pos h3,if_pos (by simp; omega)]
   ·rw [if_neg h3,if_neg (by simp; omega)]
theorem p_bChk (b:Batch) (h:SmL b.records):f_batch_Check b=some (chkF b):=by
 unfold f_batch_Check f_batch_headOf chkF
 simp only [Option.bind_some,p_head]
 by_cases h1:hdF b.source b.number b.format=0
 ·simp only [h1,if_true]
  by_cases h2:4096 < b.records.length
  ·have h2':(b.records.length:Int) < 0∨4096 < (b.records.length:Int):=by omega
   rw [if_pos h2',if_pos h2]; rfl
  ·have h2':¬ ((b.records.length:Int) < 0∨4096 < (b.records.length:Int)):=by omega
   rw [if_neg h2',if_neg h2]
   exact p_checkL b h (by omega)
 ·simp only [if_neg h1]
  rw [if_pos (by simpa using h1)]
theorem chkL_ok {s:Int}:∀ {l:List Record},chkL s l=0→∀ r,r∈l→errF r=0
 | [],_,r,h=>by cases h
 | x :: l,hc,r,h=>by
  rw [chkL] at hc
  by_cases he:errF x=0
  ·rw [if_pos he] at hc
   by_cases hs:x.source=s
   ·rw [if_pos hs] at hc
    rcases List.mem_cons.1 h with rfl | h
    ·exact he
    ·exact chkL_ok hc r h
   ·rw [if_neg hs] at hc; omega
  ·rw [if_neg he] at hc; exact absurd hc he
theorem chkF_ok {b:Batch} (h:chkF b=0):(1≤b.source∧b.source≤99)∧(1≤b.number∧b.number≤999999999)∧(1≤b.format∧b.format≤3)∧b.records.length≤4096∧∀ r,r∈b.records→errF r=0:=by
 unfold chkF at h
 by_cases h1:hdF b.source b.number b.format=0
 ·rw [if_pos h1] at h
  by_cases h2:4096 < b.records.length
  ·rw [if_pos h2] at h; omega
  ·rw [if_neg h2] at h
   unfold hdF at h1
   by_cases h3:(b.source < 1∨99 < b.source)∨(b.number < 1∨999999999 < b.number)
   ·rw [if_pos h3] at h1; omega
   ·rw [if_neg h3] at h1
    by_cases h4:b.format < 1∨3 < b.format
    ·rw [if_pos h4] at h1; omega
    ·exact ⟨by omega,by omega,by omega,by omega,chkL_ok h⟩
 ·rw [if_neg h1] at h; exact absurd h h1
theorem err_id {r:Record} (h:errF r=0):idB r.source r.serial=true:=by
 have g:=errF_good h
 have h1:=g.source
 have h2:=g.serial
 unfold idB
 rw [decide_eq_true_iff]
 exact ⟨by omega,by omega⟩
theorem addR_can {s n f:Int} {l:List Range} (hc:Can l) (hi:idB s n=true) (hf:1≤f∧f≤n) (h:∀ r,r∈l→PL s n r) (hh:hasB l s n=false):Can (addR s n f l)∧∀ p,okR p→(RLt p ⟨s,f,n⟩)→(∀ r,r∈l→RLt p r)→∀ x,x∈addR s n f l→RLt p x:=by
 have hi':=of_decide_eq_true hi
 cases l with
 | nil =>
  refine ⟨⟨fun x hx=>?_,by simp [addR]⟩,fun p hp h1 h2 x hx=>?_⟩
  ·simp [addR] at hx; subst hx; unfold okR; simp only; omega
  ·simp [addR] at hx; subst hx; exact h1
 | cons r l =>
  have hr:=h r (List.mem_cons_self ..)
  have ho:=hc.ok r (List.mem_cons_self ..)
  have hs:=List.pairwise_cons.1 hc.srt
  have hn:¬(r.source=s∧r.from_≤n∧n≤r.to_):=by
   have:=List.any_eq_false.1 hh r (List.mem_cons_self ..)
   simpa using this
  rw [addR]
  by_cases h3:TR s n r
  ·rw [if_pos h3]
   unfold TR at h3
   have ho':=ho
   unfold okR at ho'
   refine ⟨⟨fun x hx=>?_,List.pairwise_cons.2 ⟨fun x hx=>?_,hs.2⟩⟩,fun p hp h1 h2 x hx=>?_⟩
   ·rcases List.mem_cons.1 hx with rfl | hx
    ·unfold okR; simp only; omega
    ·exact hc.ok x (List.mem_cons_of_mem _ hx)
   ·have:=hs.1 x hx
    unfold RLt at this ⊢; simp only; omega
   ·rcases List.mem_cons.1 hx with rfl | hx
    ·unfold RLt at h1 ⊢; simp only at h1 ⊢; omega
    ·exact h2 x (List.mem_cons_of_mem _ hx)
  ·rw [if_neg h3]
   unfold TR at h3
   have ho':=ho
   unfold okR at ho'
   have hlt:RLt ⟨s,f,n⟩ r:=by
    unfold RLt; unfold PL at hr; simp only; omega
   refine ⟨⟨fun x hx=>?_,List.pairwise_cons.2 ⟨fun x hx=>?_,hc.srt⟩⟩,fun p hp h1 h2 x hx=>?_⟩
   ·rcases List.mem_cons.1 hx with rfl | hx
    ·unfold okR; simp only; omega
    ·exact hc.ok x hx
   ·rcases List.mem_cons.1 hx with rfl | hx
    ·exact hlt
    ·have:=hs.1 x hx
     unfold RLt at this hlt ⊢; simp only at hlt ⊢; omega
   ·rcases List.mem_cons.1 hx with rfl | hx
    ·exact h1
    ·exact h2 x hx
theorem addF_can {s n:Int} (hi:idB s n=true):∀ {l:List Range},Can l→hasB l s n=false→Can (addF s n l)∧∀ p,okR p→RLt p ⟨s,n,n⟩→(∀ r,r∈l→RLt p r)→∀ x,x∈addF s n l→RLt p x
 | [],hc,hh=>addR_can hc hi (by have:=of_decide_eq_true hi; omega) (by simp) hh
 | r :: l,hc,hh=>by
  have hi':=of_decide_eq_true hi
  have ho:=hc.ok r (List.mem_cons_self ..)
  have hs:=List.pairwise_cons.1 hc.srt
  have ho':=ho
  unfold okR at ho'
  by_cases hp:PL s n r
  ·rw [addF,if_pos hp]
   exact addR_can hc hi (by omega) (fun x hx=>by
    rcases List.mem_cons.1 hx with rfl | hx
    ·exact hp
    ·exact PL_mono (hs.1 x hx) (hc.ok x (List.mem_cons_of_mem _ hx)) hp) hh
  ·rw [addF,if_neg hp]
   by_cases h1:TL s n r
   ·rw [if_pos h1]
    have h1':=h1
    unfold TL at h1'
    have:=addR_can (f:=r.from_) hc.tail hi (by omega) (fun x hx=>by
     have h3:=hs.1 x hx
     have h5:=hc.ok x (List.mem_cons_of_mem _ hx)
     unfold RLt at h3; unfold okR at h5; unfold PL; omega) (has_tail hh)
    refine ⟨this.1,fun p hq h2 h3 x hx=>this.2 p hq ?_ (fun y hy=>h3 y (List.mem_cons_of_mem _ hy)) x hx⟩
    have:=h3 r (List.mem_cons_self ..)
    unfold RLt at this ⊢; simp only; omega
   ·rw [if_neg h1]
    unfold TL at h1
    unfold PL at hp
    obtain ⟨k1,k2⟩:=addF_can hi hc.tail (has_tail hh)
    refine ⟨⟨fun x hx=>?_,List.pairwise_cons.2 ⟨k2 r ho ?_ hs.1,k1.srt⟩⟩,fun p hq h2 h3 x hx=>?_⟩
    ·rcases List.mem_cons.1 hx with rfl | hx
     ·exact ho
     ·exact k1.ok x hx
    ·unfold RLt; simp only; omega
    ·rcases List.mem_cons.1 hx with rfl | hx
     ·exact h3 x (List.mem_cons_self ..)
     ·exact k2 p hq h2 (fun y hy=>h3 y (List.mem_cons_of_mem _ hy)) x hx
theorem addR_len (s n f:Int) (l:List Range):(addR s n f l).length≤l.length+1:=by
 cases l with
 | nil=>simp [addR]
 | cons r l=>rw [addR]; split <;> simp
theorem addF_len (s n:Int):∀ (l:List Range),(addF s n l).length≤l.length+1
 | []=>by simp [addF]
 | r :: l=>by
  have h1:=addR_len s n n (r :: l)
  have h2:=addR_len s n r.from_ l
  have h3:=addF_len s n l
  rw [addF]
  split
  ·exact h1
  ·split
   ·simp only [List.length_cons]; omega
   ·simp only [List.length_cons]; omega
abbrev Tri:=List Range×List Record×List Reject
def inW (w:Window) (r:Record):Prop:=¬(r.start < w.earliest∨r.start > w.latest)
instance (w:Window) (r:Record):Decidable (inW w r):=by unfold inW; infer_instance
def rjF (r:Record) (i e:Int):Reject:=⟨r.source,r.serial,i,e⟩
def dP (w:Window):List Range→Int→List Record→Tri
  | l,i,[]=>(l,[],[])
  | l,i,r :: t =>
    if inW w r then
      (if hasB l r.source r.serial=false then ((dP w (addF r.source r.serial l) (i+1) t).1,r :: (dP w (addF r.source r.serial l) (i+1) t).2.1,(dP w (addF r.source r.serial l) (i+1) t).2.2)
       else ((dP w l (i+1) t).1,(dP w l (i+1) t).2.1,rjF r i 13 :: (dP w l (i+1) t).2.2))
    else ((dP w l (i+1) t).1,(dP w l (i+1) t).2.1,rjF r i 15 :: (dP w l (i+1) t).2.2)
def gP:List Range→List (Int×Record)→Tri
 | l,[]=>(l,[],[])
 | l,p :: t =>
  if hasB l p.2.source p.2.serial=false then ((gP (addF p.2.source p.2.serial l) t).1,p.2 :: (gP (addF p.2.source p.2.serial l) t).2.1,(gP (addF p.2.source p.2.serial l) t).2.2)
  else ((gP l t).1,(gP l t).2.1,rjF p.2 p.1 13 :: (gP l t).2.2)
def pW (w:Window):Int→List Record→List (Int×Record)
 | i,[]=>[]
 | i,r :: t=>if inW w r then (i,r) :: pW w (i+1) t else pW w (i+1) t
def nW (w:Window):Int→List Record→List Reject
 | i,[]=>[]
 | i,r :: t=>if inW w r then nW w (i+1) t else rjF r i 15 :: nW w (i+1) t
def enR:Int→List Record→List (Int×Record)
 | i,[]=>[]
 | i,r :: t=>(i,r) :: enR (i+1) t
theorem dP_gP (w:Window):∀ (t:List Record) (l:List Range) (i:Int),(dP w l i t).1=(gP l (pW w i t)).1∧(dP w l i t).2.1=(gP l (pW w i t)).2.1∧(dP w l i t).2.2.Perm (nW w i t++(gP l (pW w i t)).2.2)
 | [],l,i=>⟨rfl,rfl,List.Perm.refl _⟩
 | r :: t,l,i=>by
  by_cases h:inW w r
  ·by_cases hh:hasB l r.source r.serial=false
   ·obtain ⟨a,b,c⟩:=dP_gP w t (addF r.source r.serial l) (i+1)
    simp only [dP,pW,nW,gP,if_pos h,if_pos hh]
    exact ⟨a,by rw [b],c⟩
   ·obtain ⟨a,b,c⟩:=dP_gP w t l (i+1)
    simp only [dP,pW,nW,gP,if_pos h,if_neg hh]
    exact ⟨a,b,(c.cons _).trans List.perm_middle.symm⟩
  ·obtain ⟨a,b,c⟩:=dP_gP w t l (i+1)
   simp only [dP,pW,nW,if_neg h]
   exact ⟨a,b,c.cons _⟩
theorem dP_idx (w:Window):∀ (t:List Record) (l:List Range) (i:Int),(∀ x,x∈(dP w l i t).2.2→i≤x.index)∧(dP w l i t).2.2.Pairwise (fun a b=>a.index < b.index)
 | [],l,i=>⟨fun x hx=>by simp [dP] at hx,by simp [dP]⟩
 | r :: t,l,i=>by
  by_cases h:inW w r
  ·by_cases hh:hasB l r.source r.serial=false
   ·obtain ⟨a,b⟩:=dP_idx w t (addF r.source r.serial l) (i+1)
    simp only [dP,if_pos h,if_pos hh]
    exact ⟨fun x hx=>by have:=a x hx; omega,b⟩
   ·obtain ⟨a,b⟩:=dP_idx w t l (i+1)
    simp only [dP,if_pos h,if_neg hh]
    refine ⟨fun x hx=>?_,List.pairwise_cons.2 ⟨fun x hx=>?_,b⟩⟩
    ·rcases List.mem_cons.1 hx with rfl | hx
     ·exact Int.le_refl _
     ·have:=a x hx; omega
    ·have:=a x hx; simp only [rjF]; omega
  ·obtain ⟨a,b⟩:=dP_idx w t l (i+1)
   simp only [dP,if_neg h]
   refine ⟨fun x hx=>?_,List.pairwise_cons.2 ⟨fun x hx=>?_,b⟩⟩
   ·rcases List.mem_cons.1 hx with rfl | hx
    ·exact Int.le_refl _
    ·have:=a x hx; omega
   ·have:=a x hx; simp only [rjF]; omega
theorem insR_pm (x:Reject):∀ (l:List Reject),(insR x l).Perm (x :: l)
 | []=>List.Perm.refl _
 | y :: l=>by
  rw [insR]
  split
  ·exact List.Perm.refl _
  ·exact ((insR_pm x l).cons y).trans (List.Perm.swap x y l)
theorem sortR_pm:∀ (l:List Reject),(sortR l).Perm l
 | []=>List.Perm.refl _
 | x :: l=>(insR_pm x _).trans ((sortR_pm l).cons x)
theorem insR_st (x:Reject):∀ {l:List Reject},l.Pairwise (fun a b=>a.index≤b.index)→(insR x l).Pairwise (fun a b=>a.index≤b.index)
 | [],_=>by simp [insR]
 | y :: l,h=>by
  have h':=List.pairwise_cons.1 h
  rw [insR]
  by_cases hxy:x.index≤y.index
  ·rw [if_pos hxy]
   refine List.pairwise_cons.2 ⟨fun z hz=>?_,h⟩
   rcases List.mem_cons.1 hz with rfl | hz
   ·exact hxy
   ·have:=h'.1 z hz; omega
  ·rw [if_neg hxy]
   refine List.pairwise_cons.2 ⟨fun z hz=>?_,insR_st x h'.2⟩
   rcases List.mem_cons.1 ((insR_pm x l).mem_iff.1 hz) with rfl | hz
   ·omega
   ·exact h'.1 z hz
theorem sortR_st:∀ (l:List Reject),(sortR l).Pairwise (fun a b=>a.index≤b.index)
 | []=>List.Pairwise.nil
 | x :: l=>insR_st x (sortR_st l)
theorem rej_uniq:∀ {l l':List Reject},l.Pairwise (fun a b=>a.index≤b.index)→l'.Pairwise (fun a b=>a.index < b.index)→l.Perm l'→l=l'
 | [],l',_,_,p=>by rw [List.Perm.nil_eq p]
 | a :: l,[],_,_,p=>by have:=p.length_eq; simp at this
 | a :: l,b :: l',h,h',p=>by
  have h1:=List.pairwise_cons.1 h
  have h2:=List.pairwise_cons.1 h'
  have e:a=b:=by
   rcases List.mem_cons.1 (p.mem_iff.1 (List.mem_cons_self ..)) with e | ha
   ·exact e
   ·rcases List.mem_cons.1 (p.mem_iff.2 (List.mem_cons_self ..)) with e | hb
    ·exact e.symm
    ·have:=h1.1 b hb
     have:=h2.1 a ha
     omega
  subst e
  rw [rej_uniq h1.2 h2.2 p.cons_inv]
theorem p_sort {l d:List Reject} (hd:d.Pairwise (fun a b=>a.index < b.index)) (p:d.Perm l) (hl:l.length≤100000):x_SortReject l=some d:=by
 unfold x_SortReject
 have hn:(l.map (·.index)).Nodup:=by
  refine (p.map (·.index)).nodup_iff.1 ?_
  rw [List.Nodup,List.pairwise_map]
  exact hd.imp (fun h=>by omega)
 rw [ck_pos ⟨by omega,hn⟩,rej_uniq (sortR_st l) hd ((sortR_pm l).trans p.symm)]
theorem gP_map (f:Int→Int):∀ (ps:List (Int×Record)) (l:List Range),gP l (ps.map fun p=>(f p.1,p.2))=((gP l ps).1,(gP l ps).2.1,(gP l ps).2.2.map fun x=>⟨x.source,x.serial,f x.index,x.err⟩)
 | [],l=>rfl
 | p :: t,l=>by
  simp only [List.map_cons,gP]
  by_cases hh:hasB l p.2.source p.2.serial=false
  ·simp only [if_pos hh,gP_map f t]
  ·simp only [if_neg hh,gP_map f t,List.map_cons,rjF]
theorem en_pos (full:List Int):∀ (ps:List (Int×Record)) (k:Int),0≤k→(∀ j,j < ps.length→nth full (k.toNat+j)=nth (ps.map (·.1)) j)→(enR k (ps.map (·.2))).map (fun p=>(nth full p.1.toNat,p.2))=ps
 | [],k,_,_=>rfl
 | p :: ps,k,h0,h=>by
  have h1:=h 0 (by simp)
  rw [Nat.add_zero,List.map_cons,nth_cons_zero] at h1
  simp only [List.map_cons,enR,h1]
  congr 1
  exact en_pos full ps (k+1) (by omega) (fun j hj=>by
   have:=h (j+1) (by simpa using hj)
   rw [List.map_cons,nth_cons_succ] at this
   rw [←this]; congr 1; omega)
theorem gP_idx {lo hi:Int}:∀ {ps:List (Int×Record)} {l:List Range},(∀ p,p∈ps→lo≤p.1∧p.1 < hi)→∀ x,x∈(gP l ps).2.2→lo≤x.index∧x.index < hi
 | [],l,_,x,hx=>by simp [gP] at hx
 | p :: t,l,h,x,hx=>by
  have h':=fun q hq=>h q (List.mem_cons_of_mem _ hq)
  rw [gP] at hx
  by_cases hh:hasB l p.2.source p.2.serial=false
  ·rw [if_pos hh] at hx; exact gP_idx h' x hx
  ·rw [if_neg hh] at hx
   rcases List.mem_cons.1 hx with rfl | hx
   ·exact h p (List.mem_cons_self ..)
   ·exact gP_idx h' x hx
theorem en_idx:∀ (t:List Record) (i:Int) (p:Int×Record),p∈enR i t→i≤p.1∧p.1 < i+t.length
 | [],i,p,h=>by simp [enR] at h
 | r :: t,i,p,h=>by
  rcases List.mem_cons.1 h with rfl | h
  ·simp only [List.length_cons]; omega
  ·have:=en_idx t (i+1) p h
   simp only [List.length_cons]; omega
theorem gP_len:∀ (ps:List (Int×Record)) (l:List Range),(gP l ps).2.1.length+(gP l ps).2.2.length=ps.length∧(gP l ps).1.length≤l.length+ps.length
 | [],l=>by simp [gP]
 | p :: t,l=>by
  rw [gP]
  by_cases hh:hasB l p.2.source p.2.serial=false
  ·have:=gP_len t (addF p.2.source p.2.serial l)
   have h2:=addF_len p.2.source p.2.serial l
   rw [if_pos hh]; simp only [List.length_cons]; omega
  ·have:=gP_len t l
   rw [if_neg hh]; simp only [List.length_cons]; omega
theorem pW_len (w:Window):∀ (t:List Record) (i:Int),(pW w i t).length+(nW w i t).length=t.length
 | [],i=>rfl
 | r :: t,i=>by
  have:=pW_len w t (i+1)
  rw [pW,nW]
  by_cases h:inW w r
  ·rw [if_pos h,if_pos h]; simp only [List.length_cons]; omega
  ·rw [if_neg h,if_neg h]; simp only [List.length_cons]; omega
theorem pW_mem (w:Window):∀ (t:List Record) (i:Int) (p:Int×Record),p∈pW w i t→i≤p.1∧p.1 < i+t.length∧nth t (p.1-i).toNat=p.2∧p.2∈t
 | [],i,p,h=>by simp [pW] at h
 | r :: t,i,p,h=>by
  have key:p∈pW w (i+1) t→i≤p.1∧p.1 < i+(r :: t).length∧nth (r :: t) (p.1-i).toNat=p.2∧p.2∈r :: t:=fun h=>by
   obtain ⟨a,b,c,d⟩:=pW_mem w t (i+1) p h
   refine ⟨by omega,by simp only [List.length_cons]; omega,?_,List.mem_cons_of_mem _ d⟩
   rw [show (p.1-i).toNat=(p.1-(i+1)).toNat+1 from by omega,nth_cons_succ]; exact c
  rw [pW] at h
  by_cases hw:inW w r
  ·rw [if_pos hw] at h
   rcases List.mem_cons.1 h with rfl | h
   ·refine ⟨Int.le_refl _,by simp only [List.length_cons]; omega,?_,List.mem_cons_self ..⟩
    rw [show (i-i).toNat=0 from by omega,nth_cons_zero]
   ·exact key h
  ·rw [if_neg hw] at h; exact key h
theorem gP_mem:∀ {ps:List (Int×Record)} {l:List Range} {r:Record},r∈(gP l ps).2.1→∃ p,p∈ps∧p.2=r
 | [],l,r,h=>by simp [gP] at h
 | p :: t,l,r,h=>by
  rw [gP] at h
  by_cases hh:hasB l p.2.source p.2.serial=false
  ·rw [if_pos hh] at h
   rcases List.mem_cons.1 h with rfl | h
   ·exact ⟨p,List.mem_cons_self ..,rfl⟩
   ·obtain ⟨q,h1,h2⟩:=gP_mem h; exact ⟨q,List.mem_cons_of_mem _ h1,h2⟩
  ·rw [if_neg hh] at h
   obtain ⟨q,h1,h2⟩:=gP_mem h; exact ⟨q,List.mem_cons_of_mem _ h1,h2⟩
theorem joinF_len2:∀ (now l:List Record),(joinF now l).1.length+(joinF now l).2.length≤now.length+l.length
 | now,[]=>by simp [joinF]
 | now,r :: l=>by
  have h1:=stepJ_len now r
  have h2:=joinF_len2 (stepJ now r).2 l
  simp only [joinF,List.length_cons,List.length_append]
  omega
theorem p_win (r:Record) (w:Window):f_validate_Window r w=some (if inW w r then 0 else 15):=by
 unfold f_validate_Window
 by_cases h:inW w r
 ·rw [if_pos h,if_neg (by unfold inW at h; simpa using h)]
 ·rw [if_neg h,if_pos (by unfold inW at h; have h':=Decidable.not_not.1 h; simpa using h')]
theorem p_timely (l:List Record) (w:Window) (hl:l.length≤100000):g_intake_timely l w=some ((pW w 0 l).map (·.1),nW w 0 l):=by
 unfold g_intake_timely
 refine (loop_rec0 l (fun st:List Reject×List Int×Int=>st.2.2) (fun st t=>some (st.2.1++(pW w st.2.2 t).map (·.1),st.1++nW w st.2.2 t)) (fun st t=>st.1.length+st.2.1.length+t.length≤100000) (by omega) ?_ ?_ (s:=(([]:List Reject),([]:List Int),(0:Int))) rfl (by simpa using hl)).trans (by simp)
 ·rintro ⟨y,a,i⟩ _ hi
  simp only at hi ⊢
  unfold g_intake_timely_l1
  rw [if_neg (by simp only [decide_eq_true_eq]; omega)]
  exact ⟨_,rfl,by simp [pW,nW]⟩
 ·rintro ⟨y,a,i⟩ r t hb hi0 hi1 hx hlen
  simp only at hb hi0 hi1 hx hlen ⊢
  simp only [List.length_cons] at hb
  unfold g_intake_timely_l1
  rw [if_pos (by simpa using hi1),ck_pos ⟨hi0,hi1⟩,hx,p_win,Option.bind_some]
  by_cases h:inW w r
  ·rw [if_pos h,if_neg (by simp),ck_pos (by simp only [List.length_singleton]; omega),ck_pos (by omega)]
   refine .inr ⟨_,rfl,by simp only [List.length_append,List.length_singleton]; omega,rfl,?_⟩
   simp only [pW,nW,if_pos h,List.map_cons,List.append_assoc,List.singleton_append]
  ·rw [if_neg h,if_pos (by simp),ck_pos (by simp only [List.length_singleton]; omega),ck_pos (by omega)]
   refine .inr ⟨_,rfl,by simp only [List.length_append,List.length_singleton]; omega,rfl,?_⟩
   simp only [pW,nW,if_neg h,rjF,List.append_assoc,List.singleton_append]
theorem p_filter (l:List Range) (recs:List Record) (hc:Can l) (hv:∀ r,r∈recs→errF r=0) (hl:l.length+recs.length≤50000):f_dedup_Filter l recs=some (gP l (enR 0 recs)):=by
 unfold f_dedup_Filter x_CloneRange
 rw [ck_pos (by omega),Option.bind_some]
 refine (loop_rec0 recs (fun st:List Range×List Record×Int×List Reject=>st.2.2.1) (fun st t=>some ((gP st.1 (enR st.2.2.1 t)).1,st.2.1++(gP st.1 (enR st.2.2.1 t)).2.1,st.2.2.2++(gP st.1 (enR st.2.2.1 t)).2.2)) (fun st t=>Can st.1∧(st.1.length+t.length≤50000∧st.2.1.length+st.2.2.2.length+t.length≤50000)∧∀ r,r∈t→errF r=0) (by omega) ?_ ?_ (s:=(l,([]:List Record),(0:Int),([]:List Reject))) rfl ⟨hc,⟨hl,by simp only [List.length_nil]; omega⟩,hv⟩).trans (by simp)
 ·rintro ⟨y,o,i,e⟩ _ hi
  simp only at hi ⊢
  unfold f_dedup_Filter_l1 f_dedup_Filter_j1
  rw [if_neg (by simp only [decide_eq_true_eq]; omega)]
  exact ⟨_,rfl,by simp [gP,enR]⟩
 ·rintro ⟨y,o,i,e⟩ r t ⟨hy,⟨hb1,hb2⟩,ht⟩ hi0 hi1 hx hlen
  simp only at hy hb1 hb2 ht hi0 hi1 hx hlen ⊢
  simp only [List.length_cons] at hb1 hb2
  have hr:=ht r (List.mem_cons_self ..)
  have hid:=err_id hr
  have hid':=of_decide_eq_true hid
  have ht':∀ x,x∈t→errF x=0:=fun x hx=>ht x (List.mem_cons_of_mem _ hx)
  unfold f_dedup_Filter_l1
  rw [if_pos (by simpa using hi1),ck_pos ⟨hi0,hi1⟩,hx]
  simp only [f_dedup_identity,ident_iff,Option.bind_some]
  rw [show decide ((1≤r.source∧r.source≤99)∧1≤r.serial∧r.serial≤999999999)=true from hid,if_neg (by simp),p_gHas y _ _ hy (by omega),Option.bind_some,hid,Bool.and_true]
  simp only [enR,gP]
  by_cases hh:hasB y r.source r.serial=false
  ·rw [if_neg (by simp [hh]),if_pos hh,p_insert y _ _ hy (by omega) (by omega),Option.bind_some,ck_pos (by simp only [List.length_singleton]; omega),ck_pos (by omega)]
   have:=addF_len r.source r.serial y
   refine .inr ⟨_,rfl,⟨(addF_can hid hy hh).1,⟨by simp only; omega,by simp only [List.length_append,List.length_singleton]; omega⟩,ht'⟩,rfl,?_⟩
   simp only [List.append_assoc,List.singleton_append]
  ·rw [if_pos (by simpa using hh),if_neg hh]
   unfold g_dedup_Filter_1
   rw [ck_pos ⟨hi0,hi1⟩,ck_pos ⟨hi0,hi1⟩,hx,ck_pos (by simp only [List.length_singleton]; omega),Option.bind_some,ck_pos (by omega)]
   refine .inr ⟨_,rfl,⟨hy,⟨by simp only; omega,by simp only [List.length_append,List.length_singleton]; omega⟩,ht'⟩,rfl,?_⟩
   simp only [rjF,List.append_assoc,List.singleton_append]
def atF (a:List Int) (x:Reject):Reject:=⟨x.source,x.serial,nth a x.index.toNat,x.err⟩
abbrev Res:=Intake×(List Record)×(List Reject)×Int
theorem p_acc1 (b:Batch) (y3:List Int×List Reject) (y4:List Range×List Record×List Head) (y5:Tri) (R:Res) (hidx:∀ x,x∈y5.2.2→0≤x.index∧x.index < (y3.1.length:Int)) (hl:y3.2.length+y5.2.2.length≤100000)
  (hj:f_intake_Accept_j2 b y4 y5 (y3.2++y5.2.2.map (atF y3.1))=some R):loop (fun s:List Reject×Int=>f_intake_Accept_l1 b y3 y4 y5 s.1 s.2) (y3.2,0)=some R:=by
 refine loop_rec0 y5.2.2 (fun st:List Reject×Int=>st.2) (fun st t=>some R) (fun st t=>st.1++t.map (atF y3.1)=y3.2++y5.2.2.map (atF y3.1)∧∀ x,x∈t→0≤x.index∧x.index < (y3.1.length:Int)) (by omega) ?_ ?_ (s:=(y3.2,(0:Int))) rfl ⟨rfl,hidx⟩
 ·rintro ⟨y,i⟩ ⟨hh,_⟩ hi
  simp only [List.map_nil,List.append_nil] at hh hi ⊢
  unfold f_intake_Accept_l1
  rw [if_neg (by simp only [decide_eq_true_eq]; omega),hh,hj]
  exact ⟨_,rfl,rfl⟩
 ·rintro ⟨y,i⟩ x t ⟨hh,hk⟩ hi0 hi1 hx hlen
  simp only at hh hk hi0 hi1 hx hlen ⊢
  have hkx:=hk x (List.mem_cons_self ..)
  have hle:=congrArg List.length hh
  simp only [List.length_append,List.length_map,List.length_cons] at hle
  unfold f_intake_Accept_l1
  rw [if_pos (by simpa using hi1),ck_pos ⟨hi0,hi1⟩,hx,ck_pos hkx,ck_pos (by simp only [List.length_singleton]; omega),ck_pos (by omega)]
  refine .inr ⟨_,rfl,⟨?_,fun z hz=>hk z (List.mem_cons_of_mem _ hz)⟩,rfl,trivial⟩
  rw [←hh]
  simp only [List.map_cons,atF,List.append_assoc,List.singleton_append]
theorem p_acc2 (v:Intake) (b:Batch) (y3:List Int×List Reject) (R:Res) (hat:∀ i,i∈y3.1→0≤i∧i < (b.records.length:Int)) (hl:y3.1.length≤100000)
  (hj:f_intake_Accept_j1 v b y3 (y3.1.map fun i=>nth b.records i.toNat)=some R):loop (fun s:List Record×Int=>f_intake_Accept_l2 v b y3 s.1 s.2) (([]:List Record),0)=some R:=by
 refine loop_rec0 y3.1 (fun st:List Record×Int=>st.2) (fun st t=>some R) (fun st t=>st.1++t.map (fun i=>nth b.records i.toNat)=y3.1.map (fun i=>nth b.records i.toNat)∧∀ x,x∈t→0≤x∧x < (b.records.length:Int)) (by omega) ?_ ?_ (s:=(([]:List Record),(0:Int))) rfl ⟨rfl,hat⟩
 ·rintro ⟨y,i⟩ ⟨hh,_⟩ hi
  simp only [List.map_nil,List.append_nil] at hh hi ⊢
  unfold f_intake_Accept_l2
  rw [if_neg (by simp only [decide_eq_true_eq]; omega),hh,hj]
  exact ⟨_,rfl,rfl⟩
 ·rintro ⟨y,i⟩ x t ⟨hh,hk⟩ hi0 hi1 hx hlen
  simp only at hh hk hi0 hi1 hx hlen ⊢
  have hkx:=hk x (List.mem_cons_self ..)
  have hle:=congrArg List.length hh
  simp only [List.length_append,List.length_map,List.length_cons] at hle
  unfold f_intake_Accept_l2
  rw [if_pos (by simpa using hi1),ck_pos ⟨hi0,hi1⟩,hx,ck_pos hkx,ck_pos (by simp only [List.length_singleton]; omega),ck_pos (by omega)]
  refine .inr ⟨_,rfl,⟨?_,fun z hz=>hk z (List.mem_cons_of_mem _ hz)⟩,rfl,trivial⟩
  rw [←hh]
  simp only [List.map_cons,List.append_assoc,List.singleton_append]
def noS:Intake:=⟨([]:List Range),([]:List Record),([]:List Head)⟩
def yesF (v:Intake) (b:Batch) (w:Window):Res:=((⟨(dP w v.seen 0 b.records).1,(joinF v.open_ (dP w v.seen 0 b.records).2.1).2,v.heads++[(⟨b.source,b.number,b.format,(b.records.length:Int)⟩:Head)]⟩:Intake),(joinF v.open_ (dP w v.seen 0 b.records).2.1).1,(dP w v.seen 0 b.records).2.2,0)
def accF (v:Intake) (b:Batch) (w:Window):Res:=if chkF b=0 then (if b.number=nextF b.source 1 v.heads then yesF v b w else (noS,[],[],20)) else (noS,[],[],chkF b)
structure SmA (v:Intake) (b:Batch):Prop where
 good:Good16 v
 seen:v.seen.length≤600
 heads:v.heads.length≤600
 opens:v.open_.length≤600
 recs:b.records.length≤100
 sm:∀ r,r∈b.records→Sm r
theorem SmA.sml {v:Intake} {b:Batch} (h:SmA v b):SmL b.records:=fun r hr=>by
 have:=h.sm r hr
 unfold Sm at this
 omega
theorem SmA.okN {v:Intake} {b:Batch} (h:SmA v b):∀ x,x∈v.heads→OkN x:=fun x hx=>okH_okN (hdB_ok h.good.heads x hx)
theorem dP_mem {w:Window} {l:List Range} {t:List Record} {i:Int} {r:Record} (h:r∈(dP w l i t).2.1):r∈t:=by
 rw [(dP_gP w t l i).2.1] at h
 obtain ⟨p,h1,h2⟩:=gP_mem h
 have:=(pW_mem w t i p h1).2.2.2
 rwa [h2] at this
theorem dP_len (w:Window) (l:List Range) (t:List Record) (i:Int):(dP w l i t).2.1.length+(dP w l i t).2.2.length≤t.length∧(dP w l i t).1.length≤l.length+t.length:=by
 obtain ⟨a,b,c⟩:=dP_gP w t l i
 have h1:=gP_len (pW w i t) l
 have h2:=pW_len w t i
 have h3:=c.length_eq
 rw [List.length_append] at h3
 rw [a,b,h3]
 omega
theorem p_j1 (v:Intake) (b:Batch) (h:SmA v b) (ps:List (Int×Record)) (no:List Reject) (T:Tri) (hv:∀ r,r∈ps.map (·.2)→errF r=0) (hl:ps.length+no.length≤100) (hT1:T.1=(gP v.seen ps).1) (hT2:T.2.1=(gP v.seen ps).2.1) (hT3:T.2.2.Perm (no++(gP v.seen ps).2.2)) (hsrt:T.2.2.Pairwise (fun a b=>a.index < b.index)) (hm:∀ r,r∈T.2.1→errF r=0) (hlen:T.2.1.length+T.2.2.length≤100) :
  f_intake_Accept_j1 v b (ps.map (·.1),no) (ps.map (·.2))=some ((⟨T.1,(joinF v.open_ T.2.1).2,v.heads++[(⟨b.source,b.number,b.format,(b.records.length:Int)⟩:Head)]⟩:Intake),(joinF v.open_ T.2.1).1,T.2.2,0):=by
 have hs:=h.seen
 have hh:=h.heads
 have ho:=h.opens
 have hen:=en_pos (ps.map (·.1)) ps 0 (by omega) (fun j hj=>by rw [show (0:Int).toNat+j=j from by omega])
 have hgm:=gP_map (fun i=>nth (ps.map (·.1)) i.toNat) (enR 0 (ps.map (·.2))) v.seen
 rw [hen] at hgm
 have hgl:=gP_len (enR 0 (ps.map (·.2))) v.seen
 have hel:(enR 0 (ps.map (·.2))).length=ps.length:=by
  have:=congrArg List.length hen
  rwa [List.length_map] at this
 have hix:∀ x,x∈(gP v.seen (enR 0 (ps.map (·.2)))).2.2→0≤x.index∧x.index < (ps.length:Int):=gP_idx (fun p hp=>by
  have:=en_idx _ _ p hp
  rw [List.length_map] at this
  omega)
 have hf:=p_filter v.seen (ps.map (·.2)) h.good.can hv (by rw [List.length_map]; omega)
 unfold f_intake_Accept_j1 g_intake_copied x_CloneRange x_CloneRecord x_CloneHead
 rw [ck_pos (by omega),ck_pos (by omega),ck_pos (by omega)]
 simp only [Option.bind_some]
 rw [hf,Option.bind_some]
 generalize gP v.seen (enR 0 (ps.map (·.2)))=E at *
 rw [hgm] at hT1 hT2 hT3
 generalize gP v.seen ps=G at *
 generalize hat:ps.map (·.1)=at1 at *
 have hal:at1.length=ps.length:=by rw [←hat,List.length_map]
 have hj2:f_intake_Accept_j2 b (v.seen,v.open_,v.heads) E (no++E.2.2.map (atF at1))=some ((⟨T.1,(joinF v.open_ T.2.1).2,v.heads++[(⟨b.source,b.number,b.format,(b.records.length:Int)⟩:Head)]⟩:Intake),(joinF v.open_ T.2.1).1,T.2.2,0):=by
  unfold f_intake_Accept_j2
  have e3:T.2.2.Perm (no++E.2.2.map (atF at1)):=hT3
  rw [p_sort hsrt e3 (by rw [←e3.length_eq]; omega),Option.bind_some]
  simp only at hT1 hT2 ⊢
  rw [←hT1,←hT2,p_Join v.open_ _ h.good.opn.wt hm (by omega),Option.bind_some,ck_pos (by simp only [List.length_singleton]; omega)]
 exact p_acc1 b (at1,no) (v.seen,v.open_,v.heads) E _ (fun x hx=>by have:=hix x hx; simp only; omega) (by simp only; omega) hj2
theorem p_Accept (v:Intake) (b:Batch) (w:Window) (h:SmA v b):f_intake_Accept v b w=some (accF v b w):=by
 have hs:=h.seen
 have hh:=h.heads
 have ho:=h.opens
 have hr:=h.recs
 unfold f_intake_Accept accF
 rw [p_bChk b h.sml,Option.bind_some]
 by_cases hc:chkF b=0
 ·obtain ⟨k1,k2,k3,k4,k5⟩:=chkF_ok hc
  rw [if_neg (by simp [hc]),if_pos hc,p_Next v _ (by omega) h.okN,Option.bind_some,if_pos k1]
  by_cases hn:b.number=nextF b.source 1 v.heads
  ·rw [if_neg (by simp [hn]),if_pos hn,p_timely b.records w (by omega),Option.bind_some]
   have hpl:=pW_len w b.records 0
   obtain ⟨d1,d2,d3⟩:=dP_gP w b.records v.seen 0
   have hdl:=dP_len w v.seen b.records 0
   have hL:((pW w 0 b.records).map (·.1)).map (fun i=>nth b.records i.toNat)=(pW w 0 b.records).map (·.2):=by
    rw [List.map_map]
    refine List.map_congr_left (fun p hp=>?_)
    have:=(pW_mem w b.records 0 p hp).2.2.1
    simpa using this
   have hvL:∀ r,r∈(pW w 0 b.records).map (·.2)→errF r=0:=fun r hr=>by
    obtain ⟨p,h1,h2⟩:=List.mem_map.1 hr
    rw [←h2]; exact k5 _ (pW_mem w b.records 0 p h1).2.2.2
   have hat:∀ i,i∈(pW w 0 b.records).map (·.1)→0≤i∧i < (b.records.length:Int):=fun i hi=>by
    obtain ⟨p,h1,h2⟩:=List.mem_map.1 hi
    have:=pW_mem w b.records 0 p h1
    rw [←h2]; omega
   have hj:=p_j1 v b h (pW w 0 b.records) (nW w 0 b.records) (dP w v.seen 0 b.records) hvL (by omega) d1 d2 d3 (dP_idx w b.records v.seen 0).2 (fun r hr=>k5 r (dP_mem hr)) (by omega)
   unfold yesF
   generalize dP w v.seen 0 b.records=T at *
   generalize nW w 0 b.records=no at *
   have hll:((pW w 0 b.records).map (·.1)).length≤100000:=by rw [List.length_map]; omega
   generalize (pW w 0 b.records).map (·.1)=at1 at *
   generalize (pW w 0 b.records).map (·.2)=ls at *
   subst hL
   exact p_acc2 v b (at1,no) _ hat hll hj
  ·rw [if_pos (by simpa using hn),if_neg hn]; rfl
 ·rw [if_pos (by simpa using hc),if_neg hc]; rfl
structure RunI (V:Intake) (i:Int):Prop where
 good:Good16 V
 seen:(V.seen.length:Int)≤40*i
 heads:(V.heads.length:Int)≤i
 opens:(V.open_.length:Int)≤40*i
theorem RunI.next {V:Intake} {i:Int} (h:RunI V i) (hi:i≤12) (s:Int):f_intake_Next V s=some (if 1≤s∧s≤99 then nextF s 1 V.heads else 0) :=
 p_Next V s (by have:=h.heads; omega) (fun x hx=>okH_okN (hdB_ok h.good.heads x hx))
theorem dP_units (w:Window) (k:Nat) (recs:List Record):∀ (t:List Record) (l:List Range) (i:Nat),recs.drop i=t→sumT (dP w l i t).2.1 k+sumT ((dP w l i t).2.2.map fun x=>nth recs x.index.toNat) k=sumT t k∧∀ x,x∈(dP w l i t).2.2→(i:Int)≤x.index∧x.index < (recs.length:Int)∧(nth recs x.index.toNat).serial=x.serial
 | [],l,i,_=>by simp [dP,sumT]
 | r :: t,l,i,h=>by
  have hi:i < recs.length:=by
   have:=congrArg List.length h
   rw [List.length_drop,List.length_cons] at this
   omega
  have hd:=drop_nth (l:=recs) (k:=i) hi
  rw [h] at hd
  obtain ⟨e1,e2⟩:=List.cons.inj hd
  have e:((i:Int)+1)=((i+1:Nat):Int):=by omega
  have key:∀ (s n:Int),(rjF r (i:Int) n).index.toNat=i:=fun _ _=>by simp [rjF]
  by_cases hw:inW w r
  ·by_cases hh:hasB l r.source r.serial=false
   ·obtain ⟨a,b⟩:=dP_units w k recs t (addF r.source r.serial l) (i+1) e2.symm
    simp only [dP,if_pos hw,if_pos hh,e]
    refine ⟨?_,fun x hx=>?_⟩
    ·simp only [sumT]; omega
    ·have:=b x hx; omega
   ·obtain ⟨a,b⟩:=dP_units w k recs t l (i+1) e2.symm
    simp only [dP,if_pos hw,if_neg hh,e]
    refine ⟨?_,fun x hx=>?_⟩
    ·simp only [List.map_cons,sumT,key 0,←e1]; omega
    ·rcases List.mem_cons.1 hx with rfl | hx
     ·rw [key 0,←e1]; exact ⟨by simp only [rjF]; omega,by simp only [rjF]; omega,rfl⟩
     ·have:=b x hx; omega
  ·obtain ⟨a,b⟩:=dP_units w k recs t l (i+1) e2.symm
   simp only [dP,if_neg hw,e]
   refine ⟨?_,fun x hx=>?_⟩
   ·simp only [List.map_cons,sumT,key 0,←e1]; omega
   ·rcases List.mem_cons.1 hx with rfl | hx
    ·rw [key 0,←e1]; exact ⟨by simp only [rjF]; omega,by simp only [rjF]; omega,rfl⟩
    ·have:=b x hx; omega
theorem yes_units (v:Intake) (b:Batch) (w:Window) (k:Nat):sumT ((yesF v b w).1.open_++(yesF v b w).2.1++((yesF v b w).2.2.1.map fun x=>nth b.records x.index.toNat)) k=sumT (v.open_++b.records) k:=by
 have h1:=(dP_units w k b.records b.records v.seen 0 rfl).1
 have h2:=joinF_sum k (dP w v.seen 0 b.records).2.1 v.open_
 rw [sumT_app,sumT_app,sumT_app]
 show sumT (joinF v.open_ (dP w v.seen 0 b.records).2.1).2 k+sumT (joinF v.open_ (dP w v.seen 0 b.records).2.1).1 k+sumT ((dP w v.seen 0 b.records).2.2.map fun x=>nth b.records x.index.toNat) k=_
 have h3:((0:Nat):Int)=0:=rfl
 rw [h3] at h1
 omega
def addT (u:List Int) (r:Record):List Int:=if okT r=true then setN u 5 r.kind.toNat (nth u r.kind.toNat+r.units) else u
def totT (l:List Record):List Int:=l.foldl addT [0,0,0,0,0]
theorem conT_bd (r:Record) (k:Nat):0≤conT r k∧conT r k≤1099511627776:=by
 unfold conT
 split
 ·rename_i h
  have:=h.1
  simp only [okT,decide_eq_true_eq] at this
  exact ⟨this.2.2.1,this.2.2.2⟩
 ·omega
theorem addT_len {u:List Int} (h:u.length=5) (r:Record):(addT u r).length=5:=by
 unfold addT; split
 ·exact setN_len _ _ _ _
 ·exact h
theorem nth_addT (u:List Int) (r:Record) {k:Nat} (hk:k < 5):nth (addT u r) k=nth u k+conT r k:=by
 unfold addT conT
 by_cases h:okT r=true
 ·rw [if_pos h,nth_setN hk]
  by_cases h2:r.kind.toNat=k
  ·rw [if_pos h2,if_pos ⟨h,h2⟩,h2]
  ·rw [if_neg h2,if_neg (fun h3=>h2 h3.2)]; omega
 ·rw [if_neg h,if_neg (fun h3=>h h3.1)]; omega
theorem nth_fold:∀ (l:List Record) (u:List Int) {k:Nat},k < 5→nth (l.foldl addT u) k=nth u k+sumT l k
 | [],u,k,_=>by simp [sumT]
 | r :: l,u,k,hk=>by
  simp only [List.foldl_cons,sumT]
  rw [nth_fold l _ hk,nth_addT u r hk]; omega
theorem nth_totT (l:List Record) {k:Nat} (hk:k < 5):nth (totT l) k=sumT l k:=by
 unfold totT
 rw [nth_fold l _ hk]
 have:nth ([0,0,0,0,0]:List Int) k=0:=by
  match k,hk with
  | 0,_=>rfl
  | 1,_=>rfl
  | 2,_=>rfl
  | 3,_=>rfl
  | 4,_=>rfl
 omega
theorem five {u:List Int} (h:u.length=5):[nth u 0,nth u 1,nth u 2,nth u 3,nth u 4]=u:=by
 match u,h with
 | [a,b,c,d,e],_=>rfl
theorem five_bd {u:List Int} {x:Int} (h:∀ j,j < 5→0≤nth u j∧nth u j≤x) {n:Int} (h1:1≤n) (h2:n≤4):0≤nth u n.toNat∧nth u n.toNat≤x:=h _ (by omega)
theorem p_rTotals (l:List Record) (hl:l.length≤1000):f_r12_Totals l=some ⟨(l.length:Int),totT l⟩:=by
 unfold f_r12_Totals
 have:=loop_spec (step:=fun s:Int×Int×Int×Int×Int×Int=>f_r12_Totals_l1 l s.1 s.2.1 s.2.2.1 s.2.2.2.1 s.2.2.2.2.1 s.2.2.2.2.2)
  (fun s=>some ⟨(l.length:Int),(l.drop s.1.toNat).foldl addT [s.2.1,s.2.2.1,s.2.2.2.1,s.2.2.2.2.1,s.2.2.2.2.2]⟩)
  (fun s=>0≤s.1∧s.1≤(l.length:Int)∧∀ j,j < 5→0≤nth [s.2.1,s.2.2.1,s.2.2.2.1,s.2.2.2.2.1,s.2.2.2.2.2] j∧nth [s.2.1,s.2.2.1,s.2.2.2.1,s.2.2.2.2.1,s.2.2.2.2.2] j≤s.1*1099511627776)
  (fun s=>((l.length:Int) - s.1).toNat) (by
   rintro ⟨i,c1,c2,c3,c4,c5⟩ ⟨h0,h1,h2⟩
   simp only at h0 h1 h2 ⊢
   unfold f_r12_Totals_l1
   by_cases hi:i < (l.length:Int)
   ·right
    have hd:=drop_nth (l:=l) (k:=i.toNat) (by omega)
    rw [if_pos (by simpa using hi),ck_pos ⟨h0,hi⟩]
    generalize nth l i.toNat=r at *
    have hfive:=five (u:=[c1,c2,c3,c4,c5]) rfl
    generalize hu:[c1,c2,c3,c4,c5]=u at *
    have hul:u.length=5:=by rw [←hu]; rfl
    by_cases hk:okT r=true
    ·have hk':=hk
     simp only [okT,decide_eq_true_eq] at hk'
     have hb:=five_bd h2 hk'.1 hk'.2.1
     have hadd:addT u r=setN u 5 r.kind.toNat (nth u r.kind.toNat+r.units):=if_pos hk
     rw [if_pos (by simp; omega),ck_pos (by omega),ck_pos (by omega),ck_pos (by omega),ck_pos (by omega),ck_pos (by omega),ck_pos (by omega)]
     refine ⟨_,rfl,⟨by omega,by omega,?_⟩,by omega,?_⟩
     ·simp only
      rw [←hadd,five (addT_len hul r)]
      intro j hj
      rw [nth_addT u r hj]
      have:=h2 j hj
      have:=conT_bd r j
      omega
     ·simp only
      rw [←hadd,five (addT_len hul r),show (i+1).toNat=i.toNat+1 from by omega,hd,List.foldl_cons]
    ·have hk':=hk
     simp only [okT,decide_eq_true_eq] at hk'
     have hadd:addT u r=u:=if_neg hk
     rw [if_neg (by simp; omega),ck_pos (by omega)]
     refine ⟨_,rfl,⟨by omega,by omega,?_⟩,by omega,?_⟩
     ·simp only
      rw [hu]
      intro j hj
      have:=h2 j hj
      omega
     ·simp only
      rw [hu,show (i+1).toNat=i.toNat+1 from by omega,hd,List.foldl_cons,hadd]
   ·left
    rw [if_neg (by simpa using hi),List.drop_of_length_le (by omega)]
    exact ⟨_,rfl,rfl⟩) (s:=(0,0,0,0,0,0)) ⟨by simp,by simp,by
     intro j hj
     match j,hj with
     | 0,_=>simp [nth]
     | 1,_=>simp [nth]
     | 2,_=>simp [nth]
     | 3,_=>simp [nth]
     | 4,_=>simp [nth]⟩ (by simp; omega)
 rw [this]; rfl
theorem p_rUnits (l:List Record) (hl:l.length≤1000):f_r15_Units l=some (totT l):=by
 unfold f_r15_Units
 rw [p_rTotals l hl]
 rfl
theorem five_refl (u:List Int):eqVs [.int .i64 (nth u 0),.int .i64 (nth u 1),.int .i64 (nth u 2),.int .i64 (nth u 3),.int .i64 (nth u 4)] [.int .i64 (nth u 0),.int .i64 (nth u 1),.int .i64 (nth u 2),.int .i64 (nth u 3),.int .i64 (nth u 4)]=true:=by simp [eqVs,eqV]
theorem five_congr {u v:List Int} (h:∀ k,k < 5→nth u k=nth v k):eqVs [.int .i64 (nth u 0),.int .i64 (nth u 1),.int .i64 (nth u 2),.int .i64 (nth u 3),.int .i64 (nth u 4)] [.int .i64 (nth v 0),.int .i64 (nth v 1),.int .i64 (nth v 2),.int .i64 (nth v 3),.int .i64 (nth v 4)]=true:=by
 rw [h 0 (by omega),h 1 (by omega),h 2 (by omega),h 3 (by omega),h 4 (by omega)]
 exact five_refl v
def refF (b:Batch) (no:List Reject):List Record:=no.map fun x=>nth b.records x.index.toNat
theorem places_j1 (v:Intake) (b:Batch) (w:Window) (hA:SmA v b):f_w16_IntakePlaces_j1 v b (yesF v b w) (refF b (yesF v b w).2.2.1)=some true:=by
 have hdl:=dP_len w v.seen b.records 0
 have hjl:=joinF_len2 v.open_ (dP w v.seen 0 b.records).2.1
 have o1:=hA.opens
 have o2:=hA.recs
 have l1:(yesF v b w).1.open_.length+(yesF v b w).2.1.length≤780:=by
  show (joinF v.open_ (dP w v.seen 0 b.records).2.1).2.length+(joinF v.open_ (dP w v.seen 0 b.records).2.1).1.length≤780
  omega
 have l2:(refF b (yesF v b w).2.2.1).length≤200:=by
  unfold refF
  rw [List.length_map]
  show (dP w v.seen 0 b.records).2.2.length≤200
  omega
 have hu:=fun k=>yes_units v b w k
 unfold f_w16_IntakePlaces_j1
 generalize hR:refF b (yesF v b w).2.2.1=Rf at *
 have hu':∀ k,sumT (((yesF v b w).1.open_++(yesF v b w).2.1)++Rf) k=sumT (v.open_++b.records) k:=fun k=>by rw [←hR]; exact hu k
 generalize yesF v b w=Y at *
 rw [ck_pos (by omega),ck_pos (by simp only [List.nil_append]; omega),ck_pos (by omega),ck_pos (by simp only [List.nil_append]; omega),ck_pos (by simp only [List.nil_append,List.length_append]; omega)]
 simp only [List.nil_append]
 rw [p_rUnits _ (by simp only [List.length_append]; omega),Option.bind_some,p_rUnits _ (by simp only [List.length_append]; omega),Option.bind_some,five_congr (fun k hk=>by rw [nth_totT _ hk,nth_totT _ hk,hu' k]),awake_true]
 rfl
theorem places_loop (v:Intake) (b:Batch) (w:Window) (hA:SmA v b):loop (fun s:List Record×Int=>f_w16_IntakePlaces_l1 v b (yesF v b w) s.1 s.2) (([]:List Record),0)=some true:=by
 have hj:=places_j1 v b w hA
 have hd:=(dP_units w 0 b.records b.records v.seen 0 rfl).2
 have hp:=(dP_idx w b.records v.seen 0).2
 have hdl:=dP_len w v.seen b.records 0
 have o2:=hA.recs
 have e0:((0:Nat):Int)=0:=rfl
 rw [e0] at hd
 have hno:(yesF v b w).2.2.1=(dP w v.seen 0 b.records).2.2:=rfl
 rw [←hno] at hd hp hdl
 have hlen:(yesF v b w).2.2.1.length≤200:=by omega
 generalize yesF v b w=Y at *
 refine loop_spec (fun s:List Record×Int=>some true) (fun s=>0≤s.2∧s.2≤(Y.2.2.1.length:Int)∧s.1=refF b (Y.2.2.1.take s.2.toNat)) (fun s=>((Y.2.2.1.length:Int) - s.2).toNat) ?_ (s:=(([]:List Record),0)) ⟨by simp,by simp,rfl⟩ (by simp; omega)
 rintro ⟨l,i⟩ ⟨h0,h1,h2⟩
 simp only at h0 h1 h2 ⊢
 subst h2
 unfold f_w16_IntakePlaces_l1
 by_cases hi:i < (Y.2.2.1.length:Int)
 ·have hin:i.toNat < Y.2.2.1.length:=by omega
  have hx:=hd _ (nth_mem hin)
  have hq:i > 0→¬ (nth Y.2.2.1 i.toNat).index≤(nth Y.2.2.1 (i-1).toNat).index:=fun hi0=>by
   have h3:=List.pairwise_iff_getElem.1 hp (i-1).toNat i.toNat (by omega) hin (by omega)
   rw [←nth_eq,←nth_eq] at h3
   omega
  obtain ⟨x1,x2,x3⟩:=hx
  have b1:(decide ((nth Y.2.2.1 i.toNat).index < 0) || decide ((nth Y.2.2.1 i.toNat).index≥(b.records.length:Int)))=false:=by
   rw [Bool.or_eq_false_iff]; exact ⟨by simpa using x1,by simpa using x2⟩
  have b2:(decide (i > 0) && decide ((nth Y.2.2.1 i.toNat).index≤(nth Y.2.2.1 (i-1).toNat).index))=false:=by
   by_cases hi0:i > 0
   ·have:=hq hi0
    rw [decide_eq_true hi0,decide_eq_false this]; rfl
   ·simp [hi0]
  refine .inr ⟨(refF b (Y.2.2.1.take i.toNat)++[nth b.records (nth Y.2.2.1 i.toNat).index.toNat],i+1),?_,⟨by simp only; omega,by simp only; omega,?_⟩,by simp only; omega,by first | rfl | trivial⟩
  ·have hrl:(refF b (Y.2.2.1.take i.toNat)).length≤200:=by unfold refF; rw [List.length_map,List.length_take]; omega
   rw [if_pos (by simpa using hi),ck_pos ⟨h0,hi⟩,ck_pos (by intro h; simp only [b1,Bool.not_false,Bool.true_and,decide_eq_true_eq] at h; exact ⟨by omega,by omega⟩),ck_pos (by intro h; simp only [b1,Bool.not_false,Bool.true_and,decide_eq_true_eq] at h; omega),ck_pos (fun _=>⟨x1,x2⟩),ck_pos (fun _=>⟨h0,hi⟩),b1,b2,x3,if_neg (by simp),ck_pos ⟨x1,x2⟩,ck_pos (by simp only [List.length_singleton]; omega),ck_pos ⟨by omega,by omega⟩]
  ·rw [show (i+1).toNat=i.toNat+1 from by omega,take_nth hin]
   unfold refF
   rw [List.map_append]
   rfl
 ·have hie:i=(Y.2.2.1.length:Int):=by omega
  rw [if_neg (by simpa using hi),hie,show ((Y.2.2.1.length:Int)).toNat=Y.2.2.1.length from by omega,List.take_length,hj]
  refine .inl ⟨true,?_,rfl⟩
  rfl
theorem places_true (v:Intake) (b:Batch) (w:Window):f_w16_IntakePlaces v b w=some true:=by
 unfold f_w16_IntakePlaces
 obtain ⟨c,h1,h2⟩:=small_tot v
 obtain ⟨d,h3,h4⟩:=few_tot b.records
 rw [h1,h3]
 simp only [Option.bind_some,Bool.not_not]
 cases c with
 | false=>simp [gcall,awake_true]
 | true =>
  obtain ⟨a1,a2,a3,hs⟩:=h2 rfl
  cases d with
  | false=>simp [gcall,awake_true]
  | true =>
   obtain ⟨b1,b2⟩:=h4 rfl
   simp only [gcall,if_true,Option.bind_some,Bool.not_true,Bool.or_self,Bool.not_false]
   rw [p_rck v hs]
   simp only [Option.bind_some]
   cases hck:ckF v with
   | false=>simp [awake_true]
   | true =>
    have hA:SmA v b:=⟨(ckF_iff v).1 hck,by omega,by omega,by omega,by omega,b2⟩
    rw [if_neg (by simp),p_Accept v b w hA,Option.bind_some]
    have bad:∀ e:Int,e≠0→accF v b w=(noS,[],[],e)→(if (accF v b w).2.2.2 != 0 then ((gcall (((accF v b w).2.1.length:Int)==0 && ((accF v b w).2.2.1.length:Int)==0) f_w16_awake).bind fun y6=>some ((((accF v b w).2.1.length:Int)==0 && ((accF v b w).2.2.1.length:Int)==0) && y6)) else loop (fun s=>f_w16_IntakePlaces_l1 v b (accF v b w) s.1 s.2) (([]:List Record),0))=some true:=fun e he hh=>by
     rw [hh,if_pos (by simpa using he),awake_true]; rfl
    by_cases hc:chkF b=0
    ·by_cases hn:b.number=nextF b.source 1 v.heads
     ·have e1:accF v b w=yesF v b w:=by unfold accF; rw [if_pos hc,if_pos hn]
      rw [e1,if_neg (by simp [yesF])]
      exact places_loop v b w hA
     ·exact bad 20 (by omega) (by unfold accF; rw [if_pos hc,if_neg hn])
    ·exact bad _ hc (by unfold accF; rw [if_neg hc])
end Go.Proofs.YtpnegjippkneoaaGreatDoor
namespace Go.Abs
open Go.RowKit Go.ChangeShapes Go.WideShapes Go.Deep
inductive Sh where
 | i (k:IntKind)
 | b
 | s
 | sl (row:List Sh)
inductive DFits:Sh→D→Prop where
 | i (k:IntKind) (n:Int) (h:(Lit.int k n).wf=true):DFits (.i k) (.ex (.int k n))
 | b (x:Bool):DFits .b (.ex (.bool x))
 | s (l:List UInt8) (h:l.length≤maxLen):DFits .s (.ex (.string ⟨l.toArray⟩))
 | sl (row:List Sh) (rows:List (List D)) (hn:rows.length≤maxLen) (h1:∀ r,r∈rows→r.length=row.length)
   (h:∀ r,r∈rows→∀ (i:Nat) sh d,row[i]?=some sh→r[i]?=some d→DFits sh d):DFits (.sl row) (.sl row.length rows)
def shapeFs (P:Program) (rec:TypeId→Option (List Sh)):List Field→Nat→Option (List Sh)
 | [],_=>some []
 | f :: fs,off=>match rec f.type with
  | some r=>if Nat.beq f.offset off && Nat.beq r.length (P.cellsOf f.type) then (shapeFs P rec fs (off+r.length)).map (r++·) else none
  | none=>none
def shape (P:Program):Nat→TypeId→Option (List Sh)
 | 0,_=>none
 | n+1,t=>match P.underlying t with
  | some (.int k)=>some [.i k]
  | some .bool=>some [.b]
  | some .string=>some [.s]
  | some (.slice e)=>match shape P n e with
   | some r=>if Nat.beq r.length (P.cellsOf e) && Nat.blt 0 r.length then some [.sl r] else none
   | none=>none
  | some (.struct fs)=>match shapeFs P (shape P n) fs.toList 0 with
   | some r=>if Nat.beq r.length (P.cellsOf t) then some r else none
   | none=>none
  | _=>none
def Opens (lim:Nat→Nat) (w:World) (shs:List Sh) (cs:List Value):Prop :=
 ∃ ds:List D,ds.length=shs.length∧cs.length=shs.length∧∀ (i:Nat) sh d c,shs[i]?=some sh→ds[i]?=some d→cs[i]?=some c→DFits sh d∧DRep lim w d c∧c.oneCell'=true
theorem Opens.one {lim:Nat→Nat} {w:World} {sh:Sh} {d:D} {c:Value} (h1:DFits sh d) (h2:DRep lim w d c) (h3:c.oneCell'=true):Opens lim w [sh] [c]:=by
 refine ⟨[d],rfl,rfl,fun i sh' d' c' ha hb hc=>?_⟩
 cases i with
 | zero=>simp at ha hb hc; subst ha; subst hb; subst hc; exact ⟨h1,h2,h3⟩
 | succ i=>simp at ha
theorem Opens.nil {lim:Nat→Nat} {w:World}:Opens lim w [] []:=⟨[],rfl,rfl,fun i _ _ _ h=>by simp at h⟩
theorem Opens.append {lim:Nat→Nat} {w:World} {s1 s2:List Sh} {c1 c2:List Value} (h:Opens lim w s1 c1) (k:Opens lim w s2 c2):Opens lim w (s1++s2) (c1++c2):=by
 obtain ⟨d1,a1,b1,e1⟩:=h
 obtain ⟨d2,a2,b2,e2⟩:=k
 refine ⟨d1++d2,by simp [a1,a2],by simp [b1,b2],fun i sh d c ha hb hc=>?_⟩
 by_cases hi:i < s1.length
 ·rw [List.getElem?_append_left hi] at ha
  rw [List.getElem?_append_left (by omega)] at hb hc
  exact e1 i sh d c ha hb hc
 ·rw [List.getElem?_append_right (by omega)] at ha hb hc
  rw [a1] at hb
  rw [b1] at hc
  exact e2 _ sh d c ha hb hc
section opening
variable {H:Type} {enc:TypeId×Value→H} {P:Program} {w:World} {held:Bool} {lim:Nat→Nat}
theorem opens_fields {rec:TypeId→Option (List Sh)} (cs:List Value):∀ (fs:List Field) (off:Nat) (shs:List Sh),shapeFs P rec fs off=some shs→cs.length=off+shs.length →
  (∀ (i:Nat) f,fs[i]?=some f→∀ r,rec f.type=some r→r.length=P.cellsOf f.type→Opens lim w r ((cs.drop f.offset).take (P.cellsOf f.type)))→Opens lim w shs (cs.drop off)
 | [],off,shs,h,hl,_=>by
  simp [shapeFs] at h; subst h
  rw [List.drop_of_length_le (by simp at hl; omega)]
  exact .nil
 | f :: fs,off,shs,h,hl,hf=>by
  unfold shapeFs at h
  split at h
  ·rename_i r hr
   split at h
   ·rename_i hc
    rw [Bool.and_eq_true] at hc
    replace hc:=And.intro (Nat.eq_of_beq_eq_true hc.1) (Nat.eq_of_beq_eq_true hc.2)
    obtain ⟨rest,hrest,rfl⟩:=Option.map_eq_some_iff.1 h
    simp only [List.length_append] at hl
    have h1:=hf 0 f rfl r hr hc.2
    have h2:=opens_fields cs fs (off+r.length) rest hrest (by omega) fun i g hg=>hf (i+1) g (by simpa using hg)
    have e:cs.drop off=(cs.drop f.offset).take (P.cellsOf f.type)++cs.drop (off+r.length):=by
     rw [hc.1,←hc.2,←List.drop_drop,List.take_append_drop]
    rw [e]
    exact h1.append h2
   ·cases h
  ·cases h
theorem opens_shape (hlim:∀ b off u,w.cell? ⟨b,off,none⟩=some u→off < lim b):∀ (n:Nat) (t:TypeId) (shs:List Sh),shape P n t=some shs→∀ fuel cs x,DataW.trod enc P w 0 (fun _=>true) held fuel t cs=some x→Opens lim w shs cs
 | 0,_,_,h=>by simp [shape] at h
 | n+1,t,shs,h=>by
  intro fuel cs x ht
  unfold shape at h
  split at h
  ·rename_i k hu
   cases h
   obtain ⟨m,rfl,_,hw⟩:=DataW.trod_int hu ht
   exact .one (.i k m hw) (.ex _) rfl
  ·rename_i hu
   cases h
   obtain ⟨b,rfl,_⟩:=DataW.trod_bool hu ht
   exact .one (.b b) (.ex _) rfl
  ·rename_i hu
   cases h
   obtain ⟨⟨a⟩,rfl,_,hs⟩:=DataW.trod_string hu ht
   exact .one (.s a.toList (by simpa [ByteArray.size] using hs)) (.ex _) rfl
  ·rename_i e hu
   split at h
   ·rename_i r hr
    split at h
    ·rename_i hc
     cases h
     rw [Bool.and_eq_true] at hc
     obtain ⟨hc1,hc2⟩:=And.intro (Nat.eq_of_beq_eq_true hc.1) (blt_lt hc.2)
     rcases open_slice hu ht with ⟨rfl,_⟩ | ⟨a,len,cap,m,n',D0,Pl,rfl,hb,hl,hm,hmm,hx,hi⟩
     ·exact .one (.sl r [] (Nat.zero_le _) (fun _ h=>by cases h) (fun _ h=>by cases h)) (.nil _ _) rfl
     ·simp only [if_true] at hmm
      subst hmm
      obtain ⟨F,hF⟩:=choose_lt (n:=m) (p:=fun i (ds:List D)=>ds.length=r.length∧∀ (j:Nat) sh d,r[j]?=some sh→ds[j]?=some d→∃ c,w.cell? (a.add (i*r.length+j))=some c∧DFits sh d∧DRep lim w d c∧c.oneCell'=true) (fun i hi'=>by
       obtain ⟨cs',h1,h2⟩:=hi i hi'
       obtain ⟨ds,k1,k2,k3⟩:=opens_shape hlim n e r hr n' cs' _ h2
       obtain ⟨_,h3,h4⟩:=World.cells?_some h1
       refine ⟨ds,k1,fun j sh d hj hd=>?_⟩
       have hjl:j < r.length:=(List.getElem?_eq_some_iff.1 hj).1
       have hc':cs'[j]?=some (cs'[j]'(by omega)):=List.getElem?_eq_getElem (by omega)
       refine ⟨cs'[j]'(by omega),?_,k3 j sh d _ hj hd hc'⟩
       rw [←hc',←h4 j (by omega),←hc1,Go.Deep.add_add])
      have hfit:DFits (.sl r) (.sl r.length ((List.range len).map F)):=by
       refine .sl r _ (by simp; omega) (fun row hrow=>?_) fun row hrow i sh d hs hd=>?_
       ·obtain ⟨i,hi2,rfl⟩:=List.mem_map.1 hrow
        exact (hF i (by have:=List.mem_range.1 hi2; omega)).1
       ·obtain ⟨i',hi2,rfl⟩:=List.mem_map.1 hrow
        obtain ⟨c,_,hh,_⟩:=(hF i' (by have:=List.mem_range.1 hi2; omega)).2 i sh d hs hd
        exact hh
      refine .one hfit ?_ rfl
      rcases Nat.eq_zero_or_pos m with h0 | h0
      ·subst h0
       have:len=0:=by omega
       subst this
       exact .nil _ _
      ·have hspot:a.spot=none:=by
        obtain ⟨cs',h1,h2⟩:=hi 0 h0
        obtain ⟨_,h3,h4⟩:=World.cells?_some h1
        have h5:=h4 0 (by omega)
        have h6:cs'[0]?=some (cs'[0]'(by omega)):=List.getElem?_eq_getElem (by omega)
        rw [h6] at h5
        unfold World.cell? at h5
        split at h5
        ·split at h5
         ·cases h5
         ·rename_i hsp
          simpa [Addr.add] using hsp
        ·cases h5
       obtain ⟨b,off,sp⟩:=a
       simp only at hspot
       subst hspot
       have hcell:∀ i j,i < m→j < r.length→∀ sh d,r[j]?=some sh→(F i)[j]?=some d→∃ c,w.cell? ⟨b,off+(i*r.length+j),none⟩=some c∧DFits sh d∧DRep lim w d c∧c.oneCell'=true:=fun i j hi' hj sh d hs hd=>by
        obtain ⟨c,h1,h2⟩:=(hF i hi').2 j sh d hs hd
        rw [Addr.add_lit] at h1
        exact ⟨c,h1,h2⟩
       have hlen:((List.range len).map F).length=len:=by simp
       have key:=DRep.sl (lim:=lim) (w:=w) r.length ((List.range len).map F) b off m (by rw [hlen]; exact hl) (fun row hrow=>by
        obtain ⟨i,hi2,rfl⟩:=List.mem_map.1 hrow
        exact (hF i (by have:=List.mem_range.1 hi2; omega)).1) (fun k hk=>by
        rw [hlen] at hk
        have hdiv:k / r.length < len:=Nat.div_lt_of_lt_mul (by rw [Nat.mul_comm]; exact hk)
        have hmod:k % r.length < r.length:=Nat.mod_lt _ hc2
        obtain ⟨c,h1,h2,h3,h4⟩:=hcell (k / r.length) (k % r.length) (by omega) hmod _ _ (List.getElem?_eq_getElem hmod) (List.getElem?_eq_getElem (by rw [(hF _ (by omega)).1]; exact hmod))
        have e:k / r.length*r.length+k % r.length=k:=by rw [Nat.mul_comm]; exact Nat.div_add_mod k r.length
        rw [e] at h1
        exact ⟨hlim _ _ _ h1,c,h1,h4⟩) (fun i j row c u h1 h2 h3=>by
        rw [List.getElem?_map] at h1
        obtain ⟨i',hi2,rfl⟩:=Option.map_eq_some_iff.1 h1
        have hil:i < len:=by have:=(List.getElem?_eq_some_iff.1 hi2).1; simpa using this
        have:i'=i:=by rw [List.getElem?_range hil] at hi2; cases hi2; rfl
        subst this
        have hjl:j < r.length:=by have:=(List.getElem?_eq_some_iff.1 h2).1; rw [(hF _ (by omega)).1] at this; exact this
        obtain ⟨c',k1,k2,k3,k4⟩:=hcell i' j (by omega) hjl _ _ (List.getElem?_eq_getElem hjl) h2
        rw [h3] at k1
        cases k1
        exact k3)
       rw [hlen] at key
       exact key
    ·cases h
   ·cases h
  ·rename_i fs hu
   split at h
   ·rename_i r hr
    split at h
    ·rename_i hc
     cases h
     have hc':=Nat.eq_of_beq_eq_true hc
     obtain ⟨ys,n',_,hy,hlen,hyl,hf⟩:=DataW.trod_struct hu ht
     have:=opens_fields (lim:=lim) (w:=w) (P:=P) cs fs.toList 0 _ hr (by omega) fun i f hi r' hr' hl'=>by
      have h1:=hf i f (by simpa using hi)
      have hys:ys[i]?=some (ys[i]'(by have:=(List.getElem?_eq_some_iff.1 hi).1; simp at this; omega)):=List.getElem?_eq_getElem _
      exact opens_shape hlim n f.type r' hr' n' _ _ (h1.trans hys)
     simpa using this
    ·cases h
   ·cases h
  ·cases h
end opening
end Go.Abs
namespace Go.Abs
open Go.RowKit Go.ChangeShapes Go.WideShapes Go.Deep Go.ChangeAt
def limW (w:World) (b:Nat):Nat:=match w.heap[b]? with
 | some (.cells c _ _)=>c.size
 | _=>0
theorem limW_lt (w:World) (b off:Nat) (u:Value) (h:w.cell? ⟨b,off,none⟩=some u):off < limW w b:=by
 unfold World.cell? at h
 unfold limW
 split at h
 ·rename_i c e k hb
  simp only at hb
  rw [hb]
  simp only [Option.isSome_none,Bool.false_eq_true,if_false] at h
  exact (Array.getElem?_eq_some_iff.1 h).1
 ·cases h
section top
variable {H:Type} {enc:TypeId×Value→H} {P:Program} {w:World} {held:Bool} {r:Reach} {b0:Nat} {t:TypeId} {v:Value} {d:DataW H} {ps:List MemPlace}
end top
theorem rows_of {α:Type} {row:α→List D} {p:α→Prop}:∀ {rows:List (List D)},(∀ r,r∈rows→∃ x,p x∧r=row x)→∃ l:List α,rows=l.map row∧∀ x,x∈l→p x
 | [],_=>⟨[],rfl,fun x h=>by cases h⟩
 | r :: rows,h=>by
  obtain ⟨x,hx,rfl⟩:=h r List.mem_cons_self
  obtain ⟨l,rfl,hl⟩:=rows_of (rows:=rows) (row:=row) (p:=p) fun r' hr=>h r' (List.mem_cons_of_mem _ hr)
  exact ⟨x :: l,rfl,fun y hy=>by rcases List.mem_cons.1 hy with rfl | hy; exact hx; exact hl y hy⟩
theorem DFits.sl_inv {row:List Sh} {d:D} (h:DFits (.sl row) d):∃ rows,d=.sl row.length rows∧rows.length≤maxLen∧∀ r,r∈rows→r.length=row.length∧∀ (i:Nat) sh d,row[i]?=some sh→r[i]?=some d→DFits sh d:=by
 cases h with
 | sl _ rows hn h1 h=>exact ⟨rows,rfl,hn,fun r hr=>⟨h1 r hr,h r hr⟩⟩
theorem DFits.i_inv {d:D} (h:DFits (.i .i64) d):∃ n:Int,d=.ex (.int .i64 n)∧-9223372036854775808≤n∧n≤9223372036854775807:=by
 cases h with
 | i _ n hw=>simp only [Lit.wf,Bool.and_eq_true,decide_eq_true_eq] at hw; exact ⟨n,rfl,hw⟩
theorem DFits.b_inv {d:D} (h:DFits .b d):∃ x:Bool,d=.ex (.bool x):=by cases h with | b x=>exact ⟨x,rfl⟩
section
variable {H:Type} {enc:TypeId×Value→H} {P:Program}
theorem post_of_below {f:Func} {s:ChangeSpec} {apart fresh handsOn again:Bool} {W W':World} {args:Array Value} {v:Value} {ds gs:List (DataW H)} {before pa pv:List MemPlace}
  (hW:DataW.Whole enc P f.params.toList s.vars apart W args.toList ds gs before)
  (hres:∀ (b:Nat) (sp:Nat→Bool) (hd:Bool),DataW.TrodAll enc P W' b sp hd f.resultTypes.toList (v.resultList f.resultTypes.size) (s.fn H (ds++gs)).results [])
  (hargs:∀ sp:Nat→Bool,(∀ p∈before,sp p.block=true)→DataW.TrodAll enc P W' 0 sp true f.params.toList args.toList (s.fn H (ds++gs)).args pa)
  (hvars:∀ sp:Nat→Bool,(∀ p∈before,sp p.block=true)→DataW.TrodVars enc P W' sp s.vars (s.fn H (ds++gs)).vars pv)
  (hps:before=pa++pv) (hb:Below W.heap.size W W')
  (hok:∀ (j:Nat) (t:TypeId) (r:Value),f.resultTypes[j]?=some t→(v.resultList f.resultTypes.size)[j]?=some r→Value.okWide P W' .any 0 t r) :
  s.post enc P f apart fresh handsOn again W args v W':=by
 have hlt:∀ p∈before,p.block < W.heap.size:=fun p hp=>hW.lt p hp
 have hold:∀ p∈before,(fun b=>decide (b < W.heap.size)) p.block=true:=fun p hp=>by simpa using hlt p hp
 refine ⟨ds,gs,before,[],pa,pv,hW,hres _ _ _,hargs _ hold,hvars _ hold,World.keptBut_mono (fun p hp=>⟨hp,?_⟩) (hb.frame (·∈before)),fun _=>?_⟩
 ·rw [hps,List.mem_append] at hp
  exact Or.inr hp
 ·obtain ⟨_,_,_,_,_,hz,hn⟩:=hW
  refine ⟨hok,_,_,([]++pa)++pv,⟨[]++pa,pv,trodAll_append (hargs _ (fun _ _=>rfl)) (hres _ _ _),hvars _ (fun _ _=>rfl),rfl,?_,?_⟩,?_⟩
  ·intro b off hp
   have hin:MemPlace.cell b off∈before:=by rw [hps]; simpa using hp
   rw [hb.frozen (hlt _ hin)]
   exact hz b off hin
  ·intro ha
   have:=hn ha
   rw [hps] at this
   simpa using this
  ·intro p hp _
   rw [hps]
   simpa using hp
end
theorem trodAll_stays {H:Type} {enc:TypeId×Value→H} {P:Program} (hl:laidOutB P=true) {W W':World} (hb:Below W.heap.size W W') (sp:Nat→Bool):∀ {ts:List TypeId} {vs:List Value} {ds:List (DataW H)} {ps:List MemPlace},
  (ts.all fun t=>P.readableRec t && decide (t < P.types.size))=true→DataW.TrodAll enc P W 0 (fun _=>true) true ts vs ds ps→(∀ x∈ps,x.block < W.heap.size)→(∀ x∈ps,sp x.block=true)→DataW.TrodAll enc P W' 0 sp true ts vs ds ps
 | [],[],[],_,_,h,_,_=>h
 | t :: ts,v :: vs,d :: ds,ps,hr,h,hlt,hsp=>by
  obtain ⟨p,q,h1,h2,rfl⟩:=h
  simp only [List.all_cons,Bool.and_eq_true,decide_eq_true_eq] at hr
  refine ⟨p,q,?_,?_,rfl⟩
  ·exact WideElems.Trod_stays hl hr.1.1 hr.1.2 h1 (fun x hx=>hb.same (hlt x (List.mem_append_left _ hx))) (fun x hx=>hsp x (List.mem_append_left _ hx))
  ·exact trodAll_stays hl hb sp (by simpa using hr.2) h2 (fun x hx=>hlt x (List.mem_append_right _ hx)) (fun x hx=>hsp x (List.mem_append_right _ hx))
theorem DFits.s_inv' {d:D} (h:DFits .s d):∃ l:List UInt8,d=.ex (.string ⟨l.toArray⟩)∧l.length≤maxLen:=by cases h with | s l h=>exact ⟨l,rfl,h⟩
theorem rows_of' {α:Type} {row:α→List D} {p:α→Prop} {rows:List (List D)} (h:∀ r,r∈rows→∃ x,r=row x∧p x):∃ l:List α,rows=l.map row∧∀ x,x∈l→p x :=
 rows_of fun r hr=>let ⟨x,h1,h2⟩:=h r hr; ⟨x,h2,h1⟩
theorem DFits.sl_of {sh:List Sh} {d:D} {α:Type} {row:α→List D} {p:α→Prop} (h:DFits (.sl sh) d)
  (hr:∀ r:List D,r.length=sh.length→(∀ (i:Nat) h d,sh[i]?=some h→r[i]?=some d→DFits h d)→∃ x,r=row x∧p x) :
  ∃ l:List α,d=.sl sh.length (l.map row)∧l.length≤maxLen∧∀ z,z∈l→p z:=by
 obtain ⟨rows,rfl,hn,h2⟩:=h.sl_inv
 obtain ⟨l,rfl,hl⟩:=rows_of' (row:=row) (p:=p) fun r hrm=>hr r (h2 r hrm).1 (h2 r hrm).2
 exact ⟨l,rfl,by simpa using hn,hl⟩
section top
variable {H:Type} {enc:TypeId×Value→H} {P:Program} {w:World} {held:Bool} {r:Reach} {b0:Nat} {t:TypeId} {v:Value} {d:DataW H} {ps:List MemPlace}
theorem top_agg {n:Nat} {shs:List Sh} {fs:Array Field} (hs:shape P n t=some shs) (ht:P.underlying t=some (.struct fs)) (hv:Value.okWide P w r b0 t v) (h:DataW.Trod enc P w 0 (fun _=>true) held t v d ps) :
  ∃ x:List D,x.length=shs.length∧(∀ (i:Nat) sh d,shs[i]?=some sh→x[i]?=some d→DFits sh d)∧DRep (limW w) w (.agg x) v:=by
 obtain ⟨cs,rfl,_⟩:=okWide_struct ht hv
 obtain ⟨fuel,hf⟩:=h
 obtain ⟨ds,h1,h2,h3⟩:=opens_shape (limW_lt w) n t _ hs fuel _ _ hf
 have h2':cs.size=shs.length:=by simpa [Value.cells] using h2
 refine ⟨ds,h1,fun i sh d hi hd=>?_,.agg ds cs (by omega) (fun i u hu=>?_) fun i c u hc hu=>?_⟩
 ·have hil:i < cs.size:=by have:=(List.getElem?_eq_some_iff.1 hi).1; omega
  exact (h3 i sh d cs[i] hi hd (by simp [Value.cells,hil])).1
 ·have hil:i < shs.length:=by have:=(Array.getElem?_eq_some_iff.1 hu).1; omega
  exact (h3 i shs[i] (ds[i]'(by omega)) u (List.getElem?_eq_getElem hil) (List.getElem?_eq_getElem (by omega)) (by simpa [Value.cells] using hu)).2.2
 ·have hil:i < shs.length:=by have:=(Array.getElem?_eq_some_iff.1 hu).1; omega
  exact (h3 i shs[i] c u (List.getElem?_eq_getElem hil) hc (by simpa [Value.cells] using hu)).2.1
end top
end Go.Abs
