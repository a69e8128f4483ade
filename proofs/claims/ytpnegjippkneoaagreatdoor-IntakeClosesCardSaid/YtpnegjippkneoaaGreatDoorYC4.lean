/- Our own texts KE KF MA MB C1 C2 C3 of this seat in one. -/
import Derived.Test.YtpnegjippkneoaaGreatDoorYC3
import Derived.Deep.Slices
import Derived.ChangeArms
import Derived.ProofKit
import Derived.Below
import Derived.ChangeSame
set_option linter.unusedSimpArgs false
set_option linter.unusedVariables false
set_option linter.unusedSectionVars false
namespace Go.Proofs.YtpnegjippkneoaaGreatDoor
open Go.RowKit Go.Abs
theorem expF_fuel (b:Int):∀ (m m':Nat) (l:List Record),l.length≤m→l.length≤m'→expF b m l=expF b m' l
 | 0,0,_,_,_=>rfl
 | 0,m'+1,[],_,_=>rfl
 | m+1,0,[],_,_=>rfl
 | m+1,m'+1,[],_,_=>rfl
 | m+1,m'+1,x :: l,h,h'=>by
  have hl:=rest_len x l
  simp only [List.length_cons] at h h'
  unfold expF
  rw [expF_fuel b m m' (restF x (x :: l)) (by omega) (by omega)]
theorem endF_cons (x:Record) (l:List Record):endF (x :: l)=(wholeF (pickA 0 (shrF (x :: l) (posF false x 1 0 (x :: l)) (posF false x 1 0 (x :: l)).length) (x :: l)).1).toList++(pickA 0 (shrF (x :: l) (posF false x 1 0 (x :: l)) (posF false x 1 0 (x :: l)).length) (x :: l)).2.map aloneF:=rfl
theorem shrF_succ (l:List Record) (at':List Int) (m:Nat):shrF l at' (m+1)=if (wholeF (pickA 0 (at'.take (m+1)) l).1).isSome=true then at'.take (m+1) else shrF l at' m:=rfl
theorem endF_len:∀ (l:List Record),(endF l).length≤l.length
 | []=>Nat.le_refl _
 | x :: l=>by
  rw [endF_cons]
  generalize shrF (x :: l) (posF false x 1 0 (x :: l)) (posF false x 1 0 (x :: l)).length=at'
  have hp:=(pickA_perm 0 at' (x :: l)).length_eq
  simp only [List.length_append,List.length_map,List.length_cons] at hp ⊢
  cases hw:wholeF (pickA 0 at' (x :: l)).1 with
  | none=>simp only [Option.toList_none,List.length_nil]; omega
  | some w =>
   have:0 < (pickA 0 at' (x :: l)).1.length:=by
    cases hq:(pickA 0 at' (x :: l)).1 with
    | nil=>rw [hq] at hw; cases hw
    | cons=>simp
   simp only [Option.toList_some,List.length_cons,List.length_nil]; omega
theorem run_cons (x:Record) (l:List Record):runF x (x :: l)=x :: runF x l:=List.takeWhile_cons_of_pos (p:=fun r=>callB r x) (callB_refl x)
theorem run_sub (x:Record) (l:List Record):(runF x l).Sublist l:=List.takeWhile_sublist _
theorem rest_sub (x:Record) (l:List Record):(restF x l).Sublist l:=List.dropWhile_sublist _
theorem take_run (x:Record) (l:List Record):l.take (runF x l).length=runF x l:=by
 conv=>lhs; rw [←run_rest x l]
 rw [run_rest,←run_rest x l,run_rest]
 conv=>lhs; arg 2; rw [←run_rest x l]
 exact List.take_left
theorem drop_run (x:Record) (l:List Record):l.drop (runF x l).length=restF x l:=by
 conv=>lhs; arg 2; rw [←run_rest x l]
 exact List.drop_left
theorem pickA_sm {i:Int} {at':List Int} {l:List Record} (h:∀ r,r∈l→Sm r):(∀ r,r∈(pickA i at' l).1→Sm r)∧(∀ r,r∈(pickA i at' l).2→Sm r):=by
 have hp:=pickA_perm i at' l
 exact ⟨fun r hr=>h r (hp.mem_iff.1 (List.mem_append.2 (.inl hr))),fun r hr=>h r (hp.mem_iff.1 (List.mem_append.2 (.inr hr)))⟩
theorem pickA_len (i:Int) (at':List Int) (l:List Record):(pickA i at' l).1.length≤l.length∧(pickA i at' l).2.length≤l.length:=by
 have hp:=(pickA_perm i at' l).length_eq
 rw [List.length_append] at hp
 omega
theorem optR_snd (o:Option Record):(optR o).2=o.isSome:=by cases o <;> rfl
theorem p_rend1 (l:List Record) (at':List Int) (hs:∀ r,r∈l→Sm r) (hl:l.length≤1000) (ha:at'.length≤1000):f_r15_end_j1 l at'=some ((wholeF (pickA 0 at' l).1).toList++(pickA 0 at' l).2.map aloneF):=by
 unfold f_r15_end_j1
 rw [p_rpick l at' hl ha]
 have hpl:=pickA_len 0 at' l
 simp only [Option.bind_some]
 rw [p_rwhole _ (pickA_sm hs).1 (by omega)]
 simp only [Option.bind_some]
 generalize hpk:pickA 0 at' l=pk at hpl ⊢
 have key:∀ (o:List Record) (c0 c1 c2:Int) (c3 c4:List UInt8) (c5 c6 c7 c8:Int) (c9:Bool) (c10:Int) (c11:Bool),o.length≤1→f_r15_end_j2 pk o c0 c1 c2 c3 c4 c5 c6 c7 c8 c9 c10 c11=some (o++pk.2.map aloneF):=by
  intro o c0 c1 c2 c3 c4 c5 c6 c7 c8 c9 c10 c11 ho
  unfold f_r15_end_j2
  refine loop_rec0 pk.2 (fun s:List Record×Int=>s.2) (fun s t=>some (s.1++t.map aloneF)) (fun s t=>(s.1.length:Int)≤s.2+1) (by omega) ?_ ?_ (s:=(o,(0:Int))) rfl (by simp only; omega)
  ·rintro ⟨q,i⟩ h hi
   simp only at h hi ⊢
   unfold f_r15_end_l1
   rw [if_neg (by simp only [decide_eq_true_eq]; omega)]
   exact ⟨_,rfl,by simp⟩
  ·rintro ⟨q,i⟩ r t h hi0 hi1 hn hlen
   simp only at h hi0 hi1 hn hlen ⊢
   unfold f_r15_end_l1
   rw [if_pos (by simpa using hi1),ck_pos ⟨hi0,hi1⟩,hn]
   simp only [f_r15_alone,Option.bind_some]
   rw [ck_pos (by simp only [List.length_cons,List.length_nil]; omega),ck_pos (by omega)]
   refine .inr ⟨_,rfl,by simp only [List.length_append,List.length_cons,List.length_nil]; omega,rfl,?_⟩
   simp only [List.map_cons,List.append_assoc]
   rfl
 cases hw:wholeF pk.1 with
 | none =>
  rw [if_neg (by simp [optR,noR]),key _ _ _ _ _ _ _ _ _ _ _ _ _ (by simp)]
  rfl
 | some w =>
  rw [if_pos (show (optR (some w)).2=true from rfl),ck_pos (by simp),key _ _ _ _ _ _ _ _ _ _ _ _ _ (by simp)]
  rfl
theorem p_rend (x:Record) (l:List Record) (hs:∀ r,r∈x :: l→Sm r) (hl:(x :: l).length≤1000):f_r15_end (x :: l)=some (endF (x :: l)):=by
 unfold f_r15_end
 rw [ck_pos (by simp only [List.length_cons]; omega),show nth (x :: l) (Int.toNat 0)=x from rfl,p_firsts _ x false hl]
 have hpl:=posF_len false x 1 0 (x :: l)
 simp only [Option.bind_some]
 generalize hP:posF false x 1 0 (x :: l)=P at hpl
 have he:endF (x :: l)=(wholeF (pickA 0 (shrF (x :: l) P P.length) (x :: l)).1).toList++(pickA 0 (shrF (x :: l) P P.length) (x :: l)).2.map aloneF:=by
  rw [endF_cons,hP]
 rw [he]
 generalize x :: l=run at *
 refine (loop_spec (fun s:List Int=>some ((wholeF (pickA 0 (shrF run P s.length) run).1).toList++(pickA 0 (shrF run P s.length) run).2.map aloneF)) (fun s=>s=P.take s.length∧s.length≤P.length) (fun s=>s.length) ?_ ⟨by simp,Nat.le_refl _⟩ (by omega))
 rintro s ⟨h1,h2⟩
 unfold f_r15_end_l2
 by_cases h0:s.length=0
 ·have:s=[]:=List.length_eq_zero_iff.1 h0
  subst this
  rw [if_neg (by simp),p_rend1 run [] hs hl (by simp)]
  exact .inl ⟨_,rfl,rfl⟩
 ·rw [if_pos (by simp; omega),p_rpick run s hl (by omega)]
  have hpk:=pickA_len 0 s run
  simp only [Option.bind_some]
  rw [p_rwhole _ (pickA_sm hs).1 (by omega)]
  simp only [Option.bind_some,optR_snd]
  obtain ⟨m,hm⟩:∃ m,s.length=m+1:=⟨s.length-1,by omega⟩
  have hsh:shrF run P s.length=if (wholeF (pickA 0 s run).1).isSome=true then s else shrF run P m:=by
   rw [hm,shrF_succ,←hm,←h1]
  rw [hsh]
  by_cases hw:(wholeF (pickA 0 s run).1).isSome=true
  ·rw [if_pos hw,if_pos hw,p_rend1 run s hs hl (by omega)]
   exact .inl ⟨_,rfl,rfl⟩
  ·rw [if_neg hw,if_neg hw,ck_pos (by omega),ck_pos (by omega)]
   have e:(s.take ((s.length:Int) - 1).toNat)=P.take m:=by
    rw [show ((s.length:Int) - 1).toNat=m from by omega]
    conv=>lhs; rw [h1]
    rw [List.take_take,hm]; congr 1; omega
   have el:(P.take m).length=m:=by rw [List.length_take]; omega
   rw [e]
   exact .inr ⟨_,rfl,⟨by rw [el],by rw [el]; omega⟩,by rw [el]; omega,by simp only [el]⟩
theorem p_rExpire (l:List Record) (b:Int) (hs:∀ r,r∈l→Sm r) (hl:l.length≤1000):f_r15_Expire l b=some (expF b l.length l):=by
 unfold f_r15_Expire
 refine (loop_spec (fun s:List Record×List Record×Int=>some (s.1++(expF b l.length (l.drop s.2.2.toNat)).1,s.2.1++(expF b l.length (l.drop s.2.2.toNat)).2)) (fun s=>0≤s.2.2∧s.2.2≤(l.length:Int)∧(s.1.length:Int)+s.2.1.length≤s.2.2) (fun s=>((l.length:Int) - s.2.2).toNat) ?_ (s:=(([]:List Record),([]:List Record),(0:Int))) ⟨by decide,by simp only; omega,by simp⟩ (by simp only; omega)).trans (by simp)
 rintro ⟨out,left,i⟩ ⟨h0,h1,h2⟩
 simp only at h0 h1 h2 ⊢
 unfold f_r15_Expire_l1
 by_cases hi:i < (l.length:Int)
 ·rw [if_pos (by simpa using hi)]
  have hd:=drop_nth (l:=l) (k:=i.toNat) (by omega)
  have hdl:(l.drop i.toNat).length=l.length-i.toNat:=List.length_drop
  generalize hx:nth l i.toNat=x at hd
  generalize ht:l.drop (i.toNat+1)=t at hd
  have hsd:∀ r,r∈x :: t→Sm r:=fun r hr=>hs r (by rw [←hd] at hr; exact List.mem_of_mem_drop hr)
  have hrn:(runF x (x :: t)).length=(runF x t).length+1:=by rw [run_cons]; rfl
  have hrl:(runF x (x :: t)).length≤(x :: t).length:=(run_sub x _).length_le
  rw [hd] at hdl
  have hk:(i:Int)+((runF x (x :: t)).length:Int)≤(l.length:Int):=by omega
  have hslice:(l.take (i+((runF x (x :: t)).length:Int)).toNat).drop i.toNat=runF x (x :: t):=by
   rw [List.drop_take,hd,show (i+((runF x (x :: t)).length:Int)).toNat-i.toNat=(runF x (x :: t)).length from by omega,take_run]
  have hrest:l.drop (i+((runF x (x :: t)).length:Int)).toNat=restF x (x :: t):=by
   rw [show (i+((runF x (x :: t)).length:Int)).toNat=i.toNat+(runF x (x :: t)).length from by omega,←List.drop_drop,hd,drop_run]
  have hel:=endF_len (runF x (x :: t))
  have hexp:expF b l.length (x :: t)=expF b ((restF x (x :: t)).length+1+t.length) (x :: t):=expF_fuel b _ _ _ (by omega) (by simp only [List.length_cons]; omega)
  obtain ⟨m,hm⟩:∃ m,l.length=m+1:=⟨l.length-1,by omega⟩
  have hrl2:=rest_len x t
  have hexp2:expF b l.length (x :: t)=if (runF x (x :: t)).any (fun r=>decide (b≤r.start))=true then ((expF b l.length (restF x (x :: t))).1,runF x (x :: t)++(expF b l.length (restF x (x :: t))).2) else (endF (runF x (x :: t))++(expF b l.length (restF x (x :: t))).1,(expF b l.length (restF x (x :: t))).2):=by
   conv=>lhs; rw [hm]; unfold expF
   simp only [List.length_cons] at hdl
   rw [expF_fuel b m l.length (restF x (x :: t)) (by omega) (by omega)]
  have hj:f_r15_Expire_j1 l out left i (i+((runF x (x :: t)).length:Int)) ((runF x (x :: t)).any (fun r=>decide (b≤r.start)))=some (.inl (if (runF x (x :: t)).any (fun r=>decide (b≤r.start))=true then (out,left++runF x (x :: t),i+((runF x (x :: t)).length:Int)) else (out++endF (runF x (x :: t)),left,i+((runF x (x :: t)).length:Int)))):=by
   unfold f_r15_Expire_j1
   rw [hslice]
   split
   ·rw [ck_pos (by omega),ck_pos (by omega)]
   ·rw [ck_pos (by omega)]
    have:f_r15_end (runF x (x :: t))=some (endF (runF x (x :: t))):=by
     rw [run_cons]
     have hss:=run_sub x (x :: t)
     rw [run_cons] at hss hrl
     simp only [List.length_cons] at hrl hdl
     exact p_rend x _ (fun r hr=>hsd r (hss.subset hr)) (by simp only [List.length_cons]; omega)
    rw [this]
    simp only [Option.bind_some]
    rw [ck_pos (by omega)]
  have hloop:loop (fun s:Int×Bool=>f_r15_Expire_l2 l b out left i s.1 s.2) (i,false)=some (.inl (if (runF x (x :: t)).any (fun r=>decide (b≤r.start))=true then (out,left++runF x (x :: t),i+((runF x (x :: t)).length:Int)) else (out++endF (runF x (x :: t)),left,i+((runF x (x :: t)).length:Int)))):=by
   rw [←hj]
   have hst:=loop_rec l (step:=fun s:Int×Bool=>f_r15_Expire_l2 l b out left i s.1 s.2) (fun s:Int×Bool=>s.1) (fun s _=>f_r15_Expire_j1 l out left i (i+((runF x (x :: t)).length:Int)) ((runF x (x :: t)).any (fun r=>decide (b≤r.start))))
    (fun s u=>s.1+((runF x u).length:Int)=i+((runF x (x :: t)).length:Int)∧(s.2 || (runF x u).any (fun r=>decide (b≤r.start)))=(runF x (x :: t)).any (fun r=>decide (b≤r.start))) (by omega) ?_ ?_ (s:=(i,false)) ⟨h0,by simp only; omega⟩ (by simp only [hd,Bool.false_or,and_self])
   ·exact hst
   ·rintro ⟨k,late⟩ ⟨e1,e2⟩ he
    simp only at e1 e2 he ⊢
    unfold f_r15_Expire_l2
    have hlt:decide (k < (l.length:Int))=false:=by simp; omega
    rw [ck_pos (by simp [hlt]),ck_pos (by simp [hlt])]
    simp only [hlt,gcall,Bool.false_eq_true,if_false,Option.bind_some,Bool.false_and]
    simp only [runF,List.takeWhile_nil,List.length_nil,List.any_nil,Bool.or_false] at e1 e2
    simp only [runF] at hj ⊢
    rw [show k=i+((List.takeWhile (fun r=>callB r x) (x :: t)).length:Int) from by omega,e2,hj]
    exact ⟨_,rfl,rfl⟩
   ·rintro ⟨k,late⟩ r u ⟨e1,e2⟩ hk0 hk1 hn hlen
    simp only at e1 e2 hk0 hk1 hn hlen ⊢
    unfold f_r15_Expire_l2
    have hlt:decide (k < (l.length:Int))=true:=by simpa using hk1
    rw [ck_pos (fun _=>⟨hk0,hk1⟩),ck_pos (fun _=>⟨h0,hi⟩)]
    simp only [hlt,gcall,if_true,hn,hx,f_r15_call,Option.bind_some,Bool.true_and]
    have ec:((r.source==x.source) && (r.call==x.call))=callB r x:=by rw [Bool.eq_iff_iff,callB_iff]; simp
    rw [ec]
    by_cases hc:callB r x=true
    ·rw [if_pos hc,ck_pos (fun _=>⟨hk0,hk1⟩),ck_pos (by omega)]
     have eru:runF x (r :: u)=r :: runF x u:=List.takeWhile_cons_of_pos (p:=fun r=>callB r x) hc
     rw [eru] at e1 e2
     simp only [List.length_cons,List.any_cons] at e1 e2
     refine .inr ⟨_,rfl,⟨by simp only; omega,?_⟩,rfl,by first | rfl | trivial⟩
     simp only
     rw [←e2]
     simp only [ge_iff_le,Bool.or_assoc]
    ·rw [if_neg hc]
     have eru:runF x (r :: u)=[]:=List.takeWhile_cons_of_neg (p:=fun r=>callB r x) hc
     rw [eru] at e1 e2
     simp only [List.length_nil,List.any_nil,Bool.or_false] at e1 e2
     rw [show k=i+((runF x (x :: t)).length:Int) from by omega,e2,hj]
     exact .inl ⟨_,rfl,rfl⟩
  rw [hloop,hd,hexp2]
  right
  split
  ·refine ⟨_,rfl,⟨by simp only; omega,hk,by simp only [List.length_append]; omega⟩,by simp only; omega,?_⟩
   simp only [hrest]
   simp
  ·refine ⟨_,rfl,⟨by simp only; omega,hk,by simp only [List.length_append]; omega⟩,by simp only; omega,?_⟩
   simp only [hrest]
   simp
 ·rw [if_neg (by simpa using hi),List.drop_of_length_le (by omega)]
  refine .inl ⟨_,rfl,?_⟩
  have:expF b l.length []=([],[]):=by cases l.length <;> rfl
  rw [this]; simp
def idxL (b:Int):Int→List Record→Int
 | _,[]=>-1
 | i,r :: t=>if b≤r.start then i else idxL b (i+1) t
theorem idxL_any (b:Int):∀ (i:Int) (t:List Record),0≤i→decide (idxL b i t≥0)=t.any (fun r=>decide (b≤r.start))
 | i,[],_=>by simp [idxL]
 | i,r :: t,h=>by
  unfold idxL
  by_cases hb:b≤r.start
  ·simp [hb,h]
  ·rw [if_neg hb,idxL_any b (i+1) t (by omega)]
   simp [hb]
theorem p_late (l:List Record) (b:Int) (hl:l.length≤1000):g_api_Record_v3 l b=some (l.any (fun r=>decide (b≤r.start))):=by
 unfold g_api_Record_v3
 have:g_api_Record_v2 l b=some (idxL b 0 l):=by
  unfold g_api_Record_v2
  refine loop_rec0 l (fun s:Int=>s) (fun s t=>some (idxL b s t)) (fun s t=>True) (by omega) ?_ ?_ rfl trivial
  ·intro i _ hi
   unfold g_api_Record_v2_l1
   rw [if_neg (by simp only [decide_eq_true_eq]; omega)]
   exact ⟨_,rfl,rfl⟩
  ·intro i r t _ hi0 hi1 hn hlen
   unfold g_api_Record_v2_l1
   rw [if_pos (by simpa using hi1),ck_pos ⟨hi0,hi1⟩,hn]
   simp only [g_correlate_Expire_1,Option.bind_some,ge_iff_le]
   by_cases h:b≤r.start
   ·rw [if_pos (by simpa using h)]
    exact .inl ⟨_,rfl,by simp [idxL,h]⟩
   ·rw [if_neg (by simpa using h),ck_pos (by omega)]
    exact .inr ⟨_,rfl,trivial,rfl,by simp [idxL,h]⟩
 rw [this]
 simp only [Option.bind_some]
 rw [idxL_any b 0 l (Int.le_refl _)]
theorem shrF_asc {l:List Record} {P:List Int} (hp:P.Pairwise (· < ·)):∀ (m:Nat),(shrF l P m).Pairwise (· < ·)∧(∀ a,a∈shrF l P m→a∈P)∧(shrF l P m).length≤P.length
 | 0=>⟨.nil,by simp [shrF],by simp [shrF]⟩
 | m+1=>by
  rw [shrF_succ]
  split
  ·exact ⟨hp.sublist (List.take_sublist _ _),fun a ha=>List.mem_of_mem_take ha,by rw [List.length_take]; omega⟩
  ·exact shrF_asc hp m
theorem p_chain (x:Record) (run:List Record) (hw:Wt run) (hc:∀ r,r∈run→callB r x=true) (hl:run.length≤1000):f_correlate_chain run=some (shrF run (posF false x 1 0 run) (posF false x 1 0 run).length):=by
 unfold f_correlate_chain
 rw [p_cand run x false hl hw.srt hc hw.le]
 have hpl:=posF_len false x 1 0 run
 have hge:=posF_ge false x 1 0 run
 have hpa:=posF_asc false x 1 0 run
 simp only [Option.bind_some]
 generalize posF false x 1 0 run=P at hpl hge hpa ⊢
 refine (loop_spec (fun s:List Int=>some (shrF run P s.length)) (fun s=>s=P.take s.length∧s.length≤P.length) (fun s=>s.length) ?_ ⟨by simp,Nat.le_refl _⟩ (by omega))
 rintro s ⟨h1,h2⟩
 unfold f_correlate_chain_l1
 by_cases h0:s.length=0
 ·have:s=[]:=List.length_eq_zero_iff.1 h0
  subst this
  rw [if_neg (by simp)]
  exact .inl ⟨_,rfl,rfl⟩
 ·have hsp:s.Pairwise (· < ·):=by rw [h1]; exact hpa.sublist (List.take_sublist _ _)
  have hsb:∀ a,a∈s→0≤a∧a < (run.length:Int):=fun a ha=>by
   rw [h1] at ha
   have:=hge a (List.mem_of_mem_take ha)
   omega
  rw [if_pos (by simp; omega),p_pick run s hl (by omega) hsp hsb]
  have hpk:=pickA_len 0 s run
  simp only [Option.bind_some]
  rw [p_whole _ (pickA_sm hw.sm).1 (by omega)]
  simp only [Option.bind_some,optR_snd]
  obtain ⟨m,hm⟩:∃ m,s.length=m+1:=⟨s.length-1,by omega⟩
  have hsh:shrF run P s.length=if (wholeF (pickA 0 s run).1).isSome=true then s else shrF run P m:=by
   rw [hm,shrF_succ,←hm,←h1]
  rw [hsh]
  by_cases hww:(wholeF (pickA 0 s run).1).isSome=true
  ·rw [if_pos hww,if_pos hww]
   exact .inl ⟨_,rfl,rfl⟩
  ·rw [if_neg hww,if_neg hww,ck_pos (by omega),ck_pos (by omega)]
   have e:(s.take ((s.length:Int) - 1).toNat)=P.take m:=by
    rw [show ((s.length:Int) - 1).toNat=m from by omega]
    conv=>lhs; rw [h1]
    rw [List.take_take,hm]; congr 1; omega
   have el:(P.take m).length=m:=by rw [List.length_take]; omega
   rw [e]
   exact .inr ⟨_,rfl,⟨by rw [el],by rw [el]; omega⟩,by rw [el]; omega,by simp only [el]⟩
theorem p_Expire (l:List Record) (b:Int) (hw:Wt l) (hl:l.length≤1000):f_correlate_Expire l b=some (expF b l.length l):=by
 unfold f_correlate_Expire x_CloneRecord
 rw [ck_pos (by omega)]
 simp only [Option.bind_some]
 refine (loop_spec (fun s:List Record×List Record×List Record=>some (s.1++(expF b l.length s.2.2).1,s.2.1++(expF b l.length s.2.2).2)) (fun s=>Wt s.2.2∧s.1.length+s.2.1.length+s.2.2.length≤l.length) (fun s=>s.2.2.length) ?_ (s:=(([]:List Record),([]:List Record),l)) ⟨hw,by simp⟩ (by simp only; omega)).trans (by simp)
 rintro ⟨out,left,rest⟩ ⟨h1,h2⟩
 simp only at h1 h2 ⊢
 unfold f_correlate_Expire_l1
 cases rest with
 | nil =>
  rw [if_neg (by simp)]
  refine .inl ⟨_,rfl,?_⟩
  have:expF b l.length []=([],[]):=by cases l.length <;> rfl
  rw [this]; simp
 | cons x t =>
  simp only [List.length_cons] at h2
  have hrl:=(run_sub x (x :: t)).length_le
  have hrn:(runF x (x :: t)).length=(runF x t).length+1:=by rw [run_cons]; rfl
  have hwr:Wt (runF x (x :: t)):=h1.sub (run_sub _ _)
  have hws:Wt (restF x (x :: t)):=h1.sub (rest_sub _ _)
  have hrl2:=rest_len x t
  have htot:(runF x (x :: t)).length+(restF x (x :: t)).length=t.length+1:=by
   have:=congrArg List.length (run_rest x (x :: t))
   rw [List.length_append] at this
   exact this
  have hel:=endF_len (runF x (x :: t))
  obtain ⟨m,hm⟩:∃ m,l.length=m+1:=⟨l.length-1,by omega⟩
  have hexp2:expF b l.length (x :: t)=if (runF x (x :: t)).any (fun r=>decide (b≤r.start))=true then ((expF b l.length (restF x (x :: t))).1,runF x (x :: t)++(expF b l.length (restF x (x :: t))).2) else (endF (runF x (x :: t))++(expF b l.length (restF x (x :: t))).1,(expF b l.length (restF x (x :: t))).2):=by
   conv=>lhs; rw [hm]; unfold expF
   rw [expF_fuel b m l.length (restF x (x :: t)) (by omega) (by omega)]
  have hix:idxF x 0 (x :: t)=0:=by unfold idxF; rw [if_pos (callB_refl x)]
  simp only [List.length_cons] at hrl
  rw [if_pos (by simp),ck_pos (by simp only [List.length_cons]; omega),show nth (x :: t) (Int.toNat 0)=x from rfl]
  simp only [f_correlate_callOf,Option.bind_some]
  rw [show (⟨x.source,x.call⟩:CorrelateCall)=callC x from rfl,p_span (x :: t) x (by simp only [List.length_cons]; omega),hix,if_neg (by omega)]
  simp only [Option.bind_some,Int.toNat_zero,List.drop_zero,runN_run,Int.zero_add,Int.toNat_natCast]
  rw [ck_pos (by simp only [List.length_cons]; omega),ck_pos (by simp only [List.length_cons]; omega)]
  simp only [take_run,drop_run]
  rw [p_late _ b (by omega)]
  simp only [Option.bind_some]
  rw [hexp2]
  by_cases hany:(runF x (x :: t)).any (fun r=>decide (b≤r.start))=true
  ·rw [if_pos hany,if_pos hany,ck_pos (by omega)]
   refine .inr ⟨_,rfl,⟨hws,by simp only [List.length_append]; omega⟩,by simp only [List.length_cons]; omega,?_⟩
   simp
  ·rw [if_neg hany,if_neg hany,p_chain x _ hwr run_call (by omega)]
   have hpl:=posF_len false x 1 0 (runF x (x :: t))
   have hge:=posF_ge false x 1 0 (runF x (x :: t))
   obtain ⟨q1,q2,q3⟩:=shrF_asc (l:=runF x (x :: t)) (posF_asc false x 1 0 (runF x (x :: t))) (posF false x 1 0 (runF x (x :: t))).length
   simp only [Option.bind_some]
   rw [p_pick _ _ (by omega) (by omega) q1 (fun a ha=>by have:=hge a (q2 a ha); omega)]
   have he:endF (runF x (x :: t))=(wholeF (pickA 0 (shrF (runF x (x :: t)) (posF false x 1 0 (runF x (x :: t))) (posF false x 1 0 (runF x (x :: t))).length) (runF x (x :: t))).1).toList++(pickA 0 (shrF (runF x (x :: t)) (posF false x 1 0 (runF x (x :: t))) (posF false x 1 0 (runF x (x :: t))).length) (runF x (x :: t))).2.map aloneF:=by
    rw [run_cons]; exact endF_cons x _
   generalize shrF (runF x (x :: t)) (posF false x 1 0 (runF x (x :: t))) (posF false x 1 0 (runF x (x :: t))).length=at' at he
   have hpk:=pickA_len 0 at' (runF x (x :: t))
   have hpm:=pickA_sm (i:=0) (at':=at') hwr.sm
   simp only [Option.bind_some]
   rw [p_whole _ hpm.1 (by omega)]
   simp only [Option.bind_some]
   generalize hpg:pickA 0 at' (runF x (x :: t))=pk at hpk he
   have key:∀ (o:List Record) (c0 c1 c2:Int) (c3 c4:List UInt8) (c5 c6 c7 c8:Int) (c9:Bool) (c10:Int) (c11:Bool),o.length≤2000→f_correlate_Expire_j1 left (x :: t) ((0:Int),((runF x (x :: t)).length:Int)) pk o c0 c1 c2 c3 c4 c5 c6 c7 c8 c9 c10 c11=some (.inl (o++pk.2.map aloneF,left,restF x (x :: t))):=by
    intro o c0 c1 c2 c3 c4 c5 c6 c7 c8 c9 c10 c11 ho
    unfold f_correlate_Expire_j1
    refine loop_rec0 pk.2 (fun s:List Record×Int=>s.2) (fun s t'=>(some (Sum.inl (s.1++t'.map aloneF,left,restF x (x :: t))):Option ((List Record×List Record×List Record) ⊕ (List Record×List Record)))) (fun s t'=>(s.1.length:Int)≤s.2+2000) (by omega) ?_ ?_ (s:=(o,(0:Int))) rfl (by simp only; omega)
    ·rintro ⟨q,i⟩ h hi
     simp only at h hi ⊢
     unfold f_correlate_Expire_l2
     rw [if_neg (by simp only [decide_eq_true_eq]; omega)]
     refine ⟨_,rfl,?_⟩
     simp only [Int.toNat_natCast,drop_run]
     simp
    ·rintro ⟨q,i⟩ r t' h hi0 hi1 hn hlen
     simp only at h hi0 hi1 hn hlen ⊢
     unfold f_correlate_Expire_l2
     rw [if_pos (by simpa using hi1),ck_pos ⟨hi0,hi1⟩,hn]
     simp only [f_correlate_alone,Option.bind_some]
     rw [ck_pos (by simp only [List.length_cons,List.length_nil]; omega),ck_pos (by omega)]
     refine .inr ⟨_,rfl,by simp only [List.length_append,List.length_cons,List.length_nil]; omega,rfl,?_⟩
     simp only [List.map_cons,List.append_assoc]
     rfl
   cases hww:wholeF pk.1 with
   | none =>
    rw [hww] at he
    rw [if_neg (by simp [optR,noR]),key _ _ _ _ _ _ _ _ _ _ _ _ _ (by omega)]
    refine .inr ⟨_,rfl,⟨hws,?_⟩,by simp only [List.length_cons]; omega,?_⟩
    ·have:=congrArg List.length he
     simp only [Option.toList_none,List.nil_append] at this
     simp only [List.length_append]; omega
    ·rw [he]; simp
   | some w =>
    rw [hww] at he
    rw [if_pos (show (optR (some w)).2=true from rfl),ck_pos (by simp only [List.length_cons,List.length_nil]; omega),key _ _ _ _ _ _ _ _ _ _ _ _ _ (by simp only [List.length_append,List.length_cons,List.length_nil]; omega)]
    refine .inr ⟨_,rfl,⟨hws,?_⟩,by simp only [List.length_cons]; omega,?_⟩
    ·have:=congrArg List.length he
     simp only [Option.toList_some,List.length_append,List.length_cons,List.length_nil] at this
     simp only [List.length_append,List.length_cons,List.length_nil]; omega
    ·rw [he]; simp [optR]
theorem awake_true:f_w16_awake=some true:=by kernel_rfl
def nextF (s:Int):Int→List Head→Int
 | k,[]=>k
 | k,h :: t=>nextF s (if h.source=s then h.number+1 else k) t
def OkN (h:Head):Prop:=-9223372036854775808≤h.number∧h.number≤9223372036854775806
theorem p_rnext (l:List Head) (n:Nat) (s:Int) (hn:n≤l.length) (hl:l.length≤100000) (hok:∀ h,h∈l.take n→OkN h):f_r16_next l (n:Int) s=some (nextF s 1 (l.take n)):=by
 unfold f_r16_next
 have htl:(l.take n).length=n:=by rw [List.length_take]; omega
 refine loop_rec0 (l.take n) (fun st:Int×Int=>st.2) (fun st t=>some (nextF s st.1 t)) (fun st t=>∀ h,h∈t→OkN h) (by omega) ?_ ?_ (s:=((1:Int),(0:Int))) rfl hok
 ·rintro ⟨k,i⟩ _ hi
  simp only at hi ⊢
  unfold f_r16_next_l1
  rw [if_neg (by simp only [decide_eq_true_eq]; omega)]
  exact ⟨_,rfl,rfl⟩
 ·rintro ⟨k,i⟩ h t ht hi0 hi1 hx hlen
  simp only at ht hi0 hi1 hx hlen ⊢
  have hx':nth l i.toNat=h:=by
   rw [←hx,nth_eq (by omega),nth_eq (by omega),List.getElem_take]
  have:=ht h (List.mem_cons_self ..)
  unfold OkN at this
  unfold f_r16_next_l1
  rw [if_pos (by simp only [decide_eq_true_eq]; omega),ck_pos (by omega),hx']
  by_cases hs:h.source=s
  ·rw [if_pos (by simpa using hs),ck_pos (by omega),ck_pos (by omega),ck_pos (by omega)]
   refine .inr ⟨_,rfl,fun x hx=>ht x (List.mem_cons_of_mem _ hx),rfl,?_⟩
   simp only [nextF,hs,if_true]
  ·rw [if_neg (by simpa using hs),ck_pos (by omega)]
   refine .inr ⟨_,rfl,fun x hx=>ht x (List.mem_cons_of_mem _ hx),rfl,?_⟩
   simp only [nextF,hs,if_false]
def okH (h:Head):Prop:=(1≤h.source∧h.source≤99)∧(1≤h.number∧h.number≤999999999)∧(1≤h.format∧h.format≤3)∧(0≤h.count∧h.count≤4096)
instance (h:Head):Decidable (okH h):=by unfold okH; infer_instance
def hdB:List Head→List Head→Bool
 | _,[]=>true
 | d,h :: t=>decide (okH h∧h.number=nextF h.source 1 d) && hdB (d++[h]) t
theorem okH_okN {h:Head} (o:okH h):OkN h:=by unfold okH at o; unfold OkN; omega
theorem hdB_ok:∀ {d l:List Head},hdB d l=true→∀ h,h∈l→okH h
 | _,[],_,h,hm=>by cases hm
 | d,x :: l,hb,h,hm=>by
  simp only [hdB,Bool.and_eq_true,decide_eq_true_eq] at hb
  rcases List.mem_cons.1 hm with rfl | hm
  ·exact hb.1.1
  ·exact hdB_ok hb.2 h hm
theorem p_rheads (v:Intake) (hl:v.heads.length≤100000):f_r16_heads v=some (hdB [] v.heads):=by
 unfold f_r16_heads
 have:=loop_rec0 v.heads (step:=fun s=>f_r16_heads_l1 v s) (fun s:Int=>s) (fun s t=>some (hdB (v.heads.take s.toNat) t)) (fun s t=>∀ h,h∈v.heads.take s.toNat→okH h) (by omega) (s:=0) ?_ ?_ rfl (by simp)
 ·exact this
 ·intro i _ hi
  unfold f_r16_heads_l1
  rw [if_neg (by simp only [decide_eq_true_eq]; omega)]
  exact ⟨_,rfl,rfl⟩
 ·intro i h t ht hi0 hi1 hx hlen
  unfold f_r16_heads_l1
  rw [if_pos (by simpa using hi1),ck_pos ⟨hi0,hi1⟩,hx]
  by_cases h1:(1≤h.source∧h.source≤99)∧(1≤h.number∧h.number≤999999999)
  ·have e1:((((decide (h.source < 1)) || (decide (h.source > 99))) || (decide (h.number < 1))) || (decide (h.number > 999999999)))=false:=by simp; omega
   have hn:f_r16_next v.heads i h.source=some (nextF h.source 1 (v.heads.take i.toNat)):=by
    have:=p_rnext v.heads i.toNat h.source (by omega) hl (fun x hx=>okH_okN (ht x hx))
    rwa [show ((i.toNat:Nat):Int)=i from by omega] at this
   simp only [e1,Bool.not_false,gcall,if_true,hn,Option.bind_some,Bool.false_or]
   by_cases h2:okH h∧h.number=nextF h.source 1 (v.heads.take i.toNat)
   ·have h3:=h2.1
    unfold okH at h3
    rw [if_neg (by simp [h2.2.symm]; omega),ck_pos (by omega)]
    refine .inr ⟨_,rfl,?_,rfl,?_⟩
    ·rw [show (i+1).toNat=i.toNat+1 from by omega,take_nth (by omega),hx]
     intro y hy
     rcases List.mem_append.1 hy with hy | hy
     ·exact ht y hy
     ·simp at hy; subst hy; exact h2.1
    ·rw [show (i+1).toNat=i.toNat+1 from by omega,take_nth (by omega),hx]
     simp only [hdB,decide_eq_true h2,Bool.true_and]
   ·rw [if_pos (by
     unfold okH at h2
     simp only [Bool.or_eq_true,bne_iff_ne,decide_eq_true_eq]
     by_cases hq:h.number=nextF h.source 1 (v.heads.take i.toNat)
     ·have:¬((1≤h.format∧h.format≤3)∧(0≤h.count∧h.count≤4096)):=fun hh=>h2 ⟨⟨h1.1,h1.2,hh.1,hh.2⟩,hq⟩
      omega
     ·exact .inl (.inl (.inl (.inl hq))))]
    exact .inl ⟨_,rfl,by simp only [hdB,decide_eq_false h2,Bool.false_and]⟩
  ·have e1:((((decide (h.source < 1)) || (decide (h.source > 99))) || (decide (h.number < 1))) || (decide (h.number > 999999999)))=true:=by simp; omega
   simp only [e1,Bool.not_true,gcall,Bool.false_eq_true,if_false,Option.bind_some,Bool.true_or,if_true]
   refine .inl ⟨_,rfl,?_⟩
   have:¬(okH h∧h.number=nextF h.source 1 (v.heads.take i.toNat)):=fun hh=>h1 ⟨hh.1.1,hh.1.2.1⟩
   simp only [hdB,decide_eq_false this,Bool.false_and]
def okR (r:Range):Prop:=(1≤r.source∧r.source≤99)∧1≤r.from_∧r.from_≤r.to_∧r.to_≤999999999
instance (r:Range):Decidable (okR r):=by unfold okR; infer_instance
def RLt (p r:Range):Prop:=p.source < r.source∨(p.source=r.source∧p.to_+1 < r.from_)
instance (p r:Range):Decidable (RLt p r):=by unfold RLt; infer_instance
def canB:Option Range→List Range→Bool
 | _,[]=>true
 | none,r :: t=>decide (okR r) && canB (some r) t
 | some p,r :: t=>decide (okR r∧RLt p r) && canB (some r) t
structure Can (l:List Range):Prop where
 ok:∀ r,r∈l→okR r
 srt:l.Pairwise RLt
theorem canB_iff:∀ (o:Option Range) (t:List Range),(∀ p,o=some p→okR p)→(canB o t=true↔(∀ r,r∈t→okR r)∧(o.toList++t).Pairwise RLt)
 | o,[],_=>by cases o <;> simp [canB]
 | none,r :: t,_=>by
  simp only [canB,Bool.and_eq_true,decide_eq_true_eq,Option.toList_none,List.nil_append]
  constructor
  ·rintro ⟨h1,h2⟩
   have ih:=(canB_iff (some r) t (fun p hp=>by cases hp; exact h1)).1 h2
   simp only [Option.toList_some,List.singleton_append] at ih
   refine ⟨fun x hx=>?_,ih.2⟩
   rcases List.mem_cons.1 hx with rfl | hx
   ·exact h1
   ·exact ih.1 x hx
  ·rintro ⟨h1,h2⟩
   refine ⟨h1 r (List.mem_cons_self ..),(canB_iff (some r) t (fun p hp=>by cases hp; exact h1 r (List.mem_cons_self ..))).2 ⟨fun x hx=>h1 x (List.mem_cons_of_mem _ hx),by simpa using h2⟩⟩
 | some p,r :: t,hp=>by
  simp only [canB,Bool.and_eq_true,decide_eq_true_eq,Option.toList_some,List.singleton_append]
  constructor
  ·rintro ⟨⟨h1,h3⟩,h2⟩
   have ih:=(canB_iff (some r) t (fun p hp=>by cases hp; exact h1)).1 h2
   simp only [Option.toList_some,List.singleton_append] at ih
   refine ⟨fun x hx=>?_,List.pairwise_cons.2 ⟨fun x hx=>?_,ih.2⟩⟩
   ·rcases List.mem_cons.1 hx with rfl | hx
    ·exact h1
    ·exact ih.1 x hx
   ·rcases List.mem_cons.1 hx with rfl | hx
    ·exact h3
    ·have h4:=(List.pairwise_cons.1 ih.2).1 x hx
     unfold okR at h1
     unfold RLt at h3 h4 ⊢
     omega
  ·rintro ⟨h1,h2⟩
   have h3:=List.pairwise_cons.1 h2
   have hr:=h1 r (List.mem_cons_self ..)
   exact ⟨⟨hr,h3.1 r (List.mem_cons_self ..)⟩,(canB_iff (some r) t (fun p hp=>by cases hp; exact hr)).2 ⟨fun x hx=>h1 x (List.mem_cons_of_mem _ hx),by simpa using h3.2⟩⟩
theorem can_iff (l:List Range):canB none l=true↔Can l:=by
 rw [canB_iff none l (fun p hp=>by cases hp)]
 simp only [Option.toList_none,List.nil_append]
 exact ⟨fun h=>⟨h.1,h.2⟩,fun h=>⟨h.ok,h.srt⟩⟩
theorem ident_iff (s n:Int):((((decide (s≥1)) && (decide (s≤99))) && (decide (n≥1))) && (decide (n≤999999999)))=decide ((1≤s∧s≤99)∧1≤n∧n≤999999999):=by
 rw [Bool.eq_iff_iff,decide_eq_true_iff]; simp; omega
theorem p_rcan (l:List Range) (hl:l.length≤100000):f_r14_Check l=some (canB none l):=by
 unfold f_r14_Check
 have:=loop_rec0 l (step:=fun s=>f_r14_Check_l1 l s) (fun s:Int=>s) (fun s t=>some (canB (if s=0 then none else some (nth l (s-1).toNat)) t)) (fun s t=>s≠0→okR (nth l (s-1).toNat)) (by omega) (s:=0) ?_ ?_ rfl (by simp)
 ·exact this
 ·intro i _ hi
  unfold f_r14_Check_l1
  rw [if_neg (by simp only [decide_eq_true_eq]; omega)]
  exact ⟨_,rfl,by simp [canB]⟩
 ·intro i r t hpv hi0 hi1 hx hlen
  unfold f_r14_Check_l1
  rw [if_pos (by simpa using hi1),ck_pos ⟨hi0,hi1⟩,hx]
  simp only [f_r14_identity,ident_iff,Option.bind_some,Bool.not_not,gcall_mk]
  have e1:(i+1=0)=False:=by simp; omega
  have e2:(i+1-1).toNat=i.toNat:=by omega
  by_cases hr:okR r
  ·have hr':=hr
   unfold okR at hr'
   have d1:decide ((1≤r.source∧r.source≤99)∧1≤r.from_∧r.from_≤999999999)=true:=by simp; omega
   have d2:decide ((1≤r.source∧r.source≤99)∧1≤r.to_∧r.to_≤999999999)=true:=by simp; omega
   simp only [d1,d2,if_true,Bool.not_true,Bool.false_or]
   rw [if_neg (by simp; omega)]
   by_cases h0:i=0
   ·subst h0
    rw [ck_pos (by simp),ck_pos (by simp),ck_pos (by simp),ck_pos (by simp),ck_pos (by simp),ck_pos (by simp),ck_pos (by simp),if_neg (by simp),ck_pos (by omega)]
    refine .inr ⟨_,rfl,fun _=>?_,rfl,?_⟩
    ·rw [e2,hx]; exact hr
    ·simp only [e1,if_false,e2,hx,if_true]
     simp only [canB,decide_eq_true hr,Bool.true_and]
   ·have hp:=hpv h0
    have hgt:i > 0:=by omega
    rw [if_neg h0]
    generalize nth l (i-1).toNat=p at hp ⊢
    have hp':=hp
    unfold okR at hp'
    simp only [hgt,decide_true,Bool.true_and]
    rw [ck_pos (fun _=>by omega),ck_pos (fun _=>by omega),ck_pos (fun _=>by omega),ck_pos (fun _=>by omega),ck_pos (fun _=>by omega),ck_pos (fun _=>by omega),ck_pos (fun _=>by omega)]
    by_cases hlt:RLt p r
    ·have hlt':=hlt
     unfold RLt at hlt'
     rw [if_neg (by simp; omega),ck_pos (by omega)]
     refine .inr ⟨_,rfl,fun _=>?_,rfl,?_⟩
     ·rw [e2,hx]; exact hr
     ·simp only [e1,if_false,e2,hx]
      simp only [canB,decide_eq_true (And.intro hr hlt),Bool.true_and]
    ·have hlt':=hlt
     unfold RLt at hlt'
     rw [if_pos (by simp; omega)]
     exact .inl ⟨_,rfl,by simp only [canB,decide_eq_false (fun h:okR r∧RLt p r=>hlt h.2),Bool.false_and]⟩
  ·have hr':=hr
   unfold okR at hr'
   rw [if_pos (by
    by_cases d1:(1≤r.source∧r.source≤99)∧1≤r.from_∧r.from_≤999999999
    ·by_cases d2:(1≤r.source∧r.source≤99)∧1≤r.to_∧r.to_≤999999999
     ·simp only [decide_eq_true d1,decide_eq_true d2,if_true,Bool.not_true,Bool.false_or,decide_eq_true_eq]; omega
     ·simp only [decide_eq_true d1,decide_eq_false d2,if_true,Bool.not_true,Bool.not_false,Bool.false_or,Bool.true_or]
    ·simp only [decide_eq_false d1,Bool.not_false,Bool.true_or])]
   refine .inl ⟨_,rfl,?_⟩
   by_cases h0:i=0
   ·simp [h0,canB,hr]
   ·simp [h0,canB,hr]
def hasB (l:List Range) (s n:Int):Bool:=l.any fun r=>decide (r.source=s∧r.from_≤n∧n≤r.to_)
def idB (s n:Int):Bool:=decide ((1≤s∧s≤99)∧1≤n∧n≤999999999)
theorem p_rHas (l:List Range) (s n:Int) (hl:l.length≤100000):f_r14_Has l s n=some (hasB l s n && idB s n):=by
 unfold f_r14_Has
 refine loop_rec0 l (fun st:Int=>st) (fun st t=>some (hasB t s n && idB s n)) (fun st t=>True) (by omega) ?_ ?_ rfl trivial
 ·intro i _ hi
  unfold f_r14_Has_l1
  rw [if_neg (by simp only [decide_eq_true_eq]; omega)]
  exact ⟨_,rfl,by simp [hasB]⟩
 ·intro i r t _ hi0 hi1 hx hlen
  unfold f_r14_Has_l1
  rw [if_pos (by simpa using hi1),ck_pos ⟨hi0,hi1⟩,ck_pos (fun _=>⟨hi0,hi1⟩),ck_pos (fun _=>⟨hi0,hi1⟩),hx]
  by_cases h:r.source=s∧r.from_≤n∧n≤r.to_
  ·rw [if_pos (by simp [h.1,h.2.1,h.2.2])]
   simp only [f_r14_identity,ident_iff,Option.bind_some]
   exact .inl ⟨_,rfl,by simp [hasB,h,idB]⟩
  ·rw [if_neg (by simp only [Bool.and_eq_true,beq_iff_eq,decide_eq_true_eq]; exact fun hh=>h ⟨hh.1.1,hh.1.2,hh.2⟩),ck_pos (by omega)]
   refine .inr ⟨_,rfl,trivial,rfl,?_⟩
   unfold hasB
   rw [List.any_cons,decide_eq_false h,Bool.false_or]
def cntR (s:Int):List Range→Int
 | []=>0
 | r :: t=>(if r.source=s then r.to_-r.from_+1 else 0)+cntR s t
def cntH (s:Int):List Head→Int
 | []=>0
 | h :: t=>(if h.source=s then h.count else 0)+cntH s t
def ctB (l:List Range) (hs:List Head):Nat→Int→Bool
 | 0,_=>true
 | m+1,s=>decide (cntR s l≤cntH s hs) && ctB l hs m (s+1)
theorem p_ct2 (v:Intake) (s n:Int) (hs:1≤s∧s≤99) (hh:∀ h,h∈v.heads→okH h) (hl:v.heads.length≤100000) (hn:0≤n∧n≤100000000000000):f_r16_counted_j1 v s n=some (if n-cntH s v.heads > 0 then .inr false else .inl (s+1)):=by
 unfold f_r16_counted_j1
 refine loop_rec0 v.heads (fun st:Int×Int=>st.2) (fun st t=>(some (if st.1-cntH s t > 0 then Sum.inr false else Sum.inl (s+1)):Option (Int ⊕ Bool))) (fun st t=>(-5000*st.2≤st.1∧st.1≤100000000000000)∧∀ h,h∈t→okH h) (by omega) ?_ ?_ (s:=(n,(0:Int))) rfl ⟨by simp only; omega,hh⟩
 ·rintro ⟨k,i⟩ ⟨hb,_⟩ hi
  simp only at hb hi ⊢
  unfold f_r16_counted_l2 f_r16_counted_j2
  rw [if_neg (by simp only [decide_eq_true_eq]; omega)]
  simp only [cntH,Int.sub_zero,decide_eq_true_eq]
  by_cases h:k > 0
  ·rw [if_pos h,if_pos h]; exact ⟨_,rfl,rfl⟩
  ·rw [if_neg h,if_neg h,ck_pos (by omega)]; exact ⟨_,rfl,rfl⟩
 ·rintro ⟨k,i⟩ h t ⟨hb,ht⟩ hi0 hi1 hx hlen
  simp only at hb ht hi0 hi1 hx hlen ⊢
  have ho:=ht h (List.mem_cons_self ..)
  unfold okH at ho
  unfold f_r16_counted_l2
  rw [if_pos (by simpa using hi1),ck_pos ⟨hi0,hi1⟩,hx]
  by_cases he:h.source=s
  ·rw [if_pos (by simpa using he),ck_pos ⟨hi0,hi1⟩,ck_pos (by omega),ck_pos (by omega)]
   refine .inr ⟨_,rfl,⟨by simp only; omega,fun x hx=>ht x (List.mem_cons_of_mem _ hx)⟩,rfl,?_⟩
   simp only [cntH,he,if_true]
   rw [show k-h.count-cntH s t=k-(h.count+cntH s t) from by omega]
  ·rw [if_neg (by simpa using he),ck_pos (by omega)]
   refine .inr ⟨_,rfl,⟨by simp only; omega,fun x hx=>ht x (List.mem_cons_of_mem _ hx)⟩,rfl,?_⟩
   simp only [cntH,he,if_false,Int.zero_add]
theorem p_ct3 (v:Intake) (s:Int) (hs:1≤s∧s≤99) (hh:∀ h,h∈v.heads→okH h) (hr:∀ r,r∈v.seen→okR r) (hl:v.heads.length≤100000) (hl2:v.seen.length≤10000):loop (fun st:Int×Int=>f_r16_counted_l3 v s st.1 st.2) (0,0)=some (if cntR s v.seen-cntH s v.heads > 0 then .inr false else .inl (s+1)):=by
 refine (loop_rec0 v.seen (fun st:Int×Int=>st.2) (fun st t=>(some (if (st.1+cntR s t) - cntH s v.heads > 0 then Sum.inr false else Sum.inl (s+1)):Option (Int ⊕ Bool))) (fun st t=>(0≤st.1∧st.1≤st.2*1000000000)∧∀ r,r∈t→okR r) (by omega) ?_ ?_ (s:=((0:Int),(0:Int))) rfl ⟨by simp,hr⟩).trans (by simp)
 ·rintro ⟨k,i⟩ ⟨hb,_⟩ hi
  simp only at hb hi ⊢
  unfold f_r16_counted_l3
  rw [if_neg (by simp only [decide_eq_true_eq]; omega),p_ct2 v s k hs hh hl (by omega)]
  exact ⟨_,rfl,by simp [cntR]⟩
 ·rintro ⟨k,i⟩ r t ⟨hb,ht⟩ hi0 hi1 hx hlen
  simp only at hb ht hi0 hi1 hx hlen ⊢
  have ho:=ht r (List.mem_cons_self ..)
  unfold okR at ho
  unfold f_r16_counted_l3
  rw [if_pos (by simpa using hi1),ck_pos ⟨hi0,hi1⟩,hx]
  by_cases he:r.source=s
  ·rw [if_pos (by simpa using he),ck_pos ⟨hi0,hi1⟩,ck_pos (by omega),ck_pos ⟨hi0,hi1⟩,ck_pos (by omega),ck_pos (by omega),ck_pos (by omega)]
   refine .inr ⟨_,rfl,⟨by simp only; omega,fun x hx=>ht x (List.mem_cons_of_mem _ hx)⟩,rfl,?_⟩
   simp only [cntR,he,if_true]
   rw [show k+r.to_-r.from_+1+cntR s t=k+(r.to_-r.from_+1+cntR s t) from by omega]
  ·rw [if_neg (by simpa using he),ck_pos (by omega)]
   refine .inr ⟨_,rfl,⟨by simp only; omega,fun x hx=>ht x (List.mem_cons_of_mem _ hx)⟩,rfl,?_⟩
   simp only [cntR,he,if_false,Int.zero_add]
theorem p_rcounted (v:Intake) (hh:∀ h,h∈v.heads→okH h) (hr:∀ r,r∈v.seen→okR r) (hl:v.heads.length≤100000) (hl2:v.seen.length≤10000):f_r16_counted v=some (ctB v.seen v.heads 99 1):=by
 unfold f_r16_counted
 refine loop_spec (fun s:Int=>some (ctB v.seen v.heads (100-s).toNat s)) (fun s=>1≤s∧s≤100) (fun s=>(100-s).toNat) ?_ (s:=1) (by decide) (by decide)
 rintro s ⟨h1,h2⟩
 unfold f_r16_counted_l1
 by_cases hs:s≤99
 ·rw [if_pos (by simpa using hs),p_ct3 v s ⟨h1,hs⟩ hh hr hl hl2,show (100-s).toNat=(100-(s+1)).toNat+1 from by omega]
  simp only [ctB]
  by_cases hc:cntR s v.seen-cntH s v.heads > 0
  ·rw [if_pos hc]
   exact .inl ⟨_,rfl,by rw [decide_eq_false (by omega),Bool.false_and]⟩
  ·rw [if_neg hc]
   exact .inr ⟨s+1,rfl,by omega,by omega,by rw [decide_eq_true (show cntR s v.seen≤cntH s v.heads by omega),Bool.true_and]⟩
 ·rw [if_neg (by simpa using hs)]
  have:s=100:=by omega
  subst this
  exact .inl ⟨_,rfl,rfl⟩
def sameId (a b:Record):Bool:=decide (a.source=b.source) && decide (a.serial=b.serial)
def opB (l:List Range):List Record→List Record→Bool
 | _,[]=>true
 | d,r :: t=>(hasB l r.source r.serial && idB r.source r.serial) && !(d.any fun x=>sameId x r) && opB l (d++[r]) t
def ckF (v:Intake):Bool:=hdB [] v.heads && canB none v.seen && (srtB none v.open_ && ncB v.open_ v.open_) && ctB v.seen v.heads 99 1 && opB v.seen [] v.open_
structure SmI (v:Intake):Prop where
 seen:v.seen.length≤1000
 heads:v.heads.length≤1000
 opens:v.open_.length≤1000
 sm:∀ r,r∈v.open_→Sm r
theorem p_rids (v:Intake) (i:Int) (hi0:0≤i) (hi1:i < (v.open_.length:Int)) (hl:v.open_.length≤1000):loop (fun s=>f_r16_Check_l2 v i s) 0=some (if ((v.open_.take i.toNat).any fun x=>sameId x (nth v.open_ i.toNat))=true then .inr false else .inl (i+1)):=by
 have htl:(v.open_.take i.toNat).length=i.toNat:=by rw [List.length_take]; omega
 refine loop_rec0 (v.open_.take i.toNat) (fun s:Int=>s) (fun s t=>(some (if (t.any fun x=>sameId x (nth v.open_ i.toNat))=true then Sum.inr false else Sum.inl (i+1)):Option (Int ⊕ Bool))) (fun s t=>True) (by omega) ?_ ?_ rfl trivial
 ·intro k _ hk
  unfold f_r16_Check_l2
  rw [if_neg (by simp only [decide_eq_true_eq]; omega),ck_pos (by omega)]
  exact ⟨_,rfl,rfl⟩
 ·intro k x t _ hk0 hk1 hx hlen
  have hx':nth v.open_ k.toNat=x:=by rw [←hx,nth_eq (by omega),nth_eq (by omega),List.getElem_take]
  unfold f_r16_Check_l2
  rw [if_pos (by simp only [decide_eq_true_eq]; omega),ck_pos (by omega),ck_pos (fun _=>by omega),hx']
  rw [List.any_cons]
  by_cases h:sameId x (nth v.open_ i.toNat)=true
  ·have h':=h
   simp only [sameId,Bool.and_eq_true,decide_eq_true_eq] at h'
   rw [if_pos (by simp [h'.1,h'.2]),h,Bool.true_or]
   exact .inl ⟨_,rfl,rfl⟩
  ·have h':=h
   simp only [sameId,Bool.and_eq_true,decide_eq_true_eq] at h'
   rw [if_neg (by simpa using h'),ck_pos (by omega),Bool.eq_false_iff.2 h,Bool.false_or]
   exact .inr ⟨_,rfl,trivial,rfl,rfl⟩
theorem p_rck (v:Intake) (hs:SmI v):f_r16_Check v=some (ckF v):=by
 unfold f_r16_Check ckF
 rw [p_rheads v (by have:=hs.heads; omega)]
 simp only [Option.bind_some,Bool.not_not]
 cases h1:hdB [] v.heads with
 | false=>simp [gcall]
 | true =>
  have hh:=hdB_ok h1
  simp only [gcall,if_true]
  rw [p_rcan v.seen (by have:=hs.seen; omega)]
  simp only [Option.bind_some]
  cases h2:canB none v.seen with
  | false=>simp
  | true =>
   have hc:=(can_iff _).1 h2
   simp only [Bool.not_true,Bool.or_self,Bool.not_false,if_true]
   rw [p_rOpen v.open_ hs.sm hs.opens]
   simp only [Option.bind_some]
   cases h3:(srtB none v.open_ && ncB v.open_ v.open_) with
   | false=>simp
   | true =>
    simp only [Bool.not_true,Bool.or_self,Bool.not_false,if_true]
    rw [p_rcounted v hh hc.ok (by have:=hs.heads; omega) (by have:=hs.seen; omega)]
    simp only [Option.bind_some]
    cases h4:ctB v.seen v.heads 99 1 with
    | false=>simp
    | true =>
     simp only [Bool.not_true,Bool.or_self,Bool.false_eq_true,if_false,Bool.true_and]
     have hol:=hs.opens
     refine (loop_rec0 v.open_ (step:=fun s=>f_r16_Check_l1 v s) (fun s:Int=>s) (fun s t=>some (opB v.seen (v.open_.take s.toNat) t)) (fun s t=>True) (by omega) (s:=0) ?_ ?_ rfl trivial)
     ·intro i _ hi
      unfold f_r16_Check_l1
      rw [if_neg (by simp only [decide_eq_true_eq]; omega)]
      exact ⟨_,rfl,rfl⟩
     ·intro i r t _ hi0 hi1 hx hlen
      unfold f_r16_Check_l1
      rw [if_pos (by simpa using hi1),ck_pos ⟨hi0,hi1⟩,hx,p_rHas v.seen r.source r.serial (by have:=hs.seen; omega)]
      simp only [Option.bind_some,opB]
      cases h5:(hasB v.seen r.source r.serial && idB r.source r.serial) with
      | false =>
       rw [if_pos (by rfl)]
       exact .inl ⟨_,rfl,by simp⟩
      | true =>
       rw [if_neg (by simp),p_rids v i hi0 hi1 hol,hx]
       cases h6:((v.open_.take i.toNat).any fun x=>sameId x r) with
       | true =>
        rw [if_pos rfl]
        exact .inl ⟨_,rfl,by simp⟩
       | false =>
        rw [if_neg (by simp)]
        refine .inr ⟨_,rfl,trivial,rfl,?_⟩
        rw [show (i+1).toNat=i.toNat+1 from by omega,take_nth (by omega),hx]
        simp
structure Good16 (v:Intake):Prop where
 heads:hdB [] v.heads=true
 can:Can v.seen
 opn:Opn v.open_
 cnt:ctB v.seen v.heads 99 1=true
 ids:opB v.seen [] v.open_=true
theorem ckF_iff (v:Intake):ckF v=true↔Good16 v:=by
 unfold ckF
 simp only [Bool.and_eq_true]
 rw [can_iff]
 constructor
 ·rintro ⟨⟨⟨⟨h1,h2⟩,h3⟩,h4⟩,h5⟩
  exact ⟨h1,h2,(opn_iff _).1 (by simpa using h3),h4,h5⟩
 ·rintro ⟨h1,h2,h3,h4,h5⟩
  exact ⟨⟨⟨⟨h1,h2⟩,by simpa using (opn_iff _).2 h3⟩,h4⟩,h5⟩
theorem few_tot (l:List Record):∃ b,f_w16_few l=some b∧(b=true→l.length≤40∧∀ r,r∈l→Sm r):=by
 unfold f_w16_few
 obtain ⟨b,h1,h2⟩:=loop_post (step:=fun i:Int=>f_w16_few_l1 l i) (fun b=>b=true→l.length≤40∧∀ r,r∈l→Sm r) (fun i:Int=>0≤i∧i≤41∧i≤(l.length:Int)∧∀ r,r∈l.take i.toNat→Sm r) (fun i=>(41-i).toNat) (fun i hI=>by
  obtain ⟨h0,h1,h2,h3⟩:=hI
  show (∃ r,f_w16_few_l1 l i=_∧_)∨∃ s',f_w16_few_l1 l i=_∧_
  unfold f_w16_few_l1
  by_cases h:i < (l.length:Int)∧i < 41
  ·rw [if_pos (by simp [h]),ck_pos (by omega),ck_pos (by omega)]
   by_cases hs:Sm (nth l i.toNat)
   ·have hs':=hs
    unfold Sm at hs'
    rw [if_neg (by simp; omega),ck_pos (by omega)]
    refine .inr ⟨i+1,rfl,⟨by omega,by omega,by omega,?_⟩,by omega⟩
    rw [show (i+1).toNat=i.toNat+1 from by omega,take_nth (by omega)]
    intro r hr
    rcases List.mem_append.1 hr with hr | hr
    ·exact h3 r hr
    ·simp at hr; subst hr; exact hs
   ·have hs':=hs
    unfold Sm at hs'
    rw [if_pos (by simp; omega)]
    exact .inl ⟨_,rfl,by simp⟩
  ·rw [if_neg (by simp; omega)]
   unfold f_w16_few_j1
   refine .inl ⟨_,rfl,fun hb=>?_⟩
   simp at hb
   have:i=l.length:=by omega
   refine ⟨by omega,fun r hr=>h3 r ?_⟩
   rw [List.take_of_length_le (by omega)]
   exact hr) (s:=0) ⟨by omega,by omega,by omega,by simp⟩ (by omega)
 exact ⟨b,h1,h2⟩
theorem small_tot (v:Intake):∃ b,f_w16_small v=some b∧(b=true→v.seen.length≤40∧v.heads.length≤40∧v.open_.length≤40∧SmI v):=by
 unfold f_w16_small
 obtain ⟨b,h1,h2⟩:=few_tot v.open_
 rw [h1,gcall_mk]
 refine ⟨_,rfl,fun h=>?_⟩
 simp only [Bool.and_eq_true,decide_eq_true_eq] at h
 rw [if_pos (by simp [h.1])] at h
 obtain ⟨h3,h4⟩:=h2 h.2
 exact ⟨by omega,by omega,h3,⟨by omega,by omega,by omega,h4⟩⟩
theorem Head.eq_refl (h:Head):eqVs h.vals h.vals=true:=by simp [Head.vals,eqVs,eqV]
theorem Range.eq_refl (h:Range):eqVs h.vals h.vals=true:=by simp [Range.vals,eqVs,eqV]
theorem p_Same09 (a:List Record) (hl:a.length≤10000):f_r09_Same a a=some true:=by
 unfold f_r09_Same
 rw [if_neg (by simp),loop_all a (fun _=>true) true true (by omega) (fun i h0 h1=>?_) (fun i hi=>?_)]
 ·simp
 ·unfold f_r09_Same_l1
  rw [if_pos (by simpa using h1),ck_pos (by omega),ck_pos (by omega),if_neg (by rw [Record.eq_refl]; simp),ck_pos (by omega)]
  rfl
 ·unfold f_r09_Same_l1
  rw [if_neg (by simp; omega)]
theorem p_Same (a:List Record) (hl:a.length≤10000):f_r13_Same a a=some true:=by
 unfold f_r13_Same
 rw [p_Same09 a hl]; rfl
theorem p_Same14 (a:List Range) (hl:a.length≤10000):f_r14_Same a a=some true:=by
 unfold f_r14_Same
 rw [if_neg (by simp),loop_all a (fun _=>true) true true (by omega) (fun i h0 h1=>?_) (fun i hi=>?_)]
 ·simp
 ·unfold f_r14_Same_l1
  rw [if_pos (by simpa using h1),ck_pos (by omega),ck_pos (by omega),if_neg (by rw [Range.eq_refl]; simp),ck_pos (by omega)]
  rfl
 ·unfold f_r14_Same_l1
  rw [if_neg (by simp; omega)]
theorem p_Same16 (v:Intake) (h1:v.seen.length≤10000) (h2:v.open_.length≤10000) (h3:v.heads.length≤10000):f_r16_Same v v=some true:=by
 unfold f_r16_Same
 rw [if_neg (by simp),loop_all v.heads (fun _=>true) true true (by omega) (fun i h0 h1=>?_) (fun i hi=>?_)]
 ·simp
 ·unfold f_r16_Same_l1
  rw [if_pos (by simpa using h1),ck_pos (by omega),ck_pos (by omega),if_neg (by rw [Head.eq_refl]; simp),ck_pos (by omega)]
  rfl
 ·unfold f_r16_Same_l1 f_r16_Same_j1
  rw [if_neg (by simp; omega),p_Same14 _ h1,p_Same09 _ h2]
  rfl
theorem expF_len (b:Int):∀ (m:Nat) (l:List Record),(expF b m l).1.length+(expF b m l).2.length≤l.length
 | 0,l=>by simp [expF]
 | m+1,[]=>by simp [expF]
 | m+1,x :: l=>by
  have h1:=expF_len b m (restF x (x :: l))
  have h2:=congrArg List.length (run_rest x (x :: l))
  have h3:=endF_len (runF x (x :: l))
  rw [List.length_append] at h2
  unfold expF
  split <;> simp only [List.length_append] <;> omega
theorem closes_true (v:Intake) (b:Int):f_w16_IntakeCloses v b=some true:=by
 unfold f_w16_IntakeCloses
 obtain ⟨c,h1,h2⟩:=small_tot v
 rw [h1]
 simp only [Option.bind_some,Bool.not_not]
 cases c with
 | false=>simp [gcall,awake_true]
 | true =>
  obtain ⟨a1,a2,a3,hs⟩:=h2 rfl
  simp only [gcall,if_true]
  rw [p_rck v hs]
  simp only [Option.bind_some]
  cases hc:ckF v with
  | false=>simp [awake_true]
  | true =>
   have hg:=(ckF_iff v).1 hc
   have hj:=expF_len b v.open_.length v.open_
   rw [if_neg (by simp)]
   unfold f_intake_Close f_intake_copied f_r16_Close x_CloneRange x_CloneRecord x_CloneHead
   rw [ck_pos (by omega),ck_pos (by omega),ck_pos (by omega)]
   simp only [Option.bind_some]
   rw [p_Expire v.open_ b hg.opn.wt (by omega),p_rExpire v.open_ b hg.opn.wt.sm (by omega)]
   simp only [Option.bind_some]
   rw [ck_pos (by omega),ck_pos (by omega)]
   simp only [Option.bind_some]
   rw [p_Same16 _ (by simp only; omega) (by simp only; omega) (by simp only; omega)]
   simp only [Option.bind_some,if_true]
   rw [p_Same _ (by omega)]
   simp only [Option.bind_some,Bool.and_self,if_true,awake_true]
end Go.Proofs.YtpnegjippkneoaaGreatDoor
namespace Go.Abs
open Go.RowKit Go.ChangeShapes Go.WideShapes Go.Deep
inductive Sh where
 | i (k:IntKind)
 | b
 | s
 | sl (row:List Sh)
inductive DFits:Sh→D→Prop where
 | i (k:IntKind) (n:Int) (h:(Lit.int k n).wf=true):DFits (.i k) (.ex (.int k n))
 | b (x:Bool):DFits .b (.ex (.bool x))
 | s (l:List UInt8) (h:l.length≤maxLen):DFits .s (.ex (.string ⟨l.toArray⟩))
 | sl (row:List Sh) (rows:List (List D)) (hn:rows.length≤maxLen) (h1:∀ r,r∈rows→r.length=row.length)
   (h:∀ r,r∈rows→∀ (i:Nat) sh d,row[i]?=some sh→r[i]?=some d→DFits sh d):DFits (.sl row) (.sl row.length rows)
def shapeFs (P:Program) (rec:TypeId→Option (List Sh)):List Field→Nat→Option (List Sh)
 | [],_=>some []
 | f :: fs,off=>match rec f.type with
  | some r=>if Nat.beq f.offset off && Nat.beq r.length (P.cellsOf f.type) then (shapeFs P rec fs (off+r.length)).map (r++·) else none
  | none=>none
def shape (P:Program):Nat→TypeId→Option (List Sh)
 | 0,_=>none
 | n+1,t=>match P.underlying t with
  | some (.int k)=>some [.i k]
  | some .bool=>some [.b]
  | some .string=>some [.s]
  | some (.slice e)=>match shape P n e with
   | some r=>if Nat.beq r.length (P.cellsOf e) && Nat.blt 0 r.length then some [.sl r] else none
   | none=>none
  | some (.struct fs)=>match shapeFs P (shape P n) fs.toList 0 with
   | some r=>if Nat.beq r.length (P.cellsOf t) then some r else none
   | none=>none
  | _=>none
def Opens (lim:Nat→Nat) (w:World) (shs:List Sh) (cs:List Value):Prop :=
 ∃ ds:List D,ds.length=shs.length∧cs.length=shs.length∧∀ (i:Nat) sh d c,shs[i]?=some sh→ds[i]?=some d→cs[i]?=some c→DFits sh d∧DRep lim w d c∧c.oneCell'=true
theorem Opens.one {lim:Nat→Nat} {w:World} {sh:Sh} {d:D} {c:Value} (h1:DFits sh d) (h2:DRep lim w d c) (h3:c.oneCell'=true):Opens lim w [sh] [c]:=by
 refine ⟨[d],rfl,rfl,fun i sh' d' c' ha hb hc=>?_⟩
 cases i with
 | zero=>simp at ha hb hc; subst ha; subst hb; subst hc; exact ⟨h1,h2,h3⟩
 | succ i=>simp at ha
theorem Opens.nil {lim:Nat→Nat} {w:World}:Opens lim w [] []:=⟨[],rfl,rfl,fun i _ _ _ h=>by simp at h⟩
theorem Opens.append {lim:Nat→Nat} {w:World} {s1 s2:List Sh} {c1 c2:List Value} (h:Opens lim w s1 c1) (k:Opens lim w s2 c2):Opens lim w (s1++s2) (c1++c2):=by
 obtain ⟨d1,a1,b1,e1⟩:=h
 obtain ⟨d2,a2,b2,e2⟩:=k
 refine ⟨d1++d2,by simp [a1,a2],by simp [b1,b2],fun i sh d c ha hb hc=>?_⟩
 by_cases hi:i < s1.length
 ·rw [List.getElem?_append_left hi] at ha
  rw [List.getElem?_append_left (by omega)] at hb hc
  exact e1 i sh d c ha hb hc
 ·rw [List.getElem?_append_right (by omega)] at ha hb hc
  rw [a1] at hb
  rw [b1] at hc
  exact e2 _ sh d c ha hb hc
section opening
variable {H:Type} {enc:TypeId×Value→H} {P:Program} {w:World} {held:Bool} {lim:Nat→Nat}
theorem opens_fields {rec:TypeId→Option (List Sh)} (cs:List Value):∀ (fs:List Field) (off:Nat) (shs:List Sh),shapeFs P rec fs off=some shs→cs.length=off+shs.length →
  (∀ (i:Nat) f,fs[i]?=some f→∀ r,rec f.type=some r→r.length=P.cellsOf f.type→Opens lim w r ((cs.drop f.offset).take (P.cellsOf f.type)))→Opens lim w shs (cs.drop off)
 | [],off,shs,h,hl,_=>by
  simp [shapeFs] at h; subst h
  rw [List.drop_of_length_le (by simp at hl; omega)]
  exact .nil
 | f :: fs,off,shs,h,hl,hf=>by
  unfold shapeFs at h
  split at h
  ·rename_i r hr
   split at h
   ·rename_i hc
    rw [Bool.and_eq_true] at hc
    replace hc:=And.intro (Nat.eq_of_beq_eq_true hc.1) (Nat.eq_of_beq_eq_true hc.2)
    obtain ⟨rest,hrest,rfl⟩:=Option.map_eq_some_iff.1 h
    simp only [List.length_append] at hl
    have h1:=hf 0 f rfl r hr hc.2
    have h2:=opens_fields cs fs (off+r.length) rest hrest (by omega) fun i g hg=>hf (i+1) g (by simpa using hg)
    have e:cs.drop off=(cs.drop f.offset).take (P.cellsOf f.type)++cs.drop (off+r.length):=by
     rw [hc.1,←hc.2,←List.drop_drop,List.take_append_drop]
    rw [e]
    exact h1.append h2
   ·cases h
  ·cases h
theorem opens_shape (hlim:∀ b off u,w.cell? ⟨b,off,none⟩=some u→off < lim b):∀ (n:Nat) (t:TypeId) (shs:List Sh),shape P n t=some shs→∀ fuel cs x,DataW.trod enc P w 0 (fun _=>true) held fuel t cs=some x→Opens lim w shs cs
 | 0,_,_,h=>by simp [shape] at h
 | n+1,t,shs,h=>by
  intro fuel cs x ht
  unfold shape at h
  split at h
  ·rename_i k hu
   cases h
   obtain ⟨m,rfl,_,hw⟩:=DataW.trod_int hu ht
   exact .one (.i k m hw) (.ex _) rfl
  ·rename_i hu
   cases h
   obtain ⟨b,rfl,_⟩:=DataW.trod_bool hu ht
   exact .one (.b b) (.ex _) rfl
  ·rename_i hu
   cases h
   obtain ⟨⟨a⟩,rfl,_,hs⟩:=DataW.trod_string hu ht
   exact .one (.s a.toList (by simpa [ByteArray.size] using hs)) (.ex _) rfl
  ·rename_i e hu
   split at h
   ·rename_i r hr
    split at h
    ·rename_i hc
     cases h
     rw [Bool.and_eq_true] at hc
     obtain ⟨hc1,hc2⟩:=And.intro (Nat.eq_of_beq_eq_true hc.1) (blt_lt hc.2)
     rcases open_slice hu ht with ⟨rfl,_⟩ | ⟨a,len,cap,m,n',D0,Pl,rfl,hb,hl,hm,hmm,hx,hi⟩
     ·exact .one (.sl r [] (Nat.zero_le _) (fun _ h=>by cases h) (fun _ h=>by cases h)) (.nil _ _) rfl
     ·simp only [if_true] at hmm
      subst hmm
      obtain ⟨F,hF⟩:=choose_lt (n:=m) (p:=fun i (ds:List D)=>ds.length=r.length∧∀ (j:Nat) sh d,r[j]?=some sh→ds[j]?=some d→∃ c,w.cell? (a.add (i*r.length+j))=some c∧DFits sh d∧DRep lim w d c∧c.oneCell'=true) (fun i hi'=>by
       obtain ⟨cs',h1,h2⟩:=hi i hi'
       obtain ⟨ds,k1,k2,k3⟩:=opens_shape hlim n e r hr n' cs' _ h2
       obtain ⟨_,h3,h4⟩:=World.cells?_some h1
       refine ⟨ds,k1,fun j sh d hj hd=>?_⟩
       have hjl:j < r.length:=(List.getElem?_eq_some_iff.1 hj).1
       have hc':cs'[j]?=some (cs'[j]'(by omega)):=List.getElem?_eq_getElem (by omega)
       refine ⟨cs'[j]'(by omega),?_,k3 j sh d _ hj hd hc'⟩
       rw [←hc',←h4 j (by omega),←hc1,Go.Deep.add_add])
      have hfit:DFits (.sl r) (.sl r.length ((List.range len).map F)):=by
       refine .sl r _ (by simp; omega) (fun row hrow=>?_) fun row hrow i sh d hs hd=>?_
       ·obtain ⟨i,hi2,rfl⟩:=List.mem_map.1 hrow
        exact (hF i (by have:=List.mem_range.1 hi2; omega)).1
       ·obtain ⟨i',hi2,rfl⟩:=List.mem_map.1 hrow
        obtain ⟨c,_,hh,_⟩:=(hF i' (by have:=List.mem_range.1 hi2; omega)).2 i sh d hs hd
        exact hh
      refine .one hfit ?_ rfl
      rcases Nat.eq_zero_or_pos m with h0 | h0
      ·subst h0
       have:len=0:=by omega
       subst this
       exact .nil _ _
      ·have hspot:a.spot=none:=by
        obtain ⟨cs',h1,h2⟩:=hi 0 h0
        obtain ⟨_,h3,h4⟩:=World.cells?_some h1
        have h5:=h4 0 (by omega)
        have h6:cs'[0]?=some (cs'[0]'(by omega)):=List.getElem?_eq_getElem (by omega)
        rw [h6] at h5
        unfold World.cell? at h5
        split at h5
        ·split at h5
         ·cases h5
         ·rename_i hsp
          simpa [Addr.add] using hsp
        ·cases h5
       obtain ⟨b,off,sp⟩:=a
       simp only at hspot
       subst hspot
       have hcell:∀ i j,i < m→j < r.length→∀ sh d,r[j]?=some sh→(F i)[j]?=some d→∃ c,w.cell? ⟨b,off+(i*r.length+j),none⟩=some c∧DFits sh d∧DRep lim w d c∧c.oneCell'=true:=fun i j hi' hj sh d hs hd=>by
        obtain ⟨c,h1,h2⟩:=(hF i hi').2 j sh d hs hd
        rw [Addr.add_lit] at h1
        exact ⟨c,h1,h2⟩
       have hlen:((List.range len).map F).length=len:=by simp
       have key:=DRep.sl (lim:=lim) (w:=w) r.length ((List.range len).map F) b off m (by rw [hlen]; exact hl) (fun row hrow=>by
        obtain ⟨i,hi2,rfl⟩:=List.mem_map.1 hrow
        exact (hF i (by have:=List.mem_range.1 hi2; omega)).1) (fun k hk=>by
        rw [hlen] at hk
        have hdiv:k / r.length < len:=Nat.div_lt_of_lt_mul (by rw [Nat.mul_comm]; exact hk)
        have hmod:k % r.length < r.length:=Nat.mod_lt _ hc2
        obtain ⟨c,h1,h2,h3,h4⟩:=hcell (k / r.length) (k % r.length) (by omega) hmod _ _ (List.getElem?_eq_getElem hmod) (List.getElem?_eq_getElem (by rw [(hF _ (by omega)).1]; exact hmod))
        have e:k / r.length*r.length+k % r.length=k:=by rw [Nat.mul_comm]; exact Nat.div_add_mod k r.length
        rw [e] at h1
        exact ⟨hlim _ _ _ h1,c,h1,h4⟩) (fun i j row c u h1 h2 h3=>by
        rw [List.getElem?_map] at h1
        obtain ⟨i',hi2,rfl⟩:=Option.map_eq_some_iff.1 h1
        have hil:i < len:=by have:=(List.getElem?_eq_some_iff.1 hi2).1; simpa using this
        have:i'=i:=by rw [List.getElem?_range hil] at hi2; cases hi2; rfl
        subst this
        have hjl:j < r.length:=by have:=(List.getElem?_eq_some_iff.1 h2).1; rw [(hF _ (by omega)).1] at this; exact this
        obtain ⟨c',k1,k2,k3,k4⟩:=hcell i' j (by omega) hjl _ _ (List.getElem?_eq_getElem hjl) h2
        rw [h3] at k1
        cases k1
        exact k3)
       rw [hlen] at key
       exact key
    ·cases h
   ·cases h
  ·rename_i fs hu
   split at h
   ·rename_i r hr
    split at h
    ·rename_i hc
     cases h
     have hc':=Nat.eq_of_beq_eq_true hc
     obtain ⟨ys,n',_,hy,hlen,hyl,hf⟩:=DataW.trod_struct hu ht
     have:=opens_fields (lim:=lim) (w:=w) (P:=P) cs fs.toList 0 _ hr (by omega) fun i f hi r' hr' hl'=>by
      have h1:=hf i f (by simpa using hi)
      have hys:ys[i]?=some (ys[i]'(by have:=(List.getElem?_eq_some_iff.1 hi).1; simp at this; omega)):=List.getElem?_eq_getElem _
      exact opens_shape hlim n f.type r' hr' n' _ _ (h1.trans hys)
     simpa using this
    ·cases h
   ·cases h
  ·cases h
end opening
end Go.Abs
namespace Go.Abs
open Go.RowKit Go.ChangeShapes Go.WideShapes Go.Deep Go.ChangeAt
def limW (w:World) (b:Nat):Nat:=match w.heap[b]? with
 | some (.cells c _ _)=>c.size
 | _=>0
theorem limW_lt (w:World) (b off:Nat) (u:Value) (h:w.cell? ⟨b,off,none⟩=some u):off < limW w b:=by
 unfold World.cell? at h
 unfold limW
 split at h
 ·rename_i c e k hb
  simp only at hb
  rw [hb]
  simp only [Option.isSome_none,Bool.false_eq_true,if_false] at h
  exact (Array.getElem?_eq_some_iff.1 h).1
 ·cases h
section top
variable {H:Type} {enc:TypeId×Value→H} {P:Program} {w:World} {held:Bool} {r:Reach} {b0:Nat} {t:TypeId} {v:Value} {d:DataW H} {ps:List MemPlace}
theorem top_int (ht:P.underlying t=some (.int .i64)) (hv:Value.okWide P w r b0 t v) (h:DataW.Trod enc P w 0 (fun _=>true) held t v d ps):∃ m:Int,DRep (limW w) w (.ex (.int .i64 m)) v∧-9223372036854775808≤m∧m≤9223372036854775807:=by
 obtain ⟨m,rfl⟩:=okWide_int ht hv
 obtain ⟨fuel,hf⟩:=h
 obtain ⟨m',h1,_,hw⟩:=DataW.trod_int ht hf
 have:m'=m:=by simpa [Value.cells] using h1.symm
 subst this
 refine ⟨m',.ex _,?_⟩
 simp only [Lit.wf,Bool.and_eq_true,decide_eq_true_eq] at hw
 exact hw
end top
theorem rows_of {α:Type} {row:α→List D} {p:α→Prop}:∀ {rows:List (List D)},(∀ r,r∈rows→∃ x,p x∧r=row x)→∃ l:List α,rows=l.map row∧∀ x,x∈l→p x
 | [],_=>⟨[],rfl,fun x h=>by cases h⟩
 | r :: rows,h=>by
  obtain ⟨x,hx,rfl⟩:=h r List.mem_cons_self
  obtain ⟨l,rfl,hl⟩:=rows_of (rows:=rows) (row:=row) (p:=p) fun r' hr=>h r' (List.mem_cons_of_mem _ hr)
  exact ⟨x :: l,rfl,fun y hy=>by rcases List.mem_cons.1 hy with rfl | hy; exact hx; exact hl y hy⟩
theorem DFits.sl_inv {row:List Sh} {d:D} (h:DFits (.sl row) d):∃ rows,d=.sl row.length rows∧rows.length≤maxLen∧∀ r,r∈rows→r.length=row.length∧∀ (i:Nat) sh d,row[i]?=some sh→r[i]?=some d→DFits sh d:=by
 cases h with
 | sl _ rows hn h1 h=>exact ⟨rows,rfl,hn,fun r hr=>⟨h1 r hr,h r hr⟩⟩
theorem DFits.i_inv {d:D} (h:DFits (.i .i64) d):∃ n:Int,d=.ex (.int .i64 n)∧-9223372036854775808≤n∧n≤9223372036854775807:=by
 cases h with
 | i _ n hw=>simp only [Lit.wf,Bool.and_eq_true,decide_eq_true_eq] at hw; exact ⟨n,rfl,hw⟩
theorem DFits.b_inv {d:D} (h:DFits .b d):∃ x:Bool,d=.ex (.bool x):=by cases h with | b x=>exact ⟨x,rfl⟩
section
variable {H:Type} {enc:TypeId×Value→H} {P:Program}
theorem post_of_below {f:Func} {s:ChangeSpec} {apart fresh handsOn again:Bool} {W W':World} {args:Array Value} {v:Value} {ds gs:List (DataW H)} {before pa pv:List MemPlace}
  (hW:DataW.Whole enc P f.params.toList s.vars apart W args.toList ds gs before)
  (hres:∀ (b:Nat) (sp:Nat→Bool) (hd:Bool),DataW.TrodAll enc P W' b sp hd f.resultTypes.toList (v.resultList f.resultTypes.size) (s.fn H (ds++gs)).results [])
  (hargs:∀ sp:Nat→Bool,(∀ p∈before,sp p.block=true)→DataW.TrodAll enc P W' 0 sp true f.params.toList args.toList (s.fn H (ds++gs)).args pa)
  (hvars:∀ sp:Nat→Bool,(∀ p∈before,sp p.block=true)→DataW.TrodVars enc P W' sp s.vars (s.fn H (ds++gs)).vars pv)
  (hps:before=pa++pv) (hb:Below W.heap.size W W')
  (hok:∀ (j:Nat) (t:TypeId) (r:Value),f.resultTypes[j]?=some t→(v.resultList f.resultTypes.size)[j]?=some r→Value.okWide P W' .any 0 t r) :
  s.post enc P f apart fresh handsOn again W args v W':=by
 have hlt:∀ p∈before,p.block < W.heap.size:=fun p hp=>hW.lt p hp
 have hold:∀ p∈before,(fun b=>decide (b < W.heap.size)) p.block=true:=fun p hp=>by simpa using hlt p hp
 refine ⟨ds,gs,before,[],pa,pv,hW,hres _ _ _,hargs _ hold,hvars _ hold,World.keptBut_mono (fun p hp=>⟨hp,?_⟩) (hb.frame (·∈before)),fun _=>?_⟩
 ·rw [hps,List.mem_append] at hp
  exact Or.inr hp
 ·obtain ⟨_,_,_,_,_,hz,hn⟩:=hW
  refine ⟨hok,_,_,([]++pa)++pv,⟨[]++pa,pv,trodAll_append (hargs _ (fun _ _=>rfl)) (hres _ _ _),hvars _ (fun _ _=>rfl),rfl,?_,?_⟩,?_⟩
  ·intro b off hp
   have hin:MemPlace.cell b off∈before:=by rw [hps]; simpa using hp
   rw [hb.frozen (hlt _ hin)]
   exact hz b off hin
  ·intro ha
   have:=hn ha
   rw [hps] at this
   simpa using this
  ·intro p hp _
   rw [hps]
   simpa using hp
end
theorem trodAll_stays {H:Type} {enc:TypeId×Value→H} {P:Program} (hl:laidOutB P=true) {W W':World} (hb:Below W.heap.size W W') (sp:Nat→Bool):∀ {ts:List TypeId} {vs:List Value} {ds:List (DataW H)} {ps:List MemPlace},
  (ts.all fun t=>P.readableRec t && decide (t < P.types.size))=true→DataW.TrodAll enc P W 0 (fun _=>true) true ts vs ds ps→(∀ x∈ps,x.block < W.heap.size)→(∀ x∈ps,sp x.block=true)→DataW.TrodAll enc P W' 0 sp true ts vs ds ps
 | [],[],[],_,_,h,_,_=>h
 | t :: ts,v :: vs,d :: ds,ps,hr,h,hlt,hsp=>by
  obtain ⟨p,q,h1,h2,rfl⟩:=h
  simp only [List.all_cons,Bool.and_eq_true,decide_eq_true_eq] at hr
  refine ⟨p,q,?_,?_,rfl⟩
  ·exact WideElems.Trod_stays hl hr.1.1 hr.1.2 h1 (fun x hx=>hb.same (hlt x (List.mem_append_left _ hx))) (fun x hx=>hsp x (List.mem_append_left _ hx))
  ·exact trodAll_stays hl hb sp (by simpa using hr.2) h2 (fun x hx=>hlt x (List.mem_append_right _ hx)) (fun x hx=>hsp x (List.mem_append_right _ hx))
theorem DFits.s_inv' {d:D} (h:DFits .s d):∃ l:List UInt8,d=.ex (.string ⟨l.toArray⟩)∧l.length≤maxLen:=by cases h with | s l h=>exact ⟨l,rfl,h⟩
theorem rows_of' {α:Type} {row:α→List D} {p:α→Prop} {rows:List (List D)} (h:∀ r,r∈rows→∃ x,r=row x∧p x):∃ l:List α,rows=l.map row∧∀ x,x∈l→p x :=
 rows_of fun r hr=>let ⟨x,h1,h2⟩:=h r hr; ⟨x,h2,h1⟩
theorem DFits.sl_of {sh:List Sh} {d:D} {α:Type} {row:α→List D} {p:α→Prop} (h:DFits (.sl sh) d)
  (hr:∀ r:List D,r.length=sh.length→(∀ (i:Nat) h d,sh[i]?=some h→r[i]?=some d→DFits h d)→∃ x,r=row x∧p x) :
  ∃ l:List α,d=.sl sh.length (l.map row)∧l.length≤maxLen∧∀ z,z∈l→p z:=by
 obtain ⟨rows,rfl,hn,h2⟩:=h.sl_inv
 obtain ⟨l,rfl,hl⟩:=rows_of' (row:=row) (p:=p) fun r hrm=>hr r (h2 r hrm).1 (h2 r hrm).2
 exact ⟨l,rfl,by simpa using hn,hl⟩
section top
variable {H:Type} {enc:TypeId×Value→H} {P:Program} {w:World} {held:Bool} {r:Reach} {b0:Nat} {t:TypeId} {v:Value} {d:DataW H} {ps:List MemPlace}
theorem top_agg {n:Nat} {shs:List Sh} {fs:Array Field} (hs:shape P n t=some shs) (ht:P.underlying t=some (.struct fs)) (hv:Value.okWide P w r b0 t v) (h:DataW.Trod enc P w 0 (fun _=>true) held t v d ps) :
  ∃ x:List D,x.length=shs.length∧(∀ (i:Nat) sh d,shs[i]?=some sh→x[i]?=some d→DFits sh d)∧DRep (limW w) w (.agg x) v:=by
 obtain ⟨cs,rfl,_⟩:=okWide_struct ht hv
 obtain ⟨fuel,hf⟩:=h
 obtain ⟨ds,h1,h2,h3⟩:=opens_shape (limW_lt w) n t _ hs fuel _ _ hf
 have h2':cs.size=shs.length:=by simpa [Value.cells] using h2
 refine ⟨ds,h1,fun i sh d hi hd=>?_,.agg ds cs (by omega) (fun i u hu=>?_) fun i c u hc hu=>?_⟩
 ·have hil:i < cs.size:=by have:=(List.getElem?_eq_some_iff.1 hi).1; omega
  exact (h3 i sh d cs[i] hi hd (by simp [Value.cells,hil])).1
 ·have hil:i < shs.length:=by have:=(Array.getElem?_eq_some_iff.1 hu).1; omega
  exact (h3 i shs[i] (ds[i]'(by omega)) u (List.getElem?_eq_getElem hil) (List.getElem?_eq_getElem (by omega)) (by simpa [Value.cells] using hu)).2.2
 ·have hil:i < shs.length:=by have:=(Array.getElem?_eq_some_iff.1 hu).1; omega
  exact (h3 i shs[i] c u (List.getElem?_eq_getElem hil) hc (by simpa [Value.cells] using hu)).2.1
end top
end Go.Abs
