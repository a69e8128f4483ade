/- Our own texts QH QI C1 C2 C3 of this seat in one. -/
import Derived.Test.YtnjdcednocmcnaaDoorYE3
import Derived.Deep.Slices
import Derived.ChangeArms
import Derived.ProofKit
import Derived.Below
import Derived.ChangeSame
set_option linter.unusedSimpArgs false
set_option linter.unusedVariables false
set_option linter.unusedSectionVars false
namespace Go.Proofs.YtnjdcednocmcnaaDoor
open Go.RowKit Go.Abs
theorem p_Upto (evs:List Event) (t:Int) (b:Bk) (hl:evs.length≤10000) (h:upB t evs b0=some b):f_r17_Upto evs t=some b:=by
 unfold f_r17_Upto
 rw [←h]
 refine loop_rec0 (step:=fun s:Int×List Account×List Sub×List Int=>f_r17_Upto_l1 evs t s.1 s.2.1 s.2.2.1 s.2.2.2) evs (fun s=>s.1) (fun s r=>upB t r ⟨s.2.1,s.2.2.1,s.2.2.2⟩) (fun s r=>0≤s.1∧upB t r ⟨s.2.1,s.2.2.1,s.2.2.2⟩=some b) (by omega) ?_ ?_ (s:=(0,[],[],[])) rfl ⟨by simp,h⟩
 ·rintro ⟨i,a,s,en⟩ ⟨h1,_⟩ h2
  simp only at h1 h2
  refine ⟨_,?_,rfl⟩
  unfold f_r17_Upto_l1
  rw [if_neg (by simp only [decide_eq_true_eq]; omega)]
 ·rintro ⟨i,a,s,en⟩ e r ⟨h1,h2⟩ h3 h4 h5 h6
  simp only at h1 h2 h3 h4 h5 h6
  unfold f_r17_Upto_l1
  simp only
  rw [if_pos (by simpa using h4),ck_pos ⟨h3,h4⟩,h5]
  rw [upB] at h2 ⊢
  by_cases ha:e.at_≤t
  ·rw [if_pos ha] at h2 ⊢
   rw [if_pos (by simpa using ha),ck_pos ⟨h3,h4⟩]
   cases hb:f_r17_Apply ⟨a,s,en⟩ e with
   | none=>rw [hb] at h2; cases h2
   | some b' =>
    rw [hb] at h2
    rw [Option.bind_some,ck_pos ⟨by omega,by omega⟩]
    exact .inr ⟨(i+1,b'.accounts,b'.subs,b'.ended),rfl,⟨by simp only; omega,h2⟩,rfl,rfl⟩
  ·rw [if_neg ha] at h2 ⊢
   rw [if_neg (by simpa using ha),ck_pos ⟨by omega,by omega⟩]
   exact .inr ⟨(i+1,a,s,en),rfl,⟨by simp only; omega,h2⟩,rfl,rfl⟩
theorem nodup_len:∀ (l m:List Int),l.Nodup→(∀ k,k∈l→k∈m)→l.length≤m.length
 | [],m,_,_=>by simp
 | a :: l,m,hn,h=>by
  rw [List.nodup_cons] at hn
  have ha:=h a (List.mem_cons_self ..)
  have:=nodup_len l (m.erase a) hn.2 (fun k hk=>(List.mem_erase_of_ne (fun q=>hn.1 (by rw [←q]; exact hk))).2 (h k (List.mem_cons_of_mem _ hk)))
  rw [List.length_erase_of_mem ha] at this
  have:=List.length_pos_of_mem ha
  rw [List.length_cons]; omega
section state
variable {n:Nat} {w:W7} {b:Bk}
theorem INV.look_id (h:INV n w b) {k:Int} {s:Sub} (hs:alook w.2.2.2.1 k=some s):s∈b.subs∧s.id=k∧k ∉ b.ended:=by
 by_cases hk:k∈idsB b
 ·obtain ⟨z,h1,h2⟩:=List.mem_map.1 hk
  have:=h.look z h1
  rw [h2,hs] at this
  split at this
  ·cases this
  ·cases this
   exact ⟨h1,h2,by assumption⟩
 ·rw [h.keys k hk] at hs; cases hs
theorem INV.look_some (h:INV n w b) {k:Int} (hk:k∈idsB b) (he:k ∉ b.ended):∃ s,alook w.2.2.2.1 k=some s∧s∈b.subs∧s.id=k:=by
 obtain ⟨z,h1,h2⟩:=List.mem_map.1 hk
 have:=h.look z h1
 rw [h2,if_neg he] at this
 exact ⟨z,this,h1,h2⟩
theorem INV.look_none (h:INV n w b) {k:Int} (he:k∈b.ended):alook w.2.2.2.1 k=none:=by
 cases hs:alook w.2.2.2.1 k with
 | none=>rfl
 | some s=>exact absurd he (h.look_id hs).2.2
theorem INV.live_ids (h:INV n w b):∀ (l:List Int),(∀ k,k∈l→k∈idsB b)→(l.filterMap (alook w.2.2.2.1)).map (·.id)=l.filter fun k=>decide (k ∉ b.ended)
 | [],_=>rfl
 | k :: l,hl=>by
  have ih:=INV.live_ids h l fun z hz=>hl z (List.mem_cons_of_mem _ hz)
  by_cases he:k∈b.ended
  ·rw [List.filterMap_cons,h.look_none he,List.filter_cons,if_neg (by simpa using he)]; exact ih
  ·obtain ⟨s,h1,_,h3⟩:=h.look_some (hl k (List.mem_cons_self ..)) he
   rw [List.filterMap_cons,h1,List.filter_cons,if_pos (by simpa using he),List.map_cons,ih,h3]
theorem INV.liveIds (h:INV n w b):(liveL w).map (·.id)=w.2.1.filter fun k=>decide (k ∉ b.ended):=h.live_ids _ fun k hk=>(h.mem k).1 hk
theorem INV.addN (h:INV n w b):w.2.1.Nodup:=h.asc.imp fun h=>by omega
theorem INV.liveN (h:INV n w b):((liveL w).map (·.id)).Nodup:=by rw [h.liveIds]; exact List.Pairwise.filter _ h.addN
theorem INV.live_mem (h:INV n w b) {s:Sub} (hs:s∈liveL w):s∈b.subs∧s.id ∉ b.ended:=by
 obtain ⟨k,_,hk⟩:=List.mem_filterMap.1 hs
 obtain ⟨h1,h2,h3⟩:=h.look_id hk
 exact ⟨h1,by rw [h2]; exact h3⟩
theorem INV.count (h:INV n w b):(liveL w).length+b.ended.length≤b.subs.length:=by
 have:=nodup_len ((liveL w).map (·.id)++b.ended) (idsB b) (by
  rw [List.nodup_append]
  refine ⟨h.liveN,h.endN,fun a ha c hc=>?_⟩
  rw [h.liveIds,List.mem_filter] at ha
  intro q
  have:=ha.2
  simp at this
  exact this (q▸hc)) (fun k hk=>by
  rcases List.mem_append.1 hk with hk | hk
  ·rw [h.liveIds,List.mem_filter] at hk; exact (h.mem k).1 hk.1
  ·exact h.endS k hk)
 simpa [idsB] using this
theorem filter_lt:∀ (l:List Int) (k:Int),l.Pairwise (· < ·)→l.filter (fun z=>decide (z < k+1))=l.filter (fun z=>decide (z < k))++if k∈l then [k] else []
 | [],k,_=>rfl
 | a :: l,k,h=>by
  rw [List.pairwise_cons] at h
  have ih:=filter_lt l k h.2
  by_cases h1:a < k
  ·rw [List.filter_cons,if_pos (by simp; omega),List.filter_cons,if_pos (by simp; omega),ih,List.cons_append]
   have:(k∈a :: l)=(k∈l):=by simp; intro q; omega
   simp only [this]
  ·have hz:∀ z,z∈l→¬z < k:=fun z hz=>by have:=h.1 z hz; omega
   have e1:l.filter (fun z=>decide (z < k))=[]:=List.filter_eq_nil_iff.2 fun z hz'=>by simpa using hz z hz'
   by_cases h2:a=k
   ·have e2:l.filter (fun z=>decide (z < k+1))=[]:=List.filter_eq_nil_iff.2 fun z hz'=>by have:=h.1 z hz'; simp; omega
    rw [List.filter_cons,if_pos (by simp; omega),List.filter_cons,if_neg (by simp; omega),e1,e2,h2,if_pos (List.mem_cons_self ..)]; rfl
   ·have hk:k ∉ l:=fun q=>hz k q (by have:=h.1 k q; omega)
    rw [List.filter_cons,if_neg (by simp; omega),List.filter_cons,if_neg (by simp; omega),ih]
    have:k ∉ a :: l:=by simp; exact ⟨fun q=>h2 q.symm,hk⟩
    rw [if_neg hk,if_neg this]
theorem p_accs (b:Bk) (L:List Sub) (h1:b.accounts.length≤100000) (h2:L.length≤100000):∃ a,f_r17_State_j1 b L=some ⟨a,L⟩:=by
 unfold f_r17_State_j1
 have:=loop_post (step:=fun s:Int×List Account=>f_r17_State_l1 b L s.1 s.2) (fun c=>c.subs=L) (fun s=>1≤s.1∧s.1≤10000∧s.2.length≤100000) (fun s=>(10000-s.1).toNat) ?_ (s:=(1,[])) ⟨by omega,by omega,by simp⟩ (by omega)
 ·obtain ⟨c,hc,e⟩:=this
  exact ⟨c.accounts,by rw [hc,←e]⟩
 rintro ⟨k,a⟩ ⟨k1,k2,k3⟩
 simp only at k1 k2 k3
 unfold f_r17_State_l1
 by_cases c:k≤9999∧(a.length:Int) < (b.accounts.length:Int)
 ·rw [if_pos (by simpa using c),p_account b k (by omega),Option.bind_some]
  split
  ·rw [ck_pos ⟨by omega,by omega⟩]
   exact .inr ⟨(k+1,a),rfl,⟨by simp only; omega,by simp only; omega,k3⟩,by simp only; omega⟩
  ·rename_i hn
   have sp:0≤idxF (fun a:Account=>a.id==k) b.accounts 0∧idxF (fun a:Account=>a.id==k) b.accounts 0 < (b.accounts.length:Int):=by
    simp at hn
    rcases idxF_spec (fun a:Account=>a.id==k) b.accounts 0 (by omega) with ⟨q,_⟩ | ⟨q1,q2,_⟩
    ·omega
    ·omega
   rw [ck_pos sp]
   generalize idxF (fun a:Account=>a.id==k) b.accounts 0=y
   have:=loop_post (step:=fun s:Int×List Int=>f_r17_State_l2 b L k a y s.1 s.2) (fun r=>∃ x,r=.inl (k+1,a++[x])) (fun s=>0≤s.1∧s.1≤(L.length:Int)∧(s.2.length:Int)≤s.1) (fun s=>((L.length:Int) - s.1).toNat) ?_ (s:=(0,[])) ⟨by simp,by simp,by simp⟩ (by simp; omega)
   ·obtain ⟨r,hr,x,rfl⟩:=this
    exact .inr ⟨(k+1,a++[x]),hr,⟨by simp only; omega,by simp only; omega,by simp only [List.length_append,List.length_singleton]; omega⟩,by simp only; omega⟩
   rintro ⟨i,o⟩ ⟨i1,i2,i3⟩
   simp only at i1 i2 i3
   unfold f_r17_State_l2
   by_cases hi:i < (L.length:Int)
   ·rw [if_pos (by simpa using hi),ck_pos ⟨i1,hi⟩]
    split
    ·rw [ck_pos ⟨i1,hi⟩,ck_pos (by simp only [List.length_singleton]; omega),ck_pos ⟨by omega,by omega⟩]
     exact .inr ⟨(i+1,o++[(nth L i.toNat).id]),rfl,⟨by simp only; omega,by simp only; omega,by simp only [List.length_append,List.length_singleton]; omega⟩,by simp only; omega⟩
    ·rw [ck_pos ⟨by omega,by omega⟩]
     exact .inr ⟨(i+1,o),rfl,⟨by simp only; omega,by simp only; omega,by simp only; omega⟩,by simp only; omega⟩
   ·rw [if_neg (by simpa using hi)]
    unfold f_r17_State_j2
    rw [ck_pos (by simp only [List.length_singleton]; omega),ck_pos ⟨by omega,by omega⟩]
    exact .inl ⟨_,rfl,_,rfl⟩
 ·rw [if_neg (by simpa using c)]
  exact .inl ⟨_,rfl,rfl⟩
theorem p_rState (evs:List Event) (t:Int) (hl:evs.length≤10000) (hu:upB t evs b0=some b) (h:INV n w b) (hn:n≤10000):∃ a,f_r17_State evs t=some ⟨a,liveL w⟩:=by
 unfold f_r17_State
 rw [p_Upto evs t b hl hu,Option.bind_some]
 have hs:=h.bb.subs
 have ha:=h.bb.accs
 have he:=h.bb.ended
 have hc:=h.count
 let A:Int→List Sub:=fun k=>(w.2.1.filter fun z=>decide (z < k)).filterMap (alook w.2.2.2.1)
 have sub:∀ k,(A k).Sublist (liveL w):=fun k=>List.Sublist.filterMap _ (List.filter_sublist ..)
 have lenA:∀ k,(A k).length≤(liveL w).length:=fun k=>(sub k).length_le
 have:=loop_post (step:=fun s:Int×List Sub=>f_r17_State_l3 b s.1 s.2) (fun c=>c.subs=liveL w) (fun s=>1≤s.1∧s.1≤10000∧s.2=A s.1) (fun s=>(10000-s.1).toNat) ?_ (s:=(1,[])) ⟨by omega,by omega,?_⟩ (by omega)
 ·obtain ⟨c,hc,e⟩:=this
  exact ⟨c.accounts,by rw [hc,←e]⟩
 ·rintro ⟨k,l⟩ ⟨k1,k2,k3⟩
  simp only at k1 k2 k3
  subst k3
  have hlA:=lenA k
  unfold f_r17_State_l3
  rw [ck_pos (fun _=>⟨by omega,by omega⟩)]
  by_cases c:k≤9999∧((A k).length:Int) < (b.subs.length:Int) - (b.ended.length:Int)
  ·rw [if_pos (by simpa using c),p_bsub b k (by omega),Option.bind_some,p_ended b k (by omega),gcall_mk,Option.bind_some]
   have hA:A (k+1)=A k++(if k∈w.2.1 then [k] else []).filterMap (alook w.2.2.2.1):=by
    show (w.2.1.filter fun z=>decide (z < k+1)).filterMap _=_
    rw [filter_lt _ _ h.asc,List.filterMap_append]
   rcases sIdx_spec b k with ⟨q1,q2⟩ | ⟨q1,q2,q3⟩
   ·rw [q1]
    simp only [show decide ((-1:Int)≥0)=false from rfl,Bool.false_and,Bool.false_eq_true,if_false]
    rw [ck_pos ⟨by omega,by omega⟩]
    refine .inr ⟨(k+1,A k),rfl,⟨by simp only; omega,by simp only; omega,?_⟩,by simp only; omega⟩
    simp only
    rw [hA,if_neg (fun m=>q2 ((h.mem k).1 m))]; simp
   ·have d1:decide (sIdx b k≥0)=true:=by simpa using q1
    have hm:nth b.subs (sIdx b k).toNat∈b.subs:=nth_mem (by omega)
    have hk:k∈idsB b:=by rw [←q3]; exact List.mem_map_of_mem hm
    rw [if_pos ((h.mem k).2 hk)] at hA
    simp only [d1,if_true,Bool.true_and]
    by_cases hen:k∈b.ended
    ·simp only [hen,decide_true,Bool.not_true,Bool.false_eq_true,if_false]
     rw [ck_pos ⟨by omega,by omega⟩]
     refine .inr ⟨(k+1,A k),rfl,⟨by simp only; omega,by simp only; omega,?_⟩,by simp only; omega⟩
     simp only
     rw [hA,List.filterMap_cons,h.look_none hen]; simp
    ·simp only [hen,decide_false,Bool.not_false,if_true]
     rw [ck_pos ⟨q1,q2⟩,ck_pos (by simp only [List.length_singleton]; omega),ck_pos ⟨by omega,by omega⟩]
     refine .inr ⟨(k+1,A k++[nth b.subs (sIdx b k).toNat]),rfl,⟨by simp only; omega,by simp only; omega,?_⟩,by simp only; omega⟩
     simp only
     have hl:=h.look _ hm
     rw [q3,if_neg hen] at hl
     rw [hA,List.filterMap_cons,hl]; simp
  ·rw [if_neg (by simpa using c)]
   obtain ⟨a,ha⟩:=p_accs b (A k) (by omega) (by omega)
   rw [ha]
   refine .inl ⟨_,rfl,?_⟩
   simp only
   by_cases hk:k≤9999
   ·exact (sub k).eq_of_length_le (by omega)
   ·show (w.2.1.filter fun z=>decide (z < k)).filterMap _=_
    rw [List.filter_eq_self.2 fun z hz=>by have:=h.rng z ((h.mem z).1 hz); simp; omega]
    rfl
 ·show []=(w.2.1.filter fun z=>decide (z < 1)).filterMap _
  rw [List.filter_eq_nil_iff.2 fun z hz=>by have:=h.rng z ((h.mem z).1 hz); simp; omega]
  rfl
end state
def ownR (x:List UInt8) (L:List Sub):Option Sub:=L.find? fun s=>decide (x∈s.numbers)
theorem foldl_aset (id:Int) (x:List UInt8):∀ (ns:List (List UInt8)) (o:List ((List UInt8)×Int)),alook (ns.foldl (fun o n=>aset o n id) o) x=if x∈ns then some id else alook o x
 | [],o=>by simp
 | a :: ns,o=>by
  rw [List.foldl_cons,foldl_aset id x ns,alook_aset]
  by_cases h:x∈ns
  ·rw [if_pos h,if_pos (List.mem_cons_of_mem _ h)]
  ·rw [if_neg h]
   by_cases h2:x=a
   ·rw [if_pos (by simpa using h2),if_pos (by rw [h2]; exact List.mem_cons_self ..)]
   ·rw [if_neg (by simpa using h2),if_neg (by simp [h,h2])]
theorem owF_look (x:List UInt8):∀ (L:List Sub) (o:List ((List UInt8)×Int)),(∀ s s',s∈L→s'∈L→x∈s.numbers→x∈s'.numbers→s.id=s'.id)→alook (owF L o) x=match ownR x L with | some s=>some s.id | none=>alook o x
 | [],o,_=>rfl
 | s :: l,o,h=>by
  have ih:=owF_look x l (s.numbers.foldl (fun o n=>aset o n s.id) o) fun a b ha hb=>h a b (List.mem_cons_of_mem _ ha) (List.mem_cons_of_mem _ hb)
  unfold owF
  rw [ih]
  unfold ownR
  rw [List.find?_cons]
  by_cases hx:x∈s.numbers
  ·rw [show decide (x∈s.numbers)=true from by simpa using hx]
   simp only
   cases hf:l.find? fun s=>decide (x∈s.numbers) with
   | none=>simp only [foldl_aset,hx,if_true]
   | some s' =>
    have h1:=List.mem_of_find?_eq_some hf
    have h2:=List.find?_some hf
    simp only
    rw [h s s' (List.mem_cons_self ..) (List.mem_cons_of_mem _ h1) hx (by simpa using h2)]
  ·rw [show decide (x∈s.numbers)=false from by simpa using hx]
   simp only
   cases hf:l.find? fun s=>decide (x∈s.numbers) with
   | none=>simp only [foldl_aset,hx,if_false]
   | some s'=>rfl
theorem fstS_mem:∀ (L:List Sub),(L.map (·.id)).Nodup→∀ s,s∈L→fstS s.id L=(s,true)
 | [],_,s,h=>by simp at h
 | a :: l,hn,s,h=>by
  rw [List.map_cons,List.nodup_cons] at hn
  unfold fstS
  rcases List.mem_cons.1 h with rfl | h
  ·rw [if_pos rfl]
  ·rw [if_neg (fun q=>hn.1 (by rw [q]; exact List.mem_map_of_mem h))]
   exact fstS_mem l hn.2 s h
section state
variable {n:Nat} {w:W7} {b:Bk}
theorem INV.own (h:INV n w b) (x:List UInt8):ownF (liveL w) x=match ownR x (liveL w) with | some s=>(s,true) | none=>(noSub,false):=by
 unfold ownF
 rw [owF_look x _ _ fun s s' hs hs'=>h.num s s' x (h.live_mem hs).1 (h.live_mem hs').1]
 cases hf:ownR x (liveL w) with
 | none=>simp [alook]
 | some s =>
  simp only
  exact fstS_mem _ h.liveN s (List.mem_of_find?_eq_some hf)
theorem p_rOwner (evs:List Event) (x:List UInt8) (t:Int) (hl:evs.length≤10000) (hu:upB t evs b0=some b) (h:INV n w b) (hn:n≤10000):f_r18_Owner evs x t=some (match ownR x (liveL w) with | some s=>(s.id,true) | none=>(0,false)):=by
 unfold f_r18_Owner
 obtain ⟨a,ha⟩:=p_rState evs t hl hu h hn
 rw [ha,Option.bind_some]
 have hlen:=live_len h.wb
 have hnum:=live_nums h.wb
 refine loop_rec0 (step:=fun s:Int=>f_r18_Owner_l1 x ⟨a,liveL w⟩ s) (liveL w) (fun s=>s) (fun s r=>some (match ownR x r with | some s=>(s.id,true) | none=>(0,false))) (fun s r=>0≤s∧∀ z,z∈r→z.numbers.length≤10000) (by omega) ?_ ?_ (s:=0) rfl ⟨by omega,fun z hz=>by have:=hnum z hz; omega⟩
 ·rintro i ⟨h1,_⟩ h2
  refine ⟨_,?_,rfl⟩
  unfold f_r18_Owner_l1
  rw [if_neg (by simp only [decide_eq_true_eq]; omega)]
  rfl
 ·rintro i s r ⟨h1,h2⟩ h3 h4 h5 h6
  have hs:=h2 s (List.mem_cons_self ..)
  unfold f_r18_Owner_l1
  rw [if_pos (by simpa using h4),ck_pos ⟨h3,h4⟩,h5,p_Has _ _ (by omega),Option.bind_some]
  by_cases hx:x∈s.numbers
  ·rw [if_pos (by simpa using hx),ck_pos ⟨h3,h4⟩]
   refine .inl ⟨_,rfl,?_⟩
   unfold ownR
   rw [List.find?_cons,show decide (x∈s.numbers)=true from by simpa using hx]
  ·rw [if_neg (by simpa using hx),ck_pos ⟨by omega,by omega⟩]
   refine .inr ⟨i+1,rfl,⟨by omega,fun z hz=>h2 z (List.mem_cons_of_mem _ hz)⟩,rfl,?_⟩
   unfold ownR
   rw [List.find?_cons,show decide (x∈s.numbers)=false from by simpa using hx]
theorem p_rSub (evs:List Event) (s:Sub) (t:Int) (hl:evs.length≤10000) (hu:upB t evs b0=some b) (h:INV n w b) (hn:n≤10000) (hs:s∈liveL w):f_r17_Sub evs s.id t=some (s,true):=by
 unfold f_r17_Sub
 have h1:=h.bb.subs
 have h2:=h.bb.ended
 obtain ⟨m,e⟩:=h.live_mem hs
 rw [p_Upto evs t b hl hu,Option.bind_some,p_bsub b _ (by omega),Option.bind_some,p_ended b _ (by omega),gcall_mk,Option.bind_some]
 rcases sIdx_spec b s.id with ⟨_,q⟩ | ⟨q1,q2,q3⟩
 ·exact absurd (List.mem_map_of_mem m) q
 ·rw [show decide (sIdx b s.id < 0)=false from by simp; omega,show decide (s.id∈b.ended)=false from by simpa using e]
  simp only [Bool.not_false,if_true,Bool.or_self,Bool.false_eq_true,if_false]
  rw [ck_pos ⟨q1,q2⟩,h.find (nth_mem (by omega)) m q3]
theorem INV.own_ne (h:INV n w b):ownR [] (liveL w)=none:=by
 cases hf:ownR [] (liveL w) with
 | none=>rfl
 | some s =>
  have h1:=List.mem_of_find?_eq_some hf
  have h2:=List.find?_some hf
  exact absurd (by simpa using h2) (h.ne s (h.live_mem h1).1)
theorem p_rUse1 (evs:List Event) (r:Record) (id:Int) (x:List UInt8) (hl:evs.length≤10000) (hu:upB r.start evs b0=some b) (h:INV n w b) (hn:n≤10000) (hx:x=numF r) (e0:errF r=0) (p0:r.part=0):f_r21_Usage_j1 evs r id x=some (useF (liveL w) r id):=by
 subst hx
 unfold f_r21_Usage_j1 useF
 rw [p_rOwner evs _ _ hl hu h hn,Option.bind_some,h.own,if_neg (show ¬(errF r≠0) from fun k=>k e0),if_neg (show ¬(r.part≠0) from fun k=>k p0)]
 cases hf:ownR (numF r) (liveL w) with
 | none=>simp [noUse]
 | some s =>
  have hm:=List.mem_of_find?_eq_some hf
  simp only [Bool.not_true,Bool.false_or]
  by_cases hz:numF r=[]
  ·rw [hz,h.own_ne] at hf; cases hf
  ·rw [if_neg (by simpa using hz),p_rSub evs s _ hl hu h hn hm,Option.bind_some]
   simp only [Bool.true_eq_false,if_false]
   by_cases hc:s.suspended=true∧r.inbound=false
   ·rw [if_pos (by simp [hc]),if_pos hc]; rfl
   ·rw [if_neg (by simpa using hc),if_neg hc]
theorem p_rUsage (evs:List Event) (r:Record) (id:Int) (hl:evs.length≤10000) (hu:upB r.start evs b0=some b) (h:INV n w b) (hn:n≤10000) (hs:Sm r):f_r21_Usage evs r id=some (useF (liveL w) r id):=by
 unfold f_r21_Usage
 rw [p_rCheck r hs,Option.bind_some]
 by_cases h1:errF r=0
 ·rw [if_neg (by simpa using h1)]
  by_cases h2:r.part=0
  ·rw [if_neg (by simpa using h2)]
   split
   ·rename_i hi
    exact p_rUse1 evs r id _ hl hu h hn (by unfold numF; rw [if_pos hi]) h1 h2
   ·rename_i hi
    exact p_rUse1 evs r id _ hl hu h hn (by unfold numF; rw [if_neg hi]) h1 h2
  ·rw [if_pos (by simpa using h2)]
   unfold useF
   rw [if_neg (show ¬(errF r≠0) from fun k=>k h1),if_pos h2]; rfl
 ·rw [if_pos (by simpa using h1)]
  unfold useF
  rw [if_pos h1]; rfl
end state
theorem few_run (evs:List Event) (t:Int) (hl:evs.length≤40) (hv:VC b0 0 evs):∃ w b,stW t evs w0=some w∧upB t evs b0=some b∧INV evs.length w b:=by
 obtain ⟨w,b,h1,h2,h3⟩:=run_rel t evs 0 w0 b0 0 inv0 (by omega) hv
 rw [Nat.zero_add] at h3
 exact ⟨w,b,h1,h2,h3⟩
theorem usages_true (evs:List Event) (r:Record) (id:Int):f_w21_EnrichUsages evs r id=some true:=by
 unfold f_w21_EnrichUsages
 obtain ⟨c,h1,h2⟩:=p_Few evs
 obtain ⟨d,h3,h4⟩:=p_short r
 rw [h1,h3,awake21]
 simp only [Option.bind_some,gcall_mk]
 cases c with
 | false=>rfl
 | true =>
  cases d with
  | false=>rfl
  | true =>
   obtain ⟨hl,_,hv⟩:=h2 rfl
   have hs:=h4 rfl
   simp only [Bool.not_true,Bool.not_false,if_true,Bool.or_self,Bool.false_eq_true,if_false]
   obtain ⟨w,b,q1,q2,q3⟩:=few_run evs r.start hl hv
   obtain ⟨w',b1,b2⟩:=p_Usage2 evs r id (by omega) hs
   rw [q1] at b1; cases b1
   rw [b2,Option.bind_some,p_rUsage evs r id (by omega) q2 q3 (by omega) hs,Option.bind_some,use_refl]
   simp
end Go.Proofs.YtnjdcednocmcnaaDoor
namespace Go.Abs
open Go.RowKit Go.ChangeShapes Go.WideShapes Go.Deep
inductive Sh where
 | i (k:IntKind)
 | b
 | s
 | sl (row:List Sh)
inductive DFits:Sh→D→Prop where
 | i (k:IntKind) (n:Int) (h:(Lit.int k n).wf=true):DFits (.i k) (.ex (.int k n))
 | b (x:Bool):DFits .b (.ex (.bool x))
 | s (l:List UInt8) (h:l.length≤maxLen):DFits .s (.ex (.string ⟨l.toArray⟩))
 | sl (row:List Sh) (rows:List (List D)) (hn:rows.length≤maxLen) (h1:∀ r,r∈rows→r.length=row.length)
   (h:∀ r,r∈rows→∀ (i:Nat) sh d,row[i]?=some sh→r[i]?=some d→DFits sh d):DFits (.sl row) (.sl row.length rows)
def shapeFs (P:Program) (rec:TypeId→Option (List Sh)):List Field→Nat→Option (List Sh)
 | [],_=>some []
 | f :: fs,off=>match rec f.type with
  | some r=>if Nat.beq f.offset off && Nat.beq r.length (P.cellsOf f.type) then (shapeFs P rec fs (off+r.length)).map (r++·) else none
  | none=>none
def shape (P:Program):Nat→TypeId→Option (List Sh)
 | 0,_=>none
 | n+1,t=>match P.underlying t with
  | some (.int k)=>some [.i k]
  | some .bool=>some [.b]
  | some .string=>some [.s]
  | some (.slice e)=>match shape P n e with
   | some r=>if Nat.beq r.length (P.cellsOf e) && Nat.blt 0 r.length then some [.sl r] else none
   | none=>none
  | some (.struct fs)=>match shapeFs P (shape P n) fs.toList 0 with
   | some r=>if Nat.beq r.length (P.cellsOf t) then some r else none
   | none=>none
  | _=>none
def Opens (lim:Nat→Nat) (w:World) (shs:List Sh) (cs:List Value):Prop :=
 ∃ ds:List D,ds.length=shs.length∧cs.length=shs.length∧∀ (i:Nat) sh d c,shs[i]?=some sh→ds[i]?=some d→cs[i]?=some c→DFits sh d∧DRep lim w d c∧c.oneCell'=true
theorem Opens.one {lim:Nat→Nat} {w:World} {sh:Sh} {d:D} {c:Value} (h1:DFits sh d) (h2:DRep lim w d c) (h3:c.oneCell'=true):Opens lim w [sh] [c]:=by
 refine ⟨[d],rfl,rfl,fun i sh' d' c' ha hb hc=>?_⟩
 cases i with
 | zero=>simp at ha hb hc; subst ha; subst hb; subst hc; exact ⟨h1,h2,h3⟩
 | succ i=>simp at ha
theorem Opens.nil {lim:Nat→Nat} {w:World}:Opens lim w [] []:=⟨[],rfl,rfl,fun i _ _ _ h=>by simp at h⟩
theorem Opens.append {lim:Nat→Nat} {w:World} {s1 s2:List Sh} {c1 c2:List Value} (h:Opens lim w s1 c1) (k:Opens lim w s2 c2):Opens lim w (s1++s2) (c1++c2):=by
 obtain ⟨d1,a1,b1,e1⟩:=h
 obtain ⟨d2,a2,b2,e2⟩:=k
 refine ⟨d1++d2,by simp [a1,a2],by simp [b1,b2],fun i sh d c ha hb hc=>?_⟩
 by_cases hi:i < s1.length
 ·rw [List.getElem?_append_left hi] at ha
  rw [List.getElem?_append_left (by omega)] at hb hc
  exact e1 i sh d c ha hb hc
 ·rw [List.getElem?_append_right (by omega)] at ha hb hc
  rw [a1] at hb
  rw [b1] at hc
  exact e2 _ sh d c ha hb hc
section opening
variable {H:Type} {enc:TypeId×Value→H} {P:Program} {w:World} {held:Bool} {lim:Nat→Nat}
theorem opens_fields {rec:TypeId→Option (List Sh)} (cs:List Value):∀ (fs:List Field) (off:Nat) (shs:List Sh),shapeFs P rec fs off=some shs→cs.length=off+shs.length →
  (∀ (i:Nat) f,fs[i]?=some f→∀ r,rec f.type=some r→r.length=P.cellsOf f.type→Opens lim w r ((cs.drop f.offset).take (P.cellsOf f.type)))→Opens lim w shs (cs.drop off)
 | [],off,shs,h,hl,_=>by
  simp [shapeFs] at h; subst h
  rw [List.drop_of_length_le (by simp at hl; omega)]
  exact .nil
 | f :: fs,off,shs,h,hl,hf=>by
  unfold shapeFs at h
  split at h
  ·rename_i r hr
   split at h
   ·rename_i hc
    rw [Bool.and_eq_true] at hc
    replace hc:=And.intro (Nat.eq_of_beq_eq_true hc.1) (Nat.eq_of_beq_eq_true hc.2)
    obtain ⟨rest,hrest,rfl⟩:=Option.map_eq_some_iff.1 h
    simp only [List.length_append] at hl
    have h1:=hf 0 f rfl r hr hc.2
    have h2:=opens_fields cs fs (off+r.length) rest hrest (by omega) fun i g hg=>hf (i+1) g (by simpa using hg)
    have e:cs.drop off=(cs.drop f.offset).take (P.cellsOf f.type)++cs.drop (off+r.length):=by
     rw [hc.1,←hc.2,←List.drop_drop,List.take_append_drop]
    rw [e]
    exact h1.append h2
   ·cases h
  ·cases h
theorem opens_shape (hlim:∀ b off u,w.cell? ⟨b,off,none⟩=some u→off < lim b):∀ (n:Nat) (t:TypeId) (shs:List Sh),shape P n t=some shs→∀ fuel cs x,DataW.trod enc P w 0 (fun _=>true) held fuel t cs=some x→Opens lim w shs cs
 | 0,_,_,h=>by simp [shape] at h
 | n+1,t,shs,h=>by
  intro fuel cs x ht
  unfold shape at h
  split at h
  ·rename_i k hu
   cases h
   obtain ⟨m,rfl,_,hw⟩:=DataW.trod_int hu ht
   exact .one (.i k m hw) (.ex _) rfl
  ·rename_i hu
   cases h
   obtain ⟨b,rfl,_⟩:=DataW.trod_bool hu ht
   exact .one (.b b) (.ex _) rfl
  ·rename_i hu
   cases h
   obtain ⟨⟨a⟩,rfl,_,hs⟩:=DataW.trod_string hu ht
   exact .one (.s a.toList (by simpa [ByteArray.size] using hs)) (.ex _) rfl
  ·rename_i e hu
   split at h
   ·rename_i r hr
    split at h
    ·rename_i hc
     cases h
     rw [Bool.and_eq_true] at hc
     obtain ⟨hc1,hc2⟩:=And.intro (Nat.eq_of_beq_eq_true hc.1) (blt_lt hc.2)
     rcases open_slice hu ht with ⟨rfl,_⟩ | ⟨a,len,cap,m,n',D0,Pl,rfl,hb,hl,hm,hmm,hx,hi⟩
     ·exact .one (.sl r [] (Nat.zero_le _) (fun _ h=>by cases h) (fun _ h=>by cases h)) (.nil _ _) rfl
     ·simp only [if_true] at hmm
      subst hmm
      obtain ⟨F,hF⟩:=choose_lt (n:=m) (p:=fun i (ds:List D)=>ds.length=r.length∧∀ (j:Nat) sh d,r[j]?=some sh→ds[j]?=some d→∃ c,w.cell? (a.add (i*r.length+j))=some c∧DFits sh d∧DRep lim w d c∧c.oneCell'=true) (fun i hi'=>by
       obtain ⟨cs',h1,h2⟩:=hi i hi'
       obtain ⟨ds,k1,k2,k3⟩:=opens_shape hlim n e r hr n' cs' _ h2
       obtain ⟨_,h3,h4⟩:=World.cells?_some h1
       refine ⟨ds,k1,fun j sh d hj hd=>?_⟩
       have hjl:j < r.length:=(List.getElem?_eq_some_iff.1 hj).1
       have hc':cs'[j]?=some (cs'[j]'(by omega)):=List.getElem?_eq_getElem (by omega)
       refine ⟨cs'[j]'(by omega),?_,k3 j sh d _ hj hd hc'⟩
       rw [←hc',←h4 j (by omega),←hc1,Go.Deep.add_add])
      have hfit:DFits (.sl r) (.sl r.length ((List.range len).map F)):=by
       refine .sl r _ (by simp; omega) (fun row hrow=>?_) fun row hrow i sh d hs hd=>?_
       ·obtain ⟨i,hi2,rfl⟩:=List.mem_map.1 hrow
        exact (hF i (by have:=List.mem_range.1 hi2; omega)).1
       ·obtain ⟨i',hi2,rfl⟩:=List.mem_map.1 hrow
        obtain ⟨c,_,hh,_⟩:=(hF i' (by have:=List.mem_range.1 hi2; omega)).2 i sh d hs hd
        exact hh
      refine .one hfit ?_ rfl
      rcases Nat.eq_zero_or_pos m with h0 | h0
      ·subst h0
       have:len=0:=by omega
       subst this
       exact .nil _ _
      ·have hspot:a.spot=none:=by
        obtain ⟨cs',h1,h2⟩:=hi 0 h0
        obtain ⟨_,h3,h4⟩:=World.cells?_some h1
        have h5:=h4 0 (by omega)
        have h6:cs'[0]?=some (cs'[0]'(by omega)):=List.getElem?_eq_getElem (by omega)
        rw [h6] at h5
        unfold World.cell? at h5
        split at h5
        ·split at h5
         ·cases h5
         ·rename_i hsp
          simpa [Addr.add] using hsp
        ·cases h5
       obtain ⟨b,off,sp⟩:=a
       simp only at hspot
       subst hspot
       have hcell:∀ i j,i < m→j < r.length→∀ sh d,r[j]?=some sh→(F i)[j]?=some d→∃ c,w.cell? ⟨b,off+(i*r.length+j),none⟩=some c∧DFits sh d∧DRep lim w d c∧c.oneCell'=true:=fun i j hi' hj sh d hs hd=>by
        obtain ⟨c,h1,h2⟩:=(hF i hi').2 j sh d hs hd
        rw [Addr.add_lit] at h1
        exact ⟨c,h1,h2⟩
       have hlen:((List.range len).map F).length=len:=by simp
       have key:=DRep.sl (lim:=lim) (w:=w) r.length ((List.range len).map F) b off m (by rw [hlen]; exact hl) (fun row hrow=>by
        obtain ⟨i,hi2,rfl⟩:=List.mem_map.1 hrow
        exact (hF i (by have:=List.mem_range.1 hi2; omega)).1) (fun k hk=>by
        rw [hlen] at hk
        have hdiv:k / r.length < len:=Nat.div_lt_of_lt_mul (by rw [Nat.mul_comm]; exact hk)
        have hmod:k % r.length < r.length:=Nat.mod_lt _ hc2
        obtain ⟨c,h1,h2,h3,h4⟩:=hcell (k / r.length) (k % r.length) (by omega) hmod _ _ (List.getElem?_eq_getElem hmod) (List.getElem?_eq_getElem (by rw [(hF _ (by omega)).1]; exact hmod))
        have e:k / r.length*r.length+k % r.length=k:=by rw [Nat.mul_comm]; exact Nat.div_add_mod k r.length
        rw [e] at h1
        exact ⟨hlim _ _ _ h1,c,h1,h4⟩) (fun i j row c u h1 h2 h3=>by
        rw [List.getElem?_map] at h1
        obtain ⟨i',hi2,rfl⟩:=Option.map_eq_some_iff.1 h1
        have hil:i < len:=by have:=(List.getElem?_eq_some_iff.1 hi2).1; simpa using this
        have:i'=i:=by rw [List.getElem?_range hil] at hi2; cases hi2; rfl
        subst this
        have hjl:j < r.length:=by have:=(List.getElem?_eq_some_iff.1 h2).1; rw [(hF _ (by omega)).1] at this; exact this
        obtain ⟨c',k1,k2,k3,k4⟩:=hcell i' j (by omega) hjl _ _ (List.getElem?_eq_getElem hjl) h2
        rw [h3] at k1
        cases k1
        exact k3)
       rw [hlen] at key
       exact key
    ·cases h
   ·cases h
  ·rename_i fs hu
   split at h
   ·rename_i r hr
    split at h
    ·rename_i hc
     cases h
     have hc':=Nat.eq_of_beq_eq_true hc
     obtain ⟨ys,n',_,hy,hlen,hyl,hf⟩:=DataW.trod_struct hu ht
     have:=opens_fields (lim:=lim) (w:=w) (P:=P) cs fs.toList 0 _ hr (by omega) fun i f hi r' hr' hl'=>by
      have h1:=hf i f (by simpa using hi)
      have hys:ys[i]?=some (ys[i]'(by have:=(List.getElem?_eq_some_iff.1 hi).1; simp at this; omega)):=List.getElem?_eq_getElem _
      exact opens_shape hlim n f.type r' hr' n' _ _ (h1.trans hys)
     simpa using this
    ·cases h
   ·cases h
  ·cases h
end opening
end Go.Abs
namespace Go.Abs
open Go.RowKit Go.ChangeShapes Go.WideShapes Go.Deep Go.ChangeAt
def limW (w:World) (b:Nat):Nat:=match w.heap[b]? with
 | some (.cells c _ _)=>c.size
 | _=>0
theorem limW_lt (w:World) (b off:Nat) (u:Value) (h:w.cell? ⟨b,off,none⟩=some u):off < limW w b:=by
 unfold World.cell? at h
 unfold limW
 split at h
 ·rename_i c e k hb
  simp only at hb
  rw [hb]
  simp only [Option.isSome_none,Bool.false_eq_true,if_false] at h
  exact (Array.getElem?_eq_some_iff.1 h).1
 ·cases h
theorem Opens.top {lim:Nat→Nat} {w:World} {sh:Sh} {c:Value} (h:Opens lim w [sh] [c]):∃ d,DFits sh d∧DRep lim w d c:=by
 obtain ⟨ds,h1,_,h3⟩:=h
 match ds,h1 with
 | [d],_=>exact ⟨d,(h3 0 sh d c rfl rfl rfl).1,(h3 0 sh d c rfl rfl rfl).2.1⟩
section top
variable {H:Type} {enc:TypeId×Value→H} {P:Program} {w:World} {held:Bool} {r:Reach} {b0:Nat} {t:TypeId} {v:Value} {d:DataW H} {ps:List MemPlace}
theorem top_slice {n:Nat} {e:TypeId} {row:List Sh} (hs:shape P n t=some [.sl row]) (ht:P.underlying t=some (.slice e)) (hv:Value.okWide P w r b0 t v) (h:DataW.Trod enc P w 0 (fun _=>true) held t v d ps):∃ x,DFits (.sl row) x∧DRep (limW w) w x v:=by
 obtain ⟨a,l,c,rfl⟩:=okWide_slice ht hv
 obtain ⟨fuel,hf⟩:=h
 exact (opens_shape (limW_lt w) n t _ hs fuel _ _ hf).top
theorem top_int (ht:P.underlying t=some (.int .i64)) (hv:Value.okWide P w r b0 t v) (h:DataW.Trod enc P w 0 (fun _=>true) held t v d ps):∃ m:Int,DRep (limW w) w (.ex (.int .i64 m)) v∧-9223372036854775808≤m∧m≤9223372036854775807:=by
 obtain ⟨m,rfl⟩:=okWide_int ht hv
 obtain ⟨fuel,hf⟩:=h
 obtain ⟨m',h1,_,hw⟩:=DataW.trod_int ht hf
 have:m'=m:=by simpa [Value.cells] using h1.symm
 subst this
 refine ⟨m',.ex _,?_⟩
 simp only [Lit.wf,Bool.and_eq_true,decide_eq_true_eq] at hw
 exact hw
end top
theorem rows_of {α:Type} {row:α→List D} {p:α→Prop}:∀ {rows:List (List D)},(∀ r,r∈rows→∃ x,p x∧r=row x)→∃ l:List α,rows=l.map row∧∀ x,x∈l→p x
 | [],_=>⟨[],rfl,fun x h=>by cases h⟩
 | r :: rows,h=>by
  obtain ⟨x,hx,rfl⟩:=h r List.mem_cons_self
  obtain ⟨l,rfl,hl⟩:=rows_of (rows:=rows) (row:=row) (p:=p) fun r' hr=>h r' (List.mem_cons_of_mem _ hr)
  exact ⟨x :: l,rfl,fun y hy=>by rcases List.mem_cons.1 hy with rfl | hy; exact hx; exact hl y hy⟩
theorem DFits.sl_inv {row:List Sh} {d:D} (h:DFits (.sl row) d):∃ rows,d=.sl row.length rows∧rows.length≤maxLen∧∀ r,r∈rows→r.length=row.length∧∀ (i:Nat) sh d,row[i]?=some sh→r[i]?=some d→DFits sh d:=by
 cases h with
 | sl _ rows hn h1 h=>exact ⟨rows,rfl,hn,fun r hr=>⟨h1 r hr,h r hr⟩⟩
theorem DFits.i_inv {d:D} (h:DFits (.i .i64) d):∃ n:Int,d=.ex (.int .i64 n)∧-9223372036854775808≤n∧n≤9223372036854775807:=by
 cases h with
 | i _ n hw=>simp only [Lit.wf,Bool.and_eq_true,decide_eq_true_eq] at hw; exact ⟨n,rfl,hw⟩
theorem DFits.b_inv {d:D} (h:DFits .b d):∃ x:Bool,d=.ex (.bool x):=by cases h with | b x=>exact ⟨x,rfl⟩
section
variable {H:Type} {enc:TypeId×Value→H} {P:Program}
theorem post_of_below {f:Func} {s:ChangeSpec} {apart fresh handsOn again:Bool} {W W':World} {args:Array Value} {v:Value} {ds gs:List (DataW H)} {before pa pv:List MemPlace}
  (hW:DataW.Whole enc P f.params.toList s.vars apart W args.toList ds gs before)
  (hres:∀ (b:Nat) (sp:Nat→Bool) (hd:Bool),DataW.TrodAll enc P W' b sp hd f.resultTypes.toList (v.resultList f.resultTypes.size) (s.fn H (ds++gs)).results [])
  (hargs:∀ sp:Nat→Bool,(∀ p∈before,sp p.block=true)→DataW.TrodAll enc P W' 0 sp true f.params.toList args.toList (s.fn H (ds++gs)).args pa)
  (hvars:∀ sp:Nat→Bool,(∀ p∈before,sp p.block=true)→DataW.TrodVars enc P W' sp s.vars (s.fn H (ds++gs)).vars pv)
  (hps:before=pa++pv) (hb:Below W.heap.size W W')
  (hok:∀ (j:Nat) (t:TypeId) (r:Value),f.resultTypes[j]?=some t→(v.resultList f.resultTypes.size)[j]?=some r→Value.okWide P W' .any 0 t r) :
  s.post enc P f apart fresh handsOn again W args v W':=by
 have hlt:∀ p∈before,p.block < W.heap.size:=fun p hp=>hW.lt p hp
 have hold:∀ p∈before,(fun b=>decide (b < W.heap.size)) p.block=true:=fun p hp=>by simpa using hlt p hp
 refine ⟨ds,gs,before,[],pa,pv,hW,hres _ _ _,hargs _ hold,hvars _ hold,World.keptBut_mono (fun p hp=>⟨hp,?_⟩) (hb.frame (·∈before)),fun _=>?_⟩
 ·rw [hps,List.mem_append] at hp
  exact Or.inr hp
 ·obtain ⟨_,_,_,_,_,hz,hn⟩:=hW
  refine ⟨hok,_,_,([]++pa)++pv,⟨[]++pa,pv,trodAll_append (hargs _ (fun _ _=>rfl)) (hres _ _ _),hvars _ (fun _ _=>rfl),rfl,?_,?_⟩,?_⟩
  ·intro b off hp
   have hin:MemPlace.cell b off∈before:=by rw [hps]; simpa using hp
   rw [hb.frozen (hlt _ hin)]
   exact hz b off hin
  ·intro ha
   have:=hn ha
   rw [hps] at this
   simpa using this
  ·intro p hp _
   rw [hps]
   simpa using hp
end
theorem trodAll_stays {H:Type} {enc:TypeId×Value→H} {P:Program} (hl:laidOutB P=true) {W W':World} (hb:Below W.heap.size W W') (sp:Nat→Bool):∀ {ts:List TypeId} {vs:List Value} {ds:List (DataW H)} {ps:List MemPlace},
  (ts.all fun t=>P.readableRec t && decide (t < P.types.size))=true→DataW.TrodAll enc P W 0 (fun _=>true) true ts vs ds ps→(∀ x∈ps,x.block < W.heap.size)→(∀ x∈ps,sp x.block=true)→DataW.TrodAll enc P W' 0 sp true ts vs ds ps
 | [],[],[],_,_,h,_,_=>h
 | t :: ts,v :: vs,d :: ds,ps,hr,h,hlt,hsp=>by
  obtain ⟨p,q,h1,h2,rfl⟩:=h
  simp only [List.all_cons,Bool.and_eq_true,decide_eq_true_eq] at hr
  refine ⟨p,q,?_,?_,rfl⟩
  ·exact WideElems.Trod_stays hl hr.1.1 hr.1.2 h1 (fun x hx=>hb.same (hlt x (List.mem_append_left _ hx))) (fun x hx=>hsp x (List.mem_append_left _ hx))
  ·exact trodAll_stays hl hb sp (by simpa using hr.2) h2 (fun x hx=>hlt x (List.mem_append_right _ hx)) (fun x hx=>hsp x (List.mem_append_right _ hx))
theorem DFits.s_inv' {d:D} (h:DFits .s d):∃ l:List UInt8,d=.ex (.string ⟨l.toArray⟩)∧l.length≤maxLen:=by cases h with | s l h=>exact ⟨l,rfl,h⟩
theorem rows_of' {α:Type} {row:α→List D} {p:α→Prop} {rows:List (List D)} (h:∀ r,r∈rows→∃ x,r=row x∧p x):∃ l:List α,rows=l.map row∧∀ x,x∈l→p x :=
 rows_of fun r hr=>let ⟨x,h1,h2⟩:=h r hr; ⟨x,h2,h1⟩
theorem DFits.sl_of {sh:List Sh} {d:D} {α:Type} {row:α→List D} {p:α→Prop} (h:DFits (.sl sh) d)
  (hr:∀ r:List D,r.length=sh.length→(∀ (i:Nat) h d,sh[i]?=some h→r[i]?=some d→DFits h d)→∃ x,r=row x∧p x) :
  ∃ l:List α,d=.sl sh.length (l.map row)∧l.length≤maxLen∧∀ z,z∈l→p z:=by
 obtain ⟨rows,rfl,hn,h2⟩:=h.sl_inv
 obtain ⟨l,rfl,hl⟩:=rows_of' (row:=row) (p:=p) fun r hrm=>hr r (h2 r hrm).1 (h2 r hrm).2
 exact ⟨l,rfl,by simpa using hn,hl⟩
section top
variable {H:Type} {enc:TypeId×Value→H} {P:Program} {w:World} {held:Bool} {r:Reach} {b0:Nat} {t:TypeId} {v:Value} {d:DataW H} {ps:List MemPlace}
theorem top_agg {n:Nat} {shs:List Sh} {fs:Array Field} (hs:shape P n t=some shs) (ht:P.underlying t=some (.struct fs)) (hv:Value.okWide P w r b0 t v) (h:DataW.Trod enc P w 0 (fun _=>true) held t v d ps) :
  ∃ x:List D,x.length=shs.length∧(∀ (i:Nat) sh d,shs[i]?=some sh→x[i]?=some d→DFits sh d)∧DRep (limW w) w (.agg x) v:=by
 obtain ⟨cs,rfl,_⟩:=okWide_struct ht hv
 obtain ⟨fuel,hf⟩:=h
 obtain ⟨ds,h1,h2,h3⟩:=opens_shape (limW_lt w) n t _ hs fuel _ _ hf
 have h2':cs.size=shs.length:=by simpa [Value.cells] using h2
 refine ⟨ds,h1,fun i sh d hi hd=>?_,.agg ds cs (by omega) (fun i u hu=>?_) fun i c u hc hu=>?_⟩
 ·have hil:i < cs.size:=by have:=(List.getElem?_eq_some_iff.1 hi).1; omega
  exact (h3 i sh d cs[i] hi hd (by simp [Value.cells,hil])).1
 ·have hil:i < shs.length:=by have:=(Array.getElem?_eq_some_iff.1 hu).1; omega
  exact (h3 i shs[i] (ds[i]'(by omega)) u (List.getElem?_eq_getElem hil) (List.getElem?_eq_getElem (by omega)) (by simpa [Value.cells] using hu)).2.2
 ·have hil:i < shs.length:=by have:=(Array.getElem?_eq_some_iff.1 hu).1; omega
  exact (h3 i shs[i] c u (List.getElem?_eq_getElem hil) hc (by simpa [Value.cells] using hu)).2.1
end top
end Go.Abs
