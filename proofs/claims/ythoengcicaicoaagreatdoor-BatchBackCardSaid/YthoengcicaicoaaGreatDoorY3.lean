/- Our own texts P9 Q1 Q2 Q3 Q4 Q5 Q7 Q8 Q9 N5 U5 N6 QA N7 N8 Z2 LTys E1 E2 Sh LX LW0 LW1 LW2 LW3 LW4 LW5 of this seat in one. -/
import Derived.Test.YthoengcicaicoaaGreatDoorY2
import Derived.Lib.Split
import Derived.Lib.Join
import Derived.Lib.ItoaNum
import Derived.Lib.ItoaLen
import Derived.Test.YthoengcicaicoaaGreatDoorRows
import Derived.Sort.Grow
import Derived.Deep.Draws
import Derived.Shelf.Strings.Builder1
import Derived.Shelf.Strings.Builder2
import Derived.Shelf.Strings.OnBuilder
import Derived.Shelf.Small.Wraps
import Derived.Shelf.Strconv.Itoa0
import Derived.Shelf.Strconv.Itoa1
import Derived.Shelf.LaysM
import Derived.Shelf.Strconv.Itoa2
import Derived.Shelf.Strconv.Itoa3
import Derived.Shelf.Strings.Search1
import Derived.Shelf.Strings.Search2
import Derived.Shelf.Strings.Search3
import Derived.Shelf.Strings.Count
import Derived.Shelf.Strings.Shaped
import Derived.Shelf.Strings.Prefix
import Derived.Shelf.Strings.Split
import Derived.Shelf.Unicode.DecodeSlow
import Derived.Test.YthoengcicaicoaaGreatDoorProg
import Derived.Lib.SplitLaws
set_option linter.unusedSimpArgs false
set_option linter.unusedVariables false
set_option linter.unusedSectionVars false
namespace Go.Proofs.YthoengcicaicoaaGreatDoor.C9
open Go.RowKit Go.Abs
def free (c:UInt8) (a:List UInt8):Prop:=∀ x,x∈a→x≠c
def cutL (c:UInt8):List UInt8→List (List UInt8)
 | []=>[[]]
 | x :: r=>if x=c then [] :: cutL c r else (x :: (cutL c r).headD []) :: (cutL c r).tail
theorem cutL_eta (c:UInt8) (s:List UInt8):cutL c s=(cutL c s).headD [] :: (cutL c s).tail:=by
 cases s with
 | nil=>rfl
 | cons x r=>unfold cutL; split <;> rfl
theorem cutL_ne (c:UInt8) (s:List UInt8):cutL c s≠[]:=by rw [cutL_eta]; simp
theorem cutL_hit {c:UInt8} {r:List UInt8}:cutL c (c :: r)=[] :: cutL c r:=by simp [cutL]
theorem cutL_step {c x:UInt8} {r:List UInt8} (h:x≠c):cutL c (x :: r)=(x :: (cutL c r).headD []) :: (cutL c r).tail:=by simp [cutL,h]
theorem cutL_free {c:UInt8}:∀ {a:List UInt8},free c a→∀ r,cutL c (a++r)=(a++(cutL c r).headD []) :: (cutL c r).tail
 | [],_,r=>cutL_eta c r
 | x :: a,h,r=>by
  rw [List.cons_append,cutL_step (h x (by simp)),cutL_free (fun y hy=>h y (by simp [hy])) r]
  rfl
theorem cutL_word {c:UInt8} {a:List UInt8} (h:free c a):cutL c a=[a]:=by
 have:=cutL_free h []
 simpa [cutL] using this
theorem cutL_more {c:UInt8} {a r:List UInt8} (h:free c a):cutL c (a++c :: r)=a :: cutL c r:=by
 rw [cutL_free h,cutL_hit]; simp
theorem cutL_len (c:UInt8):∀ s:List UInt8,(cutL c s).length≤s.length+1
 | []=>by simp [cutL]
 | x :: r=>by
  have:=cutL_len c r
  unfold cutL
  split
  ·simp; omega
  ·rw [cutL_eta c r] at this; simp at this ⊢; omega
theorem cutL_hd {c:UInt8} {r:List UInt8}:(cutL c r).headD []∈cutL c r:=by
 cases h:cutL c r with
 | nil=>exact absurd h (cutL_ne c r)
 | cons a b=>simp
theorem cutL_mem (c:UInt8):∀ (s w:List UInt8),w∈cutL c s→free c w∧w.length≤s.length
 | [],w,h=>by
  simp [cutL] at h
  subst h
  exact ⟨fun x hx=>(by simp at hx),Nat.le_refl _⟩
 | x :: r,w,h=>by
  by_cases hx:x=c
  ·subst hx
   rw [cutL_hit] at h
   rcases List.mem_cons.1 h with rfl | h
   ·exact ⟨fun y hy=>(by simp at hy),by simp⟩
   ·have:=cutL_mem x r w h
    exact ⟨this.1,by simp; omega⟩
  ·rw [cutL_step hx] at h
   rcases List.mem_cons.1 h with rfl | h
   ·have h0:=cutL_mem c r ((cutL c r).headD []) cutL_hd
    refine ⟨fun y hy=>?_,by simp only [List.length_cons]; omega⟩
    rcases List.mem_cons.1 hy with rfl | hy
    ·exact hx
    ·exact h0.1 y hy
   ·have h0:=cutL_mem c r w (by rw [cutL_eta c r]; simp [h])
    exact ⟨h0.1,by simp; omega⟩
theorem joinTail_cons (c:UInt8) (w:List UInt8) (ws:List (List UInt8)):Go.Lib.joinTail [c] (w :: ws)=c :: (w++Go.Lib.joinTail [c] ws):=by simp [Go.Lib.joinTail]
theorem cut_join {c:UInt8}:∀ (ws:List (List UInt8)),ws≠[]→(∀ w,w∈ws→free c w)→cutL c (Go.Lib.join ws [c])=ws
 | [],h,_=>absurd rfl h
 | [w],_,h=>by rw [Go.Lib.join_one]; exact cutL_word (h w (by simp))
 | w :: v :: ws,_,h=>by
  rw [Go.Lib.join_cons,joinTail_cons,←Go.Lib.join_cons,cutL_more (h w (by simp)),cut_join (v :: ws) (by simp) (fun u hu=>h u (by simp [hu]))]
theorem cutL_snoc {c:UInt8}:∀ t:List UInt8,cutL c (t++[c])=cutL c t++[[]]
 | []=>by simp [cutL]
 | x :: r=>by
  have ih:=cutL_snoc (c:=c) r
  by_cases hx:x=c
  ·subst hx
   rw [List.cons_append,cutL_hit,cutL_hit,ih]; rfl
  ·rw [List.cons_append,cutL_step hx,cutL_step hx,ih,cutL_eta c r]; rfl
theorem free_of_take {c:UInt8} {s:List UInt8} {i:Nat} (h:∀ j,j < i→s[j]?≠some c):free c (s.take i):=by
 intro x hx he
 subst he
 obtain ⟨j,hj,rfl⟩:=List.getElem_of_mem hx
 rw [List.length_take] at hj
 exact h j (by omega) (by rw [List.getElem_take,List.getElem?_eq_getElem (by omega)])
theorem occ_at {s:List UInt8} {c:UInt8} {j:Nat}:Go.Lib.occAt s [c] j=true↔s[j]?=some c:=by
 constructor
 ·exact Go.Lib.occAt_head rfl
 ·intro h
  obtain ⟨hj,he⟩:=List.getElem?_eq_some_iff.1 h
  unfold Go.Lib.occAt
  rw [List.drop_eq_getElem_cons hj,he]
  simp
theorem splitK_cut (c:UInt8):∀ (n:Nat) (s:List UInt8),s.length≤n→Go.Lib.splitK [c] 0 (Go.Lib.count s [c]) s=cutL c s:=by
 intro n
 induction n with
 | zero =>
  intro s hs
  have:s=[]:=by simpa using hs
  subst this
  rw [Go.Lib.count_miss (by rfl)]
  rfl
 | succ n ih =>
  intro s hs
  rcases Go.Lib.index_spec s [c] with ⟨h1,h2⟩ | ⟨i,h1,h2,h3,h4⟩
  ·rw [Go.Lib.count_miss h1]
   have hf:free c s:=by
    intro x hx he
    subst he
    obtain ⟨j,hj,he⟩:=List.getElem_of_mem hx
    have:=h2 j (by omega)
    rw [occ_at.2 (by rw [List.getElem?_eq_getElem hj,he])] at this
    cases this
   rw [cutL_word hf]
   rfl
  ·have hi:=occ_at.1 h3
   obtain ⟨hlt,he⟩:=List.getElem?_eq_some_iff.1 hi
   rw [Go.Lib.count_hit (by simp) h1,Nat.add_comm 1,Go.Lib.splitK,h1]
   have hm:¬ (((i:Int)==-1)=true):=by rw [beq_iff_eq]; omega
   rw [if_neg hm]
   simp only [Int.toNat_natCast,Nat.add_zero,List.length_singleton]
   rw [ih _ (by simp; omega)]
   have hs2:s=s.take i++c :: s.drop (i+1):=by
    have:=List.take_append_drop i s
    rw [List.drop_eq_getElem_cons hlt,he] at this
    exact this.symm
   have hf:free c (s.take i):=free_of_take (fun j hj h=>by
    have:=h4 j hj
    rw [occ_at.2 h] at this
    cases this)
   conv=>rhs; rw [hs2,cutL_more hf]
theorem split_cut (s:List UInt8) (c:UInt8):Go.Lib.split s [c]=cutL c s:=splitK_cut c _ s (Nat.le_refl _)
def isDg (c:UInt8):Bool:=decide (48≤c) && decide (c≤57)
def dgv (c:UInt8):Int:=(c.toNat:Int) - 48
theorem isDg_iff {c:UInt8}:isDg c=true↔48≤c.toNat∧c.toNat≤57:=by
 simp only [isDg,Bool.and_eq_true,decide_eq_true_eq]
 exact ⟨fun h=>⟨h.1,h.2⟩,fun h=>⟨h.1,h.2⟩⟩
def numF (n:Int):List UInt8→Int
 | []=>n
 | c :: r=>numF (n*10+dgv c) r
theorem numF_app:∀ (a b:List UInt8) (n:Int),numF n (a++b)=numF (numF n a) b
 | [],_,_=>rfl
 | c :: a,b,n=>numF_app a b _
def vOK (s:List UInt8):Bool:=s.all isDg && decide (1≤s.length) && decide (s.length≤15) && !(decide (s.headD 0=48) && decide (1 < s.length))
theorem dec_digs (u:Nat):(Go.Lib.decDigits u).all isDg=true:=by
 induction u using Nat.strongRecOn with
 | _ u ih =>
  rw [Go.Lib.decDigits]
  split
  ·have hb:(UInt8.ofNat (48+u)).toNat=48+u:=by simp; omega
   simp only [List.all_cons,List.all_nil,Bool.and_true]
   exact isDg_iff.2 (by omega)
  ·have hb:(UInt8.ofNat (48+u % 10)).toNat=48+u % 10:=by simp; omega
   rw [List.all_append,ih (u / 10) (by omega)]
   simp only [List.all_cons,List.all_nil,Bool.and_true,Bool.true_and]
   exact isDg_iff.2 (by omega)
theorem dec_val (u:Nat):numF 0 (Go.Lib.decDigits u)=u:=by
 induction u using Nat.strongRecOn with
 | _ u ih =>
  rw [Go.Lib.decDigits]
  split
  ·have hb:(UInt8.ofNat (48+u)).toNat=48+u:=by simp; omega
   simp only [numF,dgv,hb]; omega
  ·have hb:(UInt8.ofNat (48+u % 10)).toNat=48+u % 10:=by simp; omega
   rw [numF_app,ih (u / 10) (by omega)]
   simp only [numF,dgv,hb]; omega
theorem dec_head (u:Nat) (h:1≤u):(Go.Lib.decDigits u).headD 0≠48:=by
 induction u using Nat.strongRecOn with
 | _ u ih =>
  rw [Go.Lib.decDigits]
  split
  ·intro hh
   have hb:(UInt8.ofNat (48+u)).toNat=48+u:=by simp; omega
   simp only [List.headD_cons] at hh
   rw [hh] at hb
   have:(48:UInt8).toNat=48:=rfl
   omega
  ·have:=ih (u / 10) (by omega) (by omega)
   have hl:=Go.Lib.nDigits_pos (u / 10)
   have hl2:=Go.Lib.decDigits_length (u / 10)
   cases hd:Go.Lib.decDigits (u / 10) with
   | nil=>rw [hd] at hl2; simp at hl2; omega
   | cons a b=>rw [hd] at this; simpa using this
theorem dec_vOK (u:Nat) (h:u < 1000000000000000):vOK (Go.Lib.decDigits u)=true:=by
 have hp:=Go.Lib.nDigits_pos u
 have hl:=Go.Lib.decDigits_length u
 have h15:Go.Lib.nDigits u≤15:=by
  by_cases hz:Go.Lib.nDigits u≤15
  ·exact hz
  ·exfalso
   have h2:10 ^ 15≤10 ^ (Go.Lib.nDigits u-1):=Nat.pow_le_pow_right (by decide) (by omega)
   have key:∀ u,Go.Lib.nDigits u=1∨10 ^ (Go.Lib.nDigits u-1)≤u:=by
    intro u
    induction u using Nat.strongRecOn with
    | _ u ih =>
     by_cases hu:u < 10
     ·exact .inl (Go.Lib.nDigits_small hu)
     ·right
      rw [Go.Lib.nDigits_big hu,Nat.add_sub_cancel]
      rcases ih (u / 10) (by omega) with h | h
      ·rw [h]; omega
      ·have hp:=Go.Lib.nDigits_pos (u / 10)
       obtain ⟨k,hk⟩:∃ k,Go.Lib.nDigits (u / 10)=k+1:=⟨Go.Lib.nDigits (u / 10) - 1,by omega⟩
       rw [hk] at h ⊢
       rw [Nat.add_sub_cancel] at h
       rw [Nat.pow_succ]
       omega
   rcases key u with h | h
   ·omega
   ·have h3:(10:Nat) ^ 15=1000000000000000:=by decide
    omega
 simp only [vOK,Bool.and_eq_true,decide_eq_true_eq,dec_digs,true_and,hl,Bool.not_eq_true',Bool.and_eq_false_iff,decide_eq_false_iff_not]
 refine ⟨⟨hp,h15⟩,?_⟩
 by_cases hu:u < 10
 ·right; rw [Go.Lib.nDigits_small hu]; omega
 ·left; exact dec_head u (by omega)
theorem itoa_dec {n:Int} (h:0≤n):Go.Lib.itoa n=Go.Lib.decDigits n.toNat:=by unfold Go.Lib.itoa; rw [if_neg (by omega)]
theorem itoa_vOK {n:Int} (h:0≤n) (h1:n < 1000000000000000):vOK (Go.Lib.itoa n)=true:=by rw [itoa_dec h]; exact dec_vOK _ (by omega)
theorem itoa_val {n:Int} (h:0≤n):numF 0 (Go.Lib.itoa n)=n:=by rw [itoa_dec h,dec_val]; omega
theorem digs_free {s:List UInt8} (h:s.all isDg=true) {c:UInt8} (hc:isDg c=false):free c s:=by
 intro x hx he
 subst he
 have:=List.all_eq_true.1 h x hx
 rw [hc] at this
 cases this
theorem itoa_free {n:Int} (h:0≤n) {c:UInt8} (hc:isDg c=false):free c (Go.Lib.itoa n):=by rw [itoa_dec h]; exact digs_free (dec_digs _) hc
theorem Record.eq_refl (r:Record):eqVs r.vals r.vals=true:=by simp [Record.vals,eqVs,eqV]
theorem errF_last {r:Record} (h:errF r=0):(r.last=true→r.part≠0)∧(r.part=0↔r.call=0)∧(r.inbound=true→r.trunk≠0):=by
 unfold errF at h
 split at h; · cases h
 split at h; · cases h
 split at h; · cases h
 split at h; · cases h
 split at h; · cases h
 split at h; · cases h
 split at h; · cases h
 split at h; · cases h
 split at h; · cases h
 split at h; · cases h
 rename_i h8 h9 h10
 refine ⟨fun a b=>h8 (.inr ⟨a,b⟩),?_,fun a b=>h10 ⟨a,b⟩⟩
 by_cases hp:r.part=0↔r.call=0
 ·exact hp
 ·exact absurd (.inl hp) h8
theorem byte_digit {n:Int} (h:0≤n):UInt8.ofInt (48+Int.tmod n 10)=UInt8.ofNat (48+n.toNat % 10):=by
 have e:48+Int.tmod n 10=((48+n.toNat % 10:Nat):Int):=by
  rw [Int.tmod_eq_emod_of_nonneg h]; omega
 rw [e]
 generalize hk:48+n.toNat % 10=k
 have hk2:((k:Int) % 2 ^ 8).toNat=k:=by omega
 unfold UInt8.ofInt
 rw [hk2]
theorem p_Number {n:Int} (h:0≤n) (h1:n≤9223372036854775807):f_r09_Number n=some (Go.Lib.itoa n):=by
 unfold f_r09_Number
 have e0:Int.tdiv n 10=n / 10:=Int.tdiv_eq_ediv_of_nonneg h
 have em:Int.tmod n 10=n % 10:=Int.tmod_eq_emod_of_nonneg h
 rw [ck_pos (by omega),ck_pos (by omega),ck_pos (by omega)]
 have:=loop_spec (step:=fun s=>f_r09_Number_l1 s.1 s.2) (fun s:Int×List UInt8=>some (if s.1 > 0 then Go.Lib.decDigits s.1.toNat++s.2 else s.2)) (fun s=>0≤s.1∧s.1≤9223372036854775807∧s.2.length+s.1.toNat≤922337203685477581) (fun s=>s.1.toNat) (fun s hI=>by
  obtain ⟨m,t⟩:=s
  obtain ⟨i0,i1,i2⟩:=hI
  simp only at i0 i1 i2 ⊢
  unfold f_r09_Number_l1
  by_cases hm:m > 0
  ·rw [if_pos (by simpa using hm)]
   have d0:Int.tdiv m 10=m / 10:=Int.tdiv_eq_ediv_of_nonneg i0
   have dm:Int.tmod m 10=m % 10:=Int.tmod_eq_emod_of_nonneg i0
   rw [ck_pos (by omega),ck_pos (by omega),ck_pos (by simp; omega),ck_pos (by omega)]
   refine .inr ⟨_,rfl,⟨by simp only; omega,by simp only; omega,by simp; omega⟩,by simp only; omega,?_⟩
   simp only
   rw [byte_digit i0,d0,if_pos hm]
   congr 1
   by_cases h10:m.toNat < 10
   ·rw [if_neg (by omega)]
    conv=>rhs; rw [Go.Lib.decDigits,dif_pos h10]
    have:m.toNat % 10=m.toNat:=Nat.mod_eq_of_lt h10
    rw [this]
   ·rw [if_pos (by omega)]
    conv=>rhs; rw [Go.Lib.decDigits,dif_neg h10]
    have:(m / 10).toNat=m.toNat / 10:=by omega
    rw [this]
    simp
  ·rw [if_neg (by simpa using hm)]
   exact .inl ⟨_,rfl,by rw [if_neg hm]⟩) (s:=(Int.tdiv n 10,[UInt8.ofInt (48+Int.tmod n 10)])) ⟨by simp only; omega,by simp only; omega,by simp; omega⟩ (by simp only; omega)
 rw [this,itoa_dec h]
 simp only
 rw [byte_digit h,e0]
 congr 1
 by_cases h10:n.toNat < 10
 ·rw [if_neg (by omega)]
  conv=>rhs; rw [Go.Lib.decDigits,dif_pos h10]
  have:n.toNat % 10=n.toNat:=Nat.mod_eq_of_lt h10
  rw [this]
 ·rw [if_pos (by omega)]
  conv=>rhs; rw [Go.Lib.decDigits,dif_neg h10]
  have:(n / 10).toNat=n.toNat / 10:=by omega
  rw [this]
theorem join_app (sep:List UInt8):∀ (x:List UInt8) (r ys:List (List UInt8)),Go.Lib.join (x :: r++ys) sep=Go.Lib.join (x :: r) sep++Go.Lib.joinTail sep ys:=by
 intro x r ys
 rw [List.cons_append,Go.Lib.join_cons,Go.Lib.join_cons,Go.Lib.joinTail,Go.Lib.joinTail,Go.Lib.joinTail]
 simp
theorem itoa_l {n:Int} (h:0≤n) (h1:n≤9223372036854775807):(Go.Lib.itoa n).length≤21:=itoa_le h h1
theorem p_rEncode_ok (r:Record) (h:errF r=0):f_r09_Encode r=some (lineF r,0):=by
 have g:=errF_good h
 obtain ⟨hlast,hpc,hin⟩:=errF_last h
 have ha:=validB_len g.a
 have hb:r.b.length≤15:=by
  rcases g.b with h | h
  ·exact validB_len h
  ·rw [h.2]; simp
 obtain ⟨gs,ge,gk,_,_,gst,gu,gc,gp,gt⟩:=g
 have l1:=itoa_l (n:=r.source) (by omega) (by omega)
 have l2:=itoa_l (n:=r.serial) (by omega) (by omega)
 have l3:=itoa_l (n:=r.start) (by omega) (by omega)
 have l4:=itoa_l (n:=r.units) (by omega) (by omega)
 have l5:=itoa_l (n:=r.call) (by omega) (by omega)
 have l6:=itoa_l (n:=r.part) (by omega) (by omega)
 have l7:=itoa_l (n:=r.trunk) (by omega) (by omega)
 have n1:=p_Number (n:=r.source) (by omega) (by omega)
 have n2:=p_Number (n:=r.serial) (by omega) (by omega)
 have n3:=p_Number (n:=r.start) (by omega) (by omega)
 have n4:=p_Number (n:=r.units) (by omega) (by omega)
 have n5:=p_Number (n:=r.call) (by omega) (by omega)
 have n6:=p_Number (n:=r.part) (by omega) (by omega)
 have n7:=p_Number (n:=r.trunk) (by omega) (by omega)
 have hline:lineF r=Go.Lib.join (headF r) [32]++Go.Lib.joinTail [32] (partF r)++Go.Lib.joinTail [32] (trunkF r):=by
  unfold lineF wordsF
  obtain ⟨x,t,hx⟩:∃ x t,headF r=x :: t:=⟨_,_,rfl⟩
  rw [hx,List.append_assoc,join_app]
  simp [Go.Lib.joinTail]
 have hj4:∀ s:List UInt8,s.length≤1000→(r.trunk > 0∧r.inbound=true→s=lineF r)→(¬(r.trunk > 0∧r.inbound=true)→s=Go.Lib.join (headF r) [32]++Go.Lib.joinTail [32] (partF r))→f_r09_Encode_j4 r s=some (lineF r,0):=by
  intro s hs h1 h2
  unfold f_r09_Encode_j4
  by_cases ht:r.trunk > 0∧r.inbound=false
  ·rw [if_pos (by simp [ht]),ck_pos (by simp; omega),n7,Option.bind_some,ck_pos (by simp; omega)]
   rw [h2 (by simp [ht]),hline,trunkF,if_neg (by omega),if_neg (by simp [ht])]
   simp [Go.Lib.joinTail]
  ·rw [if_neg (by simpa using ht)]
   by_cases hi:r.trunk > 0∧r.inbound=true
   ·rw [h1 hi]
   ·have h0:r.trunk=0:=by
     by_cases h0:r.trunk > 0
     ·cases hh:r.inbound with
      | true=>exact absurd ⟨h0,hh⟩ hi
      | false=>exact absurd ⟨h0,hh⟩ ht
     ·omega
    rw [h2 hi,hline,trunkF,if_pos h0]
    simp [Go.Lib.joinTail]
 have hj3:∀ s:List UInt8,s.length≤900→s=Go.Lib.join (headF r) [32]++Go.Lib.joinTail [32] (partF r)→f_r09_Encode_j3 r s=some (lineF r,0):=by
  intro s hs h1
  unfold f_r09_Encode_j3
  by_cases hi:r.trunk > 0∧r.inbound=true
  ·rw [if_pos (by simp [hi]),ck_pos (by simp; omega),n7,Option.bind_some,ck_pos (by simp; omega)]
   refine hj4 _ (by simp; omega) (fun _=>?_) (fun hh=>absurd hi hh)
   rw [h1,hline,trunkF,if_neg (by omega),if_pos hi.2]
   simp [Go.Lib.joinTail]
  ·rw [if_neg (by simpa using hi)]
   exact hj4 _ (by omega) (fun hh=>absurd hh hi) (fun _=>h1)
 have hj2:∀ s:List UInt8,s.length≤800→s=Go.Lib.join (headF r) [32]++Go.Lib.joinTail [32] (if r.part=0 then [] else [[112,97,114,116],Go.Lib.itoa r.call,Go.Lib.itoa r.part])→f_r09_Encode_j2 r s=some (lineF r,0):=by
  intro s hs h1
  unfold f_r09_Encode_j2
  by_cases hl:r.last=true
  ·have hp:=hlast hl
   rw [if_pos hl,ck_pos (by simp; omega)]
   refine hj3 _ (by simp; omega) ?_
   rw [h1,partF,if_neg hp,if_neg hp,if_pos hl]
   simp [Go.Lib.joinTail]
  ·rw [if_neg hl]
   refine hj3 _ (by omega) ?_
   rw [h1,partF]
   by_cases hp:r.part=0
   ·rw [if_pos hp,if_pos hp]
   ·rw [if_neg hp,if_neg hp,if_neg hl]; simp
 have hj1:∀ b,b=(if r.b=[] then [45] else r.b)→f_r09_Encode_j1 r b=some (lineF r,0):=by
  intro b hbb
  have lb:b.length≤15:=by rw [hbb]; split; simp; exact hb
  unfold f_r09_Encode_j1
  have lk:((([118,116,100,99]:List UInt8).take r.kind.toNat).drop (r.kind-1).toNat).length≤4:=by simp; omega
  have hhead:Go.Lib.join (headF r) [32]=(([118,116,100,99]:List UInt8).take r.kind.toNat).drop (r.kind-1).toNat++[32]++Go.Lib.itoa r.source++[32]++Go.Lib.itoa r.serial++[32]++r.a++[32]++b++[32]++Go.Lib.itoa r.start++[32]++Go.Lib.itoa r.units:=by
   rw [hbb,headF,Go.Lib.join_cons]
   simp [Go.Lib.joinTail]
  generalize hK:(([118,116,100,99]:List UInt8).take r.kind.toNat).drop (r.kind-1).toNat=K at lk hhead ⊢
  rw [ck_pos (by omega),ck_pos (by simp; omega)]
  simp only [n1,n2,n3,n4,n5,n6,Option.bind_some]
  rw [ck_pos (by simp only [List.length_append,List.length_cons,List.length_nil]; omega)]
  rw [ck_pos (by simp only [List.length_append,List.length_cons,List.length_nil]; omega)]
  rw [ck_pos (by simp only [List.length_append,List.length_cons,List.length_nil]; omega)]
  rw [ck_pos (by simp only [List.length_append,List.length_cons,List.length_nil]; omega)]
  rw [ck_pos (by simp only [List.length_append,List.length_cons,List.length_nil]; omega)]
  rw [ck_pos (by simp only [List.length_append,List.length_cons,List.length_nil]; omega)]
  rw [ck_pos (by simp only [List.length_append,List.length_cons,List.length_nil]; omega)]
  rw [ck_pos (by simp only [List.length_append,List.length_cons,List.length_nil]; omega)]
  rw [ck_pos (by simp only [List.length_append,List.length_cons,List.length_nil]; omega)]
  rw [ck_pos (by simp only [List.length_append,List.length_cons,List.length_nil]; omega)]
  rw [ck_pos (by simp only [List.length_append,List.length_cons,List.length_nil]; omega)]
  rw [ck_pos (by simp only [List.length_append,List.length_cons,List.length_nil]; omega)]
  by_cases hp:r.part > 0
  ·rw [if_pos (by simpa using hp)]
   rw [ck_pos (by simp only [List.length_append,List.length_cons,List.length_nil]; omega)]
   rw [ck_pos (by simp only [List.length_append,List.length_cons,List.length_nil]; omega)]
   rw [ck_pos (by simp only [List.length_append,List.length_cons,List.length_nil]; omega)]
   rw [ck_pos (by simp only [List.length_append,List.length_cons,List.length_nil]; omega)]
   refine hj2 _ (by simp only [List.length_append,List.length_cons,List.length_nil]; omega) ?_
   rw [if_neg (by omega),hhead]
   simp [Go.Lib.joinTail]
  ·rw [if_neg (by simpa using hp)]
   refine hj2 _ (by simp only [List.length_append,List.length_cons,List.length_nil]; omega) ?_
   rw [if_pos (by omega),hhead]
   simp [Go.Lib.joinTail]
 unfold f_r09_Encode
 rw [p_rError r (by omega) (by omega),h]
 simp only [Option.bind_some]
 rw [if_neg (by simp)]
 split
 ·rename_i hb0
  exact hj1 _ (by rw [if_pos (by simpa using hb0)])
 ·rename_i hb0
  exact hj1 _ (by rw [if_neg (by simpa using hb0)])
theorem p_rEncode (r:Record) (ha:r.a.length < 1000000000) (hb:r.b.length < 1000000000):f_r09_Encode r=some (if errF r=0 then lineF r else [],errF r):=by
 by_cases h:errF r=0
 ·rw [p_rEncode_ok r h,if_pos h,h]
 ·unfold f_r09_Encode
  rw [p_rError r ha hb,if_neg h]
  simp only [Option.bind_some]
  rw [if_pos (by simpa using h)]
def numeralF (s:List UInt8):Int×Bool:=if vOK s=true then (numF 0 s,true) else (0,false)
theorem isDg_no {c:UInt8} (h:isDg c=false):c.toNat < 48∨57 < c.toNat:=by
 have:¬ (48≤c.toNat∧c.toNat≤57):=fun hh=>by rw [isDg_iff.2 hh] at h; cases h
 omega
theorem pow15 {k:Nat} (h:k≤15):(10:Int) ^ k≤1000000000000000:=by
 have h2:(10:Int) ^ k≤10 ^ 15:=by exact_mod_cast Nat.pow_le_pow_right (by decide) h
 have h3:(10:Int) ^ 15=1000000000000000:=by decide
 omega
theorem vOK_eq {s:List UInt8}:vOK s=(s.all isDg && !((decide ((s.length:Int) < 1) || decide ((s.length:Int) > 15)) || (decide (s.headD 0=48) && decide ((s.length:Int) > 1)))):=by
 unfold vOK
 rw [Bool.eq_iff_iff]
 simp only [Bool.and_eq_true,decide_eq_true_eq,Bool.not_eq_true',Bool.or_eq_false_iff,Bool.and_eq_false_iff,decide_eq_false_iff_not]
 constructor
 ·rintro ⟨⟨⟨h1,h2⟩,h3⟩,h4⟩
  exact ⟨h1,⟨by omega,by omega⟩,by rcases h4 with h4 | h4; exact .inl h4; exact .inr (by omega)⟩
 ·rintro ⟨h1,⟨h2,h3⟩,h4⟩
  exact ⟨⟨⟨h1,by omega⟩,by omega⟩,by rcases h4 with h4 | h4; exact .inl h4; exact .inr (by omega)⟩
theorem nth_zero_headD {s:List UInt8}:nth s 0=s.headD 0:=by
 cases s with
 | nil=>rfl
 | cons a t=>rfl
theorem wrap_small {k:IntKind} {n:Int} (h0:0≤n) (h1:n≤100) (hk:k=.i32∨k=.i64):IntKind.wrap k n=n:=by
 rcases hk with rfl | rfl <;> (unfold IntKind.wrap; simp [IntKind.signed,IntKind.bits]; omega)
theorem p_numeral (s:List UInt8):f_textual_numeral s=some (numeralF s):=by
 unfold f_textual_numeral
 simp only [show Int.toNat 0=0 from rfl]
 have hlen0:s=[]↔(s.length:Int) < 1:=by
  cases s with
  | nil=>simp
  | cons a t=>simp; omega
 rw [ck_pos (fun h=>by
  simp only [Bool.not_eq_true',Bool.or_eq_false_iff,decide_eq_false_iff_not] at h
  refine ⟨by omega,?_⟩
  have:¬ s=[]:=by simpa using h.1
  rw [hlen0] at this
  omega)]
 rw [nth_zero_headD]
 unfold numeralF
 rw [vOK_eq]
 have hcc:(s==([]:List UInt8) || decide ((s.length:Int) > 15) || (s.headD 0==48 && s != ([48]:List UInt8)))=(decide ((s.length:Int) < 1) || decide ((s.length:Int) > 15) || (decide (s.headD 0=48) && decide ((s.length:Int) > 1))):=by
  cases s with
  | nil=>rfl
  | cons a t =>
   cases t with
   | nil =>
    by_cases ha:a=48
    ·subst ha; rfl
    ·have:(a==48)=false:=by simpa using ha
     simp [this,ha]
   | cons b t =>
    have e1:((a :: b :: t:List UInt8)==[])=false:=rfl
    have e2:((a :: b :: t:List UInt8) != [48])=true:=by simp
    have e3:decide (((a :: b :: t:List UInt8).length:Int) < 1)=false:=by simp only [List.length_cons,decide_eq_false_iff_not]; omega
    have e4:decide (((a :: b :: t:List UInt8).length:Int) > 1)=true:=by simp only [List.length_cons,decide_eq_true_eq]; omega
    rw [e1,e2,e3,e4]
    simp only [List.headD_cons,Bool.and_true]
    by_cases ha:a=48 <;> simp [ha]
 rw [hcc]
 by_cases hc:(decide ((s.length:Int) < 1) || decide ((s.length:Int) > 15) || (decide (s.headD 0=48) && decide ((s.length:Int) > 1)))=true
 ·rw [if_pos hc,if_neg (by rw [hc]; simp)]
 ·rw [if_neg hc]
  have hc':(decide ((s.length:Int) < 1) || decide ((s.length:Int) > 15) || (decide (s.headD 0=48) && decide ((s.length:Int) > 1)))=false:=by simpa using hc
  rw [hc']
  simp only [Bool.or_eq_false_iff,decide_eq_false_iff_not] at hc'
  have:=loop_spec (step:=fun st=>f_textual_numeral_l1 s st.1 st.2) (fun st:Int×Nat=>some (if (s.drop st.2).all isDg=true then (numF st.1 (s.drop st.2),true) else ((0:Int),false)))
   (fun st=>st.2≤s.length∧0≤st.1∧st.1 < 10 ^ st.2) (fun st=>s.length-st.2) (fun st hI=>by
    obtain ⟨n,p⟩:=st
    obtain ⟨i1,i2,i3⟩:=hI
    simp only at i1 i2 i3 ⊢
    have hp:=pow15 (k:=p) (by omega)
    unfold f_textual_numeral_l1
    by_cases hi:p < s.length
    ·rw [if_pos (by simpa using hi),ck_pos hi]
     rw [drop_nth hi]
     by_cases hhi:(nth s p).toNat < 128
     ·have hr:=runeAt_ascii hi hhi
      have hn:nextP s p=p+1:=by unfold nextP; rw [if_pos hi,hr]
      rw [hr,hn]
      simp only
      cases hd:isDg (nth s p) with
      | false =>
       have hh:=isDg_no hd
       rw [if_pos (by simp only [Bool.or_eq_true,decide_eq_true_eq]; omega)]
       exact .inl ⟨_,rfl,by simp [hd]⟩
      | true =>
       have hh:=isDg_iff.1 hd
       rw [if_neg (by simp only [Bool.or_eq_true,decide_eq_true_eq]; omega)]
       rw [wrap_small (k:=.i32) (by omega) (by omega) (.inl rfl),wrap_small (k:=.i64) (by omega) (by omega) (.inr rfl)]
       rw [ck_pos (by omega),ck_pos (by omega)]
       refine .inr ⟨_,rfl,⟨by simp only; omega,by simp only; omega,?_⟩,by simp only; omega,?_⟩
       ·simp only
        rw [Int.pow_succ]; omega
       ·simp only
        have e:10*n+(((nth s p).toNat:Int) - 48)=n*10+dgv (nth s p):=by unfold dgv; omega
        rw [e]
        simp [hd,numF]
     ·have hr:=runeAt_high hi (by omega)
      have hd:isDg (nth s p)=false:=by
       cases hd:isDg (nth s p) with
       | false=>rfl
       | true=>have:=isDg_iff.1 hd; omega
      rw [if_pos (by simp only [Bool.or_eq_true,decide_eq_true_eq]; omega)]
      exact .inl ⟨_,rfl,by simp [hd]⟩
    ·rw [if_neg (by simpa using hi)]
     refine .inl ⟨_,rfl,?_⟩
     rw [List.drop_of_length_le (by omega)]
     simp [numF]) (s:=(0,0)) ⟨by simp,by simp,by simp⟩ (by simp only; omega)
  rw [this]
  simp
def pre (a:List UInt8) (l:List (List UInt8)):List (List UInt8):=(a++l.headD []) :: l.tail
abbrev PART:List UInt8:=[112,97,114,116]
abbrev LAST:List UInt8:=[108,97,115,116]
abbrev INW:List UInt8:=[105,110]
abbrev OUTW:List UInt8:=[111,117,116]
def kindL (s:List UInt8):Int:=if s=[118] then 1 else if s=[116] then 2 else if s=[100] then 3 else if s=[99] then 4 else 0
def trunkP:List (List UInt8)→Option (Int×Bool)
 | []=>some (0,false)
 | [d,t]=>if (d=INW∨d=OUTW)∧vOK t=true then some (numF 0 t,decide (d=INW)) else none
 | _=>none
def lastP:List (List UInt8)→Option (Bool×Int×Bool)
 | []=>(trunkP []).map fun t=>(false,t.1,t.2)
 | l :: r=>if l=LAST then (trunkP r).map fun t=>(true,t.1,t.2) else (trunkP (l :: r)).map fun t=>(false,t.1,t.2)
def tailP:List (List UInt8)→Option (Int×Int×Bool×Int×Bool)
 | p :: c :: q :: r=>if p=PART then (if vOK c=true∧vOK q=true then (lastP r).map fun t=>(numF 0 c,numF 0 q,t.1,t.2.1,t.2.2) else none) else (trunkP (p :: c :: q :: r)).map fun t=>(0,0,false,t.1,t.2)
 | w=>(trunkP w).map fun t=>(0,0,false,t.1,t.2)
def bF (b:List UInt8):List UInt8:=if b=[45] then [] else b
def parseF:List (List UInt8)→Option Record
 | k :: s1 :: s2 :: a :: b :: t :: u :: rest =>
  if 0 < kindL k∧vOK s1=true∧vOK s2=true∧a≠[]∧b≠[]∧vOK t=true∧vOK u=true then
   (tailP rest).map fun x=>⟨numF 0 s1,numF 0 s2,kindL k,a,bF b,numF 0 t,numF 0 u,x.1,x.2.1,x.2.2.1,x.2.2.2.1,x.2.2.2.2⟩
  else none
 | _=>none
def Z:Record:=⟨0,0,0,[],[],0,0,0,0,false,0,false⟩
def fin (line:List UInt8) (x:Record):Record×Int:=if errF x≠0 then (Z,errF x) else if lineF x≠line then (Z,1) else (x,0)
def decF (line:List UInt8):Record×Int:=match parseF (cutL 32 line) with
 | none=>(Z,1)
 | some x=>fin line x
def wordF (r:TextualReader):List UInt8×TextualReader:=match r.words with
 | []=>([],⟨[],true⟩)
 | x :: t=>if x=[] then ([],⟨x :: t,true⟩) else (x,⟨t,r.bad⟩)
def numberR (r:TextualReader):Int×TextualReader:=((numeralF (wordF r).1).1,⟨(wordF r).2.words,(wordF r).2.bad || !(numeralF (wordF r).1).2⟩)
def nextR (s:List UInt8) (r:TextualReader):Bool×TextualReader:=match r.words with
 | []=>(false,r)
 | x :: t=>if x=s then (true,⟨t,r.bad⟩) else (false,r)
theorem p_word (r:TextualReader):g_textual_reader_word r=some (wordF r):=by
 obtain ⟨ws,b⟩:=r
 unfold g_textual_reader_word wordF
 cases ws with
 | nil=>rfl
 | cons x t =>
  simp only [show Int.toNat 0=0 from rfl,show Int.toNat 1=1 from rfl]
  rw [ck_pos (fun _=>by simp <;> omega)]
  have e:nth (x :: t) 0=x:=rfl
  rw [e]
  by_cases hx:x=[]
  ·rw [if_pos (by simp [hx]),if_pos hx]
  ·rw [if_neg (by simp [hx] <;> omega),if_neg hx,ck_pos (by simp <;> omega),ck_pos (by simp <;> omega)]
   rfl
theorem p_number (r:TextualReader):g_textual_reader_number r=some (numberR r):=by
 unfold g_textual_reader_number
 rw [p_word,Option.bind_some,p_numeral,Option.bind_some]
 rfl
theorem p_next (s:List UInt8) (r:TextualReader):g_textual_reader_next s r=some (nextR s r):=by
 obtain ⟨ws,b⟩:=r
 unfold g_textual_reader_next nextR
 cases ws with
 | nil=>rfl
 | cons x t =>
  simp only [show Int.toNat 0=0 from rfl,show Int.toNat 1=1 from rfl]
  rw [ck_pos (fun _=>by simp <;> omega)]
  have e:nth (x :: t) 0=x:=rfl
  rw [e]
  by_cases hx:x=s
  ·rw [if_neg (by simp [hx] <;> omega),if_pos hx,ck_pos (by simp <;> omega)]
   rfl
  ·rw [if_pos (by simp [hx]),if_neg hx]
theorem wordF_bad {r:TextualReader} (h:r.bad=true):(wordF r).2.bad=true:=by
 unfold wordF
 split
 ·rfl
 ·split
  ·rfl
  ·exact h
theorem numberR_bad {r:TextualReader} (h:r.bad=true):(numberR r).2.bad=true:=by
 unfold numberR
 simp [wordF_bad h]
theorem vOK_nil:vOK []=false:=rfl
theorem wordF_cons {x:List UInt8} {t:List (List UInt8)} {b:Bool} (hx:x≠[]):wordF ⟨x :: t,b⟩=(x,⟨t,b⟩):=by unfold wordF; simp [hx]
theorem numberR_cons {x:List UInt8} {t:List (List UInt8)} {b:Bool} (hx:x≠[]):numberR ⟨x :: t,b⟩=((numeralF x).1,⟨t,b || !vOK x⟩):=by
 unfold numberR
 rw [wordF_cons hx]
 unfold numeralF
 cases vOK x <;> rfl
theorem wordF_none {b:Bool}:(wordF ⟨[],b⟩).2.bad=true:=rfl
theorem wordF_empty {t:List (List UInt8)} {b:Bool}:(wordF ⟨[] :: t,b⟩).2.bad=true:=rfl
theorem numberR_none {b:Bool}:(numberR ⟨[],b⟩).2.bad=true:=rfl
theorem numberR_empty {t:List (List UInt8)} {b:Bool}:(numberR ⟨[] :: t,b⟩).2.bad=true:=rfl
theorem vOK_ne {x:List UInt8} (h:vOK x=true):x≠[]:=by rintro rfl; cases h
theorem numeralF_ok {x:List UInt8} (h:vOK x=true):(numeralF x).1=numF 0 x:=by unfold numeralF; rw [if_pos h]
section decode
variable {v0:List UInt8} {y2:List UInt8×TextualReader} {y3:Int} {y4 y5:Int×TextualReader} {y6:List UInt8×TextualReader} {y8 y9:Int×TextualReader} {b:List UInt8}
def KB (y2:List UInt8×TextualReader) (y3:Int):Bool:=((y2.1.length:Int) != 1) || ((1+y3)==0)
theorem p_j3 (ha:y6.1.length < 1000000000) (hb:b.length < 1000000000) {c p:Int} {l:Bool} {ws:List (List UInt8)} {bad:Bool} {tr:Int} {inb:Bool} :
  f_textual_Decode_j3 v0 y2 y3 y4 y5 y6 y8 y9 b c p l ws bad tr inb=some (if bad=true∨KB y2 y3=true∨ws≠[] then (Z,1) else fin v0 ⟨y4.1,y5.1,1+y3,y6.1,b,y8.1,y9.1,c,p,l,tr,inb⟩):=by
 unfold f_textual_Decode_j3
 have hw:(decide ((ws.length:Int) > 0))=true↔ws≠[]:=by
  cases ws with
  | nil=>simp
  | cons a t=>simp <;> omega
 by_cases h:bad=true∨KB y2 y3=true∨ws≠[]
 ·rw [if_pos h,if_pos]
  ·rfl
  ·simp only [KB,Bool.or_eq_true] at h ⊢
   rw [hw]
   rcases h with h | (h | h) | h <;> simp [h]
 ·rw [if_neg h,if_neg]
  ·rw [p_Encode _ ha hb]
   simp only [Option.bind_some]
   generalize hx:(⟨y4.1,y5.1,1+y3,y6.1,b,y8.1,y9.1,c,p,l,tr,inb⟩:Record)=x
   unfold f_textual_Decode_j4 fin
   by_cases he:errF x=0
   ·rw [if_pos he,he]
    by_cases hl:lineF x=v0
    ·rw [if_neg (by simp [hl]),if_neg (by simp),if_neg (by simp),if_neg (by simp [hl])]
     subst hx
     rfl
    ·rw [if_pos (by simp [hl]),if_pos (by simp),if_neg (by simp),if_pos hl]
     rfl
   ·rw [if_neg he,if_neg (by simp [he]),if_pos (by simpa using he),if_pos he]
    rfl
  ·simp only [not_or] at h
   obtain ⟨h1,h2,h3⟩:=h
   simp only [KB,Bool.or_eq_true,not_or] at h2 ⊢
   rw [hw]
   exact ⟨⟨⟨h1,h2.1⟩,h2.2⟩,h3⟩
def outT (bad:Bool) (k:Bool) (o:Option (Record)) (line:List UInt8):Record×Int:=if bad=true∨k=true then (Z,1) else match o with
 | none=>(Z,1)
 | some x=>fin line x
theorem p_j2 (ha:y6.1.length < 1000000000) (hb:b.length < 1000000000) {c p:Int} {l:Bool} {ws:List (List UInt8)} {bad:Bool} :
  f_textual_Decode_j2 v0 y2 y3 y4 y5 y6 y8 y9 b ws bad c p l=some (outT bad (KB y2 y3) ((trunkP ws).map fun t=>⟨y4.1,y5.1,1+y3,y6.1,b,y8.1,y9.1,c,p,l,t.1,t.2⟩) v0):=by
 unfold f_textual_Decode_j2
 simp only [p_next,p_number,Option.bind_some]
 have key:∀ (d:List UInt8) (t:List (List UInt8)) (inb:Bool),(d=INW∨d=OUTW)→inb=decide (d=INW) →
   f_textual_Decode_j3 v0 y2 y3 y4 y5 y6 y8 y9 b c p l (numberR ⟨t,bad⟩).2.words (numberR ⟨t,bad⟩).2.bad (numberR ⟨t,bad⟩).1 inb=some (outT bad (KB y2 y3) ((trunkP (d :: t)).map fun t=>⟨y4.1,y5.1,1+y3,y6.1,b,y8.1,y9.1,c,p,l,t.1,t.2⟩) v0):=by
  intro d t inb hd hinb
  rw [p_j3 ha hb]
  unfold outT
  cases t with
  | nil =>
   rw [if_pos (.inl numberR_none)]
   simp [trunkP]
  | cons n t2 =>
   by_cases hn:n=[]
   ·subst hn
    rw [if_pos (.inl numberR_empty)]
    cases t2 with
    | nil=>simp [trunkP,vOK_nil]
    | cons e t3=>simp [trunkP]
   ·rw [numberR_cons hn]
    simp only
    cases t2 with
    | cons e t3 =>
     rw [if_pos (.inr (.inr (by simp)))]
     simp [trunkP]
    | nil =>
     cases hv:vOK n with
     | false =>
      rw [if_pos (.inl (by simp))]
      simp [trunkP,hv]
     | true =>
      simp only [Bool.not_true,Bool.or_false,ne_eq,not_true_eq_false,or_false,trunkP,hd,hv,and_self,if_true,Option.map_some,numeralF_ok hv,hinb]
 cases ws with
 | nil =>
  simp only [nextR]
  simp only [Bool.false_eq_true,if_false]
  rw [p_j3 ha hb]
  simp [outT,trunkP]
 | cons x t =>
  by_cases h1:x=INW
  ·have e:nextR INW ⟨x :: t,bad⟩=(true,⟨t,bad⟩):=by simp [nextR,h1]
   rw [e]
   simp only [if_true]
   exact key x t true (.inl h1) (by simp [h1])
  ·have e:nextR INW ⟨x :: t,bad⟩=(false,⟨x :: t,bad⟩):=by simp [nextR,h1]
   rw [e]
   simp only [Bool.false_eq_true,if_false]
   by_cases h2:x=OUTW
   ·have e:nextR OUTW ⟨x :: t,bad⟩=(true,⟨t,bad⟩):=by simp [nextR,h2]
    rw [e]
    simp only [if_true]
    exact key x t false (.inr h2) (by simp [h1])
   ·have e:nextR OUTW ⟨x :: t,bad⟩=(false,⟨x :: t,bad⟩):=by simp [nextR,h2]
    rw [e]
    simp only [Bool.false_eq_true,if_false]
    rw [p_j3 ha hb,if_pos (.inr (.inr (by simp)))]
    have:trunkP (x :: t)=none:=by
     unfold trunkP
     split
     ·cases ‹_=([]:List (List UInt8))›
     ·rename_i heq
      cases heq
      simp [h1,h2]
     ·rfl
    rw [this]
    simp [outT]
end decode
theorem outT_bad {k:Bool} {o:Option Record} {line:List UInt8}:outT true k o line=(Z,1):=by unfold outT; rw [if_pos (.inl rfl)]
theorem outT_none {bad k:Bool} {line:List UInt8}:outT bad k none line=(Z,1):=by unfold outT; split <;> rfl
section decode
variable {v0:List UInt8} {y2:List UInt8×TextualReader} {y3:Int} {y4 y5:Int×TextualReader} {y6:List UInt8×TextualReader} {y8 y9:Int×TextualReader} {b:List UInt8}
theorem p_j1 (ha:y6.1.length < 1000000000) (hb:b.length < 1000000000) :
  f_textual_Decode_j1 v0 y2 y3 y4 y5 y6 y8 y9 b=some (outT y9.2.bad (KB y2 y3) ((tailP y9.2.words).map fun t=>⟨y4.1,y5.1,1+y3,y6.1,b,y8.1,y9.1,t.1,t.2.1,t.2.2.1,t.2.2.2.1,t.2.2.2.2⟩) v0):=by
 unfold f_textual_Decode_j1
 simp only [p_next,p_number,Option.bind_some]
 obtain ⟨u,⟨ws,bad⟩⟩:=y9
 simp only
 cases ws with
 | nil =>
  simp only [nextR,Bool.false_eq_true,if_false]
  rw [p_j2 ha hb]
  rfl
 | cons x t =>
  by_cases h1:x=PART
  ·have e:nextR PART ⟨x :: t,bad⟩=(true,⟨t,bad⟩):=by simp [nextR,h1]
   rw [e]
   simp only [if_true]
   rw [p_j2 ha hb]
   have hbadN:∀ (r:TextualReader),r.bad=true→(nextR LAST r).2.bad=true:=by
    rintro ⟨w,bb⟩ hr
    cases w with
    | nil=>exact hr
    | cons a w=>by_cases hh:a=LAST <;> simpa [nextR,hh] using hr
   cases t with
   | nil =>
    rw [hbadN _ (numberR_bad numberR_none),outT_bad]
    rw [show tailP [x]=none from by rw [h1]; rfl,Option.map_none,outT_none]
   | cons c t2 =>
    cases t2 with
    | nil =>
     have:(numberR (numberR ⟨[c],bad⟩).2).2.bad=true:=by
      by_cases hc:c=[]
      ·subst hc; exact numberR_bad numberR_empty
      ·rw [numberR_cons hc]; exact numberR_none
     rw [hbadN _ this,outT_bad]
     rw [show tailP [x,c]=none from by rw [h1]; simp [tailP,trunkP],Option.map_none,outT_none]
    | cons q r =>
     have ht:tailP (x :: c :: q :: r)=if vOK c=true∧vOK q=true then (lastP r).map fun t=>(numF 0 c,numF 0 q,t.1,t.2.1,t.2.2) else none:=by rw [tailP,if_pos h1]
     rw [ht]
     by_cases hc:c=[]
     ·subst hc
      rw [hbadN _ (numberR_bad numberR_empty),outT_bad,if_neg (by simp [vOK_nil]),Option.map_none,outT_none]
     ·rw [numberR_cons hc]
      by_cases hq:q=[]
      ·subst hq
       rw [hbadN _ numberR_empty,outT_bad,if_neg (by simp [vOK_nil]),Option.map_none,outT_none]
      ·simp only
       rw [numberR_cons hq]
       simp only
       by_cases hv:vOK c=true∧vOK q=true
       ·rw [if_pos hv,numeralF_ok hv.1,numeralF_ok hv.2]
        simp only [hv.1,hv.2,Bool.not_true,Bool.or_false]
        cases r with
        | nil =>
         simp only [nextR,lastP]
         cases trunkP [] <;> rfl
        | cons l r2 =>
         by_cases hl:l=LAST
         ·simp only [nextR,lastP,hl,if_true]
          cases trunkP r2 <;> rfl
         ·simp only [nextR,lastP,hl,if_false]
          cases trunkP (l :: r2) <;> rfl
       ·rw [if_neg hv,hbadN _ (by
         simp only
         cases h3:vOK c with
         | false=>simp
         | true =>
          cases h4:vOK q with
          | false=>simp
          | true=>exact absurd ⟨h3,h4⟩ hv),outT_bad,Option.map_none,outT_none]
  ·have e:nextR PART ⟨x :: t,bad⟩=(false,⟨x :: t,bad⟩):=by simp [nextR,h1]
   rw [e]
   simp only [Bool.false_eq_true,if_false]
   rw [p_j2 ha hb]
   have ht:tailP (x :: t)=(trunkP (x :: t)).map fun t=>(0,0,false,t.1,t.2):=by
    cases t with
    | nil=>rfl
    | cons c t2 =>
     cases t2 with
     | nil=>rfl
     | cons q r=>rw [tailP,if_neg h1]
   rw [ht,Option.map_map]
   rfl
end decode
theorem index_letter (c:UInt8):1+Go.Lib.index [118,116,100,99] [c]=kindL [c]:=by
 unfold kindL
 by_cases h1:c=118
 ·subst h1; rfl
 ·by_cases h2:c=116
  ·subst h2; rfl
  ·by_cases h3:c=100
   ·subst h3; rfl
   ·by_cases h4:c=99
    ·subst h4; rfl
    ·have e1:((c==118)=false):=by simpa using h1
     have e2:((c==116)=false):=by simpa using h2
     have e3:((c==100)=false):=by simpa using h3
     have e4:((c==99)=false):=by simpa using h4
     simp [Go.Lib.index,List.isPrefixOf,e1,e2,e3,e4,h1,h2,h3,h4]
theorem kind_KB {k:List UInt8} {y:TextualReader}:KB (k,y) (Go.Lib.index [118,116,100,99] k)=false↔0 < kindL k:=by
 unfold KB
 match k with
 | []=>simp [kindL]
 | [c] =>
  rw [index_letter]
  have:kindL [c]=0∨0 < kindL [c]:=by unfold kindL; split; simp; split; simp; split; simp; split <;> simp
  rcases this with h | h
  ·simp [h]
  ·have:(kindL [c]==0)=false:=by rw [beq_eq_false_iff_ne]; omega
   simp [this,h]
 | a :: b :: t =>
  simp [kindL]
  omega
theorem index_bd (k:List UInt8):-1≤Go.Lib.index [118,116,100,99] k∧Go.Lib.index [118,116,100,99] k≤4:=by
 refine ⟨Go.Lib.index_ge _ _,?_⟩
 rcases Go.Lib.index_spec [118,116,100,99] k with ⟨h,_⟩ | ⟨i,h,h2,_⟩
 ·omega
 ·simp at h2; omega
theorem parse_bad {w:List (List UInt8)} {i:Nat} (hi:i < 7) (h:w[i]?=none∨w[i]?=some []):parseF w=none:=by
 unfold parseF
 split
 ·rename_i k s1 s2 a b t u rest
  rw [if_neg]
  rintro ⟨c0,c1,c2,c3,c4,c5,c6⟩
  match i,hi with
  | 0,_=>simp at h; subst h; exact absurd c0 (by simp [kindL])
  | 1,_=>simp at h; exact vOK_ne c1 h
  | 2,_=>simp at h; exact vOK_ne c2 h
  | 3,_=>simp at h; exact c3 h
  | 4,_=>simp at h; exact c4 h
  | 5,_=>simp at h; exact vOK_ne c5 h
  | 6,_=>simp at h; exact vOK_ne c6 h
 ·rfl
theorem p_Decode (line:List UInt8) (hl:line.length≤100000):f_textual_Decode line=some (decF line):=by
 unfold f_textual_Decode x_Split x_Index
 rw [ck_pos (by simp; omega),split_cut]
 simp only [Option.bind_some,p_word,p_number]
 rw [ck_pos (by simp)]
 simp only [Option.bind_some]
 have hbd:=index_bd (wordF ⟨cutL 32 line,false⟩).1
 rw [ck_pos (by omega)]
 have hlen:∀ w,w∈cutL 32 line→w.length < 1000000000:=fun w hw=>by have:=(cutL_mem 32 line w hw).2; omega
 unfold decF
 generalize cutL 32 line=ws at hlen hbd ⊢
 have hbad:∀ (y2:List UInt8×TextualReader) (y3:Int) (y4 y5:Int×TextualReader) (y6 y7:List UInt8×TextualReader) (y8 y9:Int×TextualReader),y6.1.length < 1000000000→y7.1.length < 1000000000 →
   (if (y7.1==([45]:List UInt8))=true then f_textual_Decode_j1 line y2 y3 y4 y5 y6 y8 y9 [] else f_textual_Decode_j1 line y2 y3 y4 y5 y6 y8 y9 y7.1) =
   some (outT y9.2.bad (KB y2 y3) ((tailP y9.2.words).map fun t=>⟨y4.1,y5.1,1+y3,y6.1,bF y7.1,y8.1,y9.1,t.1,t.2.1,t.2.2.1,t.2.2.2.1,t.2.2.2.2⟩) line):=by
  intro y2 y3 y4 y5 y6 y7 y8 y9 h6 h7
  unfold bF
  by_cases h:y7.1=[45]
  ·rw [if_pos (by simpa using h),if_pos h,p_j1 h6 (by simp)]
  ·rw [if_neg (by simpa using h),if_neg h,p_j1 h6 h7]
 have hwl:∀ r:TextualReader,(∀ w,w∈r.words→w.length < 1000000000)→(wordF r).1.length < 1000000000∧∀ w,w∈(wordF r).2.words→w.length < 1000000000:=by
  rintro ⟨w,bb⟩ hr
  unfold wordF
  cases w with
  | nil=>exact ⟨by simp,hr⟩
  | cons x t =>
   simp only at hr ⊢
   split
   ·exact ⟨by simp,hr⟩
   ·exact ⟨hr x (by simp),fun w hw=>hr w (by simp [hw])⟩
 have hnl:∀ r:TextualReader,(∀ w,w∈r.words→w.length < 1000000000)→∀ w,w∈(numberR r).2.words→w.length < 1000000000:=fun r hr=>(hwl r hr).2
 have h2:=hwl ⟨ws,false⟩ hlen
 have h4:=hnl _ h2.2
 have h5:=hnl _ h4
 have h6:=hwl _ h5
 have h7:=hwl _ h6.2
 rw [hbad _ _ _ _ _ _ _ _ h6.1 h7.1]
 congr 1
 have bad1:∀ {r:TextualReader},r.bad=true→outT (numberR (numberR (wordF (wordF r).2).2).2).2.bad=outT true:=fun h=>by rw [numberR_bad (numberR_bad (wordF_bad (wordF_bad h)))]
 have fail:∀ (o:Option Record) (k:Bool) (w:List (List UInt8)) (i:Nat),i < 7→(w[i]?=none∨w[i]?=some [])→outT true k o line=(match parseF w with | none=>(Z,1) | some x=>fin line x):=by
  intro o k w i hi h
  rw [outT_bad,parse_bad hi h]
 cases ws with
 | nil=>rfl
 | cons k w1 =>
 by_cases hk:k=[]
 ·subst hk
  rw [bad1 (numberR_bad (numberR_bad wordF_empty))]
  exact fail _ _ _ 0 (by omega) (.inr rfl)
 rw [wordF_cons hk]
 simp only
 cases w1 with
 | nil =>
  rw [bad1 (numberR_bad numberR_none)]
  exact fail _ _ [k] 1 (by omega) (.inl rfl)
 | cons s1 w2 =>
 by_cases hs1:s1=[]
 ·subst hs1
  rw [bad1 (numberR_bad numberR_empty)]
  exact fail _ _ _ 1 (by omega) (.inr rfl)
 rw [numberR_cons hs1]
 simp only
 cases w2 with
 | nil =>
  rw [bad1 numberR_none]
  exact fail _ _ [k,s1] 2 (by omega) (.inl rfl)
 | cons s2 w3 =>
 by_cases hs2:s2=[]
 ·subst hs2
  rw [bad1 numberR_empty]
  exact fail _ _ _ 2 (by omega) (.inr rfl)
 rw [numberR_cons hs2]
 simp only
 cases w3 with
 | nil =>
  rw [numberR_bad (numberR_bad (wordF_bad wordF_none))]
  exact fail _ _ [k,s1,s2] 3 (by omega) (.inl rfl)
 | cons a w4 =>
 by_cases ha:a=[]
 ·subst ha
  rw [numberR_bad (numberR_bad (wordF_bad wordF_empty))]
  exact fail _ _ _ 3 (by omega) (.inr rfl)
 rw [wordF_cons ha]
 simp only
 cases w4 with
 | nil =>
  rw [numberR_bad (numberR_bad wordF_none)]
  exact fail _ _ [k,s1,s2,a] 4 (by omega) (.inl rfl)
 | cons b w5 =>
 by_cases hb:b=[]
 ·subst hb
  rw [numberR_bad (numberR_bad wordF_empty)]
  exact fail _ _ _ 4 (by omega) (.inr rfl)
 rw [wordF_cons hb]
 simp only
 cases w5 with
 | nil =>
  rw [numberR_bad numberR_none]
  exact fail _ _ [k,s1,s2,a,b] 5 (by omega) (.inl rfl)
 | cons t w6 =>
 by_cases ht:t=[]
 ·subst ht
  rw [numberR_bad numberR_empty]
  exact fail _ _ _ 5 (by omega) (.inr rfl)
 rw [numberR_cons ht]
 simp only
 cases w6 with
 | nil =>
  rw [numberR_none]
  exact fail _ _ [k,s1,s2,a,b,t] 6 (by omega) (.inl rfl)
 | cons u rest =>
 by_cases hu:u=[]
 ·subst hu
  rw [numberR_empty]
  exact fail _ _ _ 6 (by omega) (.inr rfl)
 rw [numberR_cons hu]
 simp only
 unfold parseF
 simp only
 by_cases hc:0 < kindL k∧vOK s1=true∧vOK s2=true∧a≠[]∧b≠[]∧vOK t=true∧vOK u=true
 ·rw [if_pos hc]
  obtain ⟨c0,c1,c2,c3,c4,c5,c6⟩:=hc
  rw [kind_KB.2 c0,numeralF_ok c1,numeralF_ok c2,numeralF_ok c5,numeralF_ok c6]
  have hkk:1+Go.Lib.index [118,116,100,99] k=kindL k:=by
   match k with
   | []=>exact absurd rfl hk
   | [c]=>exact index_letter c
   | x :: y :: z=>exact absurd c0 (by simp [kindL])
  rw [hkk]
  simp only [c1,c2,c5,c6,Bool.not_true,Bool.or_false]
  unfold outT
  rw [if_neg (by simp)]
 ·rw [if_neg hc]
  unfold outT
  rw [if_pos]
  by_cases c0:0 < kindL k
  ·left
   cases c1:vOK s1 with
   | false=>simp
   | true =>
   cases c2:vOK s2 with
   | false=>simp
   | true =>
   cases c5:vOK t with
   | false=>simp
   | true =>
   cases c6:vOK u with
   | false=>simp
   | true=>exact absurd ⟨c0,c1,c2,ha,hb,c5,c6⟩ hc
  ·right
   cases hkb:KB (k,⟨s1 :: s2 :: a :: b :: t :: u :: rest,false⟩) (Go.Lib.index [118,116,100,99] k) with
   | true=>rfl
   | false=>exact absurd (kind_KB.1 hkb) c0
theorem trunk_parse {r:Record} (g:Good r) (hin:r.inbound=true→r.trunk≠0):trunkP (trunkF r)=some (r.trunk,r.inbound):=by
 unfold trunkF
 by_cases h:r.trunk=0
 ·rw [if_pos h]
  cases hi:r.inbound with
  | true=>exact absurd h (hin hi)
  | false=>simp [trunkP,h]
 ·rw [if_neg h]
  have hv:vOK (Go.Lib.itoa r.trunk)=true:=itoa_vOK g.trunk.1 (by have:=g.trunk; omega)
  cases hi:r.inbound with
  | true=>simp [trunkP,hv,itoa_val g.trunk.1]
  | false=>simp [trunkP,hv,itoa_val g.trunk.1]
theorem trunkF_cases (r:Record):trunkF r=[]∨∃ d t,trunkF r=[d,t]∧d≠PART∧d≠LAST:=by
 unfold trunkF
 by_cases h:r.trunk=0
 ·rw [if_pos h]; exact .inl rfl
 ·rw [if_neg h]
  right
  cases hi:r.inbound with
  | true=>exact ⟨_,_,rfl,by simp,by simp⟩
  | false=>exact ⟨_,_,rfl,by simp,by simp⟩
theorem tail_parse {r:Record} (h:errF r=0):tailP (partF r++trunkF r)=some (r.call,r.part,r.last,r.trunk,r.inbound):=by
 have g:=errF_good h
 obtain ⟨hlast,hpc,hin⟩:=errF_last h
 have ht:=trunk_parse g hin
 unfold partF
 by_cases hp:r.part=0
 ·rw [if_pos hp,List.nil_append]
  have hl:r.last=false:=by
   cases hl:r.last with
   | true=>exact absurd hp (hlast hl)
   | false=>rfl
  have hw:tailP (trunkF r)=(trunkP (trunkF r)).map fun t=>(0,0,false,t.1,t.2):=by
   rcases trunkF_cases r with e | ⟨d,t,e,_,_⟩ <;> rw [e] <;> rfl
  rw [hw,ht,hp,hpc.1 hp,hl]
  rfl
 ·rw [if_neg hp]
  have v1:vOK (Go.Lib.itoa r.call)=true:=itoa_vOK g.call.1 (by have:=g.call; omega)
  have v2:vOK (Go.Lib.itoa r.part)=true:=itoa_vOK g.part.1 (by have:=g.part; omega)
  have n1:=itoa_val g.call.1
  have n2:=itoa_val g.part.1
  have hl:lastP ((if r.last=true then [LAST] else [])++trunkF r)=some (r.last,r.trunk,r.inbound):=by
   cases hl:r.last with
   | true =>
    simp only [if_true,List.cons_append,List.nil_append,lastP,ht,Option.map_some]
   | false =>
    simp only [Bool.false_eq_true,if_false,List.nil_append]
    rcases trunkF_cases r with e | ⟨d,t,e,h1,h2⟩
    ·rw [e] at ht ⊢
     rw [lastP,ht]
     rfl
    ·rw [e] at ht ⊢
     rw [lastP,if_neg h2,ht]
     rfl
  rw [List.append_assoc]
  show tailP (PART :: Go.Lib.itoa r.call :: Go.Lib.itoa r.part :: ((if r.last=true then [LAST] else [])++trunkF r))=_
  rw [tailP,if_pos rfl,if_pos ⟨v1,v2⟩,hl,n1,n2]
  rfl
theorem letter_kind {k:Int} (h1:1≤k) (h2:k≤4):kindL ((([118,116,100,99]:List UInt8).take k.toNat).drop (k-1).toNat)=k∧free 32 ((([118,116,100,99]:List UInt8).take k.toNat).drop (k-1).toNat):=by
 have:k=1∨k=2∨k=3∨k=4:=by omega
 rcases this with rfl | rfl | rfl | rfl
 ·exact ⟨rfl,fun x hx=>by simp at hx; subst hx; decide⟩
 ·exact ⟨rfl,fun x hx=>by simp at hx; subst hx; decide⟩
 ·exact ⟨rfl,fun x hx=>by simp at hx; subst hx; decide⟩
 ·exact ⟨rfl,fun x hx=>by simp at hx; subst hx; decide⟩
theorem validB_digs {s:List UInt8} (h:validB s=true):s.all isDg=true∧s≠[]:=by
 unfold validB at h
 simp only [Bool.and_eq_true,decide_eq_true_eq] at h
 refine ⟨h.1.1,?_⟩
 rintro rfl
 simp at h
theorem parse_words {r:Record} (h:errF r=0):parseF (wordsF r)=some r:=by
 have g:=errF_good h
 have ha:=validB_digs g.a
 have hk:=letter_kind g.kind.1 g.kind.2
 have hb:(if r.b=[] then [45] else r.b)≠[]∧bF (if r.b=[] then [45] else r.b)=r.b:=by
  by_cases hb:r.b=[]
  ·rw [if_pos hb,hb]; exact ⟨by simp,rfl⟩
  ·rw [if_neg hb]
   refine ⟨hb,?_⟩
   unfold bF
   rw [if_neg]
   intro he
   rcases g.b with hv | hv
   ·have:=(validB_digs hv).1
    rw [he] at this
    revert this
    decide
   ·exact hb hv.2
 unfold wordsF headF
 rw [List.append_assoc]
 simp only [List.cons_append,List.nil_append,parseF]
 rw [if_pos ⟨by rw [hk.1]; have:=g.kind; omega,itoa_vOK (by have:=g.source; omega) (by have:=g.source; omega),itoa_vOK (by have:=g.serial; omega) (by have:=g.serial; omega),ha.2,hb.1,itoa_vOK g.start.1 (by have:=g.start; omega),itoa_vOK g.units.1 (by have:=g.units; omega)⟩]
 rw [tail_parse h,hk.1,hb.2,itoa_val (by have:=g.source; omega),itoa_val (by have:=g.serial; omega),itoa_val g.start.1,itoa_val g.units.1]
 rfl
theorem words_free {r:Record} (h:errF r=0) {c:UInt8} (hc:c=32∨c=10):∀ w,w∈wordsF r→free c w:=by
 have g:=errF_good h
 have hd:isDg c=false:=by rcases hc with rfl | rfl <;> decide
 have ni:∀ {n:Int},0≤n→free c (Go.Lib.itoa n):=fun h0=>itoa_free h0 hd
 have lit:∀ (l:List UInt8),l.all (fun x=>x != 32 && x != 10)=true→free c l:=by
  intro l hl x hx he
  have:=List.all_eq_true.1 hl x hx
  subst he
  rcases hc with rfl | rfl <;> simp at this
 intro w hw
 unfold wordsF at hw
 rcases List.mem_append.1 hw with hw | hw
 ·rcases List.mem_append.1 hw with hw | hw
  ·unfold headF at hw
   simp only [List.mem_cons,List.not_mem_nil,or_false] at hw
   rcases hw with rfl | rfl | rfl | rfl | rfl | rfl | rfl
   ·have:r.kind=1∨r.kind=2∨r.kind=3∨r.kind=4:=by have:=g.kind; omega
    rcases this with e | e | e | e <;> rw [e] <;> exact lit _ (by decide)
   ·exact ni (by have:=g.source; omega)
   ·exact ni (by have:=g.serial; omega)
   ·exact digs_free (validB_digs g.a).1 hd
   ·split
    ·exact lit _ (by decide)
    ·rcases g.b with hv | hv
     ·exact digs_free (validB_digs hv).1 hd
     ·rename_i hb; exact absurd hv.2 hb
   ·exact ni g.start.1
   ·exact ni g.units.1
  ·unfold partF at hw
   split at hw
   ·cases hw
   ·rcases List.mem_append.1 hw with hw | hw
    ·simp only [List.mem_cons,List.not_mem_nil,or_false] at hw
     rcases hw with rfl | rfl | rfl
     ·exact lit _ (by decide)
     ·exact ni g.call.1
     ·exact ni g.part.1
    ·split at hw
     ·simp only [List.mem_cons,List.not_mem_nil,or_false] at hw
      subst hw
      exact lit _ (by decide)
     ·cases hw
 ·unfold trunkF at hw
  split at hw
  ·cases hw
  ·simp only [List.mem_cons,List.not_mem_nil,or_false] at hw
   rcases hw with rfl | rfl
   ·split
    ·exact lit _ (by decide)
    ·exact lit _ (by decide)
   ·exact ni g.trunk.1
theorem cut_line {r:Record} (h:errF r=0):cutL 32 (lineF r)=wordsF r:=cut_join _ (by simp [wordsF,headF]) (words_free h (.inl rfl))
theorem dec_line {r:Record} (h:errF r=0):decF (lineF r)=(r,0):=by
 unfold decF
 rw [cut_line h,parse_words h]
 show fin (lineF r) r=_
 unfold fin
 rw [if_neg (by simp [h]),if_neg (by simp)]
def linesF (s:List UInt8):List (List UInt8)×Int:=if s≠[]∧nth s (s.length-1)≠10 then ([],1) else if 4096 < (cutL 10 s).length-1 then ([],5) else ((cutL 10 s).dropLast,0)
theorem snoc_of {s:List UInt8} (h:s≠[]):∃ t,s=t++[nth s (s.length-1)]:=by
 have hl:0 < s.length:=List.length_pos_iff.2 h
 refine ⟨s.take (s.length-1),?_⟩
 have:=take_nth (l:=s) (k:=s.length-1) (by omega)
 rw [←this,show s.length-1+1=s.length from by omega,List.take_length]
theorem suffix_snoc {t:List UInt8} {c:UInt8}:Go.Lib.hasSuffix (t++[c]) [10]=decide (c=10):=by
 unfold Go.Lib.hasSuffix
 rw [Bool.eq_iff_iff,List.isSuffixOf_iff_suffix,decide_eq_true_iff]
 constructor
 ·rintro ⟨u,hu⟩
  have:=congrArg List.getLast? hu
  simp at this
  exact this.symm
 ·rintro rfl; exact ⟨t,rfl⟩
theorem trim_snoc {t:List UInt8}:Go.Lib.trimSuffix (t++[10]) [10]=t:=by
 unfold Go.Lib.trimSuffix
 rw [suffix_snoc]
 simp
theorem p_Lines (s:List UInt8) (hl:s.length≤100000):f_textual_Lines s=some (linesF s):=by
 unfold f_textual_Lines linesF x_CutSuffix x_Split
 by_cases h0:s=[]
 ·subst h0
  rw [if_pos (by simp),if_neg (by simp),if_neg (by simp [cutL])]
  rfl
 ·rw [if_neg (by simpa using h0),ck_pos (by omega)]
  obtain ⟨t,ht⟩:=snoc_of h0
  simp only [Option.bind_some]
  generalize nth s (s.length-1)=c at ht ⊢
  subst ht
  rw [suffix_snoc]
  by_cases hc:c=10
  ·subst hc
   rw [if_neg (by simp),if_neg (by simp),trim_snoc,ck_pos (by simp at hl ⊢; omega),split_cut]
   simp only [Option.bind_some]
   rw [cutL_snoc]
   simp only [List.length_append,List.length_cons,List.length_nil,Nat.add_sub_cancel,List.dropLast_concat]
   by_cases h5:4096 < (cutL 10 t).length
   ·rw [if_pos (by simp; omega),if_pos (by omega)]
   ·rw [if_neg (by simp; omega),if_neg (by omega)]
  ·rw [if_pos (by simp [hc]),if_pos ⟨h0,hc⟩]
def okLs:List (List UInt8)→List Record
 | []=>[]
 | x :: r=>if (decF x).2=0 then (decF x).1 :: okLs r else okLs r
def noLs:Int→List (List UInt8)→List Reject
 | _,[]=>[]
 | i,x :: r=>if (decF x).2=0 then noLs (i+1) r else ⟨0,0,i,(decF x).2⟩ :: noLs (i+1) r
def allF (s:List UInt8):List Record×List Reject×Int:=if (linesF s).2≠0 then ([],[],(linesF s).2) else (okLs (linesF s).1,noLs 0 (linesF s).1,0)
theorem linesF_mem {s w:List UInt8} (h:w∈(linesF s).1):w.length≤s.length∧free 10 w:=by
 unfold linesF at h
 split at h
 ·simp at h
 ·split at h
  ·simp at h
  ·have:=cutL_mem 10 s w (List.dropLast_subset _ h)
   exact ⟨this.2,this.1⟩
theorem linesF_len (s:List UInt8):(linesF s).1.length≤s.length:=by
 unfold linesF
 split
 ·simp
 ·split
  ·simp
  ·have:=cutL_len 10 s
   simp; omega
theorem p_All (s:List UInt8) (hl:s.length≤100000):f_textual_All s=some (allF s):=by
 unfold f_textual_All allF
 rw [p_Lines s hl,Option.bind_some]
 by_cases he:(linesF s).2=0
 ·rw [if_neg (by simp [he]),if_neg (by simp [he])]
  have hm:∀ w,w∈(linesF s).1→w.length≤100000:=fun w hw=>by have:=(linesF_mem hw).1; omega
  have hll:=linesF_len s
  generalize linesF s=y at hm hll he ⊢
  have:=loop_spec (step:=fun st=>f_textual_All_l1 y st.1 st.2.1 st.2.2) (fun st:List Record×List Reject×Int=>some (st.1++okLs (y.1.drop st.2.2.toNat),st.2.1++noLs st.2.2 (y.1.drop st.2.2.toNat),(0:Int)))
   (fun st=>0≤st.2.2∧st.2.2≤(y.1.length:Int)∧(st.1.length:Int)≤st.2.2∧(st.2.1.length:Int)≤st.2.2) (fun st=>((y.1.length:Int) - st.2.2).toNat) (fun st hI=>by
    obtain ⟨out,no,i⟩:=st
    obtain ⟨i0,i1,i2,i3⟩:=hI
    simp only at i0 i1 i2 i3 ⊢
    unfold f_textual_All_l1
    by_cases hi:i < (y.1.length:Int)
    ·rw [if_pos (by simpa using hi),ck_pos (by omega),p_Decode _ (hm _ (by rw [nth_eq (show i.toNat < y.1.length by omega)]; exact List.getElem_mem _)),Option.bind_some]
     rw [drop_nth (show i.toNat < y.1.length by omega)]
     by_cases hd:(decF (nth y.1 i.toNat)).2=0
     ·rw [if_neg (by simp [hd]),ck_pos (by simp; omega),ck_pos (by omega)]
      refine .inr ⟨_,rfl,⟨by simp only; omega,by simp only; omega,by simp; omega,by simp only; omega⟩,by simp only; omega,?_⟩
      simp only
      rw [show (i+1).toNat=i.toNat+1 from by omega]
      simp [okLs,noLs,hd]
     ·rw [if_pos (by simpa using hd),ck_pos (by simp; omega),ck_pos (by omega)]
      refine .inr ⟨_,rfl,⟨by simp only; omega,by simp only; omega,by simp only; omega,by simp; omega⟩,by simp only; omega,?_⟩
      simp only
      rw [show (i+1).toNat=i.toNat+1 from by omega]
      simp [okLs,noLs,hd]
    ·rw [if_neg (by simpa using hi)]
     refine .inl ⟨_,rfl,?_⟩
     rw [List.drop_of_length_le (by omega)]
     simp [okLs,noLs]) (s:=([],[],0)) ⟨by simp,by simp,by simp,by simp⟩ (by simp only; omega)
  rw [this]
  simp
 ·rw [if_pos (by simpa using he),if_pos he]
theorem okLs_len:∀ l:List (List UInt8),(okLs l).length≤l.length
 | []=>by simp [okLs]
 | x :: r=>by
  have:=okLs_len r
  unfold okLs
  split
  ·simp; omega
  ·simp; omega
theorem noLs_len:∀ (l:List (List UInt8)) (i:Int),(noLs i l).length≤l.length
 | [],i=>by simp [noLs]
 | x :: r,i=>by
  have:=noLs_len r (i+1)
  unfold noLs
  split
  ·simp; omega
  ·simp; omega
theorem p_Same (a:List Record) (hl:a.length≤100000):f_r09_Same a a=some true:=by
 unfold f_r09_Same
 rw [if_neg (by simp),loop_all a (fun _=>true) true true (by omega) (fun i h0 h1=>?_) (fun i hi=>?_)]
 ·simp
 ·unfold f_r09_Same_l1
  rw [if_pos (by simpa using h1),ck_pos (by omega),ck_pos (by omega),if_neg (by rw [Record.eq_refl]; simp),ck_pos (by omega)]
  rfl
 ·unfold f_r09_Same_l1
  rw [if_neg (by simp; omega)]
theorem allF_len (s:List UInt8):(allF s).1.length≤s.length∧(allF s).2.1.length≤s.length:=by
 have h:=linesF_len s
 have h1:=okLs_len (linesF s).1
 have h2:=noLs_len (linesF s).1 0
 unfold allF
 split
 ·simp
 ·exact ⟨by simp only; omega,by simp only; omega⟩
end Go.Proofs.YthoengcicaicoaaGreatDoor.C9
namespace Go.Proofs.YthoengcicaicoaaGreatDoor
open Go.RowKit Go.Abs
def decAll (f:Int) (b:List UInt8):List Record×List Reject×Int:=if f=2 then C10.allT 0 [] [] b else if f=3 then C11.allF b else C9.allF b
theorem p_decode (f:Int) (b:List UInt8) (hb:b.length≤100000):f_batch_decode f b=some (decAll f b):=by
 unfold f_batch_decode decAll
 by_cases h2:f=2
 ·rw [if_pos (by simpa using h2),if_pos h2,C10.p_tAll b hb]; rfl
 ·rw [if_neg (by simpa using h2),if_neg h2]
  by_cases h3:f=3
  ·rw [if_pos (by simpa using h3),if_pos h3,C11.p_All11 b hb]; rfl
  ·rw [if_neg (by simpa using h3),if_neg h3,C9.p_All b hb]; rfl
theorem decAll_len (f:Int) (b:List UInt8):(decAll f b).1.length≤b.length∧(decAll f b).2.1.length≤b.length:=by
 unfold decAll
 split
 ·have:=C10.allT_len b.length b 0 [] [] (Nat.le_refl _)
  simpa using this
 ·split
  ·unfold C11.allF
   split
   ·simp
   ·split
    ·simp
    ·have h1:=C11.okRs_len b (b.length / 45) 0
     have h2:=C11.noRs_len b (b.length / 45) 0
     simp only; omega
  ·exact C9.allF_len b
def B0:Batch:=⟨0,0,0,[]⟩
def readF (b:List UInt8):Batch×List Reject×Int :=
 if (fstF b).2.2≠0 then (B0,[],(fstF b).2.2) else
 let u:=unwF (fstF b).2.1
 if u.2.2≠0 then (B0,[],u.2.2) else
 let d:=decAll (fstF b).1.format u.1
 if d.2.2≠0 then (B0,[],d.2.2) else
 let t:=trlF u.2.1
 if t.2≠0 then (B0,[],t.2) else
 if ((!(eqVs (Totals.vals t.1) (Totals.vals ⟨(d.1.length:Int),totT d.1⟩))) || ((fstF b).1.count != (d.1.length:Int)))=true then (B0,[],14) else
 if d.1.all (fun r=>r.source==(fstF b).1.source)=true then (⟨(fstF b).1.source,(fstF b).1.number,(fstF b).1.format,d.1⟩,d.2.1,0) else (B0,[],8)
theorem fstF_le (b:List UInt8):(fstF b).2.1.length≤b.length:=by
 have:=unwF_le b
 unfold fstF
 split
 ·simp
 ·split
  ·simp
  ·split
   ·simp
   ·simp only; omega
theorem p_readL (y1:Head×List UInt8×Int) (y3:List Record×List Reject×Int) (hl:y3.1.length≤100000):loop (fun s=>f_batch_Read_l1 y1 y3 s) 0=some (if y3.1.all (fun r=>r.source==y1.1.source)=true then ((⟨y1.1.source,y1.1.number,y1.1.format,y3.1⟩:Batch),y3.2.1,(0:Int)) else (B0,[],8)):=by
 refine loop_all y3.1 (fun r=>r.source==y1.1.source) _ _ (by omega) (fun i h0 hi=>?_) (fun i hi=>?_)
 ·unfold f_batch_Read_l1
  rw [if_pos (by simpa using hi),ck_pos ⟨h0,hi⟩]
  by_cases h:(nth y3.1 i.toNat).source=y1.1.source
  ·rw [if_neg (by simp [h]),ck_pos (by omega),if_pos (by simp [h])]
  ·rw [if_pos (by simpa using h),if_neg (by simpa using h)]; rfl
 ·subst hi
  unfold f_batch_Read_l1
  rw [if_neg (by simp)]; rfl
theorem p_Read (b:List UInt8) (hb:b.length≤100000):f_batch_Read b=some (readF b):=by
 unfold f_batch_Read readF
 have l1:=fstF_le b
 rw [p_first b hb]
 simp only [Option.bind_some]
 by_cases e1:(fstF b).2.2=0
 ·have l2:=unwF_le (fstF b).2.1
  simp only [e1,ne_eq,not_true_eq_false,if_false]
  rw [if_neg (by decide),p_Unwrap _ (by omega)]
  simp only [Option.bind_some]
  generalize unwF (fstF b).2.1=u at *
  by_cases e2:u.2.2=0
  ·have l3:=decAll_len (fstF b).1.format u.1
   simp only [e2,not_true_eq_false,if_false]
   rw [if_neg (by decide),p_decode _ _ (by omega)]
   simp only [Option.bind_some]
   generalize hd:decAll (fstF b).1.format u.1=d at *
   by_cases e3:d.2.2=0
   ·obtain ⟨t,g1,g2⟩:=p_trailer u.2.1 (by omega)
    simp only [e3,not_true_eq_false,if_false]
    rw [if_neg (by decide),g1]
    simp only [Option.bind_some]
    by_cases e4:(trlF u.2.1).2=0
    ·have g3:=g2 e4
     subst g3
     simp only [e4,not_true_eq_false,if_false]
     rw [if_neg (by decide),p_Totals _ (by omega)]
     simp only [Option.bind_some]
     rw [p_readL _ _ (by omega)]
     split <;> rfl
    ·simp only [e4,not_false_eq_true,if_true]
     rw [if_pos (by simpa using e4)]; rfl
   ·simp only [e3,not_false_eq_true,if_true]
    rw [if_pos (by simpa using e3)]; rfl
  ·simp only [e2,not_false_eq_true,if_true]
   rw [if_pos (by simpa using e2)]; rfl
 ·simp only [e1,ne_eq,not_false_eq_true,if_true]
  rw [if_pos (by simpa using e1)]; rfl
theorem p_bSame (b:Batch) (h:b.records.length≤100000):f_r12_Same b b=some true:=by
 unfold f_r12_Same
 rw [C9.p_Same _ h]
 simp [gcall]
end Go.Proofs.YthoengcicaicoaaGreatDoor
namespace Go.Proofs.YthoengcicaicoaaGreatDoor
open Go.RowKit Go.Abs
open C10 (bytesT enc_len p_Encode10 p_rEncode10 encL elsF)
open C11 (bytesF bodyF_len p_Encode11 p_rEncode11)
open C9 (p_rEncode)
def recF (f:Int) (r:Record):List UInt8:=if f=2 then bytesT r else if f=3 then bytesF r else lineF r++[10]
def payF (f:Int) (l:List Record):List UInt8:=(l.map (recF f)).flatten
theorem lineF_le {r:Record} (h:errF r=0):(lineF r).length≤400:=by
 obtain ⟨h1,h2⟩:=words_le (errF_good h)
 have:=join_len [32] (wordsF r) 21 h2
 have h3:(wordsF r).length*(21+([32]:List UInt8).length)≤13*22:=Nat.mul_le_mul h1 (by simp)
 unfold lineF; omega
theorem recF_le {r:Record} (h:errF r=0) (ha:r.a.length < 1000000000) (hb:r.b.length < 1000000000) (f:Int):(recF f r).length≤401:=by
 unfold recF
 split
 ·have:=enc_len (errF_good h) ha hb
  simp [bytesT]; omega
 ·split
  ·simp [bytesF,bodyF_len]
  ·have:=lineF_le h
   simp; omega
def OkL (l:List Record):Prop:=∀ r,r∈l→errF r=0
theorem chkL_ok:∀ (src:Int) (l:List Record),chkL src l=0→OkL l
 | src,[],_=>by intro r hr; cases hr
 | src,r :: l,h=>by
  unfold chkL at h
  by_cases he:errF r=0
  ·rw [if_pos he] at h
   by_cases hs:r.source=src
   ·rw [if_pos hs] at h
    intro x hx
    rcases List.mem_cons.1 hx with rfl | hx
    ·exact he
    ·exact chkL_ok src l h x hx
   ·rw [if_neg hs] at h; cases h
  ·rw [if_neg he] at h; exact absurd h he
theorem p_payload (f:Int) (l:List Record) (hf:1≤f∧f≤3) (h:OkL l) (hs:SmL l) (hl:l.length≤2000):f_batch_payload f l=some (payF f l):=by
 unfold f_batch_payload
 by_cases h2:f=2
 ·subst h2
  rw [if_pos (by decide)]
  have:g_api_Record_byte l=some (payF 2 l):=by
   unfold g_api_Record_byte
   refine collect (step:=fun s:List UInt8×Int=>g_api_Record_byte_l1 l s.1 s.2) l (recF 2) some 401 (fun x hx=>recF_le (h x hx) (hs x hx).1 (hs x hx).2 2) (by omega) (by omega) (fun out i h0 hi ho=>?_) (fun out ho=>?_)
   ·have hm:=nth_mem' (l:=l) (k:=i.toNat) (by omega)
    have hr:=recF_le (h _ hm) (hs _ hm).1 (hs _ hm).2 2
    have e:recF 2 (nth l i.toNat)=bytesT (nth l i.toNat):=by unfold recF; rw [if_pos rfl]
    rw [e] at hr ⊢
    show g_api_Record_byte_l1 l out i=_
    unfold g_api_Record_byte_l1
    rw [if_pos (by simpa using hi),ck_pos ⟨h0,hi⟩,p_Encode10 _ (hs _ hm).1 (hs _ hm).2,if_pos (h _ hm)]
    simp only [Option.bind_some]
    rw [ck_pos (by omega),ck_pos (by omega)]
   ·show ∃ r,g_api_Record_byte_l1 l out (l.length:Int)=_∧_
    unfold g_api_Record_byte_l1
    rw [if_neg (by simp)]
    exact ⟨_,rfl,rfl⟩
  rw [this]; rfl
 ·rw [if_neg (by simpa using h2)]
  by_cases h3:f=3
  ·subst h3
   rw [if_pos (by decide)]
   have:g_api_Record_byte_v1 l=some (payF 3 l):=by
    unfold g_api_Record_byte_v1
    refine collect (step:=fun s:List UInt8×Int=>g_api_Record_byte_v1_l1 l s.1 s.2) l (recF 3) some 401 (fun x hx=>recF_le (h x hx) (hs x hx).1 (hs x hx).2 3) (by omega) (by omega) (fun out i h0 hi ho=>?_) (fun out ho=>?_)
    ·have hm:=nth_mem' (l:=l) (k:=i.toNat) (by omega)
     have hr:=recF_le (h _ hm) (hs _ hm).1 (hs _ hm).2 3
     have e:recF 3 (nth l i.toNat)=bytesF (nth l i.toNat):=by unfold recF; rw [if_neg (by decide),if_pos rfl]
     rw [e] at hr ⊢
     show g_api_Record_byte_v1_l1 l out i=_
     unfold g_api_Record_byte_v1_l1
     rw [if_pos (by simpa using hi),ck_pos ⟨h0,hi⟩,p_Encode11 _ (hs _ hm).1 (hs _ hm).2,if_pos (h _ hm)]
     simp only [Option.bind_some]
     rw [ck_pos (by omega),ck_pos (by omega)]
    ·show ∃ r,g_api_Record_byte_v1_l1 l out (l.length:Int)=_∧_
     unfold g_api_Record_byte_v1_l1
     rw [if_neg (by simp)]
     exact ⟨_,rfl,rfl⟩
   rw [this]; rfl
  ·rw [if_neg (by simpa using h3)]
   have:g_api_Record_string l=some (payF f l):=by
    unfold g_api_Record_string
    refine collect (step:=fun s:List UInt8×Int=>g_api_Record_string_l1 l s.1 s.2) l (recF f) some 401 (fun x hx=>recF_le (h x hx) (hs x hx).1 (hs x hx).2 f) (by omega) (by omega) (fun out i h0 hi ho=>?_) (fun out ho=>?_)
    ·have hm:=nth_mem' (l:=l) (k:=i.toNat) (by omega)
     have hr:=recF_le (h _ hm) (hs _ hm).1 (hs _ hm).2 f
     have e:recF f (nth l i.toNat)=lineF (nth l i.toNat)++[10]:=by unfold recF; rw [if_neg h2,if_neg h3]
     rw [e] at hr ⊢
     simp only [List.length_append] at hr
     show g_api_Record_string_l1 l out i=_
     unfold g_api_Record_string_l1 f_batch_line
     rw [if_pos (by simpa using hi),ck_pos ⟨h0,hi⟩,p_Encode _ (hs _ hm).1 (hs _ hm).2,if_pos (h _ hm)]
     simp only [Option.bind_some]
     rw [ck_pos (by simp at hr ⊢; omega)]
     simp only [Option.bind_some]
     rw [ck_pos (by simp at hr ⊢; omega),ck_pos (by omega)]
    ·show ∃ r,g_api_Record_string_l1 l out (l.length:Int)=_∧_
     unfold g_api_Record_string_l1
     rw [if_neg (by simp)]
     exact ⟨_,rfl,rfl⟩
   rw [this]; rfl
def headN (b:Batch):List Int:=[b.source,b.number,b.format,(b.records.length:Int)]
def trailN (b:Batch):List Int:=[(b.records.length:Int),sumT b.records 1,sumT b.records 2,sumT b.records 3,sumT b.records 4]
def paysF (b:Batch):List (List UInt8):=[numsF (headN b),payF b.format b.records,numsF (trailN b)]
def fileF (b:Batch):List UInt8:=joinW (paysF b)
theorem numsF_le (l:List Int) (h:NumL l):(numsF l).length≤l.length*10:=by
 induction l with
 | nil=>simp [numsF]
 | cons n l ih =>
  have h1:=vb_le (u:=2*n) (by have:=h n (by simp); omega)
  have h2:=ih fun x hx=>h x (by simp [hx])
  unfold numsF at h2 ⊢
  simp only [List.map_cons,List.flatten_cons,List.length_append,List.length_cons]
  omega
theorem payF_le:∀ (l:List Record) (f:Int),OkL l→SmL l→(payF f l).length≤l.length*401
 | [],f,_,_=>by simp [payF]
 | r :: l,f,h,hs=>by
  have h1:=recF_le (h r (by simp)) (hs r (by simp)).1 (hs r (by simp)).2 f
  have h2:=payF_le l f (fun x hx=>h x (by simp [hx])) (fun x hx=>hs x (by simp [hx]))
  unfold payF at h2 ⊢
  simp only [List.map_cons,List.flatten_cons,List.length_append,List.length_cons]
  omega
theorem chk_parts {b:Batch} (h:chkF b=0):(1≤b.source∧b.source≤99)∧(1≤b.number∧b.number≤999999999)∧(1≤b.format∧b.format≤3)∧b.records.length≤4096∧OkL b.records:=by
 unfold chkF at h
 by_cases h1:hdF b.source b.number b.format=0
 ·rw [if_pos h1] at h
  by_cases h2:4096 < b.records.length
  ·rw [if_pos h2] at h; cases h
  ·rw [if_neg h2] at h
   unfold hdF at h1
   by_cases h3:(b.source < 1∨99 < b.source)∨(b.number < 1∨999999999 < b.number)
   ·rw [if_pos h3] at h1; cases h1
   ·rw [if_neg h3] at h1
    by_cases h4:b.format < 1∨3 < b.format
    ·rw [if_pos h4] at h1; cases h1
    ·exact ⟨by omega,by omega,by omega,by omega,chkL_ok _ _ h⟩
 ·rw [if_neg h1] at h; exact absurd h h1
theorem head_num {b:Batch} (h:chkF b=0):NumL (headN b):=by
 obtain ⟨h1,h2,h3,h4,_⟩:=chk_parts h
 intro n hn
 simp [headN] at hn
 omega
theorem trail_num {b:Batch} (h:chkF b=0):NumL (trailN b):=by
 obtain ⟨_,_,_,h4,_⟩:=chk_parts h
 have a1:=sumT_bd b.records 1
 have a2:=sumT_bd b.records 2
 have a3:=sumT_bd b.records 3
 have a4:=sumT_bd b.records 4
 intro n hn
 simp [trailN] at hn
 omega
theorem pays_le {b:Batch} (h:chkF b=0) (hs:SmL b.records) (hl:b.records.length≤2000):∀ x,x∈paysF b→x.length≤1048576:=by
 obtain ⟨_,_,_,_,h5⟩:=chk_parts h
 have a1:=numsF_le _ (head_num h)
 have a2:=numsF_le _ (trail_num h)
 have a3:=payF_le b.records b.format h5 hs
 intro x hx
 simp [paysF] at hx
 have b1:(headN b).length=4:=rfl
 have b2:(trailN b).length=5:=rfl
 rcases hx with rfl | rfl | rfl <;> omega
theorem p_Write (b:Batch) (hs:SmL b.records) (hl:b.records.length≤2000):f_batch_Write b=some (if chkF b=0 then fileF b else [],chkF b):=by
 unfold f_batch_Write
 rw [p_Check b hs]
 simp only [Option.bind_some]
 by_cases h:chkF b=0
 ·obtain ⟨h1,h2,h3,h4,h5⟩:=chk_parts h
  rw [if_neg (by simp [h]),if_pos h]
  unfold f_batch_headOf
  rw [p_Totals _ (by omega)]
  simp only [Option.bind_some,nth_totT b.records (k:=1) (by decide),nth_totT b.records (k:=2) (by decide),nth_totT b.records (k:=3) (by decide),nth_totT b.records (k:=4) (by decide)]
  rw [show ([b.source,b.number,b.format,(b.records.length:Int)]:List Int)=headN b from rfl,p_nums _ (head_num h) (by simp [headN]),p_payload _ _ h3 h5 hs hl]
  simp only [Option.bind_some]
  rw [ck_pos (by simp),show (([(b.records.length:Int)]:List Int)++[sumT b.records 1,sumT b.records 2,sumT b.records 3,sumT b.records 4])=trailN b from rfl,p_nums _ (trail_num h) (by simp [trailN])]
  simp only [Option.bind_some]
  rw [show [numsF (headN b),payF b.format b.records,numsF (trailN b)]=paysF b from rfl,p_Join _ (pays_le h hs hl) (by simp [paysF])]
  simp only [Option.bind_some,h]; rfl
 ·rw [if_pos (by simpa using h),if_neg h]
theorem p_rPays (b:Batch) (h:chkF b=0) (hs:SmL b.records) (hl:b.records.length≤2000):f_r12_Payloads b=some (paysF b):=by
 obtain ⟨h1,h2,h3,h4,h5⟩:=chk_parts h
 unfold f_r12_Payloads
 refine (collect (step:=fun s:List UInt8×Int=>f_r12_Payloads_l1 b s.1 s.2) b.records (recF b.format) (fun o=>some [numsF (headN b),o,numsF (trailN b)]) 401 (fun x hx=>recF_le (h5 x hx) (hs x hx).1 (hs x hx).2 _) (by omega) (by omega) (fun out i h0 hi ho=>?_) (fun out ho=>?_)).trans rfl
 ·have hm:=nth_mem' (l:=b.records) (k:=i.toNat) (by omega)
  have hr:=recF_le (h5 _ hm) (hs _ hm).1 (hs _ hm).2 b.format
  show f_r12_Payloads_l1 b out i=_
  unfold f_r12_Payloads_l1
  rw [if_pos (by simpa using hi),ck_pos ⟨h0,hi⟩]
  generalize hx:nth b.records i.toNat=r at *
  by_cases f1:b.format=1
  ·have e:recF b.format r=lineF r++[10]:=by unfold recF; rw [if_neg (by omega),if_neg (by omega)]
   rw [e] at hr ⊢
   simp only [List.length_append,List.length_cons,List.length_nil] at hr
   rw [if_pos (by simpa using f1),p_rEncode _ (hs _ hm).1 (hs _ hm).2,if_pos (h5 _ hm)]
   simp only [Option.bind_some]
   rw [ck_pos (by simp; omega),ck_pos (by simp; omega),ck_pos (by omega)]
  ·rw [if_neg (by simpa using f1)]
   by_cases f2:b.format=2
   ·have e:recF b.format r=bytesT r:=by unfold recF; rw [if_pos f2]
    rw [e] at hr ⊢
    rw [if_pos (by simpa using f2),p_rEncode10 _ (hs _ hm).1 (hs _ hm).2,if_pos (h5 _ hm)]
    simp only [Option.bind_some]
    rw [ck_pos (by omega),ck_pos (by omega)]
   ·have e:recF b.format r=bytesF r:=by unfold recF; rw [if_neg f2,if_pos (by omega)]
    rw [e] at hr ⊢
    rw [if_neg (by simpa using f2),p_rEncode11 _ (hs _ hm).1 (hs _ hm).2,if_pos (h5 _ hm)]
    simp only [Option.bind_some]
    rw [ck_pos (by omega),ck_pos (by omega)]
 ·show ∃ r,f_r12_Payloads_l1 b out (b.records.length:Int)=_∧_
  unfold f_r12_Payloads_l1 f_r12_Payloads_j1
  rw [if_neg (by simp),p_rTotals _ (by omega)]
  simp only [Option.bind_some,nth_totT b.records (k:=1) (by decide),nth_totT b.records (k:=2) (by decide),nth_totT b.records (k:=3) (by decide),nth_totT b.records (k:=4) (by decide)]
  rw [show ([b.source,b.number,b.format,(b.records.length:Int)]:List Int)=headN b from rfl,p_rnums _ (head_num h) (by simp [headN]),
   show ([(b.records.length:Int),sumT b.records 1,sumT b.records 2,sumT b.records 3,sumT b.records 4]:List Int)=trailN b from rfl,p_rnums _ (trail_num h) (by simp [trailN])]
  exact ⟨_,rfl,rfl⟩
end Go.Proofs.YthoengcicaicoaaGreatDoor
namespace Go.Proofs.YthoengcicaicoaaGreatDoor
open Go.RowKit Go.Abs
theorem ofInt_toNat {n:Int} (h0:0≤n) (h1:n≤255):((UInt8.ofInt n).toNat:Int)=n:=by
 rw [ofInt_nat h0]; simp; omega
theorem numC_vb:∀ (k i:Nat) (u w:Int) (X:List UInt8),0≤u→u < 128 ^ k→1≤k→i+k≤9→(0 < i→u≠0)→numC i w (vb u++X)=(zz (w+u*128 ^ i),i+(vb u).length,0)
 | 0,i,u,w,X,_,_,h,_,_=>by omega
 | k+1,i,u,w,X,h0,h1,_,hk,hz=>by
  rw [Int.pow_succ] at h1
  by_cases hu:127 < u
  ·have hv:vb u=UInt8.ofInt (128+u % 128) :: vb (u / 128):=by rw [vb]; rw [if_pos hu]
   have hk1:1≤k:=by
    rcases Nat.eq_zero_or_pos k with h | h
    ·subst h; simp at h1; omega
    ·exact h
   have hx:((UInt8.ofInt (128+u % 128)).toNat:Int)=128+u % 128:=ofInt_toNat (by omega) (by omega)
   have ih:=numC_vb k (i+1) (u / 128) (w+u % 128*128 ^ i) X (by omega) (by generalize (128:Int) ^ k=p at *; omega) hk1 (by omega) (fun _=>by omega)
   rw [hv,List.cons_append]
   unfold numC
   rw [if_neg,if_neg (by omega)]
   ·have hm:(((UInt8.ofInt (128+u % 128)).toNat % 128:Nat):Int)=u % 128:=by omega
    rw [hm,ih]
    have e:w+u % 128*128 ^ i+u / 128*128 ^ (i+1)=w+u*128 ^ i:=by
     rw [Int.pow_succ]
     have:u*128 ^ i=(u % 128+128*(u / 128))*128 ^ i:=by rw [Int.emod_add_mul_ediv]
     rw [this,Int.add_mul]
     have e2:u / 128*(128 ^ i*128)=128*(u / 128)*128 ^ i:=by
      rw [Int.mul_comm (128 ^ i) 128,←Int.mul_assoc,Int.mul_comm (u / 128) 128]
     omega
    rw [e,List.length_cons]
    simp only [Prod.mk.injEq,true_and,and_true]
    omega
   ·rintro (⟨h,_⟩ | ⟨_,h⟩)
    ·omega
    ·rw [h] at hx
     have:(0:UInt8).toNat=0:=rfl
     omega
  ·have hv:vb u=[UInt8.ofInt u]:=by rw [vb]; rw [if_neg hu]
   have hx:((UInt8.ofInt u).toNat:Int)=u:=ofInt_toNat (by omega) (by omega)
   rw [hv,List.cons_append]
   unfold numC
   rw [if_neg,if_pos (by omega),hx]
   ·rfl
   ·rintro (⟨h,_⟩ | ⟨hi,h⟩)
    ·omega
    ·rw [h] at hx
     have:(0:UInt8).toNat=0:=rfl
     exact hz hi (by omega)
theorem zz_two {n:Int}:zz (2*n)=n:=by
 unfold zz
 rw [if_neg (by omega)]; omega
theorem numC_put {n:Int} (h0:0≤n) (h1:n≤4000000000000000) (X:List UInt8):numC 0 0 (vb (2*n)++X)=(n,(vb (2*n)).length,0):=by
 have:=numC_vb 9 0 (2*n) 0 X (by omega) (by rw [show (128:Int) ^ 9=9223372036854775808 from by decide]; omega) (by omega) (by omega) (by omega)
 rw [this]
 simp [zz_two]
theorem numN_put {n:Int} (h0:0≤n) (h1:n≤4000000000000000) (X:List UInt8):numN (vb (2*n)++X)=(n,X,0):=by
 rw [numN_of,numC_put h0 h1]
 simp
def SmN (l:List Int):Prop:=∀ n,n∈l→0≤n∧n≤4000000000000000
theorem takF_put:∀ l:List Int,SmN l→takF l.length (numsF l)=(l,0)
 | [],_=>rfl
 | n :: l,h=>by
  have hn:=h n (by simp)
  have ih:=takF_put l fun x hx=>h x (by simp [hx])
  have e:numsF (n :: l)=vb (2*n)++numsF l:=by simp [numsF]
  rw [List.length_cons,e]
  unfold takF
  rw [numN_put hn.1 hn.2]
  simp [ih]
theorem sum_bd (b:List UInt8) (hb:b.length≤1000000000):0≤sumW b∧sumW b < 4294967296:=by
 have hw:∀ n:Int,0≤IntKind.wrap .u32 n∧IntKind.wrap .u32 n < 4294967296:=fun n=>by simp [IntKind.wrap,IntKind.bits,IntKind.signed]; omega
 have:=p_Sum b hb
 unfold f_frame_Sum at this
 obtain ⟨r,h,hr⟩:=loop_post (step:=fun s:Int×Int=>f_frame_Sum_l1 b s.1 s.2) (fun r=>0≤r∧r < 4294967296) (fun s=>(0≤s.1∧s.1 < 4294967296)∧0≤s.2∧s.2≤(b.length:Int)) (fun s=>((b.length:Int) - s.2).toNat) (by
  rintro ⟨n,i⟩ ⟨hn,h0,h1⟩
  simp only at hn h0 h1 ⊢
  unfold f_frame_Sum_l1
  by_cases hi:i < (b.length:Int)
  ·rw [if_pos (by simpa using hi),ck_pos ⟨h0,hi⟩,ck_pos (by omega)]
   exact .inr ⟨_,rfl,⟨hw _,by simp only; omega,by simp only; omega⟩,by simp only; omega⟩
  ·rw [if_neg (by simpa using hi)]
   exact .inl ⟨_,rfl,hn⟩) (s:=(2166136261,0)) ⟨by simp,by simp,by simp⟩ (by simp only; omega)
 rw [h] at this
 cases this
 exact hr
def sum4 (b:List UInt8):List UInt8:=[UInt8.ofInt (Int.fdiv (sumW b) (2 ^ (min (Int.toNat (24)) 32))),UInt8.ofInt (Int.fdiv (sumW b) (2 ^ (min (Int.toNat (16)) 32))),UInt8.ofInt (Int.fdiv (sumW b) (2 ^ (min (Int.toNat (8)) 32))),UInt8.ofInt (sumW b)]
theorem wrapF_eq (b:List UInt8):wrapF b=vb (2*(b.length:Int))++(sum4 b++b):=by simp [wrapF,sum4]
theorem ofInt_mod {n:Int} (h:0≤n):((UInt8.ofInt n).toNat:Int)=n % 256:=by
 rw [ofInt_nat h]; simp; omega
theorem be4_sum {s:Int} (h0:0≤s) (h1:s < 4294967296):be4 (UInt8.ofInt (Int.fdiv s (2 ^ (min (Int.toNat (24)) 32)))) (UInt8.ofInt (Int.fdiv s (2 ^ (min (Int.toNat (16)) 32)))) (UInt8.ofInt (Int.fdiv s (2 ^ (min (Int.toNat (8)) 32)))) (UInt8.ofInt s)=s:=by
 have e1:(2:Int) ^ (min (Int.toNat (24)) 32)=16777216:=by decide
 have e2:(2:Int) ^ (min (Int.toNat (16)) 32)=65536:=by decide
 have e3:(2:Int) ^ (min (Int.toNat (8)) 32)=256:=by decide
 rw [e1,e2,e3,Int.fdiv_eq_ediv_of_nonneg _ (by decide),Int.fdiv_eq_ediv_of_nonneg _ (by decide),Int.fdiv_eq_ediv_of_nonneg _ (by decide)]
 unfold be4
 rw [ofInt_mod (by omega),ofInt_mod (by omega),ofInt_mod (by omega),ofInt_mod (by omega)]
 omega
theorem nth_app {α:Type} [Inhabited α] (a b:List α) (k:Nat):nth (a++b) (a.length+k)=nth b k:=by
 simp [nth,List.getElem?_append_right]
theorem unw_parts {n:Int} (h0:0≤n) (h1:n≤1048576) (s p rest:List UInt8) (hs:s.length=4) (hp:(p.length:Int)=n) :
  unwF (vb (2*n)++(s++(p++rest)))=if sumW p≠be4 (nth s 0) (nth s 1) (nth s 2) (nth s 3) then ([],[],4) else (p,rest,0):=by
 unfold unwF
 rw [numC_put h0 (by omega)]
 simp only [ne_eq,not_true_eq_false,if_false]
 have hn:n.toNat=p.length:=by omega
 generalize hv:vb (2*n)=v
 match s,hs with
 | [a,b,c,d],_ =>
  have d4:(v++([a,b,c,d]++(p++rest))).drop (v.length+4)=p++rest:=by
   rw [←List.drop_drop,List.drop_left]; rfl
  have d5:(v++([a,b,c,d]++(p++rest))).drop (v.length+4+p.length)=rest:=by
   rw [←List.drop_drop,d4,List.drop_left]
  rw [if_neg (by omega),if_neg (by omega),if_neg (by simp; omega),hn,d4,d5,List.take_left]
  have n0:=nth_app v ([a,b,c,d]++(p++rest)) 0
  have n1:=nth_app v ([a,b,c,d]++(p++rest)) 1
  have n2:=nth_app v ([a,b,c,d]++(p++rest)) 2
  have n3:=nth_app v ([a,b,c,d]++(p++rest)) 3
  rw [Nat.add_zero] at n0
  rw [n0,n1,n2,n3]
  rfl
theorem unw_wrap (p rest:List UInt8) (h:p.length≤1048576):unwF (wrapF p++rest)=(p,rest,0):=by
 have hb:=sum_bd p (by omega)
 rw [wrapF_eq,List.append_assoc,List.append_assoc,unw_parts (by omega) (by omega) (sum4 p) p rest rfl rfl,if_neg]
 have:=be4_sum hb.1 hb.2
 intro hne
 exact hne this.symm
theorem head_sm {b:Batch} (h:chkF b=0) (hl:b.records.length≤2000):SmN (headN b):=by
 obtain ⟨h1,h2,h3,h4,_⟩:=chk_parts h
 intro n hn
 simp [headN] at hn
 omega
theorem trail_sm {b:Batch} (h:chkF b=0) (hl:b.records.length≤1000):SmN (trailN b):=by
 have a1:=sumT_bd b.records 1
 have a2:=sumT_bd b.records 2
 have a3:=sumT_bd b.records 3
 have a4:=sumT_bd b.records 4
 intro n hn
 simp [trailN] at hn
 omega
theorem file_parts (b:Batch):fileF b=wrapF (numsF (headN b))++(wrapF (payF b.format b.records)++(wrapF (numsF (trailN b))++[])):=by
 simp [fileF,joinW,paysF]
theorem sumT_zero:∀ l:List Record,sumT l 0=0
 | []=>rfl
 | r :: l=>by
  have ih:=sumT_zero l
  have:conT r 0=0:=by
   unfold conT
   rw [if_neg]
   rintro ⟨h,h2⟩
   unfold okT at h
   have:=of_decide_eq_true h
   omega
  unfold sumT
  rw [this,ih]; rfl
theorem chkL_src:∀ (src:Int) (l:List Record),chkL src l=0→∀ r,r∈l→r.source=src
 | src,[],_=>by intro r hr; cases hr
 | src,q :: l,h=>by
  unfold chkL at h
  by_cases he:errF q=0
  ·rw [if_pos he] at h
   by_cases hs:q.source=src
   ·rw [if_pos hs] at h
    intro x hx
    rcases List.mem_cons.1 hx with rfl | hx
    ·exact hs
    ·exact chkL_src src l h x hx
   ·rw [if_neg hs] at h; cases h
  ·rw [if_neg he] at h; exact absurd h he
end Go.Proofs.YthoengcicaicoaaGreatDoor
namespace Go.Proofs.YthoengcicaicoaaGreatDoor.C9
open Go.RowKit Go.Abs
def catL (xs:List (List UInt8)):List UInt8:=(xs.map (·++[10])).flatten
theorem catL_snoc (xs:List (List UInt8)) (x:List UInt8):catL (xs++[x])=catL xs++x++[10]:=by simp [catL]
theorem cut_cat:∀ xs:List (List UInt8),(∀ x,x∈xs→free 10 x)→cutL 10 (catL xs)=xs++[[]]
 | [],_=>rfl
 | x :: r,h=>by
  have e:catL (x :: r)=x++10 :: catL r:=by simp [catL]
  rw [e,cutL_more (h x (by simp)),cut_cat r (fun y hy=>h y (by simp [hy]))]
  rfl
theorem catL_last (xs:List (List UInt8)):catL xs=[]∨∃ t,catL xs=t++[10]:=by
 rcases List.eq_nil_or_concat xs with rfl | ⟨ys,y,rfl⟩
 ·exact .inl rfl
 ·right
  rw [List.concat_eq_append,catL_snoc]
  exact ⟨_,rfl⟩
theorem lines_cat {xs:List (List UInt8)} (h:∀ x,x∈xs→free 10 x) (hl:xs.length≤4096):linesF (catL xs)=(xs,0):=by
 unfold linesF
 rw [if_neg]
 ·rw [cut_cat xs h,if_neg (by simp; omega)]
  simp
 ·rintro ⟨h1,h2⟩
  rcases catL_last xs with e | ⟨t,e⟩
  ·exact h1 e
  ·apply h2
   rw [e]
   simp [nth]
theorem good_lines:∀ (w:List Record) (i:Int),(∀ r,r∈w→errF r=0)→okLs (w.map lineF)=w∧noLs i (w.map lineF)=[]
 | [],_,_=>⟨rfl,rfl⟩
 | r :: w,i,h=>by
  have hr:=dec_line (h r (by simp))
  have ih:=good_lines w (i+1) (fun q hq=>h q (by simp [hq]))
  rw [List.map_cons,okLs,noLs,hr]
  simp [ih.1,ih.2]
end Go.Proofs.YthoengcicaicoaaGreatDoor.C9
namespace Go.Proofs.YthoengcicaicoaaGreatDoor
open Go.RowKit Go.Abs
theorem join_free {c:UInt8} (hc:c≠32):∀ ws:List (List UInt8),(∀ w,w∈ws→C9.free c w)→C9.free c (Go.Lib.join ws [32])
 | [],_=>by rw [Go.Lib.join_nil]; intro x hx; cases hx
 | w :: ws,h=>by
  rw [Go.Lib.join_cons]
  intro y hy
  rcases List.mem_append.1 hy with hy | hy
  ·exact h w (by simp) y hy
  ·unfold Go.Lib.joinTail at hy
   obtain ⟨l,hl,hy⟩:=List.mem_flatten.1 hy
   obtain ⟨v,hv,rfl⟩:=List.mem_map.1 hl
   rcases List.mem_append.1 hy with hy | hy
   ·simp only [List.mem_singleton] at hy
    subst hy
    exact Ne.symm hc
   ·exact h v (by simp [hv]) y hy
theorem line_free {r:Record} (h:errF r=0):C9.free 10 (lineF r):=join_free (by decide) _ (C9.words_free h (.inr rfl))
theorem all_text {l:List Record} (h:OkL l) (hl:l.length≤2000):C9.allF ((l.map fun r=>lineF r++[10]).flatten)=(l,[],0):=by
 have e:(l.map fun r=>lineF r++[10]).flatten=C9.catL (l.map lineF):=by simp [C9.catL,List.map_map,Function.comp_def]
 have hf:∀ x,x∈l.map lineF→C9.free 10 x:=by
  intro x hx
  obtain ⟨r,hr,rfl⟩:=List.mem_map.1 hx
  exact line_free (h r hr)
 have hc:=C9.lines_cat hf (by simp; omega)
 obtain ⟨g1,g2⟩:=C9.good_lines l 0 h
 unfold C9.allF
 rw [e,hc]
 simp [g1,g2]
theorem all_tag:∀ (l:List Record) (i:Nat) (out:List Record),OkL l→SmL l→i+l.length≤4096→C10.allT i out [] ((l.map C10.bytesT).flatten)=(out++l,[],0)
 | [],i,out,_,_,_=>by rw [C10.allT,if_pos (by simp)]; simp
 | r :: l,i,out,h,hs,hl=>by
  have hr:=h r (by simp)
  have sr:=hs r (by simp)
  have ih:=all_tag l (i+1) (out++[r]) (fun x hx=>h x (by simp [hx])) (fun x hx=>hs x (by simp [hx])) (by simp at hl; omega)
  have hen:=C10.enc_len (errF_good hr) sr.1 sr.2
  obtain ⟨p1,p2,p3⟩:=C10.bytesT_parts (r:=r) hen
  have hd:=C10.dec_back sr.1 sr.2 hr
  have e:((r :: l).map C10.bytesT).flatten=C10.bytesT r++(l.map C10.bytesT).flatten:=by simp
  have hh:C10.headN (C10.bytesT r++(l.map C10.bytesT).flatten)=(C10.encL (C10.elsF r)).length:=by
   rw [←p2]
   unfold C10.headN
   rw [C10.nth_app _ _ 0 (by omega),C10.nth_app _ _ 1 (by omega)]
  rw [e,C10.allT,if_neg (by simp [C10.bytesT]),if_neg (by simp at hl; omega),hh,if_neg (by simp; omega)]
  have ht:(C10.bytesT r++(l.map C10.bytesT).flatten).take (2+(C10.encL (C10.elsF r)).length)=C10.bytesT r:=by rw [←p1,List.take_left]
  have hdr:(C10.bytesT r++(l.map C10.bytesT).flatten).drop (2+(C10.encL (C10.elsF r)).length)=(l.map C10.bytesT).flatten:=by rw [←p1,List.drop_left]
  rw [ht,hdr,hd,if_neg (by simp),ih]
  simp
theorem flat45:∀ l:List Record,((l.map C11.bytesF).flatten).length=45*l.length
 | []=>rfl
 | r :: l=>by
  have:=flat45 l
  simp only [List.map_cons,List.flatten_cons,List.length_append,C11.bytes_len,List.length_cons,this]; omega
theorem cut45 (p:List UInt8) (X:List UInt8) (i k:Nat) (hp:p.length=45):C11.cut (p++X) ((i+1)*45) k=C11.cut X (i*45) k:=by
 unfold C11.cut
 rw [show (i+1)*45=p.length+i*45 from by omega,←List.drop_drop,List.drop_left]
theorem okRs_shift (p X:List UInt8) (hp:p.length=45):∀ n i:Nat,C11.okRs (p++X) (i+1) n=C11.okRs X i n∧(C11.noRs X i n=[]→C11.noRs (p++X) (i+1) n=[])
 | 0,i=>⟨rfl,fun _=>rfl⟩
 | n+1,i=>by
  obtain ⟨a,b⟩:=okRs_shift p X hp n (i+1)
  unfold C11.okRs C11.noRs
  rw [cut45 p X i 45 hp,a]
  refine ⟨rfl,?_⟩
  split
  ·exact b
  ·intro h; cases h
theorem okRs_all:∀ l:List Record,OkL l→C11.okRs ((l.map C11.bytesF).flatten) 0 l.length=l∧C11.noRs ((l.map C11.bytesF).flatten) 0 l.length=[]
 | [],_=>⟨rfl,rfl⟩
 | r :: l,h=>by
  obtain ⟨a,b⟩:=okRs_all l fun x hx=>h x (by simp [hx])
  have hr:=C11.read_back (h r (by simp))
  have e:((r :: l).map C11.bytesF).flatten=C11.bytesF r++(l.map C11.bytesF).flatten:=by simp
  have hc:C11.cut (C11.bytesF r++(l.map C11.bytesF).flatten) (0*45) 45=C11.bytesF r:=by
   unfold C11.cut
   rw [Nat.zero_mul,List.drop_zero,←C11.bytes_len r,List.take_left]
  obtain ⟨s1,s2⟩:=okRs_shift (C11.bytesF r) ((l.map C11.bytesF).flatten) (C11.bytes_len r) l.length 0
  rw [e,List.length_cons]
  unfold C11.okRs C11.noRs
  rw [hc,hr,if_pos rfl,if_pos rfl,s1,a]
  exact ⟨rfl,s2 b⟩
theorem all_pack {l:List Record} (h:OkL l) (hl:l.length≤2000):C11.allF ((l.map C11.bytesF).flatten)=(l,[],0):=by
 obtain ⟨a,b⟩:=okRs_all l h
 have hn:=flat45 l
 unfold C11.allF
 have e:((l.map C11.bytesF).flatten).length / 45=l.length:=by omega
 rw [if_neg (by omega),e,if_neg (by omega),a,b]
theorem decAll_pay {f:Int} {l:List Record} (h:OkL l) (hs:SmL l) (hl:l.length≤2000):decAll f (payF f l)=(l,[],0):=by
 unfold decAll payF
 by_cases h2:f=2
 ·have e:recF f=C10.bytesT:=by funext r; unfold recF; rw [if_pos h2]
  rw [if_pos h2,e,all_tag l 0 [] h hs (by omega)]; rfl
 ·by_cases h3:f=3
  ·have e:recF f=C11.bytesF:=by funext r; unfold recF; rw [if_neg h2,if_pos h3]
   rw [if_neg h2,if_pos h3,e,all_pack h hl]
  ·have e:recF f=fun r=>lineF r++[10]:=by funext r; unfold recF; rw [if_neg h2,if_neg h3]
   rw [if_neg h2,if_neg h3,e,all_text h hl]
def hdB (b:Batch):Head:=⟨b.source,b.number,b.format,(b.records.length:Int)⟩
theorem hdE_chk {b:Batch} (h:chkF b=0):hdE (hdB b)=0:=by
 obtain ⟨h1,h2,h3,h4,_⟩:=chk_parts h
 have e:hdF b.source b.number b.format=0:=by
  unfold hdF
  rw [if_neg (by omega),if_neg (by omega)]
 show (if hdF b.source b.number b.format=0 then (if (b.records.length:Int) < 0∨4096 < (b.records.length:Int) then 5 else 0) else hdF b.source b.number b.format)=0
 rw [if_pos e,if_neg (by omega)]
theorem fst_head {b:Batch} (h:chkF b=0) (hl:b.records.length≤1000) (X:List UInt8):fstF (wrapF (numsF (headN b))++X)=(hdB b,X,0):=by
 have h1:=numsF_le _ (head_num h)
 have hu:=unw_wrap (numsF (headN b)) X (by have:(headN b).length=4:=rfl; omega)
 have ht:takF 4 (numsF (headN b))=(headN b,0):=takF_put (headN b) (head_sm h (by omega))
 unfold fstF
 rw [hu]
 simp only [ne_eq,not_true_eq_false,if_false]
 rw [ht]
 have e:hdT (headN b)=hdB b:=rfl
 simp only [not_true_eq_false,if_false,e,hdE_chk h]
theorem trl_trail {b:Batch} (h:chkF b=0) (hl:b.records.length≤1000):trlF (wrapF (numsF (trailN b))++[])=(totL (trailN b),0):=by
 have h1:=numsF_le _ (trail_num h)
 have hu:=unw_wrap (numsF (trailN b)) [] (by have:(trailN b).length=5:=rfl; omega)
 have ht:takF 5 (numsF (trailN b))=(trailN b,0):=takF_put (trailN b) (trail_sm h hl)
 unfold trlF
 rw [hu]
 simp only [ne_eq,not_true_eq_false,if_false]
 rw [if_neg (by simp),ht]
 simp only [not_true_eq_false,if_false]
theorem tot_trail (b:Batch):eqVs (Totals.vals (totL (trailN b))) (Totals.vals ⟨(b.records.length:Int),totT b.records⟩)=true:=by
 have n0:=nth_totT b.records (k:=0) (by decide)
 have n1:=nth_totT b.records (k:=1) (by decide)
 have n2:=nth_totT b.records (k:=2) (by decide)
 have n3:=nth_totT b.records (k:=3) (by decide)
 have n4:=nth_totT b.records (k:=4) (by decide)
 rw [sumT_zero] at n0
 unfold Totals.vals
 simp only [n0,n1,n2,n3,n4]
 simp [totL,trailN,nth,eqVs,eqV]
theorem read_file {b:Batch} (h:chkF b=0) (hs:SmL b.records) (hl:b.records.length≤1000):readF (fileF b)=(b,[],0):=by
 obtain ⟨h1,h2,h3,h4,h5⟩:=chk_parts h
 have hp:=payF_le b.records b.format h5 hs
 have hsrc:=chkL_src b.source b.records (by
  unfold chkF at h
  split at h
  ·split at h
   ·cases h
   ·exact h
  ·rename_i hne; exact absurd h hne)
 rw [file_parts]
 unfold readF
 rw [fst_head h hl]
 simp only [ne_eq,not_true_eq_false,if_false]
 rw [unw_wrap _ _ (by omega)]
 simp only [not_true_eq_false,if_false]
 have e:(hdB b).format=b.format:=rfl
 rw [e,decAll_pay h5 hs (by omega)]
 simp only [not_true_eq_false,if_false]
 rw [trl_trail h hl]
 simp only [not_true_eq_false,if_false]
 rw [tot_trail,if_neg (by simp [hdB]),if_pos]
 ·rfl
 ·simp only [List.all_eq_true,beq_iff_eq]
  exact fun r hr=>hsrc r hr
def stepS (n:Int) (x:UInt8):Int:=IntKind.wrap .u32 ((bXor .u32 n (IntKind.wrap .u32 (x.toNat:Int)))*16777619)
def sumS:Int→List UInt8→Int
 | n,[]=>n
 | n,x :: l=>sumS (stepS n x) l
theorem sumS_app:∀ (a b:List UInt8) (n:Int),sumS n (a++b)=sumS (sumS n a) b
 | [],b,n=>rfl
 | x :: a,b,n=>by simp only [List.cons_append,sumS]; exact sumS_app a b _
theorem sumW_eq (b:List UInt8) (hb:b.length≤1000000000):sumW b=sumS 2166136261 b:=by
 have h:=p_Sum b hb
 have:=loop_spec (step:=fun s:Int×Int=>f_frame_Sum_l1 b s.1 s.2) (fun s=>some (sumS s.1 (b.drop s.2.toNat))) (fun s=>0≤s.2∧s.2≤(b.length:Int)) (fun s=>((b.length:Int) - s.2).toNat) (by
  rintro ⟨n,i⟩ ⟨h0,h1⟩
  simp only at h0 h1 ⊢
  unfold f_frame_Sum_l1
  by_cases hi:i < (b.length:Int)
  ·rw [if_pos (by simpa using hi),ck_pos ⟨h0,hi⟩,ck_pos (by omega)]
   refine .inr ⟨_,rfl,⟨by simp only; omega,by simp only; omega⟩,by simp only; omega,?_⟩
   simp only
   rw [show (i+1).toNat=i.toNat+1 from by omega,drop_nth (l:=b) (k:=i.toNat) (by omega)]
   rfl
  ·have e:i=(b.length:Int):=by omega
   subst e
   rw [if_neg (by simp)]
   refine .inl ⟨_,rfl,?_⟩
   simp [sumS]) (s:=(2166136261,0)) ⟨by simp,by simp⟩ (by simp only; omega)
 unfold f_frame_Sum at h
 rw [h] at this
 simpa using this
theorem u32_bd (n:Int):0≤IntKind.wrap .u32 n∧IntKind.wrap .u32 n < 4294967296:=by simp [IntKind.wrap,IntKind.bits,IntKind.signed]; omega
theorem wrap_u32_eq (n:Int):IntKind.wrap .u32 n=n % 4294967296:=by simp [IntKind.wrap,IntKind.bits,IntKind.signed]
theorem mul_back {a:Int} (ha:0≤a∧a < 4294967296):(a*16777619 % 4294967296)*899433627 % 4294967296=a:=by
 rw [Int.mul_emod,Int.emod_emod,←Int.mul_emod,Int.mul_assoc,show (16777619:Int)*899433627=1+4294967296*3513497 from by decide,Int.mul_add,Int.mul_one,←Int.mul_assoc,Int.mul_comm a 4294967296,Int.mul_assoc,Int.add_mul_emod_self_left,Int.emod_eq_of_lt ha.1 ha.2]
theorem mul_inj {a b:Int} (ha:0≤a∧a < 4294967296) (hb:0≤b∧b < 4294967296) (h:IntKind.wrap .u32 (a*16777619)=IntKind.wrap .u32 (b*16777619)):a=b:=by
 rw [wrap_u32_eq,wrap_u32_eq] at h
 rw [←mul_back ha,h,mul_back hb]
theorem xor_inj {a b c d:Nat} (h:a ^^^ c=b ^^^ d):(a=b↔c=d):=by
 constructor
 ·rintro rfl
  have:=congrArg (a ^^^ ·) h
  simpa [←Nat.xor_assoc] using this
 ·rintro rfl
  have:=congrArg (· ^^^ c) h
  simpa [Nat.xor_assoc] using this
theorem bxor32 {n m:Int} (hn:0≤n∧n < 4294967296) (hm:0≤m∧m < 4294967296):bXor .u32 n m=((n.toNat ^^^ m.toNat:Nat):Int):=by
 unfold bXor
 obtain ⟨a,rfl⟩:=Int.eq_ofNat_of_zero_le hn.1
 obtain ⟨b,rfl⟩:=Int.eq_ofNat_of_zero_le hm.1
 have e2:(BitVec.ofInt (IntKind.bits .u32) (a:Int) ^^^ BitVec.ofInt (IntKind.bits .u32) (b:Int)).toNat=a ^^^ b:=by
  rw [BitVec.toNat_xor,BitVec.ofInt_natCast,BitVec.ofInt_natCast,BitVec.toNat_ofNat,BitVec.toNat_ofNat]
  have b1:a % 2 ^ IntKind.bits .u32=a:=Nat.mod_eq_of_lt (show a < 4294967296 by omega)
  have b2:b % 2 ^ IntKind.bits .u32=b:=Nat.mod_eq_of_lt (show b < 4294967296 by omega)
  rw [b1,b2]
 have hlt:a ^^^ b < 4294967296:=by
  have:a ^^^ b < 2 ^ 32:=Nat.xor_lt_two_pow (by omega) (by omega)
  omega
 rw [e2,wrap_u32 (by omega) (by omega)]
 rfl
theorem stepS_inj {n m:Int} {x y:UInt8} (hn:0≤n∧n < 4294967296) (hm:0≤m∧m < 4294967296) (h:stepS n x=stepS m y):(n=m↔x=y):=by
 unfold stepS at h
 have hx:=x.toNat_lt
 have hy:=y.toNat_lt
 rw [wrap_u32 (n:=(x.toNat:Int)) (by omega) (by omega),wrap_u32 (n:=(y.toNat:Int)) (by omega) (by omega),bxor32 hn (by omega),bxor32 hm (by omega)] at h
 have l1:n.toNat ^^^ x.toNat < 2 ^ 32:=Nat.xor_lt_two_pow (by omega) (by omega)
 have l2:m.toNat ^^^ y.toNat < 2 ^ 32:=Nat.xor_lt_two_pow (by omega) (by omega)
 have h1:=mul_inj (by simp only [Int.toNat_natCast]; omega) (by simp only [Int.toNat_natCast]; omega) h
 have h2:n.toNat ^^^ x.toNat=m.toNat ^^^ y.toNat:=by simp only [Int.toNat_natCast] at h1; omega
 have h3:=xor_inj h2
 constructor
 ·rintro rfl
  exact UInt8.toNat_inj.1 (h3.1 rfl)
 ·rintro rfl
  have:=h3.2 rfl
  omega
theorem sumS_inj:∀ (l:List UInt8) (n m:Int),0≤n∧n < 4294967296→0≤m∧m < 4294967296→sumS n l=sumS m l→n=m
 | [],n,m,_,_,h=>h
 | x :: l,n,m,hn,hm,h=>(stepS_inj hn hm (sumS_inj l _ _ (u32_bd _) (u32_bd _) h)).2 rfl
theorem sumS_bd:∀ (l:List UInt8) (n:Int),0≤n∧n < 4294967296→0≤sumS n l∧sumS n l < 4294967296
 | [],n,h=>h
 | x :: l,n,h=>sumS_bd l _ (u32_bd _)
theorem sum_changed {a l:List UInt8} {x y:UInt8} (hxy:x≠y) (hl:(a++x :: l).length≤1000000000):sumW (a++x :: l)≠sumW (a++y :: l):=by
 rw [sumW_eq _ hl,sumW_eq _ (by simpa using hl),sumS_app,sumS_app]
 have hb:=sumS_bd a 2166136261 (by decide)
 intro h
 have:=sumS_inj l _ _ (u32_bd _) (u32_bd _) h
 exact hxy ((stepS_inj hb hb this).1 rfl)
theorem be4_inj {a b c d a' b' c' d':UInt8} (h:be4 a b c d=be4 a' b' c' d'):a=a'∧b=b'∧c=c'∧d=d':=by
 unfold be4 at h
 have h1:=a.toNat_lt; have h2:=b.toNat_lt; have h3:=c.toNat_lt; have h4:=d.toNat_lt
 have k1:=a'.toNat_lt; have k2:=b'.toNat_lt; have k3:=c'.toNat_lt; have k4:=d'.toNat_lt
 refine ⟨UInt8.toNat_inj.1 (by omega),UInt8.toNat_inj.1 (by omega),UInt8.toNat_inj.1 (by omega),UInt8.toNat_inj.1 (by omega)⟩
theorem nth_lf {α:Type} [Inhabited α] {a b:List α} {k:Nat} (h:k < a.length):nth (a++b) k=nth a k:=by
 simp [nth,List.getElem?_append_left h]
theorem nth_st {α:Type} [Inhabited α] {a:List α} {k:Nat} {c:α} (h:k < a.length):nth (a.set k c) k=c:=by
 simp [nth,h]
theorem be4_sum4 (p:List UInt8) (hp:p.length≤1000000000):be4 (nth (sum4 p) 0) (nth (sum4 p) 1) (nth (sum4 p) 2) (nth (sum4 p) 3)=sumW p:=be4_sum (sum_bd p hp).1 (sum_bd p hp).2
theorem unw_bad (p rest:List UInt8) (hp:p.length≤1048576) {at_:Nat} {c:UInt8} (h1:(vb (2*(p.length:Int))).length≤at_) (h2:at_ < (wrapF p).length) (hc:nth (wrapF p) at_≠c):(unwF ((wrapF p).set at_ c++rest)).2.2=4:=by
 rw [wrapF_eq] at h2 hc ⊢
 generalize hv:vb (2*(p.length:Int))=v at *
 have hs4:(sum4 p).length=4:=rfl
 obtain ⟨k,rfl⟩:∃ k,at_=v.length+k:=⟨at_-v.length,by omega⟩
 rw [nth_app] at hc
 simp only [List.length_append] at h2
 have e1:(v++(sum4 p++p)).set (v.length+k) c=v++(sum4 p++p).set k c:=by
  rw [List.set_append_right _ _ (by omega)]; congr 2; omega
 rw [e1]
 by_cases hk:k < 4
 ·have e2:(sum4 p++p).set k c=(sum4 p).set k c++p:=List.set_append_left _ _ (by omega)
  rw [e2,List.append_assoc,List.append_assoc,←hv,unw_parts (by omega) (by omega) _ p rest (by simp [hs4]) rfl,if_pos]
  have hb:=be4_sum4 p (by omega)
  rw [←hb]
  intro he
  obtain ⟨g0,g1,g2,g3⟩:=be4_inj he
  apply hc
  have hn:nth (sum4 p++p) k=nth (sum4 p) k:=nth_lf (by omega)
  have hset:nth ((sum4 p).set k c) k=c:=nth_st (by omega)
  rw [hn]
  generalize sum4 p=s at *
  have g:∀ m,m < 4→nth s m=nth (s.set k c) m:=fun m hm=>match m,hm with
   | 0,_=>g0
   | 1,_=>g1
   | 2,_=>g2
   | 3,_=>g3
  exact (g k hk).trans hset
 ·obtain ⟨j,rfl⟩:∃ j,k=4+j:=⟨k-4,by omega⟩
  have hj:j < p.length:=by omega
  have e2:(sum4 p++p).set (4+j) c=sum4 p++p.set j c:=by
   rw [List.set_append_right _ _ (by omega)]; congr 2; omega
  have hn:nth (sum4 p++p) (4+j)=nth p j:=nth_app (sum4 p) p j
  rw [hn] at hc
  rw [e2,List.append_assoc,List.append_assoc,←hv,unw_parts (by omega) (by omega) (sum4 p) (p.set j c) rest hs4 (by simp),if_pos]
  rw [be4_sum4 p (by omega)]
  have d:=drop_nth (l:=p) (k:=j) hj
  have ep:p=p.take j++nth p j :: p.drop (j+1):=by rw [←d,List.take_append_drop]
  have es:p.set j c=p.take j++c :: p.drop (j+1):=by
   rw [List.set_eq_take_append_cons_drop,if_pos hj]
  rw [es]
  intro he
  have hl:(p.take j++nth p j :: p.drop (j+1)).length≤1000000000:=by rw [←ep]; omega
  exact sum_changed hc hl (by rw [←ep]; exact he.symm)
theorem awake_true:f_w12_awake=some true:=by kernel_rfl
theorem Head.eq_refl (h:Head):eqVs h.vals h.vals=true:=by simp [Head.vals,eqVs,eqV]
def grdF (from_:Nat):List (List UInt8)→Nat→Bool
 | [],_=>false
 | p :: l,a=>(decide (from_+(wrapF p).length-p.length-4≤a) && decide (a < from_+(wrapF p).length)) || grdF (from_+(wrapF p).length) l a
theorem grdF_cons (f:Nat) (p:List UInt8) (l:List (List UInt8)) (a:Nat):grdF f (p :: l) a=((decide (f+(wrapF p).length-p.length-4≤a) && decide (a < f+(wrapF p).length)) || grdF (f+(wrapF p).length) l a):=rfl
theorem wrapF_ge (p:List UInt8):p.length+4≤(wrapF p).length∧(wrapF p).length=(vb (2*(p.length:Int))).length+4+p.length:=by
 rw [wrapF_eq]
 have:(sum4 p).length=4:=rfl
 simp only [List.length_append]; omega
theorem p_guarded (l:List (List UInt8)) (a:Nat) (hl:l.length≤100) (h:∀ x,x∈l→x.length≤1048576) (ha:a≤1000000000):f_w12_guarded l (a:Int)=some (grdF 0 l a):=by
 unfold f_w12_guarded
 have:=loop_spec (step:=fun s:Int×Int=>f_w12_guarded_l1 l (a:Int) s.1 s.2) (fun s=>some (grdF s.1.toNat (l.drop s.2.toNat) a)) (fun s=>0≤s.1∧s.1≤s.2*2000000∧0≤s.2∧s.2≤(l.length:Int)) (fun s=>((l.length:Int) - s.2).toNat) (by
  rintro ⟨f,i⟩ ⟨k0,k1,k2,k3⟩
  simp only at k0 k1 k2 k3 ⊢
  unfold f_w12_guarded_l1
  by_cases hi:i < (l.length:Int)
  ·have hm:=nth_mem' (l:=l) (k:=i.toNat) (by omega)
   have hx:=h _ hm
   have hw:=wrapF_len (nth l i.toNat) (by omega)
   have hg:=(wrapF_ge (nth l i.toNat)).1
   rw [if_pos (by simpa using hi),ck_pos ⟨k2,hi⟩,p_rWrap _ hx]
   simp only [Option.bind_some]
   rw [if_neg (by decide),ck_pos (by omega),ck_pos ⟨k2,hi⟩,ck_pos (by omega),ck_pos (by omega),ck_pos (fun _=>by omega),drop_nth (l:=l) (k:=i.toNat) (by omega)]
   rw [grdF_cons]
   by_cases hc:f.toNat+(wrapF (nth l i.toNat)).length-(nth l i.toNat).length-4≤a∧a < f.toNat+(wrapF (nth l i.toNat)).length
   ·have:((decide ((a:Int)≥(((f+((wrapF (nth l i.toNat)).length:Int)) - ((nth l i.toNat).length:Int)) - 4))) && (decide ((a:Int) < (f+((wrapF (nth l i.toNat)).length:Int)))))=true:=by
     simp only [Bool.and_eq_true,decide_eq_true_eq]; omega
    rw [if_pos this]
    refine .inl ⟨_,rfl,?_⟩
    rw [decide_eq_true hc.1,decide_eq_true hc.2]; rfl
   ·have:¬ ((decide ((a:Int)≥(((f+((wrapF (nth l i.toNat)).length:Int)) - ((nth l i.toNat).length:Int)) - 4))) && (decide ((a:Int) < (f+((wrapF (nth l i.toNat)).length:Int)))))=true:=by
     simp only [Bool.and_eq_true,decide_eq_true_eq]; omega
    rw [if_neg this,ck_pos (by omega),ck_pos (by omega)]
    refine .inr ⟨_,rfl,⟨by simp only; omega,by simp only; omega,by simp only; omega,by simp only; omega⟩,by simp only; omega,?_⟩
    have hf:(decide (f.toNat+(wrapF (nth l i.toNat)).length-(nth l i.toNat).length-4≤a) && decide (a < f.toNat+(wrapF (nth l i.toNat)).length))=false:=by
     rw [Bool.eq_false_iff]
     simp only [ne_eq,Bool.and_eq_true,decide_eq_true_eq]; exact hc
    simp only
    rw [hf,Bool.false_or,show (i+1).toNat=i.toNat+1 from by omega,show (f+((wrapF (nth l i.toNat)).length:Int)).toNat=f.toNat+(wrapF (nth l i.toNat)).length from by omega]
  ·have e:i=(l.length:Int):=by omega
   subst e
   rw [if_neg (by simp)]
   refine .inl ⟨_,rfl,?_⟩
   simp [grdF]) (s:=(0,0)) ⟨by simp,by simp,by simp,by simp⟩ (by simp only; omega)
 rw [this]; simp
theorem set_left {α:Type} (a b:List α) (k:Nat) (c:α) (h:k < a.length):(a++b).set k c=a.set k c++b:=List.set_append_left _ _ h
theorem set_right {α:Type} (a b:List α) (k:Nat) (c:α) (h:a.length≤k):(a++b).set k c=a++b.set (k-a.length) c:=List.set_append_right _ _ h
theorem nth_right {α:Type} [Inhabited α] (a b:List α) (k:Nat) (h:a.length≤k):nth (a++b) k=nth b (k-a.length):=by
 have:=nth_app a b (k-a.length)
 rwa [show a.length+(k-a.length)=k from by omega] at this
theorem read_bad {b:Batch} (h:chkF b=0) (hs:SmL b.records) (hl:b.records.length≤1000) {a:Nat} {c:UInt8} (hg:grdF 0 (paysF b) a=true) (hc:nth (fileF b) a≠c):(readF ((fileF b).set a c)).2.2=4:=by
 obtain ⟨h1,h2,h3,h4,h5⟩:=chk_parts h
 have hp:=payF_le b.records b.format h5 hs
 have q1:=numsF_le _ (head_num h)
 have q3:=numsF_le _ (trail_num h)
 have e1:(headN b).length=4:=rfl
 have e3:(trailN b).length=5:=rfl
 rw [file_parts] at hc ⊢
 have w1:=wrapF_ge (numsF (headN b))
 have w2:=wrapF_ge (payF b.format b.records)
 have w3:=wrapF_ge (numsF (trailN b))
 simp only [paysF,grdF,Bool.or_eq_true,Bool.and_eq_true,decide_eq_true_eq,Bool.false_eq_true,or_false] at hg
 rcases hg with hg | hg | hg
 ·rw [nth_lf (by omega)] at hc
  have hb:=unw_bad (numsF (headN b)) (wrapF (payF b.format b.records)++(wrapF (numsF (trailN b))++[])) (by omega) (by omega) (by omega) hc
  rw [set_left _ _ _ _ (by omega)]
  unfold readF fstF
  rw [hb]
  simp
 ·rw [nth_right _ _ _ (by omega),nth_lf (by omega)] at hc
  have hb:=unw_bad (payF b.format b.records) (wrapF (numsF (trailN b))++[]) (by omega) (by omega) (by omega) hc
  rw [set_right _ _ _ _ (by omega),set_left _ _ _ _ (by omega)]
  unfold readF
  rw [fst_head h hl]
  simp only [ne_eq,not_true_eq_false,if_false]
  rw [hb]
  simp
 ·rw [nth_right _ _ _ (by omega),nth_right _ _ _ (by omega),nth_lf (by omega)] at hc
  have hb:=unw_bad (numsF (trailN b)) [] (by omega) (by omega) (by omega) hc
  rw [set_right _ _ _ _ (by omega),set_right _ _ _ _ (by omega),set_left _ _ _ _ (by omega)]
  have ht:(trlF ((wrapF (numsF (trailN b))).set (a-(wrapF (numsF (headN b))).length-(wrapF (payF b.format b.records)).length) c++[])).2=4:=by
   unfold trlF
   rw [hb]
   simp
  unfold readF
  rw [fst_head h hl]
  simp only [ne_eq,not_true_eq_false,if_false]
  rw [unw_wrap _ _ (by omega)]
  simp only [not_true_eq_false,if_false]
  have e:(hdB b).format=b.format:=rfl
  rw [e,decAll_pay h5 hs (by omega)]
  simp only [not_true_eq_false,if_false]
  rw [ht]
  simp
theorem file_len {b:Batch} (h:chkF b=0) (hs:SmL b.records) (hl:b.records.length≤100):(fileF b).length≤100000:=by
 obtain ⟨h1,h2,h3,h4,h5⟩:=chk_parts h
 have hp:=payF_le b.records b.format h5 hs
 have q1:=numsF_le _ (head_num h)
 have q3:=numsF_le _ (trail_num h)
 have e1:(headN b).length=4:=rfl
 have e3:(trailN b).length=5:=rfl
 have w1:=wrapF_len (numsF (headN b)) (by omega)
 have w2:=wrapF_len (payF b.format b.records) (by omega)
 have w3:=wrapF_len (numsF (trailN b)) (by omega)
 rw [file_parts]
 simp only [List.length_append,List.length_nil]; omega
theorem back_core (d:List UInt8) (b:Batch) (H:Head) (x:Billinglaw12Change) (ps:List (List UInt8)) (g:Nat→Bool) (hd:d.length≤100000)
  (hfew:f_w12_few b.records=some true) (hw:f_batch_Write b=some (d,0)) (hr:f_batch_Read d=some (b,[],0)) (hhd:f_batch_Head d=some (H,0))
  (hH:eqVs (Head.vals H) (Head.vals (⟨b.source,b.number,b.format,(b.records.length:Int)⟩:Head))=true) (hs:f_r12_Same b b=some true)
  (hp:f_r12_Payloads b=some ps) (hg:∀ a:Nat,a≤1000000000→f_w12_guarded ps (a:Int)=some (g a))
  (hbad:∀ (a:Nat) (c:UInt8),g a=true→nth d a≠c→∃ r,f_batch_Read (d.set a c)=some r∧r.2.2=4):f_w12_BatchBack b x=some true:=by
 unfold f_w12_BatchBack
 have hsame:gcall (!((((0:Int) != 0) || ((0:Int) != 0)) || ((([]:List Reject).length:Int) != 0))) (f_r12_Same b b)=some true:=by
  rw [hs]; rfl
 rw [hfew]
 simp only [Option.bind_some]
 rw [if_neg (by simp),hw]
 simp only [Option.bind_some]
 rw [if_neg (by simp),hr]
 simp only [Option.bind_some]
 rw [hhd]
 simp only [Option.bind_some]
 rw [hsame]
 simp only [Option.bind_some]
 rw [hH,if_neg (by simp)]
 by_cases hat:x.at_ < 0∨x.at_≥(d.length:Int)
 ·have hb:((decide (x.at_ < 0)) || (decide (x.at_≥(d.length:Int))))=true:=by
   simp only [Bool.or_eq_true,decide_eq_true_eq]; exact hat
  rw [hb,ck_pos (fun h=>by cases h)]
  simp only [Bool.true_or,Bool.not_true,gcall,Bool.false_eq_true,if_false,Option.bind_some,awake_true,if_true]
 ·have hb:((decide (x.at_ < 0)) || (decide (x.at_≥(d.length:Int))))=false:=by
   rw [Bool.eq_false_iff]
   simp only [ne_eq,Bool.or_eq_true,decide_eq_true_eq]; exact hat
  rw [hb,ck_pos (fun _=>by omega)]
  by_cases hc:nth d x.at_.toNat=x.to_
  ·have:(nth d x.at_.toNat==x.to_)=true:=by simpa using hc
   simp only [this,Bool.false_or,Bool.not_true,gcall,Bool.false_eq_true,if_false,Option.bind_some,Bool.true_or,awake_true,if_true]
  ·have:(nth d x.at_.toNat==x.to_)=false:=by simpa using hc
   have hpg:=hg x.at_.toNat (by omega)
   rw [show ((x.at_.toNat:Nat):Int)=x.at_ from by omega] at hpg
   rw [this]
   simp only [Bool.false_or,Bool.not_false,gcall,if_true,hp,Option.bind_some,hpg]
   cases hgg:g x.at_.toNat with
   | false=>simp only [Bool.not_false,if_true,awake_true,Option.bind_some]
   | true =>
    obtain ⟨r,q1,q2⟩:=hbad x.at_.toNat x.to_ hgg hc
    simp only [Bool.not_true,Bool.false_eq_true,if_false,List.nil_append]
    rw [ck_pos (by simp; omega),ck_pos (by omega),ck_pos (by omega),q1]
    simp only [Option.bind_some,q2,beq_self_eq_true,if_true,awake_true,Bool.true_and]
theorem back_true (b:Batch) (x:Billinglaw12Change):f_w12_BatchBack b x=some true:=by
 obtain ⟨z,hz,hz2⟩:=few_tot b.records
 cases z with
 | false =>
  unfold f_w12_BatchBack
  rw [hz]
  simp only [Option.bind_some]
  rw [if_pos (by simp),awake_true]
  simp only [Option.bind_some]
 | true =>
  obtain ⟨hl,hr⟩:=hz2 rfl
  have hs:SmL b.records:=fun r hm=>by have:=hr r hm; unfold Sh200 at this; omega
  have hw:=p_Write b hs (by omega)
  by_cases h:chkF b=0
  ·have hlen:=file_len h hs (by omega)
   have hfst:fstF (fileF b)=(hdB b,wrapF (payF b.format b.records)++(wrapF (numsF (trailN b))++[]),0):=by rw [file_parts]; exact fst_head h (by omega) _
   have hpl:=pays_le h hs (by omega)
   rw [if_pos h,h] at hw
   have hrf:=read_file h hs (by omega)
   refine back_core (fileF b) b (hdB b) x (paysF b) (grdF 0 (paysF b)) hlen hz hw ?_ ?_ (Head.eq_refl (hdB b)) (p_bSame b (by omega)) (p_rPays b h hs (by omega:b.records.length≤2000)) (fun a ha=>p_guarded (paysF b) a (by simp [paysF]) hpl ha) (fun a c q1 q2=>⟨_,p_Read _ (by simpa using hlen),read_bad h hs (by omega) q1 q2⟩)
   ·rw [p_Read _ hlen,hrf]
   ·unfold f_batch_Head
    rw [p_first _ hlen,hfst]
    simp only [Option.bind_some]
  ·unfold f_w12_BatchBack
   rw [hz]
   simp only [Option.bind_some]
   rw [if_neg (by simp),hw]
   simp only [Option.bind_some]
   rw [if_pos (by simpa using h),if_neg h,awake_true]
   rfl
theorem hMix:Tryz.prog.follows .mixedOrders=true:=by kernel_rfl
theorem sz_3:(Tryz.prog.info? 3).map (·.size)=some 1:=by kernel_rfl
theorem in_3:∃ i,Tryz.prog.info? 3=some i∧i.zero=some (.int .i64 0)∧i.size=1∧i.bytes=8:=info_parts (by kernel_rfl)
theorem sz_4:(Tryz.prog.info? 4).map (·.size)=some 1:=by kernel_rfl
theorem sz_5:(Tryz.prog.info? 5).map (·.size)=some 1:=by kernel_rfl
theorem in_5:∃ i,Tryz.prog.info? 5=some i∧i.zero=some (.int .u8 0)∧i.size=1∧i.bytes=1:=info_parts (by kernel_rfl)
theorem in_9:∃ i,Tryz.prog.info? 9=some i∧i.zero=some (.string ⟨#[]⟩)∧i.size=1∧i.bytes=16:=info_parts (by kernel_rfl)
theorem in_22:∃ i,Tryz.prog.info? 22=some i∧i.zero=some (.slice none 0 0)∧i.size=1∧i.bytes=24:=info_parts (by kernel_rfl)
theorem in_25:∃ i,Tryz.prog.info? 25=some i∧i.zero=some (.agg #[.int .i64 0,.int .i64 0,.int .i64 0,.int .i64 0])∧i.size=4∧i.bytes=32:=info_parts (by kernel_rfl)
theorem sz_31:(Tryz.prog.info? 31).map (·.size)=some 4:=by kernel_rfl
theorem in_31:∃ i,Tryz.prog.info? 31=some i∧i.zero=some (.agg #[.int .i64 0,.int .i64 0,.int .i64 0,.slice none 0 0])∧i.size=4∧i.bytes=48:=info_parts (by kernel_rfl)
theorem in_49:∃ i,Tryz.prog.info? 49=some i∧i.zero=some (.agg #[.int .i64 0,.int .i64 0,.int .i64 0,.string ⟨#[]⟩,.string ⟨#[]⟩,.int .i64 0,.int .i64 0,.int .i64 0,.int .i64 0,.bool false,.int .i64 0,.bool false])∧i.size=12∧i.bytes=112:=info_parts (by kernel_rfl)
theorem in_52:∃ i,Tryz.prog.info? 52=some i∧i.zero=some (.agg #[.int .i64 0,.int .i64 0,.int .i64 0,.int .i64 0,.int .i64 0,.int .i64 0])∧i.size=6∧i.bytes=48:=info_parts (by kernel_rfl)
theorem in_64:∃ i,Tryz.prog.info? 64=some i∧i.zero=some (.agg #[.int .i64 0,.int .i64 0,.int .i64 0,.int .i64 0])∧i.size=4∧i.bytes=32:=info_parts (by kernel_rfl)
theorem in_79:∃ i,Tryz.prog.info? 79=some i∧i.zero=some (.pointer none)∧i.size=1∧i.bytes=8:=info_parts (by kernel_rfl)
theorem in_104:∃ i,Tryz.prog.info? 104=some i∧i.zero=some (.agg #[.int .i64 0,.slice none 0 0])∧i.size=2∧i.bytes=32:=info_parts (by kernel_rfl)
theorem in_118:∃ i,Tryz.prog.info? 118=some i∧i.zero=some (.agg #[.slice none 0 0,.bool false])∧i.size=2∧i.bytes=32:=info_parts (by kernel_rfl)
theorem in_149:∃ i,Tryz.prog.info? 149=some i∧i.zero=some (.agg #[.slice none 0 0,.bool false])∧i.size=2∧i.bytes=32:=info_parts (by kernel_rfl)
theorem fo_25_0:fieldOff Tryz.prog 25 0=some 0:=by kernel_rfl
theorem fo_25_1:fieldOff Tryz.prog 25 1=some 1:=by kernel_rfl
theorem fo_25_2:fieldOff Tryz.prog 25 2=some 2:=by kernel_rfl
theorem fo_25_3:fieldOff Tryz.prog 25 3=some 3:=by kernel_rfl
theorem fo_31_2:fieldOff Tryz.prog 31 2=some 2:=by kernel_rfl
theorem fo_31_3:fieldOff Tryz.prog 31 3=some 3:=by kernel_rfl
theorem fo_49_0:fieldOff Tryz.prog 49 0=some 0:=by kernel_rfl
theorem fo_49_1:fieldOff Tryz.prog 49 1=some 1:=by kernel_rfl
theorem fo_49_2:fieldOff Tryz.prog 49 2=some 2:=by kernel_rfl
theorem fo_49_5:fieldOff Tryz.prog 49 5=some 5:=by kernel_rfl
theorem fo_49_6:fieldOff Tryz.prog 49 6=some 6:=by kernel_rfl
theorem fo_49_7:fieldOff Tryz.prog 49 7=some 7:=by kernel_rfl
theorem fo_49_8:fieldOff Tryz.prog 49 8=some 8:=by kernel_rfl
theorem fo_49_9:fieldOff Tryz.prog 49 9=some 9:=by kernel_rfl
theorem fo_49_10:fieldOff Tryz.prog 49 10=some 10:=by kernel_rfl
theorem fo_52_0:fieldOff Tryz.prog 52 0=some 0:=by kernel_rfl
theorem fo_52_1:fieldOff Tryz.prog 52 1=some 1:=by kernel_rfl
theorem fo_104_1:fieldOff Tryz.prog 104 1=some 1:=by kernel_rfl
theorem one_3:(Tryz.prog.underlying 3).map oneB=some true:=by kernel_rfl
theorem one_5:(Tryz.prog.underlying 5).map oneB=some true:=by kernel_rfl
theorem one_22:(Tryz.prog.underlying 22).map oneB=some true:=by kernel_rfl
theorem one_29:(Tryz.prog.underlying 29).map oneB=some true:=by kernel_rfl
theorem one_31:(Tryz.prog.underlying 31).map oneB=some false:=by kernel_rfl
theorem pl_25:placesOf Tryz.prog 25=some [(0,1),(1,1),(2,1),(3,1)]:=by kernel_rfl
theorem pl_31:placesOf Tryz.prog 31=some [(0,1),(1,1),(2,1),(3,1)]:=by kernel_rfl
theorem pl_49:placesOf Tryz.prog 49=some [(0,1),(1,1),(2,1),(3,1),(4,1),(5,1),(6,1),(7,1),(8,1),(9,1),(10,1),(11,1)]:=by kernel_rfl
theorem pl_52:placesOf Tryz.prog 52=some [(0,1),(1,5)]:=by kernel_rfl
theorem pl_64:placesOf Tryz.prog 64=some [(0,1),(1,1),(2,1),(3,1)]:=by kernel_rfl
theorem pl_104:placesOf Tryz.prog 104=some [(0,1),(1,1)]:=by kernel_rfl
theorem pl_118:placesOf Tryz.prog 118=some [(0,1),(1,1)]:=by kernel_rfl
theorem pl_149:placesOf Tryz.prog 149=some [(0,1),(1,1)]:=by kernel_rfl
theorem zr_22:(Tryz.prog.info? 22).bind (·.zero)=some (.slice none 0 0):=by kernel_rfl
theorem zr_25:(Tryz.prog.info? 25).bind (·.zero)=some (.agg #[.int .i64 0,.int .i64 0,.int .i64 0,.int .i64 0]):=by kernel_rfl
theorem zr_31:(Tryz.prog.info? 31).bind (·.zero)=some (.agg #[.int .i64 0,.int .i64 0,.int .i64 0,.slice none 0 0]):=by kernel_rfl
theorem zr_49:(Tryz.prog.info? 49).bind (·.zero)=some (.agg #[.int .i64 0,.int .i64 0,.int .i64 0,.string ⟨#[]⟩,.string ⟨#[]⟩,.int .i64 0,.int .i64 0,.int .i64 0,.int .i64 0,.bool false,.int .i64 0,.bool false]):=by kernel_rfl
theorem zr_52:(Tryz.prog.info? 52).bind (·.zero)=some (.agg #[.int .i64 0,.int .i64 0,.int .i64 0,.int .i64 0,.int .i64 0,.int .i64 0]):=by kernel_rfl
theorem zr_104:(Tryz.prog.info? 104).bind (·.zero)=some (.agg #[.int .i64 0,.slice none 0 0]):=by kernel_rfl
theorem zr_158:(Tryz.prog.info? 158).bind (·.zero)=some (.agg #[.int .u8 0,.int .u8 0,.int .u8 0,.int .u8 0,.int .u8 0,.int .u8 0,.int .u8 0,.int .u8 0]):=by kernel_rfl
theorem fk_25:flatKinds Tryz.prog 25=some [.i .i64,.i .i64,.i .i64,.i .i64]:=by kernel_rfl
theorem fk_49:flatKinds Tryz.prog 49=some [.i .i64,.i .i64,.i .i64,.s,.s,.i .i64,.i .i64,.i .i64,.i .i64,.b,.i .i64,.b]:=by kernel_rfl
theorem fg_52:flatG Tryz.prog 52=some [.i .i64,.i .i64,.i .i64,.i .i64,.i .i64,.i .i64]:=by kernel_rfl
def ens:List Nat:=[41,128,103,104,72,73,74,39,29,40,127,89,88,56,92,93,90,91,94,96,95,97,98,99,58,59,61,57,60,76,55,32,17,18,31,33,30,132,109,110,75,45,46,21,42,19,7,14,83,50,51,24,43,44,20,133,134,77,111,112,78,80,135,136,113,114,79,115,116,117,140,118,119,120,81,82,47,48,49,22,23,142,141,101,102,63,64,121,122,35,84,85,143,144,123,124,86,71,126,125,87,52,53,54,25,26,27,28,6,12,11,10,9,8,65,66,67,68,69,70,100,62,38,36,37,34,13,15,16]
theorem en (i:Nat) {f:Nat} (h:ens[i]?=some f):Go.Abs.Enters Tryz.prog f:=Go.Abs.enters_of (by kernel_rfl) h
def FTc:FT:=⟨[3,4,5,9,22,29,79,109],[(25,4),(31,4),(49,12),(52,6),(64,4),(104,2)],[(3,1),(4,1),(9,1),(22,1),(25,4),(31,4),(49,12),(52,6),(104,2),(109,1)],[(25,[(0,0),(1,1),(2,2),(3,3)]),(31,[(0,0),(1,1),(2,2),(3,3)]),(39,[(0,0),(1,1)]),(49,[(0,0),(1,1),(2,2),(3,3),(4,4),(5,5),(6,6),(7,7),(8,8),(9,9),(10,10),(11,11)]),(52,[(0,0),(1,1)]),(104,[(0,0),(1,1)]),(118,[(0,0),(1,1)]),(149,[(0,0),(1,1)])],[(22,[nilD]),(25,[cI 0,cI 0,cI 0,cI 0]),(31,[cI 0,cI 0,cI 0,nilD]),(49,[cI 0,cI 0,cI 0,cS ([]:List UInt8),cS ([]:List UInt8),cI 0,cI 0,cI 0,cI 0,cB false,cI 0,cB false]),(52,[cI 0,cI 0,cI 0,cI 0,cI 0,cI 0]),(104,[cI 0,nilD])]⟩
theorem ftok:FTc.Ok Tryz.prog:=FT.ok_of (by kernel_rfl) ⟨⟨_,zr_22,rfl⟩,⟨_,zr_25,rfl⟩,⟨_,zr_31,rfl⟩,⟨_,zr_49,rfl⟩,⟨_,zr_52,rfl⟩,⟨_,zr_104,rfl⟩,trivial⟩
theorem s22:SlT Tryz.prog 22 5 1:=.of Tryz.underlying22 in_5 rfl rfl
theorem s29:SlT Tryz.prog 29 49 12:=.of Tryz.underlying29 in_49 rfl rfl
theorem s32:SlT Tryz.prog 32 64 4:=.of Tryz.underlying32 in_64 rfl rfl
theorem s44:SlT Tryz.prog 44 22 1:=.of Tryz.underlying44 in_22 rfl rfl
theorem s68:SlT Tryz.prog 68 3 1:=.of Tryz.underlying68 in_3 rfl rfl
theorem s102:SlT Tryz.prog 102 104 2:=.of Tryz.underlying102 in_104 rfl rfl
theorem s109:SlT Tryz.prog 109 9 1:=.of Tryz.underlying109 in_9 rfl rfl
end Go.Proofs.YthoengcicaicoaaGreatDoor
namespace Go.Abs
open Go.Proofs Go.Proofs.YthoengcicaicoaaGreatDoor
section
variable {f N p p':Nat} {S:Start} {Q:EV→St→Prop} {k k':List Item} {l o l' o':List Oper} {env env':Env} {st st':St} {ps:List Prop}
theorem ARun.A (n:Nat) (hs:List Hint) (h:goF Tryz.prog S.base FTc N n (.run k) env st hs=some ⟨.run k',env',st',ps⟩) (hp:AllP ps) (hk:ARun Tryz.prog f N S Q k' env' st'):ARun Tryz.prog f N S Q k env st:=goF_sound ftok hMix h hp hk
theorem ARun.B (n:Nat) (hs:List Hint) (h:goF Tryz.prog S.base FTc N n (.run k) env st hs=some ⟨.ops l' o' k',env',st',ps⟩) (hp:AllP ps) (hk:AOps Tryz.prog f N S Q l' o' k' env' st'):ARun Tryz.prog f N S Q k env st:=goF_sound ftok hMix h hp hk
theorem ARun.C (n:Nat) (hs:List Hint) (h:goF Tryz.prog S.base FTc N n (.run k) env st hs=some ⟨.draw l' p' o' k',env',st',ps⟩) (hp:AllP ps) (hk:DOps Tryz.prog f N S Q l' p' o' k' env' st'):ARun Tryz.prog f N S Q k env st:=goF_sound ftok hMix h hp hk
theorem AOps.A (n:Nat) (hs:List Hint) (h:goF Tryz.prog S.base FTc N n (.ops l o k) env st hs=some ⟨.run k',env',st',ps⟩) (hp:AllP ps) (hk:ARun Tryz.prog f N S Q k' env' st'):AOps Tryz.prog f N S Q l o k env st:=goF_sound ftok hMix h hp hk
theorem AOps.B (n:Nat) (hs:List Hint) (h:goF Tryz.prog S.base FTc N n (.ops l o k) env st hs=some ⟨.ops l' o' k',env',st',ps⟩) (hp:AllP ps) (hk:AOps Tryz.prog f N S Q l' o' k' env' st'):AOps Tryz.prog f N S Q l o k env st:=goF_sound ftok hMix h hp hk
theorem AOps.C (n:Nat) (hs:List Hint) (h:goF Tryz.prog S.base FTc N n (.ops l o k) env st hs=some ⟨.draw l' p' o' k',env',st',ps⟩) (hp:AllP ps) (hk:DOps Tryz.prog f N S Q l' p' o' k' env' st'):AOps Tryz.prog f N S Q l o k env st:=goF_sound ftok hMix h hp hk
theorem DOps.C (n:Nat) (hs:List Hint) (h:goF Tryz.prog S.base FTc N n (.draw l p o k) env st hs=some ⟨.draw l' p' o' k',env',st',ps⟩) (hp:AllP ps) (hk:DOps Tryz.prog f N S Q l' p' o' k' env' st'):DOps Tryz.prog f N S Q l p o k env st:=goF_sound ftok hMix h hp hk
theorem ARun.R {fn:Func} {xs:List ResultVar} {es:List EV} (hf:Tryz.prog.funcs[f]?=some fn) (hr:fn.results=xs.toArray) (h:resV FTc env st xs=some es) (hQ:Q (retEV es) st):ARun Tryz.prog f N S Q (.code .ret :: k) env st:=.rc ftok hf hr h hQ
end
end Go.Abs
namespace Go.Proofs.YthoengcicaicoaaGreatDoor
end Go.Proofs.YthoengcicaicoaaGreatDoor
namespace Go.Abs
open Go.RowKit
theorem DArgs.one {lim:Nat→Nat} {w:World} {d:D} {vs:Array Value} (h:DArgs lim w [d] vs):∃ v,vs=#[v]∧DRep lim w d v:=by
 obtain ⟨h1,h2⟩:=h
 match vs,h1 with
 | ⟨[v]⟩,_=>exact ⟨v,rfl,h2 0 d v rfl rfl⟩
theorem DArgs.two {lim:Nat→Nat} {w:World} {d e:D} {vs:Array Value} (h:DArgs lim w [d,e] vs):∃ v u,vs=#[v,u]∧DRep lim w d v∧DRep lim w e u:=by
 obtain ⟨h1,h2⟩:=h
 match vs,h1 with
 | ⟨[v,u]⟩,_=>exact ⟨v,u,rfl,h2 0 d v rfl rfl,h2 1 e u rfl rfl⟩
theorem below_grow (w:World) (k:Nat) (os:Array Obj):Below w.heap.size w (Go.Sort.grow (w.drewN k) os) :=
 ⟨rfl,rfl,rfl,by simp [Go.Sort.grow],fun b hb=>by
  show ((w.drewN k).heap++os)[b]?=_
  rw [Array.getElem?_append_left (show b < (w.drewN k).heap.size from hb)]
  rfl⟩
theorem ACall.lib {P:Program} {f:FuncId} {args:List D} {u:Value}
  (h:∀ lim w vs,Globs w.heap.size w→DArgs lim w args vs→Calls P f vs w fun e w'=>e=.returned u∧Below w.heap.size w w'):ACall P f args (·=.ex u):=by
 intro lim w vs hg ha
 refine (h lim w vs hg ha).mono ?_
 rintro e w' ⟨rfl,hb⟩
 exact ⟨u,.ex u,lim,rfl,rfl,.ex u,⟨hb.size,fun _ _=>Nat.le_refl _,fun b off hb' _=>hb.cell (p:=⟨b,off,none⟩) hb'⟩,hb,fun _ _=>rfl⟩
theorem strs_cells {lim:Nat→Nat} {w:World} {xs:List (List UInt8)} {v:Value} (h:DRep lim w (.sl 1 (xs.map rS)) v) :
  (∃ A c,v=.slice A 0 c∧xs=[])∨∃ b off c,v=.slice (some ⟨b,off,none⟩) xs.length c∧xs.length≤c∧b < w.heap.size∧∀ (j:Nat) x,xs[j]?=some x→w.cell? ⟨b,off+j,none⟩=some (.string ⟨x.toArray⟩):=by
 generalize hr:xs.map rS=rows at h
 cases h with
 | nil _ A =>
  have:xs=[]:=by simpa using hr
  exact .inl ⟨A,0,rfl,this⟩
 | sl _ _ b off c hc hrow hx hcell =>
  subst hr
  rw [List.length_map] at *
  by_cases h0:xs=[]
  ·subst h0; exact .inl ⟨_,c,rfl,rfl⟩
  ·refine .inr ⟨b,off,c,rfl,hc,?_,fun j x hj=>?_⟩
   ·have hl:0 < xs.length:=List.length_pos_iff.2 h0
    obtain ⟨_,u,hu,_⟩:=hx 0 (by omega)
    exact World.block_lt_of_cell? w _ hu
   ·have hjl:=(List.getElem?_eq_some_iff.1 hj).1
    obtain ⟨_,u,hu,_⟩:=hx j (by omega)
    have:=hcell j 0 (rS x) (.ex (.string ⟨x.toArray⟩)) u (by rw [List.getElem?_map,hj]; rfl) rfl (by rw [Nat.mul_one,Nat.add_zero]; exact hu)
    rw [hu,drep_ex this]
theorem ACall.libStrs {P:Program} {f:FuncId} {args:List D} {xs:List (List UInt8)} {T:TypeId}
  (h:∀ lim w vs,Globs w.heap.size w→DArgs lim w args vs→Calls P f vs w fun e w'=>e=.returned (.slice (some ⟨w.heap.size,0,none⟩) xs.length xs.length)∧w'=w.alloc (.cells (xs.map fun x=>Value.string ⟨x.toArray⟩).toArray T)):ACall P f args (·=slOf 1 rS xs):=by
 intro lim w vs hg ha
 refine (h lim w vs hg ha).mono ?_
 rintro e w' ⟨rfl,rfl⟩
 generalize hO:Obj.cells (xs.map fun x=>Value.string ⟨x.toArray⟩).toArray T=O
 have hb:Below w.heap.size w (w.alloc O):=(Below.refl _ w).alloc (Nat.le_refl _) _
 have hlim:∀ b,b < w.heap.size→(if b=w.heap.size then xs.length else lim b)=lim b:=fun b hb'=>if_neg (by omega)
 refine ⟨_,_,fun b=>if b=w.heap.size then xs.length else lim b,rfl,rfl,?_,⟨hb.size,fun b hb'=>by rw [hlim b hb']; exact Nat.le_refl _,fun b off hb' _=>hb.cell (p:=⟨b,off,none⟩) hb'⟩,hb,hlim⟩
 have hcell:∀ (j:Nat) x,xs[j]?=some x→(w.alloc O).cell? ⟨w.heap.size,j,none⟩=some (.string ⟨x.toArray⟩):=fun j x hj=>by
  subst hO
  simp only [World.cell?,heap_alloc_new]
  simp [hj]
 have hl:(xs.map rS).length=xs.length:=List.length_map _
 have:DRep (fun b=>if b=w.heap.size then xs.length else lim b) (w.alloc O) (.sl 1 (xs.map rS)) (.slice (some ⟨w.heap.size,0,none⟩) (xs.map rS).length xs.length):=by
  refine .sl 1 (xs.map rS) w.heap.size 0 _ (by simp) (fun row hrow=>by obtain ⟨x,_,rfl⟩:=List.mem_map.1 hrow; rfl) (fun k hk=>?_) (fun i j row c u hi hj hu=>?_)
  ·have hk':k < xs.length:=by simpa using hk
   refine ⟨by rw [if_pos rfl]; omega,.string ⟨xs[k].toArray⟩,?_,rfl⟩
   rw [Nat.zero_add]
   exact hcell k _ (List.getElem?_eq_getElem hk')
  ·rw [List.getElem?_map] at hi
   obtain ⟨x,hx,rfl⟩:=Option.map_eq_some_iff.1 hi
   match j with
   | 0 =>
    rw [Nat.mul_one,Nat.add_zero,Nat.zero_add,hcell i x hx] at hu
    cases hu
    simp [rS] at hj
    subst hj
    exact .ex _
   | j+1=>simp [rS] at hj
 rw [hl] at this
 exact this
theorem ACall.libPair {P:Program} {f:FuncId} {args:List D} {a b:Value}
  (h:∀ lim w vs,Globs w.heap.size w→DArgs lim w args vs→Calls P f vs w fun e w'=>e=.returned (.tuple #[a,b])∧Below w.heap.size w w'):ACall P f args (·=.tup [.ex a,.ex b]):=by
 intro lim w vs hg ha
 refine (h lim w vs hg ha).mono ?_
 rintro e w' ⟨rfl,hb⟩
 refine ⟨_,_,lim,rfl,rfl,.tup _ _ rfl fun i c u hc hu=>?_,⟨hb.size,fun _ _=>Nat.le_refl _,fun b off hb' _=>hb.cell (p:=⟨b,off,none⟩) hb'⟩,hb,fun _ _=>rfl⟩
 match i with
 | 0=>simp at hc hu; subst hc hu; exact .ex _
 | 1=>simp at hc hu; subst hc hu; exact .ex _
 | i+2=>simp at hc
end Go.Abs
namespace Go.Proofs.YthoengcicaicoaaGreatDoor
open Go.Shelf
def Tryz.lays156_ren:Go.Shelf.Ren:=⟨fun | 156=>74 | 165=>106 | 166=>107 | 169=>108 | 240=>130 | 241=>131 | 276=>149 | 277=>150 | n=>n,fun | 31=>109 | 9=>9 | 3=>3 | 4=>4 | 0=>0 | 20=>20 | 72=>132 | 76=>136 | 70=>130 | 37=>22 | 75=>135 | 127=>161 | 164=>176 | 5=>5 | 80=>138 | n=>n,fun | n=>n⟩
theorem Tryz.lays156:Go.Proofs.Lays.n156 Tryz.prog Tryz.lays156_ren:={
 mixed:=by kernel_rfl
 f156:=Tryz.func74.trans (congrArg some (by kernel_rfl))
 f165:=Tryz.func106.trans (congrArg some (by kernel_rfl))
 f166:=Tryz.func107.trans (congrArg some (by kernel_rfl))
 f169:=Tryz.func108.trans (congrArg some (by kernel_rfl))
 f240:=Tryz.func130.trans (congrArg some (by kernel_rfl))
 f241:=Tryz.func131.trans (congrArg some (by kernel_rfl))
 f276:=Tryz.func149.trans (congrArg some (by kernel_rfl))
 f277:=Tryz.func150.trans (congrArg some (by kernel_rfl))
 t0:=Tryz.underlying0
 a0:=Tryz.isAgg0
 z0:=Tryz.sizeOf0
 v0:=Tryz.zeroValue0
 t3:=Tryz.underlying3
 a3:=Tryz.isAgg3
 z3:=Tryz.sizeOf3
 v3:=Tryz.zeroValue3
 t4:=Tryz.underlying4
 a4:=Tryz.isAgg4
 z4:=Tryz.sizeOf4
 v4:=Tryz.zeroValue4
 t9:=Tryz.underlying9
 a9:=Tryz.isAgg9
 z9:=Tryz.sizeOf9
 v9:=Tryz.zeroValue9
 t20:=Tryz.underlying20
 a20:=Tryz.isAgg20
 z20:=Tryz.sizeOf20
 v20:=Tryz.zeroValue20
 t31:=Tryz.underlying109
 a31:=Tryz.isAgg109
 z31:=Tryz.sizeOf109
 v31:=Tryz.zeroValue109
 t37:=Tryz.underlying22
 a37:=Tryz.isAgg22
 z37:=Tryz.sizeOf22
 v37:=Tryz.zeroValue22
 t70:=Tryz.underlying130
 a70:=Tryz.isAgg130
 z70:=Tryz.sizeOf130
 v70:=Tryz.zeroValue130
 t72:=Tryz.underlying132
 a72:=Tryz.isAgg132
 z72:=Tryz.sizeOf132
 v72:=Tryz.zeroValue132
 t75:=Tryz.underlying135
 a75:=Tryz.isAgg135
 z75:=Tryz.sizeOf135
 v75:=Tryz.zeroValue135
 t76:=Tryz.underlying136
 a76:=Tryz.isAgg136
 z76:=Tryz.sizeOf136
 v76:=Tryz.zeroValue136
 t127:=Tryz.underlying161
 a127:=Tryz.isAgg161
 z127:=Tryz.sizeOf161
 v127:=Tryz.zeroValue161
 t164:=Tryz.underlying176
 a164:=Tryz.isAgg176
 z164:=Tryz.sizeOf176
 v164:=Tryz.zeroValue176 }
theorem Tryz.Builder_Extra_156:Builder.Extra Tryz.prog Tryz.lays156_ren:={
 sizeBuilder:=by kernel_rfl
 liesBuilder:=by kernel_rfl
 t5:=Tryz.underlying5
 a5:=Tryz.isAgg5
 z5:=Tryz.sizeOf5
 v5:=Tryz.zeroValue5
 infoByte:=by kernel_rfl
 cellsByte:=by kernel_rfl
 sizeByte:=by kernel_rfl
 neB5:=by decide }
open Go.RowKit in
theorem Tryz.strings_Join_none (a:Option Addr) (c:Nat) (sep:ByteArray) (w:World) :
  Calls Tryz.prog 74 #[.slice a 0 c,.string sep] w fun e w'=>e=.returned (.string ⟨#[]⟩)∧w'=w:=Any.strings_Join_none Tryz.lays156 Tryz.Builder_Extra_156 a c sep w
open Go.RowKit in
theorem Tryz.strings_Join (bk o c:Nat) (xs:List ByteArray) (sep:ByteArray) (w:World) (hcells:∀ (j:Nat) x,xs[j]?=some x→w.cell? ⟨bk,o+j,none⟩=some (.string x)) (hbk:bk < w.heap.size) (hN:xs.length≤140737488355328) (hcap:xs.length≤c) (hlen:(Lib.join (xs.map (·.data.toList)) sep.data.toList).length≤140737488355328) :
  Calls Tryz.prog 74 #[.slice (some ⟨bk,o,none⟩) xs.length c,.string sep] w fun e w'=>e=.returned (.string ⟨(Lib.join (xs.map (·.data.toList)) sep.data.toList).toArray⟩)∧Below w.heap.size w w':=Any.strings_Join Tryz.lays156 Tryz.Builder_Extra_156 bk o c xs sep w hcells hbk hN hcap hlen
def Tryz.lays104_ren:Go.Shelf.Ren:=⟨fun | 104=>115 | 211=>137 | 207=>151 | n=>n,fun | 9=>9 | 4=>4 | 24=>144 | 3=>3 | n=>n,fun | n=>n⟩
theorem Tryz.lays104:Go.Proofs.Lays.n104 Tryz.prog Tryz.lays104_ren:={
 mixed:=by kernel_rfl
 f104:=Tryz.func115.trans (congrArg some (by kernel_rfl))
 f207:=Tryz.func151.trans (congrArg some (by kernel_rfl))
 f211:=Tryz.func137.trans (congrArg some (by kernel_rfl))
 t3:=Tryz.underlying3
 a3:=Tryz.isAgg3
 z3:=Tryz.sizeOf3
 v3:=Tryz.zeroValue3
 t4:=Tryz.underlying4
 a4:=Tryz.isAgg4
 z4:=Tryz.sizeOf4
 v4:=Tryz.zeroValue4
 t9:=Tryz.underlying9
 a9:=Tryz.isAgg9
 z9:=Tryz.sizeOf9
 v9:=Tryz.zeroValue9
 t24:=Tryz.underlying144
 a24:=Tryz.isAgg144
 z24:=Tryz.sizeOf144
 v24:=Tryz.zeroValue144 }
open Go.RowKit in
theorem Tryz.strings_CutSuffix (s p:ByteArray) (w:World) (hs:s.size≤9223372036854775807) :
  Calls Tryz.prog 115 #[.string s,.string p] w fun e w'=>e=.returned (.tuple #[.string ⟨(Lib.trimSuffix s.data.toList p.data.toList).toArray⟩,.bool (Lib.hasSuffix s.data.toList p.data.toList)])∧w'=w:=Any.strings_CutSuffix Tryz.lays104 s p w hs
def Tryz.laysM171_ren:Go.Shelf.Ren:=⟨fun | 171=>73 | 243=>105 | 246=>129 | 283=>145 | 284=>146 | 285=>147 | 286=>148 | 129=>159 | 317=>158 | 318=>160 | 319=>161 | 320=>162 | 337=>168 | 338=>169 | n=>n,fun | 3=>3 | 9=>9 | 2=>2 | 4=>4 | 171=>172 | 0=>0 | 53=>122 | 37=>22 | 5=>5 | 173=>174 | 212=>182 | 51=>90 | 20=>20 | 213=>183 | 46=>91 | 232=>191 | 233=>192 | n=>n,fun | 17=>1 | 18=>2 | 19=>3 | n=>n⟩
theorem Tryz.laysM171:Go.Proofs.LaysM.n171 Tryz.prog Tryz.laysM171_ren:={
 mixed:=by kernel_rfl
 f129:=Tryz.func159.trans (congrArg some (by kernel_rfl))
 f171:=Tryz.func73.trans (congrArg some (by kernel_rfl))
 f243:=Tryz.func105.trans (congrArg some (by kernel_rfl))
 f246:=Tryz.func129.trans (congrArg some (by kernel_rfl))
 f283:=Tryz.func145.trans (congrArg some (by kernel_rfl))
 f284:=Tryz.func146.trans (congrArg some (by kernel_rfl))
 f285:=Tryz.func147.trans (congrArg some (by kernel_rfl))
 f286:=Tryz.func148.trans (congrArg some (by kernel_rfl))
 f317:=Tryz.func158.trans (congrArg some (by kernel_rfl))
 f318:=Tryz.func160.trans (congrArg some (by kernel_rfl))
 f319:=Tryz.func161.trans (congrArg some (by kernel_rfl))
 f320:=Tryz.func162.trans (congrArg some (by kernel_rfl))
 f337:=Tryz.func168.trans (congrArg some (by kernel_rfl))
 f338:=Tryz.func169.trans (congrArg some (by kernel_rfl))
 t0:=Tryz.underlying0
 a0:=Tryz.isAgg0
 z0:=Tryz.sizeOf0
 v0:=Tryz.zeroValue0
 t2:=Tryz.underlying2
 a2:=Tryz.isAgg2
 z2:=Tryz.sizeOf2
 v2:=Tryz.zeroValue2
 t3:=Tryz.underlying3
 a3:=Tryz.isAgg3
 z3:=Tryz.sizeOf3
 v3:=Tryz.zeroValue3
 t4:=Tryz.underlying4
 a4:=Tryz.isAgg4
 z4:=Tryz.sizeOf4
 v4:=Tryz.zeroValue4
 t5:=Tryz.underlying5
 a5:=Tryz.isAgg5
 z5:=Tryz.sizeOf5
 v5:=Tryz.zeroValue5
 t9:=Tryz.underlying9
 a9:=Tryz.isAgg9
 z9:=Tryz.sizeOf9
 v9:=Tryz.zeroValue9
 t20:=Tryz.underlying20
 a20:=Tryz.isAgg20
 z20:=Tryz.sizeOf20
 v20:=Tryz.zeroValue20
 t37:=Tryz.underlying22
 a37:=Tryz.isAgg22
 z37:=Tryz.sizeOf22
 v37:=Tryz.zeroValue22
 t46:=Tryz.underlying91
 a46:=Tryz.isAgg91
 z46:=Tryz.sizeOf91
 v46:=Tryz.zeroValue91
 t51:=Tryz.underlying90
 a51:=Tryz.isAgg90
 z51:=Tryz.sizeOf90
 v51:=Tryz.zeroValue90
 t53:=Tryz.underlying122
 a53:=Tryz.isAgg122
 z53:=Tryz.sizeOf122
 v53:=Tryz.zeroValue122
 t171:=Tryz.underlying172
 a171:=Tryz.isAgg172
 z171:=Tryz.sizeOf172
 v171:=Tryz.zeroValue172
 t173:=Tryz.underlying174
 a173:=Tryz.isAgg174
 z173:=Tryz.sizeOf174
 v173:=Tryz.zeroValue174
 t212:=Tryz.underlying182
 a212:=Tryz.isAgg182
 z212:=Tryz.sizeOf182
 v212:=Tryz.zeroValue182
 t213:=Tryz.underlying183
 a213:=Tryz.isAgg183
 z213:=Tryz.sizeOf183
 t232:=Tryz.underlying191
 a232:=Tryz.isAgg191
 z232:=Tryz.sizeOf191
 v232:=Tryz.zeroValue191
 t233:=Tryz.underlying192
 a233:=Tryz.isAgg192
 z233:=Tryz.sizeOf192
 v233:=Tryz.zeroValue192
 g17:=by kernel_rfl
 g18:=by kernel_rfl
 g19:=by kernel_rfl
 i0:=by kernel_rfl
 i2:=by kernel_rfl
 i3:=by kernel_rfl
 i4:=by kernel_rfl
 i5:=by kernel_rfl
 i9:=by kernel_rfl
 i20:=by kernel_rfl
 i37:=by kernel_rfl
 i46:=by kernel_rfl
 i51:=by kernel_rfl
 i53:=by kernel_rfl
 i171:=by kernel_rfl
 i173:=by kernel_rfl
 i212:=by kernel_rfl
 i232:=by kernel_rfl
 i233:=by kernel_rfl
 m17:=by kernel_rfl
 m18:=by kernel_rfl
 m19:=by kernel_rfl }
open Go.RowKit Go.Sort Go.Lib in
theorem Tryz.strconv_Itoa (n:Int) (h0:-9223372036854775808≤n) (h1:n≤9223372036854775807) (w:World) (htab:Lib.TabIs Tryz.prog w "internal/strconv.uint64pow10" .u64 Lib.pow10Tab) :
  Calls Tryz.prog 73 #[.int .i64 n] w fun e w'=>e=.returned (.string ⟨(Lib.itoa n).toArray⟩)∧∃ k os,w'=grow (w.drewN k) os:=Any.strconv_Itoa Tryz.laysM171 n h0 h1 w htab
def Tryz.lays143_ren:Go.Shelf.Ren:=⟨fun | 143=>118 | 219=>139 | 217=>154 | 225=>155 | 224=>156 | 267=>157 | 266=>166 | 314=>167 | n=>n,fun | 9=>9 | 3=>3 | 4=>4 | 5=>5 | 46=>91 | 146=>188 | 51=>90 | n=>n,fun | 1=>0 | n=>n⟩
theorem Tryz.lays143:Go.Proofs.Lays.n143 Tryz.prog Tryz.lays143_ren:={
 mixed:=by kernel_rfl
 f143:=Tryz.func118.trans (congrArg some (by kernel_rfl))
 f217:=Tryz.func154.trans (congrArg some (by kernel_rfl))
 f219:=Tryz.func139.trans (congrArg some (by kernel_rfl))
 f224:=Tryz.func156.trans (congrArg some (by kernel_rfl))
 f225:=Tryz.func155.trans (congrArg some (by kernel_rfl))
 f266:=Tryz.func166.trans (congrArg some (by kernel_rfl))
 f267:=Tryz.func157.trans (congrArg some (by kernel_rfl))
 f314:=Tryz.func167.trans (congrArg some (by kernel_rfl))
 t3:=Tryz.underlying3
 a3:=Tryz.isAgg3
 z3:=Tryz.sizeOf3
 v3:=Tryz.zeroValue3
 t4:=Tryz.underlying4
 a4:=Tryz.isAgg4
 z4:=Tryz.sizeOf4
 v4:=Tryz.zeroValue4
 t5:=Tryz.underlying5
 a5:=Tryz.isAgg5
 z5:=Tryz.sizeOf5
 v5:=Tryz.zeroValue5
 t9:=Tryz.underlying9
 a9:=Tryz.isAgg9
 z9:=Tryz.sizeOf9
 v9:=Tryz.zeroValue9
 t46:=Tryz.underlying91
 a46:=Tryz.isAgg91
 z46:=Tryz.sizeOf91
 v46:=Tryz.zeroValue91
 t51:=Tryz.underlying90
 a51:=Tryz.isAgg90
 z51:=Tryz.sizeOf90
 v51:=Tryz.zeroValue90
 t146:=Tryz.underlying188
 a146:=Tryz.isAgg188
 z146:=Tryz.sizeOf188
 v146:=Tryz.zeroValue188
 g1:=by kernel_rfl }
open Go.RowKit Go.Lib in
theorem Tryz.strings_Index (s sub:ByteArray) (m:Int) (w:World) (hs:s.size < 4294967281) (hm:w.cell? ⟨0,0,none⟩=some (.int .i64 m)) :
  Calls Tryz.prog 118 #[.string s,.string sub] w fun e w'=>e=.returned (.int .i64 (Lib.index s.data.toList sub.data.toList))∧w'=w:=Any.strings_Index Tryz.lays143 s sub m w hs hm
def Tryz.lays146_ren:Go.Shelf.Ren:=⟨fun | 146=>116 | 221=>138 | 268=>152 | 138=>153 | 143=>118 | 195=>163 | 197=>164 | 218=>165 | 219=>139 | 260=>170 | 217=>154 | 225=>155 | 224=>156 | 267=>157 | 266=>166 | 314=>167 | n=>n,fun | 9=>9 | 31=>109 | 3=>3 | 4=>4 | 0=>0 | 105=>186 | 21=>21 | 5=>5 | 46=>91 | 119=>193 | 139=>196 | 138=>195 | 146=>188 | 51=>90 | n=>n,fun | 1=>0 | 3=>4 | 4=>5 | n=>n⟩
theorem Tryz.lays146:Go.Proofs.Lays.n146 Tryz.prog Tryz.lays146_ren:={
 mixed:=by kernel_rfl
 f138:=Tryz.func153.trans (congrArg some (by kernel_rfl))
 f143:=Tryz.func118.trans (congrArg some (by kernel_rfl))
 f146:=Tryz.func116.trans (congrArg some (by kernel_rfl))
 f195:=Tryz.func163.trans (congrArg some (by kernel_rfl))
 f197:=Tryz.func164.trans (congrArg some (by kernel_rfl))
 f217:=Tryz.func154.trans (congrArg some (by kernel_rfl))
 f218:=Tryz.func165.trans (congrArg some (by kernel_rfl))
 f219:=Tryz.func139.trans (congrArg some (by kernel_rfl))
 f221:=Tryz.func138.trans (congrArg some (by kernel_rfl))
 f224:=Tryz.func156.trans (congrArg some (by kernel_rfl))
 f225:=Tryz.func155.trans (congrArg some (by kernel_rfl))
 f260:=Tryz.func170.trans (congrArg some (by kernel_rfl))
 f266:=Tryz.func166.trans (congrArg some (by kernel_rfl))
 f267:=Tryz.func157.trans (congrArg some (by kernel_rfl))
 f268:=Tryz.func152.trans (congrArg some (by kernel_rfl))
 f314:=Tryz.func167.trans (congrArg some (by kernel_rfl))
 t0:=Tryz.underlying0
 a0:=Tryz.isAgg0
 z0:=Tryz.sizeOf0
 v0:=Tryz.zeroValue0
 t3:=Tryz.underlying3
 a3:=Tryz.isAgg3
 z3:=Tryz.sizeOf3
 v3:=Tryz.zeroValue3
 t4:=Tryz.underlying4
 a4:=Tryz.isAgg4
 z4:=Tryz.sizeOf4
 v4:=Tryz.zeroValue4
 t5:=Tryz.underlying5
 a5:=Tryz.isAgg5
 z5:=Tryz.sizeOf5
 v5:=Tryz.zeroValue5
 t9:=Tryz.underlying9
 a9:=Tryz.isAgg9
 z9:=Tryz.sizeOf9
 v9:=Tryz.zeroValue9
 t21:=Tryz.underlying21
 a21:=Tryz.isAgg21
 z21:=Tryz.sizeOf21
 v21:=Tryz.zeroValue21
 t31:=Tryz.underlying109
 a31:=Tryz.isAgg109
 z31:=Tryz.sizeOf109
 v31:=Tryz.zeroValue109
 t46:=Tryz.underlying91
 a46:=Tryz.isAgg91
 z46:=Tryz.sizeOf91
 v46:=Tryz.zeroValue91
 t51:=Tryz.underlying90
 a51:=Tryz.isAgg90
 z51:=Tryz.sizeOf90
 v51:=Tryz.zeroValue90
 t105:=Tryz.underlying186
 a105:=Tryz.isAgg186
 z105:=Tryz.sizeOf186
 v105:=Tryz.zeroValue186
 t119:=Tryz.underlying193
 a119:=Tryz.isAgg193
 z119:=Tryz.sizeOf193
 t138:=Tryz.underlying195
 a138:=Tryz.isAgg195
 z138:=Tryz.sizeOf195
 v138:=Tryz.zeroValue195
 t139:=Tryz.underlying196
 a139:=Tryz.isAgg196
 z139:=Tryz.sizeOf196
 v139:=Tryz.zeroValue196
 t146:=Tryz.underlying188
 a146:=Tryz.isAgg188
 z146:=Tryz.sizeOf188
 v146:=Tryz.zeroValue188
 g1:=by kernel_rfl
 g3:=by kernel_rfl
 g4:=by kernel_rfl }
open Go.RowKit Go.Lib in
theorem Tryz.strings_Split (s sep:ByteArray) (m:Int) (w:World) (hs:s.size < 4294967281) (hm:w.cell? ⟨0,0,none⟩=some (.int .i64 m)) (h1:1≤sep.size) :
  Calls Tryz.prog 116 #[.string s,.string sep] w fun e w' =>
   e=.returned (.slice (some ⟨w.heap.size,0,none⟩) (Lib.countB s sep+1) (Lib.countB s sep+1))∧w'=w.alloc (.cells ((Lib.splitB sep 0 (Lib.countB s sep) s).map Value.string).toArray 9):=Any.strings_Split Tryz.lays146 (by kernel_rfl) s sep m w hs hm h1
end Go.Proofs.YthoengcicaicoaaGreatDoor
namespace Go.Proofs.YthoengcicaicoaaGreatDoor
open Go.RowKit Go.Abs
theorem tab_is {w:World} (h:Globs w.heap.size w):Go.Lib.TabIs Tryz.prog w "internal/strconv.uint64pow10" .u64 Go.Lib.pow10Tab:=by
 obtain ⟨_,ty,fr,h2⟩:=h.1 (1,(Go.Lib.pow10Tab.map fun z=>Value.int .u64 z).toArray) (by simp [GL])
 have hn:Tryz.prog.globalNamed "internal/strconv.uint64pow10" = some 1:=by kernel_rfl
 unfold Go.Lib.TabIs World.var?
 rw [hn]
 simp only [Option.bind_some]
 simp only at h2
 rw [h2]
theorem max_is {w:World} (h:Globs w.heap.size w):∃ m,w.cell? ⟨0,0,none⟩=some (.int .i64 m):=(h.2 0 (by simp [GI])).2
theorem c_x_Itoa {n:Int} {r:List UInt8} (H:x_Itoa n=some r):ACall Tryz.prog 73 [cI n] (·=cS r):=by
 obtain ⟨h,H⟩:=ck_some H; cases H
 refine ACall.lib fun lim w vs hg ha=>?_
 obtain ⟨v,rfl,hv⟩:=ha.one
 rw [drep_ex hv]
 refine (Tryz.strconv_Itoa n h.1 h.2 w (tab_is hg)).mono ?_
 rintro e w' ⟨rfl,k,os,rfl⟩
 exact ⟨rfl,below_grow w k os⟩
theorem c_x_Join {xs:List (List UInt8)} {sep r:List UInt8} (H:x_Join xs sep=some r):ACall Tryz.prog 74 [slOf 1 rS xs,cS sep] (·=cS r):=by
 obtain ⟨h,H⟩:=ck_some H; cases H
 refine ACall.lib fun lim w vs hg ha=>?_
 obtain ⟨v,u,rfl,hv,hu⟩:=ha.two
 rw [drep_ex hu]
 rcases strs_cells hv with ⟨A,c,rfl,rfl⟩ | ⟨b,off,c,rfl,hc,hb,hcell⟩
 ·exact (Tryz.strings_Join_none A c ⟨sep.toArray⟩ w).mono fun e w' ⟨he,hw⟩=>⟨he,hw▸Below.refl _ _⟩
 ·have hm:(xs.map fun x=>(⟨x.toArray⟩:ByteArray)).map (·.data.toList)=xs:=by simp [Function.comp_def]
  have:=Tryz.strings_Join b off c (xs.map fun x=>(⟨x.toArray⟩:ByteArray)) ⟨sep.toArray⟩ w (fun j x hj=>by
   rw [List.getElem?_map] at hj
   obtain ⟨y,hy,rfl⟩:=Option.map_eq_some_iff.1 hj
   exact hcell j y hy) hb (by simp; omega) (by simpa using hc) (by rw [hm]; simp; omega)
  rw [hm,List.length_map] at this
  exact this
theorem c_x_Index {s sub:List UInt8} {r:Int} (H:x_Index s sub=some r):ACall Tryz.prog 118 [cS s,cS sub] (·=cI r):=by
 obtain ⟨h,H⟩:=ck_some H; cases H
 refine ACall.lib fun lim w vs hg ha=>?_
 obtain ⟨v,u,rfl,hv,hu⟩:=ha.two
 rw [drep_ex hv,drep_ex hu]
 obtain ⟨m,hm⟩:=max_is hg
 refine (Tryz.strings_Index ⟨s.toArray⟩ ⟨sub.toArray⟩ m w (by simp [ByteArray.size]; omega) hm).mono ?_
 rintro e w' ⟨rfl,rfl⟩
 exact ⟨by simp,Below.refl _ _⟩
theorem c_x_CutSuffix {s p:List UInt8} {r:List UInt8×Bool} (H:x_CutSuffix s p=some r):ACall Tryz.prog 115 [cS s,cS p] (·=.tup [cS r.1,cB r.2]):=by
 obtain ⟨h,H⟩:=ck_some H; cases H
 refine ACall.libPair fun lim w vs hg ha=>?_
 obtain ⟨v,u,rfl,hv,hu⟩:=ha.two
 rw [drep_ex hv,drep_ex hu]
 refine (Tryz.strings_CutSuffix ⟨s.toArray⟩ ⟨p.toArray⟩ w (by simp [ByteArray.size]; omega)).mono ?_
 rintro e w' ⟨rfl,rfl⟩
 exact ⟨by simp,Below.refl _ _⟩
theorem c_x_Split {s sep:List UInt8} {r:List (List UInt8)} (H:x_Split s sep=some r):ACall Tryz.prog 116 [cS s,cS sep] (·=slOf 1 rS r):=by
 obtain ⟨h,H⟩:=ck_some H; cases H
 refine ACall.libStrs (T:=9) fun lim w vs hg ha=>?_
 obtain ⟨v,u,rfl,hv,hu⟩:=ha.two
 rw [drep_ex hv,drep_ex hu]
 obtain ⟨m,hm⟩:=max_is hg
 have h1:1≤(⟨sep.toArray⟩:ByteArray).size:=by simp [ByteArray.size]; omega
 have hlen:=Go.Lib.splitB_all ⟨sep.toArray⟩ h1 0 _ (⟨s.toArray⟩:ByteArray) rfl
 have e1:(Go.Lib.splitB ⟨sep.toArray⟩ 0 (Go.Lib.countB ⟨s.toArray⟩ ⟨sep.toArray⟩) ⟨s.toArray⟩).map (·.data.toList)=Go.Lib.split s sep:=by
  rw [Go.Lib.splitB_data]
  simp [Go.Lib.split,Go.Lib.countB]
 have e3:(Go.Lib.split s sep).length=Go.Lib.countB ⟨s.toArray⟩ ⟨sep.toArray⟩+1:=by rw [←e1,List.length_map,hlen]
 have e2:(Go.Lib.splitB ⟨sep.toArray⟩ 0 (Go.Lib.countB ⟨s.toArray⟩ ⟨sep.toArray⟩) ⟨s.toArray⟩).map Value.string=(Go.Lib.split s sep).map fun x=>Value.string ⟨x.toArray⟩:=by
  rw [←e1,List.map_map]
  apply List.map_congr_left
  intro x _
  simp
 refine (Tryz.strings_Split ⟨s.toArray⟩ ⟨sep.toArray⟩ m w (by simp [ByteArray.size]; omega) hm h1).mono ?_
 rintro e w' ⟨rfl,rfl⟩
 exact ⟨by rw [e3],by rw [e2]⟩
end Go.Proofs.YthoengcicaicoaaGreatDoor
set_option maxRecDepth 100000
set_option maxHeartbeats 1000000
namespace Go.Proofs.YthoengcicaicoaaGreatDoor
open Go.RowKit Go.Abs Go.Proofs.Tryz
theorem c_f_batch_within {v0n:Int} {v1lo:Int} {v2hi:Int} {r:Bool} (H:f_batch_within v0n v1lo v2hi=some r):ACall prog 41 [cI v0n,cI v1lo,cI v2hi] (·=cB r):=by
 refine ACall.enter' func41 rfl ntmps41 rfl fun S hS=>?_
 unfold f_batch_within at H
 refine .A 16 [] rfl ⟨rfl,rfl,rfl⟩ ?_
 refine .R func41 results41 rfl ?_
 cases H
 exact .m rfl (.rfl' _)
theorem c_f_batch_Totals {v0records:List Record} {r:Totals} (H:f_batch_Totals v0records=some r):ACall prog 18 [slOf 12 Record.row v0records] (·=.agg (Totals.row r)):=by
 obtain ⟨i3,hi3,hz3,hs3,hb3⟩:=in_3
 obtain ⟨i52,hi52,hz52,hs52,hb52⟩:=in_52
 refine ACall.enter' func18 rfl ntmps18 rfl fun S hS=>?_
 unfold f_batch_Totals at H
 refine .A 20 [.r 0,.i (v0records.length:Int),.d (.agg (Totals.row (⟨(v0records.length:Int),([0,0,0,0,0]:List Int)⟩:Totals))),.r 1,.i (v0records.length:Int)] rfl ⟨s29.n rfl rfl,OpQ.g (q_buildP pl_52 hi52 hz52 rfl rfl),s29.n rfl rfl⟩ ?_
 obtain ⟨n1,H⟩:=loop_some H
 refine .loop (ι:=Nat×(Int×Int×Int×Int×Int×Int)) (fun ⟨_,v11l1,o1c1l1,o1c2l1,o1c3l1,o1c4l1,o1c5l1⟩=>[(2,.ref 0 0),(3,.ref 1 0),(9,.d (slOf 12 Record.row v0records)),(10,.d (cI (v0records.length:Int))),(11,.d (cI v11l1))]) (fun ⟨_,v11l1,o1c1l1,o1c2l1,o1c3l1,o1c4l1,o1c5l1⟩=>⟨[.row 52 [.d (cI 0),.d (cI 0),.d (cI 0),.d (cI 0),.d (cI 0),.d (cI 0)],.row 52 [.d (cI (v0records.length:Int)),.d (cI o1c1l1),.d (cI o1c2l1),.d (cI o1c3l1),.d (cI o1c4l1),.d (cI o1c5l1)]],[]⟩) (fun p=>iter (fun s=>f_batch_Totals_l1 v0records s.1 s.2.1 s.2.2.1 s.2.2.2.1 s.2.2.2.2.1 s.2.2.2.2.2) p.1 p.2=some r) (·.1) (n1,(0,0,0,0,0,0)) H (.cons rfl (.rfl' _) (.cons rfl (.rfl' _) (.cons rfl (.rfl' _) (.cons rfl (.rfl' _) (.cons rfl (.rfl' _) (.nil)))))) rfl ?_
 rintro ⟨m1,v11l1,o1c1l1,o1c2l1,o1c3l1,o1c4l1,o1c5l1⟩ HI ih1
 obtain ⟨n1,q1,hm1,H,HK1⟩:=iter_succ HI
 clear HI
 replace H:f_batch_Totals_l1 v0records v11l1 o1c1l1 o1c2l1 o1c3l1 o1c4l1 o1c5l1=some q1:=H
 unfold f_batch_Totals_l1 at H
 refine .A 5 [] rfl trivial ?_
 refine .ite H rfl (fun H=>?_) (fun H=>?_)
 ·obtain ⟨hk1,H⟩:=ck_some H
  obtain ⟨y1,hy1,H⟩:=bind_some' H
  obtain ⟨y2,hy2,H⟩:=bind_some' H
  refine .A 21 [.d (.ro (Record.row (nth v0records v11l1.toNat))),.r 2,.b y1,.b y2] rfl ⟨rfl,fun hg=>g_call (en 0 rfl) rfl rfl (c_f_batch_within (gcall_some hy2 hg)),rfl,rfl,g_call (en 0 rfl) rfl rfl (c_f_batch_within (hy1)),s29.ix rfl rfl rfl hk1⟩ ?_
  refine .ite H rfl (fun H=>?_) (fun H=>?_)
  ·obtain ⟨hk2,H⟩:=ck_some H
   obtain ⟨hk3,H⟩:=ck_some H
   obtain ⟨hk4,H⟩:=ck_some H
   obtain ⟨hk5,H⟩:=ck_some H
   obtain ⟨hk6,H⟩:=ck_some H
   obtain ⟨hk7,H⟩:=ck_some H
   refine .A 19 [.p 10,.g (.ref 1 (1+((nth v0records v11l1.toNat).kind).toNat)),.f 14 (.d (cI (nth ([o1c1l1,o1c2l1,o1c3l1,o1c4l1,o1c5l1]:List Int) ((nth v0records v11l1.toNat).kind).toNat))),.i ((nth ([o1c1l1,o1c2l1,o1c3l1,o1c4l1,o1c5l1]:List Int) ((nth v0records v11l1.toNat).kind).toNat)+((nth v0records v11l1.toNat).units)),.g (.ref 1 (1+((nth v0records v11l1.toNat).kind).toNat)),.w 7 ⟨[.row 52 [.d (cI 0),.d (cI 0),.d (cI 0),.d (cI 0),.d (cI 0),.d (cI 0)],.row 52 [.d (cI (v0records.length:Int)),.d (cI (nth (setN ([o1c1l1,o1c2l1,o1c3l1,o1c4l1,o1c5l1]:List Int) 5 ((nth v0records v11l1.toNat).kind).toNat ((nth ([o1c1l1,o1c2l1,o1c3l1,o1c4l1,o1c5l1]:List Int) ((nth v0records v11l1.toNat).kind).toNat)+((nth v0records v11l1.toNat).units))) 0)),.d (cI (nth (setN ([o1c1l1,o1c2l1,o1c3l1,o1c4l1,o1c5l1]:List Int) 5 ((nth v0records v11l1.toNat).kind).toNat ((nth ([o1c1l1,o1c2l1,o1c3l1,o1c4l1,o1c5l1]:List Int) ((nth v0records v11l1.toNat).kind).toNat)+((nth v0records v11l1.toNat).units))) 1)),.d (cI (nth (setN ([o1c1l1,o1c2l1,o1c3l1,o1c4l1,o1c5l1]:List Int) 5 ((nth v0records v11l1.toNat).kind).toNat ((nth ([o1c1l1,o1c2l1,o1c3l1,o1c4l1,o1c5l1]:List Int) ((nth v0records v11l1.toNat).kind).toNat)+((nth v0records v11l1.toNat).units))) 2)),.d (cI (nth (setN ([o1c1l1,o1c2l1,o1c3l1,o1c4l1,o1c5l1]:List Int) 5 ((nth v0records v11l1.toNat).kind).toNat ((nth ([o1c1l1,o1c2l1,o1c3l1,o1c4l1,o1c5l1]:List Int) ((nth v0records v11l1.toNat).kind).toNat)+((nth v0records v11l1.toNat).units))) 3)),.d (cI (nth (setN ([o1c1l1,o1c2l1,o1c3l1,o1c4l1,o1c5l1]:List Int) 5 ((nth v0records v11l1.toNat).kind).toNat ((nth ([o1c1l1,o1c2l1,o1c3l1,o1c4l1,o1c5l1]:List Int) ((nth v0records v11l1.toNat).kind).toNat)+((nth v0records v11l1.toNat).units))) 4))],.row 49 [.d (cI ((nth v0records v11l1.toNat).source)),.d (cI ((nth v0records v11l1.toNat).serial)),.d (cI ((nth v0records v11l1.toNat).kind)),.d (cS ((nth v0records v11l1.toNat).a)),.d (cS ((nth v0records v11l1.toNat).b)),.d (cI ((nth v0records v11l1.toNat).start)),.d (cI ((nth v0records v11l1.toNat).units)),.d (cI ((nth v0records v11l1.toNat).call)),.d (cI ((nth v0records v11l1.toNat).part)),.d (cB ((nth v0records v11l1.toNat).last)),.d (cI ((nth v0records v11l1.toNat).trunk)),.d (cB ((nth v0records v11l1.toNat).inbound))]],[]⟩,.i (v11l1+1)] rfl ⟨g_addI rfl rfl hk7,.e (u_storeK (n:=5) (off:=1) (i:=((nth v0records v11l1.toNat).kind).toNat) (l:=([o1c1l1,o1c2l1,o1c3l1,o1c4l1,o1c5l1]:List Int)) (c1:=cI) (a:=(nth ([o1c1l1,o1c2l1,o1c3l1,o1c4l1,o1c5l1]:List Int) ((nth v0records v11l1.toNat).kind).toNat)+((nth v0records v11l1.toNat).units)) rfl rfl rfl rfl rfl hk6 sz_3) rfl,OpQ.g (q_idxK (off:=1) (i:=(nth v0records v11l1.toNat).kind) underlying50 ⟨_,hi3,hs3⟩ rfl rfl hk5),g_addI rfl rfl hk4,OpQ.g (q_loadK (n:=5) (off:=1) (i:=((nth v0records v11l1.toNat).kind).toNat) (l:=([o1c1l1,o1c2l1,o1c3l1,o1c4l1,o1c5l1]:List Int)) (c1:=cI) one_3 rfl rfl rfl hk3),OpQ.g (q_idxK (off:=1) (i:=(nth v0records v11l1.toNat).kind) underlying50 ⟨_,hi3,hs3⟩ rfl rfl hk2),(show drawB _ _=true by kernel_rfl)⟩ ?_
   cases H
   exact .t 2 0 (ih1 (n1,(v11l1+1,nth (setN ([o1c1l1,o1c2l1,o1c3l1,o1c4l1,o1c5l1]:List Int) 5 ((nth v0records v11l1.toNat).kind).toNat ((nth ([o1c1l1,o1c2l1,o1c3l1,o1c4l1,o1c5l1]:List Int) ((nth v0records v11l1.toNat).kind).toNat)+((nth v0records v11l1.toNat).units))) 0,nth (setN ([o1c1l1,o1c2l1,o1c3l1,o1c4l1,o1c5l1]:List Int) 5 ((nth v0records v11l1.toNat).kind).toNat ((nth ([o1c1l1,o1c2l1,o1c3l1,o1c4l1,o1c5l1]:List Int) ((nth v0records v11l1.toNat).kind).toNat)+((nth v0records v11l1.toNat).units))) 1,nth (setN ([o1c1l1,o1c2l1,o1c3l1,o1c4l1,o1c5l1]:List Int) 5 ((nth v0records v11l1.toNat).kind).toNat ((nth ([o1c1l1,o1c2l1,o1c3l1,o1c4l1,o1c5l1]:List Int) ((nth v0records v11l1.toNat).kind).toNat)+((nth v0records v11l1.toNat).units))) 2,nth (setN ([o1c1l1,o1c2l1,o1c3l1,o1c4l1,o1c5l1]:List Int) 5 ((nth v0records v11l1.toNat).kind).toNat ((nth ([o1c1l1,o1c2l1,o1c3l1,o1c4l1,o1c5l1]:List Int) ((nth v0records v11l1.toNat).kind).toNat)+((nth v0records v11l1.toNat).units))) 3,nth (setN ([o1c1l1,o1c2l1,o1c3l1,o1c4l1,o1c5l1]:List Int) 5 ((nth v0records v11l1.toNat).kind).toNat ((nth ([o1c1l1,o1c2l1,o1c3l1,o1c4l1,o1c5l1]:List Int) ((nth v0records v11l1.toNat).kind).toNat)+((nth v0records v11l1.toNat).units))) 4)) HK1 hm1) rfl rfl rfl rfl rfl hS rfl
  ·obtain ⟨hk8,H⟩:=ck_some H
   refine .A 6 [.i (v11l1+1)] rfl (g_addI rfl rfl hk8) ?_
   cases H
   exact .t 2 0 (ih1 (n1,(v11l1+1,o1c1l1,o1c2l1,o1c3l1,o1c4l1,o1c5l1)) HK1 hm1) rfl rfl rfl rfl rfl hS rfl
 ·refine .A 6 [] rfl trivial ?_
  refine .R func18 results18 rfl ?_
  cases H
  cases HK1
  exact .m rfl (.rfl' _)
theorem c_f_batch_headOf {v0b:Batch} {r:Head} (H:f_batch_headOf v0b=some r):ACall prog 29 [.agg (Batch.row v0b)] (·=.agg (Head.row r)):=by
 obtain ⟨i25,hi25,hz25,hs25,hb25⟩:=in_25
 refine ACall.enter' func29 rfl ntmps29 rfl fun S hS=>?_
 unfold f_batch_headOf at H
 refine .A 19 [.r 0,.r 1,.i (v0b.records.length:Int),.d (.agg (Head.row (⟨v0b.source,v0b.number,v0b.format,(v0b.records.length:Int)⟩:Head)))] rfl ⟨OpQ.g (q_buildP pl_25 hi25 hz25 rfl rfl),s29.n rfl rfl⟩ ?_
 refine .R func29 results29 rfl ?_
 cases H
 exact .m rfl (.rfl' _)
theorem c_f_batch_checkHead {v0h:Head} {r:Int} (H:f_batch_checkHead v0h=some r):ACall prog 39 [.agg (Head.row v0h)] (·=cI r):=by
 refine ACall.enter' func39 rfl ntmps39 rfl fun S hS=>?_
 unfold f_batch_checkHead at H
 obtain ⟨y1,hy1,H⟩:=bind_some' H
 obtain ⟨y2,hy2,H⟩:=bind_some' H
 refine .A 21 [.r 0,.b y1,.b y2] rfl ⟨rfl,rfl,fun hg=>g_call (en 0 rfl) rfl rfl (c_f_batch_within (gcall_some hy2 hg)),rfl,rfl,g_call (en 0 rfl) rfl rfl (c_f_batch_within (hy1))⟩ ?_
 refine .ite H rfl (fun H=>?_) (fun H=>?_)
 ·refine .A 4 [] rfl trivial ?_
  refine .R func39 results39 rfl ?_
  cases H
  exact .m rfl (.rfl' _)
 ·obtain ⟨y3,hy3,H⟩:=bind_some' H
  refine .A 8 [.b y3] rfl (g_call (en 0 rfl) rfl rfl (c_f_batch_within (hy3))) ?_
  refine .ite H rfl (fun H=>?_) (fun H=>?_)
  ·refine .A 4 [] rfl trivial ?_
   refine .R func39 results39 rfl ?_
   cases H
   exact .m rfl (.rfl' _)
  ·obtain ⟨y4,hy4,H⟩:=bind_some' H
   refine .A 8 [.b y4] rfl (g_call (en 0 rfl) rfl rfl (c_f_batch_within (hy4))) ?_
   refine .ite H rfl (fun H=>?_) (fun H=>?_)
   ·refine .A 4 [] rfl trivial ?_
    refine .R func39 results39 rfl ?_
    cases H
    exact .m rfl (.rfl' _)
   ·refine .A 6 [] rfl trivial ?_
    refine .R func39 results39 rfl ?_
    cases H
    exact .m rfl (.rfl' _)
theorem c_f_textual_within {v0n:Int} {v1lo:Int} {v2hi:Int} {r:Bool} (H:f_textual_within v0n v1lo v2hi=some r):ACall prog 103 [cI v0n,cI v1lo,cI v2hi] (·=cB r):=by
 refine ACall.enter' func103 rfl ntmps103 rfl fun S hS=>?_
 unfold f_textual_within at H
 refine .A 16 [] rfl ⟨rfl,rfl,rfl⟩ ?_
 refine .R func103 results103 rfl ?_
 cases H
 exact .m rfl (.rfl' _)
theorem c_f_digits_digit {v0c:UInt8} {r:Bool} (H:f_digits_digit v0c=some r):ACall prog 128 [cU8 v0c] (·=cB r):=by
 refine ACall.enter' func128 rfl ntmps128 rfl fun S hS=>?_
 unfold f_digits_digit at H
 refine .A 14 [.b (decide (v0c≥48)),.b (decide (v0c≤57))] rfl ⟨rfl,fun hg=>OpQ.g (q8_leq (a:=v0c) (b:=57) rfl rfl),rfl,OpQ.g (q8_geq (a:=v0c) (b:=48) rfl rfl)⟩ ?_
 refine .R func128 results128 rfl ?_
 cases H
 exact .m rfl (.rfl' _)
theorem c_f_digits_Valid {v0s:List UInt8} {r:Bool} (H:f_digits_Valid v0s=some r):ACall prog 104 [cS v0s] (·=cB r):=by
 refine ACall.enter' func104 rfl ntmps104 rfl fun S hS=>?_
 unfold f_digits_Valid at H
 refine .A 11 [.i (v0s.length:Int)] rfl (OpQ.g (q_lenS underlying9 rfl)) ?_
 refine .blockJoin2 (ι:=Unit) (fun _=>[(0,.d (cS v0s))]) (fun _=>⟨[],[]⟩) (fun s=>f_digits_Valid_j1 v0s=some r) ?_ ?_
 ·rintro _ H
  replace H:f_digits_Valid_j1 v0s=some r:=H
  unfold f_digits_Valid_j1 at H
  refine .A 12 [.i (v0s.length:Int),.i (v0s.length:Int)] rfl ⟨rfl,rfl,fun hg=>OpQ.g (q_lenS underlying9 rfl),rfl,OpQ.g (q_lenS underlying9 rfl)⟩ ?_
  refine .R func104 results104 rfl ?_
  cases H
  exact .m rfl (.rfl' _)
 ·intro hj1 hj1x
  obtain ⟨n1,H⟩:=loop_some H
  refine .loop (ι:=Nat×(Int)) (fun ⟨_,v6l1⟩=>[(0,.d (cS v0s)),(5,.d (cI (v0s.length:Int))),(6,.d (cI v6l1))]) (fun ⟨_,v6l1⟩=>⟨[],[]⟩) (fun p=>iter (fun s=>f_digits_Valid_l1 v0s s) p.1 p.2=some r) (·.1) (n1,0) H (.cons rfl (.rfl' _) (.cons rfl (.rfl' _) (.cons rfl (.rfl' _) (.nil)))) rfl ?_
  rintro ⟨m1,v6l1⟩ HI ih1
  obtain ⟨n1,q1,hm1,H,HK1⟩:=iter_succ HI
  clear HI
  replace H:f_digits_Valid_l1 v0s v6l1=some q1:=H
  unfold f_digits_Valid_l1 at H
  refine .A 5 [] rfl trivial ?_
  refine .ite H rfl (fun H=>?_) (fun H=>?_)
  ·obtain ⟨hk1,H⟩:=ck_some H
   obtain ⟨y1,hy1,H⟩:=bind_some' H
   refine .A 16 [.c (nth v0s v6l1.toNat),.b y1] rfl ⟨g_call (en 1 rfl) rfl rfl (c_f_digits_digit (hy1)),OpQ.g (q_indexL (i:=v6l1) underlying9 rfl rfl hk1)⟩ ?_
   refine .ite H rfl (fun H=>?_) (fun H=>?_)
   ·refine .A 4 [] rfl trivial ?_
    refine .R func104 results104 rfl ?_
    cases H
    cases HK1
    exact .m rfl (.rfl' _)
   ·obtain ⟨hk2,H⟩:=ck_some H
    refine .A 6 [.i (v6l1+1)] rfl (g_addI rfl rfl hk2) ?_
    cases H
    exact .z (ih1 (n1,(v6l1+1)) HK1 hm1) rfl rfl
  ·refine .A 1 [] rfl trivial ?_
   obtain ⟨q0,H9,hq0⟩:=map_some' H; clear H; cases hq0
   cases HK1
   have H:=H9
   exact .z (hj1x () H) rfl rfl
theorem c_f_textual_check {v0:Record} {r:Int} (H:f_textual_check v0=some r):ACall prog 72 [.agg (Record.row v0)] (·=cI r):=by
 refine ACall.enter' func72 rfl ntmps72 rfl fun S hS=>?_
 unfold f_textual_check at H
 refine .A 21 [.r 0] rfl ⟨rfl,rfl,rfl⟩ ?_
 refine .seqJoin (ι:=Int) (fun v4j1=>[(1,.ref 0 0),(3,.d (cB ((v0.kind==3) || (v0.kind==4)))),(4,.d (cI v4j1))]) (fun v4j1=>⟨[.row 49 [.d (cI v0.source),.d (cI v0.serial),.d (cI v0.kind),.d (cS v0.a),.d (cS v0.b),.d (cI v0.start),.d (cI v0.units),.d (cI v0.call),.d (cI v0.part),.d (cB v0.last),.d (cI v0.trunk),.d (cB v0.inbound)]],[]⟩) (fun s=>f_textual_check_j1 v0 s=some r) ?_ ?_
 ·rintro v4j1 H
  replace H:f_textual_check_j1 v0 v4j1=some r:=H
  unfold f_textual_check_j1 at H
  obtain ⟨y1,hy1,H⟩:=bind_some' H
  obtain ⟨y2,hy2,H⟩:=bind_some' H
  refine .A 16 [.b y1,.b y2] rfl ⟨rfl,rfl,fun hg=>g_call (en 2 rfl) rfl rfl (c_f_textual_within (gcall_some hy2 hg)),rfl,rfl,g_call (en 2 rfl) rfl rfl (c_f_textual_within (hy1))⟩ ?_
  refine .ite H rfl (fun H=>?_) (fun H=>?_)
  ·refine .A 4 [] rfl trivial ?_
   refine .R func72 results72 rfl ?_
   cases H
   exact .m rfl (.rfl' _)
  ·obtain ⟨y3,hy3,H⟩:=bind_some' H
   refine .A 8 [.b y3] rfl (g_call (en 2 rfl) rfl rfl (c_f_textual_within (hy3))) ?_
   refine .ite H rfl (fun H=>?_) (fun H=>?_)
   ·refine .A 4 [] rfl trivial ?_
    refine .R func72 results72 rfl ?_
    cases H
    exact .m rfl (.rfl' _)
   ·obtain ⟨y4,hy4,H⟩:=bind_some' H
    obtain ⟨y5,hy5,H⟩:=bind_some' H
    refine .B 17 [.b y4,.b y5] rfl ⟨rfl,rfl,rfl,rfl,rfl,fun hg=>g_call (en 3 rfl) rfl rfl (c_f_digits_Valid (gcall_some hy5 hg)),rfl,rfl,g_call (en 3 rfl) rfl rfl (c_f_digits_Valid (hy4))⟩ ?_
    refine .guardG (env':=[(44,_),(47,_)]) rfl rfl rfl ⟨.inr (.inl rfl),⟨.inr (.inr ⟨_,_,rfl,rfl⟩),trivial⟩⟩ rfl (fun hg=>OpQ.g (q_pickAndB rfl rfl rfl)) ?_
    refine .B 1 [] rfl rfl ?_
    refine .guardG (env':=[(42,_),(49,_)]) rfl rfl rfl ⟨.inr (.inl rfl),⟨.inr (.inr ⟨_,_,rfl,rfl⟩),trivial⟩⟩ rfl (fun hg=>OpQ.g (q_pickAndB rfl rfl rfl)) ?_
    refine .A 3 [] rfl rfl ?_
    refine .ite H rfl (fun H=>?_) (fun H=>?_)
    ·refine .A 4 [] rfl trivial ?_
     refine .R func72 results72 rfl ?_
     cases H
     exact .m rfl (.rfl' _)
    ·obtain ⟨y6,hy6,H⟩:=bind_some' H
     refine .A 8 [.b y6] rfl (g_call (en 2 rfl) rfl rfl (c_f_textual_within (hy6))) ?_
     refine .ite H rfl (fun H=>?_) (fun H=>?_)
     ·refine .A 4 [] rfl trivial ?_
      refine .R func72 results72 rfl ?_
      cases H
      exact .m rfl (.rfl' _)
     ·obtain ⟨y7,hy7,H⟩:=bind_some' H
      refine .A 9 [.b y7] rfl (g_call (en 2 rfl) rfl rfl (c_f_textual_within (hy7))) ?_
      refine .ite H rfl (fun H=>?_) (fun H=>?_)
      ·refine .A 4 [] rfl trivial ?_
       refine .R func72 results72 rfl ?_
       cases H
       exact .m rfl (.rfl' _)
      ·obtain ⟨hk1,H⟩:=ck_some H
       refine .A 15 [.i (v0.start+v0.units)] rfl ⟨rfl,rfl,fun hg=>g_addI rfl rfl (hk1 hg),rfl,rfl,rfl,rfl⟩ ?_
       refine .ite H rfl (fun H=>?_) (fun H=>?_)
       ·refine .A 4 [] rfl trivial ?_
        refine .R func72 results72 rfl ?_
        cases H
        exact .m rfl (.rfl' _)
       ·obtain ⟨y8,hy8,H⟩:=bind_some' H
        obtain ⟨y9,hy9,H⟩:=bind_some' H
        refine .A 14 [.b y8,.b y9] rfl ⟨rfl,rfl,fun hg=>g_call (en 2 rfl) rfl rfl (c_f_textual_within (gcall_some hy9 hg)),rfl,rfl,g_call (en 2 rfl) rfl rfl (c_f_textual_within (hy8))⟩ ?_
        refine .ite H rfl (fun H=>?_) (fun H=>?_)
        ·refine .A 4 [] rfl trivial ?_
         refine .R func72 results72 rfl ?_
         cases H
         exact .m rfl (.rfl' _)
        ·refine .B 16 [.b ((v0.part==0) != (v0.call==0))] rfl ⟨rfl,rfl,rfl,rfl,OpQ.g (q_bneq rfl underlying4 rfl)⟩ ?_
         refine .guardG (env':=[(97,_),(100,_)]) rfl rfl rfl ⟨.inr (.inl rfl),⟨.inr (.inr ⟨_,_,rfl,rfl⟩),trivial⟩⟩ rfl (fun hg=>OpQ.g (q_pickAndB rfl rfl rfl)) ?_
         refine .A 3 [] rfl rfl ?_
         refine .ite H rfl (fun H=>?_) (fun H=>?_)
         ·refine .A 4 [] rfl trivial ?_
          refine .R func72 results72 rfl ?_
          cases H
          exact .m rfl (.rfl' _)
         ·obtain ⟨y10,hy10,H⟩:=bind_some' H
          refine .A 8 [.b y10] rfl (g_call (en 2 rfl) rfl rfl (c_f_textual_within (hy10))) ?_
          refine .ite H rfl (fun H=>?_) (fun H=>?_)
          ·refine .A 4 [] rfl trivial ?_
           refine .R func72 results72 rfl ?_
           cases H
           exact .m rfl (.rfl' _)
          ·refine .A 11 [] rfl ⟨rfl,rfl,rfl⟩ ?_
           refine .ite H rfl (fun H=>?_) (fun H=>?_)
           ·refine .A 4 [] rfl trivial ?_
            refine .R func72 results72 rfl ?_
            cases H
            exact .m rfl (.rfl' _)
           ·refine .A 6 [] rfl trivial ?_
            refine .R func72 results72 rfl ?_
            cases H
            exact .m rfl (.rfl' _)
 ·intro hj1
  refine .A 6 [] rfl trivial ?_
  refine .ite H rfl (fun H=>?_) (fun H=>?_)
  ·refine .A 3 [] rfl trivial ?_
   exact .z (hj1 604800 H) rfl rfl
  ·refine .A 1 [] rfl trivial ?_
   exact .z (hj1 1099511627776 H) rfl rfl
theorem c_f_textual_Encode {v0:Record} {r:(List UInt8)×Int} (H:f_textual_Encode v0=some r):ACall prog 40 [.agg (Record.row v0)] (·=.tup [cS r.1,cI r.2]):=by
 obtain ⟨i9,hi9,hz9,hs9,hb9⟩:=in_9
 refine ACall.enter' func40 rfl ntmps40 rfl fun S hS=>?_
 unfold f_textual_Encode at H
 obtain ⟨y1,hy1,H⟩:=bind_some' H
 refine .A 18 [.r 0,.i y1] rfl (g_call (en 4 rfl) rfl rfl (c_f_textual_check (hy1))) ?_
 refine .ite H rfl (fun H=>?_) (fun H=>?_)
 ·refine .A 6 [] rfl trivial ?_
  refine .R func40 results40 rfl ?_
  cases H
  exact .m rfl (.tupD rfl)
 ·refine .A 11 [] rfl trivial ?_
  refine .seqJoin (ι:=List UInt8) (fun v6j1=>[(1,.ref 0 0),(5,.d (.ex (.func (.func 73) #[] #[]))),(6,.d (cS v6j1))]) (fun v6j1=>⟨[.row 49 [.d (cI v0.source),.d (cI v0.serial),.d (cI v0.kind),.d (cS v0.a),.d (cS v0.b),.d (cI v0.start),.d (cI v0.units),.d (cI v0.call),.d (cI v0.part),.d (cB v0.last),.d (cI v0.trunk),.d (cB v0.inbound)]],[]⟩) (fun s=>f_textual_Encode_j1 v0 s=some r) ?_ ?_
  ·rintro v6j1 H
   replace H:f_textual_Encode_j1 v0 v6j1=some r:=H
   unfold f_textual_Encode_j1 at H
   obtain ⟨hk1,H⟩:=ck_some H
   obtain ⟨hk2,H⟩:=ck_some H
   obtain ⟨y2,hy2,H⟩:=bind_some' H
   obtain ⟨y3,hy3,H⟩:=bind_some' H
   obtain ⟨y4,hy4,H⟩:=bind_some' H
   obtain ⟨y5,hy5,H⟩:=bind_some' H
   refine .A 31 [.p 25,.i (v0.kind-1),.s ((([118,116,100,99]:List UInt8).take v0.kind.toNat).drop (v0.kind-1).toNat),.s y2,.s y3,.s y4,.s y5,.n (.tsl 1 (([(([118,116,100,99]:List UInt8).take v0.kind.toNat).drop (v0.kind-1).toNat,y2,y3,v0.a,v6j1,y4,y5]:List (List UInt8)).map rS) 0) ⟨9,1,([(([118,116,100,99]:List UInt8).take v0.kind.toNat).drop (v0.kind-1).toNat,y2,y3,v0.a,v6j1,y4,y5]:List (List UInt8)).length,none⟩] rfl ⟨.e (v_buildSliceT (n:=7) underlying109 hi9 hs9 hz9 rfl rfl rfl rfl rfl) rfl,g_callF (en 5 rfl) rfl rfl rfl (c_x_Itoa (hy5)),g_callF (en 5 rfl) rfl rfl rfl (c_x_Itoa (hy4)),g_callF (en 5 rfl) rfl rfl rfl (c_x_Itoa (hy3)),g_callF (en 5 rfl) rfl rfl rfl (c_x_Itoa (hy2)),OpQ.g (q_strLHL underlying9 rfl rfl rfl hk2),g_subI rfl rfl hk1,(show drawB _ _=true by kernel_rfl)⟩ ?_
   refine .seqJoin (ι:=List (List UInt8)) (fun v7j2=>[(1,.ref 0 0),(5,.d (.ex (.func (.func 73) #[] #[]))),(7,.tsl 1 (v7j2.map rS) 0)]) (fun v7j2=>⟨[.row 49 [.d (cI v0.source),.d (cI v0.serial),.d (cI v0.kind),.d (cS v0.a),.d (cS v0.b),.d (cI v0.start),.d (cI v0.units),.d (cI v0.call),.d (cI v0.part),.d (cB v0.last),.d (cI v0.trunk),.d (cB v0.inbound)]],[⟨9,1,v7j2.length,none⟩]⟩) (fun s=>f_textual_Encode_j2 v0 s=some r) ?_ ?_
   ·rintro v7j2 H
    replace H:f_textual_Encode_j2 v0 v7j2=some r:=H
    unfold f_textual_Encode_j2 at H
    refine .seqJoin (ι:=List (List UInt8)) (fun v7j3=>[(7,.tsl 1 (v7j3.map rS) 0)]) (fun v7j3=>⟨[.row 49 [.d (cI v0.source),.d (cI v0.serial),.d (cI v0.kind),.d (cS v0.a),.d (cS v0.b),.d (cI v0.start),.d (cI v0.units),.d (cI v0.call),.d (cI v0.part),.d (cB v0.last),.d (cI v0.trunk),.d (cB v0.inbound)]],[⟨9,1,v7j3.length,none⟩]⟩) (fun s=>f_textual_Encode_j3 s=some r) ?_ ?_
    ·rintro v7j3 H
     replace H:f_textual_Encode_j3 v7j3=some r:=H
     unfold f_textual_Encode_j3 at H
     obtain ⟨y6,hy6,H⟩:=bind_some' H
     refine .A 7 [.s y6] rfl (g_call (en 6 rfl) rfl rfl (c_x_Join (hy6))) ?_
     refine .R func40 results40 rfl ?_
     cases H
     exact .m rfl (.tupD rfl)
    ·intro hj3
     refine .A 6 [] rfl trivial ?_
     refine .ite H rfl (fun H=>?_) (fun H=>?_)
     ·refine .A 4 [] rfl trivial ?_
      refine .seqJoin (ι:=List UInt8) (fun v8j4=>[(1,.ref 0 0),(5,.d (.ex (.func (.func 73) #[] #[]))),(7,.tsl 1 (v7j2.map rS) 0),(8,.d (cS v8j4))]) (fun v8j4=>⟨[.row 49 [.d (cI v0.source),.d (cI v0.serial),.d (cI v0.kind),.d (cS v0.a),.d (cS v0.b),.d (cI v0.start),.d (cI v0.units),.d (cI v0.call),.d (cI v0.part),.d (cB v0.last),.d (cI v0.trunk),.d (cB v0.inbound)]],[⟨9,1,v7j2.length,none⟩]⟩) (fun s=>f_textual_Encode_j4 v0 v7j2 s=some r) ?_ ?_
      ·rintro v8j4 H
       replace H:f_textual_Encode_j4 v0 v7j2 v8j4=some r:=H
       unfold f_textual_Encode_j4 at H
       obtain ⟨y7,hy7,H⟩:=bind_some' H
       obtain ⟨hk3,H⟩:=ck_some H
       refine .A 11 [.s y7,.d (slOf 1 rS ([v8j4,y7]:List (List UInt8))),.a 0 9 1 rS (v7j2++([v8j4,y7]:List (List UInt8)))] rfl ⟨s109.a rfl rfl rfl rfl hk3,g_buildSliceN (n:=2) (rows:=([v8j4,y7]:List (List UInt8)).map rS) underlying109 hi9 hs9 hz9 rfl rfl rfl rfl rfl,g_callF (en 5 rfl) rfl rfl rfl (c_x_Itoa (hy7))⟩ ?_
       exact .z (hj3 (v7j2++([v8j4,y7]:List (List UInt8))) H) rfl rfl
      ·intro hj4
       refine .A 5 [] rfl trivial ?_
       refine .ite H rfl (fun H=>?_) (fun H=>?_)
       ·refine .A 3 [] rfl trivial ?_
        exact .z (hj4 ([105,110]:List UInt8) H) rfl rfl
       ·refine .A 1 [] rfl trivial ?_
        exact .z (hj4 ([111,117,116]:List UInt8) H) rfl rfl
     ·refine .A 1 [] rfl trivial ?_
      exact .z (hj3 v7j2 H) rfl rfl
   ·intro hj2
    refine .A 6 [] rfl trivial ?_
    refine .ite H rfl (fun H=>?_) (fun H=>?_)
    ·obtain ⟨y8,hy8,H⟩:=bind_some' H
     obtain ⟨y9,hy9,H⟩:=bind_some' H
     obtain ⟨hk4,H⟩:=ck_some H
     refine .A 21 [.p 10,.s y8,.s y9,.d (slOf 1 rS ([([112,97,114,116]:List UInt8),y8,y9]:List (List UInt8))),.a 0 9 1 rS (([(([118,116,100,99]:List UInt8).take v0.kind.toNat).drop (v0.kind-1).toNat,y2,y3,v0.a,v6j1,y4,y5]:List (List UInt8))++([([112,97,114,116]:List UInt8),y8,y9]:List (List UInt8)))] rfl ⟨s109.a rfl rfl rfl rfl hk4,g_buildSliceN (n:=3) (rows:=([([112,97,114,116]:List UInt8),y8,y9]:List (List UInt8)).map rS) underlying109 hi9 hs9 hz9 rfl rfl rfl rfl rfl,g_callF (en 5 rfl) rfl rfl rfl (c_x_Itoa (hy9)),g_callF (en 5 rfl) rfl rfl rfl (c_x_Itoa (hy8)),(show drawB _ _=true by kernel_rfl)⟩ ?_
     refine .ite H rfl (fun H=>?_) (fun H=>?_)
     ·obtain ⟨hk5,H⟩:=ck_some H
      refine .A 6 [.d (slOf 1 rS ([([108,97,115,116]:List UInt8)]:List (List UInt8))),.a 0 9 1 rS ((([(([118,116,100,99]:List UInt8).take v0.kind.toNat).drop (v0.kind-1).toNat,y2,y3,v0.a,v6j1,y4,y5]:List (List UInt8))++([([112,97,114,116]:List UInt8),y8,y9]:List (List UInt8)))++([([108,97,115,116]:List UInt8)]:List (List UInt8)))] rfl ⟨s109.a rfl rfl rfl rfl hk5,g_buildSlice1 underlying109 hi9 hs9 hz9 rfl rfl rfl rfl rfl⟩ ?_
      exact .z (hj2 ((([(([118,116,100,99]:List UInt8).take v0.kind.toNat).drop (v0.kind-1).toNat,y2,y3,v0.a,v6j1,y4,y5]:List (List UInt8))++([([112,97,114,116]:List UInt8),y8,y9]:List (List UInt8)))++([([108,97,115,116]:List UInt8)]:List (List UInt8))) H) rfl rfl
     ·refine .A 1 [] rfl trivial ?_
      exact .z (hj2 (([(([118,116,100,99]:List UInt8).take v0.kind.toNat).drop (v0.kind-1).toNat,y2,y3,v0.a,v6j1,y4,y5]:List (List UInt8))++([([112,97,114,116]:List UInt8),y8,y9]:List (List UInt8))) H) rfl rfl
    ·refine .A 1 [] rfl trivial ?_
     exact .z (hj2 ([(([118,116,100,99]:List UInt8).take v0.kind.toNat).drop (v0.kind-1).toNat,y2,y3,v0.a,v6j1,y4,y5]:List (List UInt8)) H) rfl rfl
  ·intro hj1
   refine .A 5 [] rfl trivial ?_
   refine .ite H rfl (fun H=>?_) (fun H=>?_)
   ·refine .A 3 [] rfl trivial ?_
    exact .z (hj1 ([45]:List UInt8) H) rfl rfl
   ·refine .A 1 [] rfl trivial ?_
    exact .z (hj1 v0.b H) rfl rfl
theorem c_f_batch_Check {v0b:Batch} {r:Int} (H:f_batch_Check v0b=some r):ACall prog 17 [.agg (Batch.row v0b)] (·=cI r):=by
 refine ACall.enter' func17 rfl ntmps17 rfl fun S hS=>?_
 unfold f_batch_Check at H
 obtain ⟨y1,hy1,H⟩:=bind_some' H
 obtain ⟨y2,hy2,H⟩:=bind_some' H
 refine .A 18 [.r 0,.d (.agg (Head.row y1)),.i y2] rfl ⟨g_call (en 7 rfl) rfl rfl (c_f_batch_checkHead (hy2)),g_call (en 8 rfl) rfl rfl (c_f_batch_headOf (hy1))⟩ ?_
 refine .ite H rfl (fun H=>?_) (fun H=>?_)
 ·refine .A 5 [] rfl trivial ?_
  refine .R func17 results17 rfl ?_
  cases H
  exact .m rfl (.rfl' _)
 ·refine .A 10 [.i (v0b.records.length:Int)] rfl (s29.n rfl rfl) ?_
  obtain ⟨n1,H⟩:=loop_some H
  refine .loop (ι:=Nat×(Int)) (fun ⟨_,v17l1⟩=>[(1,.ref 0 0),(15,.d (slOf 12 Record.row v0b.records)),(16,.d (cI (v0b.records.length:Int))),(17,.d (cI v17l1))]) (fun ⟨_,v17l1⟩=>⟨[.row 31 [.d (cI v0b.source),.d (cI v0b.number),.d (cI v0b.format),.d (slOf 12 Record.row v0b.records)]],[]⟩) (fun p=>iter (fun s=>f_batch_Check_l1 v0b s) p.1 p.2=some r) (·.1) (n1,0) H (.cons rfl (.rfl' _) (.cons rfl (.rfl' _) (.cons rfl (.rfl' _) (.cons rfl (.rfl' _) (.nil))))) rfl ?_
  rintro ⟨m1,v17l1⟩ HI ih1
  obtain ⟨n1,q1,hm1,H,HK1⟩:=iter_succ HI
  clear HI
  replace H:f_batch_Check_l1 v0b v17l1=some q1:=H
  unfold f_batch_Check_l1 at H
  refine .A 5 [] rfl trivial ?_
  refine .ite H rfl (fun H=>?_) (fun H=>?_)
  ·obtain ⟨hk1,H⟩:=ck_some H
   obtain ⟨y3,hy3,H⟩:=bind_some' H
   refine .A 26 [.d (.ro (Record.row (nth v0b.records v17l1.toNat))),.r 1,.d (.tup [cS y3.1,cI y3.2])] rfl ⟨g_call (en 9 rfl) rfl rfl (c_f_textual_Encode (hy3)),s29.ix rfl rfl rfl hk1⟩ ?_
   refine .ite H rfl (fun H=>?_) (fun H=>?_)
   ·refine .A 5 [] rfl trivial ?_
    refine .R func17 results17 rfl ?_
    cases H
    cases HK1
    exact .m rfl (.rfl' _)
   ·refine .A 9 [] rfl trivial ?_
    refine .ite H rfl (fun H=>?_) (fun H=>?_)
    ·refine .A 4 [] rfl trivial ?_
     refine .R func17 results17 rfl ?_
     cases H
     cases HK1
     exact .m rfl (.rfl' _)
    ·obtain ⟨hk2,H⟩:=ck_some H
     refine .A 6 [.i (v17l1+1)] rfl (g_addI rfl rfl hk2) ?_
     cases H
     exact .t 1 0 (ih1 (n1,(v17l1+1)) HK1 hm1) rfl rfl rfl rfl rfl hS rfl
  ·refine .A 5 [] rfl trivial ?_
   refine .R func17 results17 rfl ?_
   cases H
   cases HK1
   exact .m rfl (.rfl' _)
set_option maxRecDepth 100000
set_option maxHeartbeats 1000000
theorem c_f_codec_zigzag {v0n:Int} {r:Int} (H:f_codec_zigzag v0n=some r):ACall prog 127 [cI v0n] (·=cK .u64 r):=by
 refine ACall.enter' func127 rfl ntmps127 rfl fun S hS=>?_
 unfold f_codec_zigzag at H
 obtain ⟨hk1,H⟩:=ck_some H
 refine .A 15 [.d (cK .u64 (IntKind.wrap .u64 v0n)),.d (cK .u64 (IntKind.wrap .u64 ((IntKind.wrap .u64 v0n)*2 ^ (min (Int.toNat (1)) 64)))),.i (v0n / 2 ^ (Int.toNat (63))),.d (cK .u64 (IntKind.wrap .u64 (v0n / 2 ^ (Int.toNat (63))))),.d (cK .u64 (bXor .u64 (IntKind.wrap .u64 ((IntKind.wrap .u64 v0n)*2 ^ (min (Int.toNat (1)) 64))) (IntKind.wrap .u64 (v0n / 2 ^ (Int.toNat (63))))))] rfl ⟨OpQ.g (q_xor rfl rfl),OpQ.g (q_conv underlying3 underlying122 rfl rfl),OpQ.g (q_shrI63 rfl rfl (by decide)),OpQ.g (q_shl (a:=IntKind.wrap .u64 v0n) (b:=1) rfl rfl hk1 rfl),OpQ.g (q_conv underlying3 underlying122 rfl rfl)⟩ ?_
 refine .R func127 results127 rfl ?_
 cases H
 exact .m rfl (.rfl' _)
theorem c_g_codec_grown {v0b:List UInt8} {v1n:Int} {r:(List UInt8)} (H:f_codec_grown v0b v1n=some r):ACallS prog 89 [.d (slOf 1 rB8 v0b),.d (cI v1n)] ⟨[],[]⟩ (QE (.tsl 1 (r.map rB8) 0) ⟨[],[⟨5,1,r.length,none⟩]⟩):=by
 obtain ⟨i5,hi5,hz5,hs5,hb5⟩:=in_5
 refine ACallS.keep ?_
 refine ACallS.enter func89 rfl ntmps89 rfl fun S hS=>?_
 unfold f_codec_grown at H
 obtain ⟨hk1,H⟩:=ck_some H
 obtain ⟨hk2,H⟩:=ck_some H
 refine .A 26 [.i (v0b.length:Int),.i (v0b.length:Int),.i ((v0b.length:Int)+v1n),.n (.vc 0 ((List.replicate ((v0b.length:Int)).toNat 0:List UInt8).length)) ⟨5,1,((List.replicate ((v0b.length:Int)).toNat 0:List UInt8).length),some ((List.replicate ((v0b.length:Int)).toNat 0:List UInt8).map rB8)⟩,.t (.d (cI ((min v0b.length (List.replicate ((v0b.length:Int)).toNat 0:List UInt8).length:Nat):Int))) 0 ⟨5,1,((List.replicate ((v0b.length:Int)).toNat 0:List UInt8).length),some ((v0b.take (min v0b.length (List.replicate ((v0b.length:Int)).toNat 0:List UInt8).length)++(List.replicate ((v0b.length:Int)).toNat 0:List UInt8).drop (min v0b.length (List.replicate ((v0b.length:Int)).toNat 0:List UInt8).length)).map rB8)⟩] rfl ⟨.e (v_copyV (l:=(List.replicate ((v0b.length:Int)).toNat 0:List UInt8)) (l':=v0b) (row:=rB8) underlying22 hi5 hs5 rfl rfl rfl rfl) rfl,.e (v_makeV (row:=rB8) (a:=(v0b.length:Int)) (b:=(v0b.length:Int)+v1n) (a0:=0) underlying22 hi5 hz5 hs5 rfl (by rw [hb5]; decide) rfl rfl rfl hk2) rfl,g_addI rfl rfl hk1,s22.n rfl rfl,s22.n rfl rfl⟩ ?_
 refine .freezeL (l:=v0b.take (min v0b.length (List.replicate ((v0b.length:Int)).toNat 0:List UInt8).length)++(List.replicate ((v0b.length:Int)).toNat 0:List UInt8).drop (min v0b.length (List.replicate ((v0b.length:Int)).toNat 0:List UInt8).length)) (row:=rB8) (i:=4) rfl rfl ?_
 refine .R func89 results89 rfl ?_
 cases H
 exact ⟨[],[0],rfl,rfl,rfl,rfl,rfl,rfl,rfl,rfl,.rfl' _⟩
theorem c_g_codec_add {v1n:Int} {y0t0p:List UInt8} {r:(List UInt8)} (H:g_codec_add v1n y0t0p=some r):ACallS prog 88 [.tsl 1 (y0t0p.map rB8) 0,.d (cI v1n)] ⟨[],[⟨5,1,y0t0p.length,none⟩]⟩ (QE (.tsl 1 (r.map rB8) 0) ⟨[],[⟨5,1,r.length,none⟩]⟩):=by
 obtain ⟨i5,hi5,hz5,hs5,hb5⟩:=in_5
 refine ACallS.keep ?_
 refine ACallS.enter func88 rfl ntmps88 rfl fun S hS=>?_
 unfold g_codec_add at H
 obtain ⟨y1,hy1,H⟩:=bind_some' H
 refine .A 11 [.d (cK .u64 y1)] rfl (g_call (en 10 rfl) rfl rfl (c_f_codec_zigzag (hy1))) ?_
 refine .blockJoin2 (ι:=List UInt8×Int) (fun ⟨v0bj1,v5uj1⟩=>[(0,.tsl 1 (v0bj1.map rB8) 0),(5,.d (cK .u64 v5uj1))]) (fun ⟨v0bj1,v5uj1⟩=>⟨[],[⟨5,1,v0bj1.length,none⟩]⟩) (fun s=>g_codec_add_j1 s.1 s.2=some r) ?_ ?_
 ·rintro ⟨v0bj1,v5uj1⟩ H
  replace H:g_codec_add_j1 v0bj1 v5uj1=some r:=H
  unfold g_codec_add_j1 at H
  obtain ⟨hk1,H⟩:=ck_some H
  refine .A 9 [.c (UInt8.ofInt v5uj1),.d (slOf 1 rB8 ([UInt8.ofInt v5uj1]:List UInt8)),.a 0 5 1 rB8 (v0bj1++([UInt8.ofInt v5uj1]:List UInt8))] rfl ⟨s22.a rfl rfl rfl rfl hk1,g_buildSlice1 underlying22 hi5 hs5 hz5 rfl rfl rfl rfl rfl,OpQ.g (q_conv8 underlying122 underlying5 rfl)⟩ ?_
  refine .R func88 results88 rfl ?_
  cases H
  exact ⟨[],[0],rfl,rfl,rfl,rfl,rfl,rfl,rfl,rfl,.rfl' _⟩
 ·intro hj1 hj1x
  obtain ⟨n1,H⟩:=loop_some H
  refine .loop (ι:=Nat×(List UInt8×Int)) (fun ⟨_,v0bl1,v5ul1⟩=>[(0,.tsl 1 (v0bl1.map rB8) 0),(5,.d (cK .u64 v5ul1))]) (fun ⟨_,v0bl1,v5ul1⟩=>⟨[],[⟨5,1,v0bl1.length,none⟩]⟩) (fun p=>iter (fun s=>g_codec_add_l1 s.1 s.2) p.1 p.2=some r) (·.1) (n1,(y0t0p,y1)) H (.cons rfl (.rfl' _) (.cons rfl (.rfl' _) (.nil))) rfl ?_
  rintro ⟨m1,v0bl1,v5ul1⟩ HI ih1
  obtain ⟨n1,q1,hm1,H,HK1⟩:=iter_succ HI
  clear HI
  replace H:g_codec_add_l1 v0bl1 v5ul1=some q1:=H
  unfold g_codec_add_l1 at H
  refine .A 6 [] rfl trivial ?_
  refine .ite H rfl (fun H=>?_) (fun H=>?_)
  ·obtain ⟨hk2,H⟩:=ck_some H
   obtain ⟨hk3,H⟩:=ck_some H
   refine .A 18 [.c (UInt8.ofInt v5ul1),.c ((UInt8.ofInt v5ul1) ||| 128),.d (slOf 1 rB8 ([(UInt8.ofInt v5ul1) ||| 128]:List UInt8)),.a 0 5 1 rB8 (v0bl1++([(UInt8.ofInt v5ul1) ||| 128]:List UInt8)),.d (cK .u64 (Int.fdiv v5ul1 (2 ^ (min (Int.toNat (7)) 64))))] rfl ⟨OpQ.g (q_shr (a:=v5ul1) (b:=7) rfl rfl hk3 rfl),s22.a rfl rfl rfl rfl hk2,g_buildSlice1 underlying22 hi5 hs5 hz5 rfl rfl rfl rfl rfl,OpQ.g (q8_or (a:=UInt8.ofInt v5ul1) (b:=128) rfl rfl),OpQ.g (q_conv8 underlying122 underlying5 rfl)⟩ ?_
   cases H
   exact .z (ih1 (n1,(v0bl1++([(UInt8.ofInt v5ul1) ||| 128]:List UInt8),Int.fdiv v5ul1 (2 ^ (min (Int.toNat (7)) 64)))) HK1 hm1) rfl rfl
  ·refine .A 1 [] rfl trivial ?_
   obtain ⟨q0,H9,hq0⟩:=map_some' H; clear H; cases hq0
   cases HK1
   have H:=H9
   exact .z (hj1x (v0bl1,v5ul1) H) rfl rfl
theorem c_f_codec_PutNumber {v0b:List UInt8} {v1n:Int} {r:(List UInt8)} (H:f_codec_PutNumber v0b v1n=some r):ACall prog 56 [slOf 1 rB8 v0b,cI v1n] (·=slOf 1 rB8 r):=by
 refine ACall.enter' func56 rfl ntmps56 rfl fun S hS=>?_
 unfold f_codec_PutNumber at H
 obtain ⟨y1,hy1,H⟩:=bind_some' H
 refine .B 7 [] rfl trivial ?_
 refine .callF (en 11 rfl) rfl [] [] (x:=.tsl 1 (y1.map rB8) 0) (st':=⟨[],[⟨5,1,y1.length,none⟩]⟩) rfl (c_g_codec_grown (hy1)) ⟨.rfl' _,.rfl' _,trivial⟩ rfl rfl rfl rfl rfl rfl ?_
 obtain ⟨y2,hy2,H⟩:=bind_some' H
 refine .B 1 [] rfl trivial ?_
 refine .callF (en 12 rfl) rfl [] [0] (x:=.tsl 1 (y2.map rB8) 0) (st':=⟨[],[⟨5,1,y2.length,none⟩]⟩) rfl (c_g_codec_add (hy2)) ⟨.rfl' _,.rfl' _,trivial⟩ rfl rfl rfl rfl rfl rfl ?_
 refine .A 2 [] rfl trivial ?_
 refine .R func56 results56 rfl ?_
 cases H
 exact .m rfl (.tsl _ _ _)
theorem c_f_batch_number {v0n:Int} {r:(List UInt8)×Int} (H:f_batch_number v0n=some r):ACall prog 32 [cI v0n] (·=.tup [slOf 1 rB8 r.1,cI r.2]):=by
 refine ACall.enter' func32 rfl ntmps32 rfl fun S hS=>?_
 unfold f_batch_number at H
 obtain ⟨y1,hy1,H⟩:=bind_some' H
 refine .A 12 [.d (slOf 1 rB8 y1)] rfl (g_call (en 13 rfl) rfl rfl ((c_f_codec_PutNumber (hy1)).le ⟨.nil 1,.rfl' _,trivial⟩)) ?_
 refine .R func32 results32 rfl ?_
 cases H
 exact .m rfl (.tupD rfl)
theorem c_f_digits_Pack {v0s:List UInt8} {r:(List UInt8)×Int} (H:f_digits_Pack v0s=some r):ACall prog 90 [cS v0s] (·=.tup [slOf 1 rB8 r.1,cI r.2]):=by
 obtain ⟨i5,hi5,hz5,hs5,hb5⟩:=in_5
 refine ACall.enter' func90 rfl ntmps90 rfl fun S hS=>?_
 unfold f_digits_Pack at H
 obtain ⟨y1,hy1,H⟩:=bind_some' H
 refine .A 12 [.b y1] rfl (g_call (en 3 rfl) rfl rfl (c_f_digits_Valid (hy1))) ?_
 refine .ite H rfl (fun H=>?_) (fun H=>?_)
 ·refine .A 5 [] rfl trivial ?_
  refine .R func90 results90 rfl ?_
  cases H
  exact .m rfl (.tupL ⟨.nil 1,.rfl' _,trivial⟩)
 ·refine .A 11 [] rfl trivial ?_
  refine .tok (i:=4) (e:=5) (sz:=1) rfl ?_
  obtain ⟨n1,H⟩:=loop_some H
  refine .loop (ι:=Nat×(List UInt8×Int)) (fun ⟨_,v4bl1,v5il1⟩=>[(0,.d (cS v0s)),(4,.tsl 1 (v4bl1.map rB8) 0),(5,.d (cI v5il1))]) (fun ⟨_,v4bl1,v5il1⟩=>⟨[],[⟨5,1,v4bl1.length,none⟩]⟩) (fun p=>iter (fun s=>f_digits_Pack_l1 v0s s.1 s.2) p.1 p.2=some r) (·.1) (n1,(([]:List UInt8),0)) H (.cons rfl (.rfl' _) (.cons rfl (.rfl' _) (.cons rfl (.rfl' _) (.nil)))) rfl ?_
  rintro ⟨m1,v4bl1,v5il1⟩ HI ih1
  obtain ⟨n1,q1,hm1,H,HK1⟩:=iter_succ HI
  clear HI
  replace H:f_digits_Pack_l1 v0s v4bl1 v5il1=some q1:=H
  unfold f_digits_Pack_l1 at H
  refine .A 8 [.i (v0s.length:Int)] rfl (OpQ.g (q_lenS underlying9 rfl)) ?_
  refine .ite H rfl (fun H=>?_) (fun H=>?_)
  ·refine .A 7 [] rfl trivial ?_
   refine .seqJoin (ι:=UInt8) (fun v6lowj1=>[(0,.d (cS v0s)),(4,.tsl 1 (v4bl1.map rB8) 0),(5,.d (cI v5il1)),(6,.d (cU8 v6lowj1))]) (fun v6lowj1=>⟨[],[⟨5,1,v4bl1.length,none⟩]⟩) (fun s=>f_digits_Pack_j1 v0s v4bl1 v5il1 s=some q1) ?_ ?_
   ·rintro v6lowj1 H
    replace H:f_digits_Pack_j1 v0s v4bl1 v5il1 v6lowj1=some q1:=H
    unfold f_digits_Pack_j1 at H
    obtain ⟨hk1,H⟩:=ck_some H
    obtain ⟨hk2,H⟩:=ck_some H
    obtain ⟨hk3,H⟩:=ck_some H
    obtain ⟨hk4,H⟩:=ck_some H
    refine .A 19 [.c (nth v0s v5il1.toNat),.c ((nth v0s v5il1.toNat) - 48),.c (u8shl ((nth v0s v5il1.toNat) - 48) 4),.c ((u8shl ((nth v0s v5il1.toNat) - 48) 4) ||| v6lowj1),.d (slOf 1 rB8 ([(u8shl ((nth v0s v5il1.toNat) - 48) 4) ||| v6lowj1]:List UInt8)),.a 0 5 1 rB8 (v4bl1++([(u8shl ((nth v0s v5il1.toNat) - 48) 4) ||| v6lowj1]:List UInt8)),.i (v5il1+2)] rfl ⟨g_addI rfl rfl hk4,s22.a rfl rfl rfl rfl hk3,g_buildSlice1 underlying22 hi5 hs5 hz5 rfl rfl rfl rfl rfl,OpQ.g (q8_or (a:=u8shl ((nth v0s v5il1.toNat) - 48) 4) (b:=v6lowj1) rfl rfl),OpQ.g (q8_shl (a:=(nth v0s v5il1.toNat) - 48) (n:=4) rfl rfl hk2),OpQ.g (q8_sub (a:=nth v0s v5il1.toNat) (b:=48) rfl rfl),OpQ.g (q_indexL (i:=v5il1) underlying9 rfl rfl hk1)⟩ ?_
    cases H
    exact .z (ih1 (n1,(v4bl1++([(u8shl ((nth v0s v5il1.toNat) - 48) 4) ||| v6lowj1]:List UInt8),v5il1+2)) HK1 hm1) rfl rfl
   ·intro hj1
    obtain ⟨hk5,H⟩:=ck_some H
    refine .A 8 [.i (v5il1+1),.i (v0s.length:Int)] rfl ⟨OpQ.g (q_lenS underlying9 rfl),g_addI rfl rfl hk5⟩ ?_
    refine .ite H rfl (fun H=>?_) (fun H=>?_)
    ·obtain ⟨hk6,H⟩:=ck_some H
     obtain ⟨hk7,H⟩:=ck_some H
     refine .A 8 [.i (v5il1+1),.c (nth v0s (v5il1+1).toNat),.c ((nth v0s (v5il1+1).toNat) - 48)] rfl ⟨OpQ.g (q8_sub (a:=nth v0s (v5il1+1).toNat) (b:=48) rfl rfl),OpQ.g (q_indexL (i:=v5il1+1) underlying9 rfl rfl hk7),g_addI rfl rfl hk6⟩ ?_
     exact .z (hj1 ((nth v0s (v5il1+1).toNat) - 48) H) rfl rfl
    ·refine .A 1 [] rfl trivial ?_
     exact .z (hj1 15 H) rfl rfl
  ·refine .A 7 [] rfl trivial ?_
   refine .R func90 results90 rfl ?_
   cases H
   cases HK1
   exact .m rfl (.tupL ⟨.tsl _ _ _,.rfl' _,trivial⟩)
theorem c_f_tagged_bytes {v0n:Int} {r:(List UInt8)} (H:f_tagged_bytes v0n=some r):ACall prog 93 [cI v0n] (·=slOf 1 rB8 r):=by
 obtain ⟨i5,hi5,hz5,hs5,hb5⟩:=in_5
 refine ACall.enter' func93 rfl ntmps93 rfl fun S hS=>?_
 unfold f_tagged_bytes at H
 refine .A 10 [] rfl trivial ?_
 obtain ⟨n1,H⟩:=loop_some H
 refine .loop (ι:=Nat×(Int×List UInt8)) (fun ⟨_,v0nl1,v3outl1⟩=>[(0,.d (cI v0nl1)),(3,.d (slOf 1 rB8 v3outl1))]) (fun ⟨_,v0nl1,v3outl1⟩=>⟨[],[]⟩) (fun p=>iter (fun s=>f_tagged_bytes_l1 s.1 s.2) p.1 p.2=some r) (·.1) (n1,(v0n,[])) H (.cons rfl (.rfl' _) (.cons rfl (.nil 1) (.nil))) rfl ?_
 rintro ⟨m1,v0nl1,v3outl1⟩ HI ih1
 obtain ⟨n1,q1,hm1,H,HK1⟩:=iter_succ HI
 clear HI
 replace H:f_tagged_bytes_l1 v0nl1 v3outl1=some q1:=H
 unfold f_tagged_bytes_l1 at H
 refine .A 6 [] rfl trivial ?_
 refine .ite H rfl (fun H=>?_) (fun H=>?_)
 ·obtain ⟨hk1,H⟩:=ck_some H
  obtain ⟨hk2,H⟩:=ck_some H
  refine .A 17 [.c (UInt8.ofInt v0nl1),.n (.tsl 1 (([UInt8.ofInt v0nl1]:List UInt8).map rB8) 0) ⟨5,1,([UInt8.ofInt v0nl1]:List UInt8).length,none⟩,.a 0 5 1 rB8 (([UInt8.ofInt v0nl1]:List UInt8)++v3outl1),.i (v0nl1 / 2 ^ (Int.toNat (8)))] rfl ⟨OpQ.g (q_shrI rfl rfl hk2),s22.a rfl rfl rfl rfl hk1,.e (v_buildSliceT (n:=1) underlying22 hi5 hs5 hz5 rfl rfl rfl rfl rfl) rfl,OpQ.g (q_conv8 underlying3 underlying5 rfl)⟩ ?_
  cases H
  exact .to 0 0 (env':=[(0,.d (cI (v0nl1 / 2 ^ (Int.toNat (8))))),(3,.d (slOf 1 rB8 (([UInt8.ofInt v0nl1]:List UInt8)++v3outl1)))]) (st':=⟨[],[]⟩) (.cons rfl (.rfl' _) (.cons rfl (.tsl _ _ _) .nil)) rfl rfl rfl rfl rfl (by rw [hS]; exact Nat.le_of_ble_eq_true rfl) (by rw [hS]; exact Nat.le_of_ble_eq_true rfl) <| .sub (.cons rfl (.rfl' _) (.cons rfl (.rfl' _) (.nil))) (ih1 (n1,(v0nl1 / 2 ^ (Int.toNat (8)),([UInt8.ofInt v0nl1]:List UInt8)++v3outl1)) HK1 hm1)
 ·refine .A 6 [] rfl trivial ?_
  refine .R func93 results93 rfl ?_
  cases H
  cases HK1
  exact .m rfl (.rfl' _)
theorem c_f_tagged_flag {v0holds:Bool} {v1n:Int} {r:Int} (H:f_tagged_flag v0holds v1n=some r):ACall prog 94 [cB v0holds,cI v1n] (·=cI r):=by
 refine ACall.enter' func94 rfl ntmps94 rfl fun S hS=>?_
 unfold f_tagged_flag at H
 refine .A 9 [] rfl trivial ?_
 refine .ite H rfl (fun H=>?_) (fun H=>?_)
 ·refine .A 5 [] rfl trivial ?_
  refine .R func94 results94 rfl ?_
  cases H
  exact .m rfl (.rfl' _)
 ·refine .A 5 [] rfl trivial ?_
  refine .R func94 results94 rfl ?_
  cases H
  exact .m rfl (.rfl' _)
theorem c_g_tagged_put {v1tag:Int} {v2value:List UInt8} {y0t0p:List UInt8} {n0p:Nat} {r:(List UInt8)} (H:g_tagged_put v1tag v2value y0t0p=some r):ACallS prog 92 [.vc 0 n0p,.d (cI v1tag),.d (slOf 1 rB8 v2value)] ⟨[],[⟨5,1,n0p,some (y0t0p.map rB8)⟩]⟩ (QE (.vc 0 ((r).length)) ⟨[],[⟨5,1,r.length,some (r.map rB8)⟩]⟩):=by
 obtain ⟨i5,hi5,hz5,hs5,hb5⟩:=in_5
 refine ACallS.keep ?_
 refine ACallS.enter func92 rfl ntmps92 rfl fun S hS=>?_
 unfold g_tagged_put at H
 obtain ⟨hk1,H⟩:=ck_some H
 obtain ⟨hk2,H⟩:=ck_some H
 refine .A 23 [.c (UInt8.ofInt v1tag),.i (v2value.length:Int),.c (UInt8.ofInt (v2value.length:Int)),.d (slOf 1 rB8 ([UInt8.ofInt v1tag,UInt8.ofInt (v2value.length:Int)]:List UInt8)),.t (.vc 0 ((y0t0p++([UInt8.ofInt v1tag,UInt8.ofInt (v2value.length:Int)]:List UInt8)).length)) 0 ⟨5,1,((y0t0p++([UInt8.ofInt v1tag,UInt8.ofInt (v2value.length:Int)]:List UInt8)).length),some ((y0t0p++([UInt8.ofInt v1tag,UInt8.ofInt (v2value.length:Int)]:List UInt8)).map rB8)⟩,.t (.vc 0 (((y0t0p++([UInt8.ofInt v1tag,UInt8.ofInt (v2value.length:Int)]:List UInt8))++v2value).length)) 0 ⟨5,1,(((y0t0p++([UInt8.ofInt v1tag,UInt8.ofInt (v2value.length:Int)]:List UInt8))++v2value).length),some (((y0t0p++([UInt8.ofInt v1tag,UInt8.ofInt (v2value.length:Int)]:List UInt8))++v2value).map rB8)⟩] rfl ⟨.e (v_appendV (l:=y0t0p++([UInt8.ofInt v1tag,UInt8.ofInt (v2value.length:Int)]:List UInt8)) (l':=v2value) (row:=rB8) underlying22 hi5 hz5 hs5 rfl (by rw [hb5]; decide) rfl rfl rfl rfl hk2) rfl,.e (v_appendV (l:=y0t0p) (l':=([UInt8.ofInt v1tag,UInt8.ofInt (v2value.length:Int)]:List UInt8)) (row:=rB8) underlying22 hi5 hz5 hs5 rfl (by rw [hb5]; decide) rfl rfl rfl rfl hk1) rfl,g_buildSliceN (n:=2) (rows:=([UInt8.ofInt v1tag,UInt8.ofInt (v2value.length:Int)]:List UInt8).map rB8) underlying22 hi5 hs5 hz5 rfl rfl rfl rfl rfl,OpQ.g (q_conv8 underlying3 underlying5 rfl),s22.n rfl rfl,OpQ.g (q_conv8 underlying3 underlying5 rfl)⟩ ?_
 refine .R func92 results92 rfl ?_
 cases H
 exact ⟨[],[0],rfl,rfl,rfl,rfl,rfl,rfl,rfl,rfl,.rfl' _⟩
set_option maxRecDepth 100000
set_option maxHeartbeats 1000000
theorem c_g_tagged_Encode_1 {v0tag:Int} {v1value:List UInt8} {y0t0p:List UInt8} {n0p:Nat} {r:(List UInt8)} (H:g_tagged_Encode_1 v0tag v1value y0t0p=some r):ACallS prog 91 [.d (cI v0tag),.d (slOf 1 rB8 v1value),.ref 0 0] ⟨[.row 22 [.vc 0 n0p]],[⟨5,1,n0p,some (y0t0p.map rB8)⟩]⟩ (QE (.d (.tup [])) ⟨[.row 22 [.vc 0 r.length]],[⟨5,1,r.length,some (r.map rB8)⟩]⟩):=by
 refine ACallS.keep ?_
 refine ACallS.enter func91 rfl ntmps91 rfl fun S hS=>?_
 unfold g_tagged_Encode_1 at H
 refine .A 6 [.i (v1value.length:Int)] rfl (s22.n rfl rfl) ?_
 refine .ite H rfl (fun H=>?_) (fun H=>?_)
 ·obtain ⟨y1,hy1,H⟩:=bind_some' H
  refine .B 4 [] rfl trivial ?_
  refine .callF (en 14 rfl) rfl [] [0] (x:=.vc 0 ((y1).length)) (st':=⟨[.row 22 [.vc 0 n0p]],[⟨5,1,y1.length,some (y1.map rB8)⟩]⟩) rfl (c_g_tagged_put (hy1)) ⟨.rfl' _,.rfl' _,.rfl' _,trivial⟩ rfl rfl rfl rfl rfl rfl ?_
  refine .A 2 [] rfl trivial ?_
  refine .fin0 func91 results91 ?_
  cases H
  exact ⟨[0],[0],rfl,rfl,rfl,rfl,rfl,rfl,rfl,rfl,EVle.tupL (ds:=[]) trivial⟩
 ·refine .A 1 [] rfl trivial ?_
  refine .normV (l:=y0t0p) (row:=rB8) (tk:=0) (fun z=>[]) (fun z=>⟨[.row 22 [.vc 0 z]],[⟨5,1,z,some (y0t0p.map rB8)⟩]⟩) rfl (.nil) rfl ?_
  refine .fin0 func91 results91 ?_
  cases H
  exact ⟨[0],[0],rfl,rfl,rfl,rfl,rfl,rfl,rfl,rfl,EVle.tupL (ds:=[]) trivial⟩
theorem c_f_tagged_Encode {v0:Record} {r:(List UInt8)×Int} (H:f_tagged_Encode v0=some r):ACall prog 58 [.agg (Record.row v0)] (·=.tup [slOf 1 rB8 r.1,cI r.2]):=by
 obtain ⟨i5,hi5,hz5,hs5,hb5⟩:=in_5
 refine ACall.enter' func58 rfl ntmps58 rfl fun S hS=>?_
 unfold f_tagged_Encode at H
 obtain ⟨y1,hy1,H⟩:=bind_some' H
 refine .A 22 [.r 0,.d (.tup [cS y1.1,cI y1.2])] rfl (g_call (en 9 rfl) rfl rfl (c_f_textual_Encode (hy1))) ?_
 refine .ite H rfl (fun H=>?_) (fun H=>?_)
 ·refine .A 6 [] rfl trivial ?_
  refine .R func58 results58 rfl ?_
  cases H
  exact .m rfl (.tupL ⟨.nil 1,.rfl' _,trivial⟩)
 ·obtain ⟨y2,hy2,H⟩:=bind_some' H
  obtain ⟨y3,hy3,H⟩:=bind_some' H
  obtain ⟨hk1,H⟩:=ck_some H
  obtain ⟨y4,hy4,H⟩:=bind_some' H
  obtain ⟨y5,hy5,H⟩:=bind_some' H
  refine .B 40 [.d (.tup [slOf 1 rB8 y2.1,cI y2.2]),.d (.tup [slOf 1 rB8 y3.1,cI y3.2]),.n (.vc 0 ((List.replicate (Int.toNat (2)) 0:List UInt8).length)) ⟨5,1,((List.replicate (Int.toNat (2)) 0:List UInt8).length),some ((List.replicate (Int.toNat (2)) 0:List UInt8).map rB8)⟩,.r 1,.g (.clo 91 [.ref 1 0]),.d (slOf 1 rB8 y4)] rfl ⟨g_call (en 15 rfl) rfl rfl (c_f_tagged_bytes (hy4)),OpQ.g (q_makeFunc rfl),.e (v_makeV (row:=rB8) (a:=2) (b:=2) (a0:=0) underlying22 hi5 hz5 hs5 rfl (by rw [hb5]; decide) rfl rfl rfl hk1) rfl,g_call (en 16 rfl) rfl rfl (c_f_digits_Pack (hy3)),g_call (en 16 rfl) rfl rfl (c_f_digits_Pack (hy2))⟩ ?_
  refine .callFC (en 17 rfl) rfl rfl [1] [0] (x:=.d (.tup [])) (st':=⟨[.row 49 [.d (cI v0.source),.d (cI v0.serial),.d (cI v0.kind),.d (cS v0.a),.d (cS v0.b),.d (cI v0.start),.d (cI v0.units),.d (cI v0.call),.d (cI v0.part),.d (cB v0.last),.d (cI v0.trunk),.d (cB v0.inbound)],.row 22 [.vc 0 y5.length]],[⟨5,1,y5.length,some (y5.map rB8)⟩]⟩) rfl (c_g_tagged_Encode_1 (hy5)) ⟨.rfl' _,.rfl' _,.rfl' _,trivial⟩ rfl rfl rfl rfl rfl rfl ?_
  obtain ⟨y6,hy6,H⟩:=bind_some' H
  obtain ⟨y7,hy7,H⟩:=bind_some' H
  refine .B 7 [.d (slOf 1 rB8 y6)] rfl (g_call (en 15 rfl) rfl rfl (c_f_tagged_bytes (hy6))) ?_
  refine .callFC (en 17 rfl) rfl rfl [1] [0] (x:=.d (.tup [])) (st':=⟨[.row 49 [.d (cI v0.source),.d (cI v0.serial),.d (cI v0.kind),.d (cS v0.a),.d (cS v0.b),.d (cI v0.start),.d (cI v0.units),.d (cI v0.call),.d (cI v0.part),.d (cB v0.last),.d (cI v0.trunk),.d (cB v0.inbound)],.row 22 [.vc 0 y7.length]],[⟨5,1,y7.length,some (y7.map rB8)⟩]⟩) rfl (c_g_tagged_Encode_1 (hy7)) ⟨.rfl' _,.rfl' _,.rfl' _,trivial⟩ rfl rfl rfl rfl rfl rfl ?_
  obtain ⟨y8,hy8,H⟩:=bind_some' H
  obtain ⟨y9,hy9,H⟩:=bind_some' H
  refine .B 7 [.d (slOf 1 rB8 y8)] rfl (g_call (en 15 rfl) rfl rfl (c_f_tagged_bytes (hy8))) ?_
  refine .callFC (en 17 rfl) rfl rfl [1] [0] (x:=.d (.tup [])) (st':=⟨[.row 49 [.d (cI v0.source),.d (cI v0.serial),.d (cI v0.kind),.d (cS v0.a),.d (cS v0.b),.d (cI v0.start),.d (cI v0.units),.d (cI v0.call),.d (cI v0.part),.d (cB v0.last),.d (cI v0.trunk),.d (cB v0.inbound)],.row 22 [.vc 0 y9.length]],[⟨5,1,y9.length,some (y9.map rB8)⟩]⟩) rfl (c_g_tagged_Encode_1 (hy9)) ⟨.rfl' _,.rfl' _,.rfl' _,trivial⟩ rfl rfl rfl rfl rfl rfl ?_
  obtain ⟨y10,hy10,H⟩:=bind_some' H
  refine .B 5 [] rfl trivial ?_
  refine .callFC (en 17 rfl) rfl rfl [1] [0] (x:=.d (.tup [])) (st':=⟨[.row 49 [.d (cI v0.source),.d (cI v0.serial),.d (cI v0.kind),.d (cS v0.a),.d (cS v0.b),.d (cI v0.start),.d (cI v0.units),.d (cI v0.call),.d (cI v0.part),.d (cB v0.last),.d (cI v0.trunk),.d (cB v0.inbound)],.row 22 [.vc 0 y10.length]],[⟨5,1,y10.length,some (y10.map rB8)⟩]⟩) rfl (c_g_tagged_Encode_1 (hy10)) ⟨.rfl' _,.rfl' _,.rfl' _,trivial⟩ rfl rfl rfl rfl rfl rfl ?_
  obtain ⟨y11,hy11,H⟩:=bind_some' H
  refine .B 5 [] rfl trivial ?_
  refine .callFC (en 17 rfl) rfl rfl [1] [0] (x:=.d (.tup [])) (st':=⟨[.row 49 [.d (cI v0.source),.d (cI v0.serial),.d (cI v0.kind),.d (cS v0.a),.d (cS v0.b),.d (cI v0.start),.d (cI v0.units),.d (cI v0.call),.d (cI v0.part),.d (cB v0.last),.d (cI v0.trunk),.d (cB v0.inbound)],.row 22 [.vc 0 y11.length]],[⟨5,1,y11.length,some (y11.map rB8)⟩]⟩) rfl (c_g_tagged_Encode_1 (hy11)) ⟨.rfl' _,.rfl' _,.rfl' _,trivial⟩ rfl rfl rfl rfl rfl rfl ?_
  obtain ⟨y12,hy12,H⟩:=bind_some' H
  obtain ⟨y13,hy13,H⟩:=bind_some' H
  refine .B 7 [.d (slOf 1 rB8 y12)] rfl (g_call (en 15 rfl) rfl rfl (c_f_tagged_bytes (hy12))) ?_
  refine .callFC (en 17 rfl) rfl rfl [1] [0] (x:=.d (.tup [])) (st':=⟨[.row 49 [.d (cI v0.source),.d (cI v0.serial),.d (cI v0.kind),.d (cS v0.a),.d (cS v0.b),.d (cI v0.start),.d (cI v0.units),.d (cI v0.call),.d (cI v0.part),.d (cB v0.last),.d (cI v0.trunk),.d (cB v0.inbound)],.row 22 [.vc 0 y13.length]],[⟨5,1,y13.length,some (y13.map rB8)⟩]⟩) rfl (c_g_tagged_Encode_1 (hy13)) ⟨.rfl' _,.rfl' _,.rfl' _,trivial⟩ rfl rfl rfl rfl rfl rfl ?_
  obtain ⟨y14,hy14,H⟩:=bind_some' H
  obtain ⟨y15,hy15,H⟩:=bind_some' H
  refine .B 7 [.d (slOf 1 rB8 y14)] rfl (g_call (en 15 rfl) rfl rfl (c_f_tagged_bytes (hy14))) ?_
  refine .callFC (en 17 rfl) rfl rfl [1] [0] (x:=.d (.tup [])) (st':=⟨[.row 49 [.d (cI v0.source),.d (cI v0.serial),.d (cI v0.kind),.d (cS v0.a),.d (cS v0.b),.d (cI v0.start),.d (cI v0.units),.d (cI v0.call),.d (cI v0.part),.d (cB v0.last),.d (cI v0.trunk),.d (cB v0.inbound)],.row 22 [.vc 0 y15.length]],[⟨5,1,y15.length,some (y15.map rB8)⟩]⟩) rfl (c_g_tagged_Encode_1 (hy15)) ⟨.rfl' _,.rfl' _,.rfl' _,trivial⟩ rfl rfl rfl rfl rfl rfl ?_
  obtain ⟨y16,hy16,H⟩:=bind_some' H
  obtain ⟨y17,hy17,H⟩:=bind_some' H
  refine .B 7 [.d (slOf 1 rB8 y16)] rfl (g_call (en 15 rfl) rfl rfl (c_f_tagged_bytes (hy16))) ?_
  refine .callFC (en 17 rfl) rfl rfl [1] [0] (x:=.d (.tup [])) (st':=⟨[.row 49 [.d (cI v0.source),.d (cI v0.serial),.d (cI v0.kind),.d (cS v0.a),.d (cS v0.b),.d (cI v0.start),.d (cI v0.units),.d (cI v0.call),.d (cI v0.part),.d (cB v0.last),.d (cI v0.trunk),.d (cB v0.inbound)],.row 22 [.vc 0 y17.length]],[⟨5,1,y17.length,some (y17.map rB8)⟩]⟩) rfl (c_g_tagged_Encode_1 (hy17)) ⟨.rfl' _,.rfl' _,.rfl' _,trivial⟩ rfl rfl rfl rfl rfl rfl ?_
  obtain ⟨y18,hy18,H⟩:=bind_some' H
  obtain ⟨y19,hy19,H⟩:=bind_some' H
  refine .B 7 [.d (slOf 1 rB8 y18)] rfl (g_call (en 15 rfl) rfl rfl (c_f_tagged_bytes (hy18))) ?_
  refine .callFC (en 17 rfl) rfl rfl [1] [0] (x:=.d (.tup [])) (st':=⟨[.row 49 [.d (cI v0.source),.d (cI v0.serial),.d (cI v0.kind),.d (cS v0.a),.d (cS v0.b),.d (cI v0.start),.d (cI v0.units),.d (cI v0.call),.d (cI v0.part),.d (cB v0.last),.d (cI v0.trunk),.d (cB v0.inbound)],.row 22 [.vc 0 y19.length]],[⟨5,1,y19.length,some (y19.map rB8)⟩]⟩) rfl (c_g_tagged_Encode_1 (hy19)) ⟨.rfl' _,.rfl' _,.rfl' _,trivial⟩ rfl rfl rfl rfl rfl rfl ?_
  obtain ⟨y20,hy20,H⟩:=bind_some' H
  obtain ⟨y21,hy21,H⟩:=bind_some' H
  refine .B 7 [.d (slOf 1 rB8 y20)] rfl (g_call (en 15 rfl) rfl rfl (c_f_tagged_bytes (hy20))) ?_
  refine .callFC (en 17 rfl) rfl rfl [1] [0] (x:=.d (.tup [])) (st':=⟨[.row 49 [.d (cI v0.source),.d (cI v0.serial),.d (cI v0.kind),.d (cS v0.a),.d (cS v0.b),.d (cI v0.start),.d (cI v0.units),.d (cI v0.call),.d (cI v0.part),.d (cB v0.last),.d (cI v0.trunk),.d (cB v0.inbound)],.row 22 [.vc 0 y21.length]],[⟨5,1,y21.length,some (y21.map rB8)⟩]⟩) rfl (c_g_tagged_Encode_1 (hy21)) ⟨.rfl' _,.rfl' _,.rfl' _,trivial⟩ rfl rfl rfl rfl rfl rfl ?_
  obtain ⟨y22,hy22,H⟩:=bind_some' H
  obtain ⟨y23,hy23,H⟩:=bind_some' H
  obtain ⟨hk2,H⟩:=ck_some H
  obtain ⟨y24,hy24,H⟩:=bind_some' H
  obtain ⟨y25,hy25,H⟩:=bind_some' H
  refine .B 13 [.p 9,.i y22,.i y23,.i (y22+y23),.d (slOf 1 rB8 y24)] rfl ⟨g_call (en 15 rfl) rfl rfl (c_f_tagged_bytes (hy24)),g_addI rfl rfl hk2,g_call (en 18 rfl) rfl rfl (c_f_tagged_flag (hy23)),g_call (en 18 rfl) rfl rfl (c_f_tagged_flag (hy22)),(show drawB _ _=true by kernel_rfl)⟩ ?_
  refine .callFC (en 17 rfl) rfl rfl [1] [0] (x:=.d (.tup [])) (st':=⟨[.row 49 [.d (cI v0.source),.d (cI v0.serial),.d (cI v0.kind),.d (cS v0.a),.d (cS v0.b),.d (cI v0.start),.d (cI v0.units),.d (cI v0.call),.d (cI v0.part),.d (cB v0.last),.d (cI v0.trunk),.d (cB v0.inbound)],.row 22 [.vc 0 y25.length]],[⟨5,1,y25.length,some (y25.map rB8)⟩]⟩) rfl (c_g_tagged_Encode_1 (hy25)) ⟨.rfl' _,.rfl' _,.rfl' _,trivial⟩ rfl rfl rfl rfl rfl rfl ?_
  obtain ⟨hk3,H⟩:=ck_some H
  refine .A 9 [.i (y25.length:Int),.i ((y25.length:Int) - 2)] rfl ⟨g_subI rfl rfl hk3,OpQ.g (q_lenV (l:=y25) (row:=rB8) underlying22 rfl rfl)⟩ ?_
  obtain ⟨hk4,H⟩:=ck_some H
  obtain ⟨hk5,H⟩:=ck_some H
  obtain ⟨hk6,H⟩:=ck_some H
  refine .orders1 9 8 [⟨[.row 49 [.d (cI v0.source),.d (cI v0.serial),.d (cI v0.kind),.d (cS v0.a),.d (cS v0.b),.d (cI v0.start),.d (cI v0.units),.d (cI v0.call),.d (cI v0.part),.d (cB v0.last),.d (cI v0.trunk),.d (cB v0.inbound)],.row 22 [.vc 0 y25.length]],[⟨5,1,y25.length,some (y25.map rB8)⟩]⟩,⟨[.row 49 [.d (cI v0.source),.d (cI v0.serial),.d (cI v0.kind),.d (cS v0.a),.d (cS v0.b),.d (cI v0.start),.d (cI v0.units),.d (cI v0.call),.d (cI v0.part),.d (cB v0.last),.d (cI v0.trunk),.d (cB v0.inbound)],.row 22 [.vc 0 y25.length]],[⟨5,1,y25.length,some ((y25.set (Int.toNat (0)) (UInt8.ofInt (((y25.length:Int) - 2) / 2 ^ (Int.toNat (8))))).map rB8)⟩]⟩] hMix (by kernel_rfl) (by decide) rfl ?_
  show XOps _ _ _ _ _ _ _ _ _ _ (_ :: _) _ _
  refine .g (x:=.vc 0 y25.length) 0 0 ⟨OpQ.g (q_loadO one_22 rfl rfl rfl),trivial⟩ rfl (by kernel_rfl) rfl ?_
  refine .g (x:=.vc 0 y25.length) 0 1 ⟨OpQ.g (q_loadO one_22 rfl rfl rfl),OpQ.g (q_loadO one_22 rfl rfl rfl),trivial⟩ rfl (by kernel_rfl) rfl ?_
  refine .g (x:=.d (cI ((y25.length:Int) - 2))) 0 0 ⟨OpQ.g (q_move rfl),trivial⟩ rfl (by kernel_rfl) rfl ?_
  refine .g (x:=.d (cI (((y25.length:Int) - 2) / 2 ^ (Int.toNat (8))))) 0 0 ⟨OpQ.g (q_shrI rfl rfl hk4),trivial⟩ rfl (by kernel_rfl) rfl ?_
  refine .g (x:=.d (cU8 (UInt8.ofInt (((y25.length:Int) - 2) / 2 ^ (Int.toNat (8)))))) 0 0 ⟨OpQ.g (q_conv8 underlying3 underlying5 rfl),trivial⟩ rfl (by kernel_rfl) rfl ?_
  refine .g (x:=.d (cI ((y25.length:Int) - 2))) 0 1 ⟨OpQ.g (q_move rfl),OpQ.g (q_move rfl),trivial⟩ rfl (by kernel_rfl) rfl ?_
  refine .g (x:=.d (cU8 (UInt8.ofInt ((y25.length:Int) - 2)))) 0 1 ⟨OpQ.g (q_conv8 underlying3 underlying5 rfl),OpQ.g (q_conv8 underlying3 underlying5 rfl),trivial⟩ rfl (by kernel_rfl) rfl ?_
  refine .g (x:=.vp 0 y25.length (Int.toNat (0)) 0) 0 0 ⟨OpQ.g (q_idxV (l:=y25) (row:=rB8) (i:=0) underlying22 hi5 hs5 rfl rfl rfl hk5),trivial⟩ rfl (by kernel_rfl) rfl ?_
  refine .u 0 (u_storeV (l:=y25) (row:=rB8) (a:=UInt8.ofInt (((y25.length:Int) - 2) / 2 ^ (Int.toNat (8)))) rfl rfl hk6 rfl rfl sz_5 rfl (Nat.le_of_ble_eq_true rfl) rfl) rfl rfl rfl rfl ?_
  refine .nil rfl ?_
  show AOps _ _ _ _ _ _ (_ :: _) _ _ _
  obtain ⟨hk7,H⟩:=ck_some H
  obtain ⟨hk8,H⟩:=ck_some H
  refine .A 9 [.g (.vp 0 y25.length (Int.toNat (1)) 0),.w 8 ⟨[.row 49 [.d (cI v0.source),.d (cI v0.serial),.d (cI v0.kind),.d (cS v0.a),.d (cS v0.b),.d (cI v0.start),.d (cI v0.units),.d (cI v0.call),.d (cI v0.part),.d (cB v0.last),.d (cI v0.trunk),.d (cB v0.inbound)],.row 22 [.vc 0 y25.length]],[⟨5,1,y25.length,some (((y25.set (Int.toNat (0)) (UInt8.ofInt (((y25.length:Int) - 2) / 2 ^ (Int.toNat (8))))).set (Int.toNat (1)) (UInt8.ofInt ((y25.length:Int) - 2))).map rB8)⟩]⟩] rfl ⟨.e (u_storeV (l:=y25.set (Int.toNat (0)) (UInt8.ofInt (((y25.length:Int) - 2) / 2 ^ (Int.toNat (8))))) (row:=rB8) (a:=UInt8.ofInt ((y25.length:Int) - 2)) rfl rfl hk8 rfl rfl sz_5 rfl (Nat.le_of_ble_eq_true rfl) rfl) rfl,OpQ.g (q_idxV (l:=y25.set (Int.toNat (0)) (UInt8.ofInt (((y25.length:Int) - 2) / 2 ^ (Int.toNat (8))))) (row:=rB8) (i:=1) underlying22 hi5 hs5 rfl rfl rfl hk7)⟩ ?_
  refine .freezeL (l:=(y25.set (Int.toNat (0)) (UInt8.ofInt (((y25.length:Int) - 2) / 2 ^ (Int.toNat (8))))).set (Int.toNat (1)) (UInt8.ofInt ((y25.length:Int) - 2))) (row:=rB8) (i:=2) rfl rfl ?_
  refine .R func58 results58 rfl ?_
  cases H
  exact .m rfl (.tupL ⟨.tsl _ _ _,.rfl' _,trivial⟩)
theorem c_f_packed_bit {v0holds:Bool} {v1n:UInt8} {r:UInt8} (H:f_packed_bit v0holds v1n=some r):ACall prog 97 [cB v0holds,cU8 v1n] (·=cU8 r):=by
 refine ACall.enter' func97 rfl ntmps97 rfl fun S hS=>?_
 unfold f_packed_bit at H
 refine .A 9 [] rfl trivial ?_
 refine .ite H rfl (fun H=>?_) (fun H=>?_)
 ·refine .A 5 [] rfl trivial ?_
  refine .R func97 results97 rfl ?_
  cases H
  exact .m rfl (.rfl' _)
 ·refine .A 5 [] rfl trivial ?_
  refine .R func97 results97 rfl ?_
  cases H
  exact .m rfl (.rfl' _)
theorem c_f_packed_sum {v0b:List UInt8} {r:UInt8} (H:f_packed_sum v0b=some r):ACall prog 99 [slOf 1 rB8 v0b] (·=cU8 r):=by
 refine ACall.enter' func99 rfl ntmps99 rfl fun S hS=>?_
 unfold f_packed_sum at H
 refine .A 16 [.i (v0b.length:Int)] rfl (s22.n rfl rfl) ?_
 obtain ⟨n1,H⟩:=loop_some H
 refine .loop (ι:=Nat×(UInt8×Int)) (fun ⟨_,v3nl1,v8l1⟩=>[(3,.d (cU8 v3nl1)),(6,.d (slOf 1 rB8 v0b)),(7,.d (cI (v0b.length:Int))),(8,.d (cI v8l1))]) (fun ⟨_,v3nl1,v8l1⟩=>⟨[],[]⟩) (fun p=>iter (fun s=>f_packed_sum_l1 v0b s.1 s.2) p.1 p.2=some r) (·.1) (n1,(0,0)) H (.cons rfl (.rfl' _) (.cons rfl (.rfl' _) (.cons rfl (.rfl' _) (.cons rfl (.rfl' _) (.nil))))) rfl ?_
 rintro ⟨m1,v3nl1,v8l1⟩ HI ih1
 obtain ⟨n1,q1,hm1,H,HK1⟩:=iter_succ HI
 clear HI
 replace H:f_packed_sum_l1 v0b v3nl1 v8l1=some q1:=H
 unfold f_packed_sum_l1 at H
 refine .A 5 [] rfl trivial ?_
 refine .ite H rfl (fun H=>?_) (fun H=>?_)
 ·obtain ⟨hk1,H⟩:=ck_some H
  obtain ⟨hk2,H⟩:=ck_some H
  refine .A 20 [.d (.ro (rB8 (nth v0b v8l1.toNat))),.c (v3nl1+(nth v0b v8l1.toNat)),.i (v8l1+1)] rfl ⟨g_addI rfl rfl hk2,OpQ.g (q8_add (a:=v3nl1) (b:=nth v0b v8l1.toNat) rfl rfl),s22.ix rfl rfl rfl hk1⟩ ?_
  cases H
  exact .z (ih1 (n1,(v3nl1+(nth v0b v8l1.toNat),v8l1+1)) HK1 hm1) rfl rfl
 ·refine .A 6 [] rfl trivial ?_
  refine .R func99 results99 rfl ?_
  cases H
  cases HK1
  exact .m rfl (.rfl' _)
theorem c_g_packed_PutDecimal {v0b:List UInt8} {v1n:Int} {v2size:Int} {r:(List UInt8)×Int} (H:f_packed_PutDecimal v0b v1n v2size=some r):ACallS prog 96 [.d (slOf 1 rB8 v0b),.d (cI v1n),.d (cI v2size)] ⟨[],[]⟩ (QE (.tup [.tsl 1 (r.1.map rB8) 0,.d (cI r.2)]) ⟨[],[⟨5,1,r.1.length,none⟩]⟩):=by
 obtain ⟨i5,hi5,hz5,hs5,hb5⟩:=in_5
 refine ACallS.keep ?_
 refine ACallS.enter func96 rfl ntmps96 rfl fun S hS=>?_
 unfold f_packed_PutDecimal at H
 refine .A 19 [] rfl ⟨rfl,rfl,rfl,rfl⟩ ?_
 refine .ite H rfl (fun H=>?_) (fun H=>?_)
 ·refine .A 5 [] rfl trivial ?_
  refine .tok (i:=6) (e:=5) (sz:=1) rfl ?_
  refine .R func96 results96 rfl ?_
  cases H
  exact ⟨[],[0],rfl,rfl,rfl,rfl,rfl,rfl,rfl,rfl,.tupE ⟨.rfl' _,.rfl' _,trivial⟩⟩
 ·obtain ⟨hk1,H⟩:=ck_some H
  obtain ⟨hk2,H⟩:=ck_some H
  obtain ⟨hk3,H⟩:=ck_some H
  refine .A 24 [.i (v0b.length:Int),.i ((v0b.length:Int)+v2size),.n (.vc 0 ((List.replicate ((v0b.length:Int)+v2size).toNat 0:List UInt8).length)) ⟨5,1,((List.replicate ((v0b.length:Int)+v2size).toNat 0:List UInt8).length),some ((List.replicate ((v0b.length:Int)+v2size).toNat 0:List UInt8).map rB8)⟩,.t (.d (cI ((min v0b.length (List.replicate ((v0b.length:Int)+v2size).toNat 0:List UInt8).length:Nat):Int))) 0 ⟨5,1,((List.replicate ((v0b.length:Int)+v2size).toNat 0:List UInt8).length),some ((v0b.take (min v0b.length (List.replicate ((v0b.length:Int)+v2size).toNat 0:List UInt8).length)++(List.replicate ((v0b.length:Int)+v2size).toNat 0:List UInt8).drop (min v0b.length (List.replicate ((v0b.length:Int)+v2size).toNat 0:List UInt8).length)).map rB8)⟩,.i ((v0b.take (min v0b.length (List.replicate ((v0b.length:Int)+v2size).toNat 0:List UInt8).length)++(List.replicate ((v0b.length:Int)+v2size).toNat 0:List UInt8).drop (min v0b.length (List.replicate ((v0b.length:Int)+v2size).toNat 0:List UInt8).length)).length:Int),.i (((v0b.take (min v0b.length (List.replicate ((v0b.length:Int)+v2size).toNat 0:List UInt8).length)++(List.replicate ((v0b.length:Int)+v2size).toNat 0:List UInt8).drop (min v0b.length (List.replicate ((v0b.length:Int)+v2size).toNat 0:List UInt8).length)).length:Int) - 1)] rfl ⟨g_subI rfl rfl hk3,OpQ.g (q_lenV (l:=v0b.take (min v0b.length (List.replicate ((v0b.length:Int)+v2size).toNat 0:List UInt8).length)++(List.replicate ((v0b.length:Int)+v2size).toNat 0:List UInt8).drop (min v0b.length (List.replicate ((v0b.length:Int)+v2size).toNat 0:List UInt8).length)) (row:=rB8) underlying22 rfl rfl),.e (v_copyV (l:=(List.replicate ((v0b.length:Int)+v2size).toNat 0:List UInt8)) (l':=v0b) (row:=rB8) underlying22 hi5 hs5 rfl rfl rfl rfl) rfl,.e (v_makeV (row:=rB8) (a:=(v0b.length:Int)+v2size) (b:=(v0b.length:Int)+v2size) (a0:=0) underlying22 hi5 hz5 hs5 rfl (by rw [hb5]; decide) rfl rfl rfl hk2) rfl,g_addI rfl rfl hk1,s22.n rfl rfl⟩ ?_
  refine .blockJoin2 (ι:=List UInt8×Int) (fun ⟨y0tj1,v1nj1⟩=>[(1,.d (cI v1nj1)),(8,.vc 0 y0tj1.length)]) (fun ⟨y0tj1,v1nj1⟩=>⟨[],[⟨5,1,y0tj1.length,some (y0tj1.map rB8)⟩]⟩) (fun s=>f_packed_PutDecimal_j1 s.1 s.2=some r) ?_ ?_
  ·rintro ⟨y0tj1,v1nj1⟩ H
   replace H:f_packed_PutDecimal_j1 y0tj1 v1nj1=some r:=H
   unfold f_packed_PutDecimal_j1 at H
   refine .A 6 [] rfl trivial ?_
   refine .ite H rfl (fun H=>?_) (fun H=>?_)
   ·refine .A 5 [] rfl trivial ?_
    refine .tok (i:=6) (e:=5) (sz:=1) rfl ?_
    refine .R func96 results96 rfl ?_
    cases H
    exact ⟨[],[1],rfl,rfl,rfl,rfl,rfl,rfl,rfl,rfl,.tupE ⟨.rfl' _,.rfl' _,trivial⟩⟩
   ·refine .A 7 [] rfl trivial ?_
    refine .freezeL (l:=y0tj1) (row:=rB8) (i:=6) rfl rfl ?_
    refine .R func96 results96 rfl ?_
    cases H
    exact ⟨[],[0],rfl,rfl,rfl,rfl,rfl,rfl,rfl,rfl,.tupE ⟨.rfl' _,.rfl' _,trivial⟩⟩
  ·intro hj1 hj1x
   obtain ⟨n1,H⟩:=loop_some H
   refine .normV (l:=v0b.take (min v0b.length (List.replicate ((v0b.length:Int)+v2size).toNat 0:List UInt8).length)++(List.replicate ((v0b.length:Int)+v2size).toNat 0:List UInt8).drop (min v0b.length (List.replicate ((v0b.length:Int)+v2size).toNat 0:List UInt8).length)) (row:=rB8) (tk:=0) (fun z=>[(0,.d (slOf 1 rB8 v0b)),(1,.d (cI v1n)),(8,.vc 0 z),(9,.d (cI (((v0b.take (min v0b.length (List.replicate ((v0b.length:Int)+v2size).toNat 0:List UInt8).length)++(List.replicate ((v0b.length:Int)+v2size).toNat 0:List UInt8).drop (min v0b.length (List.replicate ((v0b.length:Int)+v2size).toNat 0:List UInt8).length)).length:Int) - 1)))]) (fun z=>⟨[],[⟨5,1,z,some ((v0b.take (min v0b.length (List.replicate ((v0b.length:Int)+v2size).toNat 0:List UInt8).length)++(List.replicate ((v0b.length:Int)+v2size).toNat 0:List UInt8).drop (min v0b.length (List.replicate ((v0b.length:Int)+v2size).toNat 0:List UInt8).length)).map rB8)⟩]⟩) rfl (.cons rfl (.rfl' _) (.cons rfl (.rfl' _) (.cons rfl (.rfl' _) (.cons rfl (.rfl' _) (.nil))))) rfl ?_
   refine .loop (ι:=Nat×(List UInt8×Int×Int)) (fun ⟨_,y0tl1,v1nl1,v9il1⟩=>[(0,.d (slOf 1 rB8 v0b)),(1,.d (cI v1nl1)),(8,.vc 0 y0tl1.length),(9,.d (cI v9il1))]) (fun ⟨_,y0tl1,v1nl1,v9il1⟩=>⟨[],[⟨5,1,y0tl1.length,some (y0tl1.map rB8)⟩]⟩) (fun p=>iter (fun s=>f_packed_PutDecimal_l1 v0b s.1 s.2.1 s.2.2) p.1 p.2=some r) (·.1) (n1,(v0b.take (min v0b.length (List.replicate ((v0b.length:Int)+v2size).toNat 0:List UInt8).length)++(List.replicate ((v0b.length:Int)+v2size).toNat 0:List UInt8).drop (min v0b.length (List.replicate ((v0b.length:Int)+v2size).toNat 0:List UInt8).length),v1n,((v0b.take (min v0b.length (List.replicate ((v0b.length:Int)+v2size).toNat 0:List UInt8).length)++(List.replicate ((v0b.length:Int)+v2size).toNat 0:List UInt8).drop (min v0b.length (List.replicate ((v0b.length:Int)+v2size).toNat 0:List UInt8).length)).length:Int) - 1)) H (.cons rfl (.rfl' _) (.cons rfl (.rfl' _) (.cons rfl (.rfl' _) (.cons rfl (.rfl' _) (.nil))))) rfl ?_
   rintro ⟨m1,y0tl1,v1nl1,v9il1⟩ HI ih1
   obtain ⟨n1,q1,hm1,H,HK1⟩:=iter_succ HI
   clear HI
   replace H:f_packed_PutDecimal_l1 v0b y0tl1 v1nl1 v9il1=some q1:=H
   unfold f_packed_PutDecimal_l1 at H
   refine .A 8 [.i (v0b.length:Int)] rfl (s22.n rfl rfl) ?_
   refine .ite H rfl (fun H=>?_) (fun H=>?_)
   ·obtain ⟨hk4,H⟩:=ck_some H
    obtain ⟨hk5,H⟩:=ck_some H
    obtain ⟨hk6,H⟩:=ck_some H
    obtain ⟨hk7,H⟩:=ck_some H
    obtain ⟨hk8,H⟩:=ck_some H
    obtain ⟨hk9,H⟩:=ck_some H
    obtain ⟨hk10,H⟩:=ck_some H
    obtain ⟨hk11,H⟩:=ck_some H
    refine .A 29 [.i (Int.tdiv v1nl1 10),.i (Int.tmod (Int.tdiv v1nl1 10) 10),.i ((Int.tmod (Int.tdiv v1nl1 10) 10)*2 ^ (Int.toNat (4))),.i (Int.tmod v1nl1 10),.i (bOr .i64 ((Int.tmod (Int.tdiv v1nl1 10) 10)*2 ^ (Int.toNat (4))) (Int.tmod v1nl1 10)),.c (UInt8.ofInt (bOr .i64 ((Int.tmod (Int.tdiv v1nl1 10) 10)*2 ^ (Int.toNat (4))) (Int.tmod v1nl1 10))),.g (.vp 0 y0tl1.length v9il1.toNat 0),.w 13 ⟨[],[⟨5,1,y0tl1.length,some ((y0tl1.set v9il1.toNat (UInt8.ofInt (bOr .i64 ((Int.tmod (Int.tdiv v1nl1 10) 10)*2 ^ (Int.toNat (4))) (Int.tmod v1nl1 10)))).map rB8)⟩]⟩,.i (Int.tdiv v1nl1 100),.i (v9il1-1)] rfl ⟨g_subI rfl rfl hk11,OpQ.g (q_quoT rfl rfl hk10),.e (u_storeV (l:=y0tl1) (row:=rB8) (a:=UInt8.ofInt (bOr .i64 ((Int.tmod (Int.tdiv v1nl1 10) 10)*2 ^ (Int.toNat (4))) (Int.tmod v1nl1 10))) rfl rfl hk9 rfl rfl sz_5 rfl (Nat.le_of_ble_eq_true rfl) rfl) rfl,OpQ.g (q_idxV (l:=y0tl1) (row:=rB8) (i:=v9il1) underlying22 hi5 hs5 rfl rfl rfl hk8),OpQ.g (q_conv8 underlying3 underlying5 rfl),OpQ.g (q_or rfl rfl),OpQ.g (q_remT rfl rfl hk7),OpQ.g (q_shlI rfl rfl hk6),OpQ.g (q_remT rfl rfl hk5),OpQ.g (q_quoT rfl rfl hk4)⟩ ?_
    cases H
    refine .normV (l:=y0tl1.set v9il1.toNat (UInt8.ofInt (bOr .i64 ((Int.tmod (Int.tdiv v1nl1 10) 10)*2 ^ (Int.toNat (4))) (Int.tmod v1nl1 10)))) (row:=rB8) (tk:=0) (fun z=>[(0,.d (slOf 1 rB8 v0b)),(1,.d (cI (Int.tdiv v1nl1 100))),(8,.vc 0 z),(9,.d (cI (v9il1-1)))]) (fun z=>⟨[],[⟨5,1,z,some ((y0tl1.set v9il1.toNat (UInt8.ofInt (bOr .i64 ((Int.tmod (Int.tdiv v1nl1 10) 10)*2 ^ (Int.toNat (4))) (Int.tmod v1nl1 10)))).map rB8)⟩]⟩) rfl (.cons rfl (.rfl' _) (.cons rfl (.rfl' _) (.cons rfl (.rfl' _) (.cons rfl (.rfl' _) (.nil))))) rfl ?_
    exact .z (ih1 (n1,(y0tl1.set v9il1.toNat (UInt8.ofInt (bOr .i64 ((Int.tmod (Int.tdiv v1nl1 10) 10)*2 ^ (Int.toNat (4))) (Int.tmod v1nl1 10))),Int.tdiv v1nl1 100,v9il1-1)) HK1 hm1) rfl rfl
   ·refine .A 1 [] rfl trivial ?_
    obtain ⟨q0,H9,hq0⟩:=map_some' H; clear H; cases hq0
    cases HK1
    have H:=H9
    exact .z (hj1x (y0tl1,v1nl1) H) rfl rfl
theorem c_g_packed_Encode_1 {v0n:Int} {v1size:Int} {r:(List UInt8)} (H:g_packed_Encode_1 v0n v1size=some r):ACallS prog 95 [.d (cI v0n),.d (cI v1size),.ref 0 0] ⟨[.row 22 [.d (nilD)]],[]⟩ (QE (.d (.tup [])) ⟨[.row 22 [.tsl 1 (r.map rB8) 0]],[⟨5,1,r.length,none⟩]⟩):=by
 refine ACallS.keep ?_
 refine ACallS.enter func95 rfl ntmps95 rfl fun S hS=>?_
 unfold g_packed_Encode_1 at H
 obtain ⟨y1,hy1,H⟩:=bind_some' H
 refine .B 4 [] rfl trivial ?_
 refine .callF (en 19 rfl) rfl [] [] (x:=.tup [.tsl 1 (y1.1.map rB8) 0,.d (cI y1.2)]) (st':=⟨[.row 22 [.d (nilD)]],[⟨5,1,y1.1.length,none⟩]⟩) rfl (c_g_packed_PutDecimal (hy1)) ⟨.nil 1,.rfl' _,.rfl' _,trivial⟩ rfl rfl rfl rfl rfl rfl ?_
 refine .A 5 [] rfl trivial ?_
 refine .fin0 func95 results95 ?_
 cases H
 exact ⟨[0],[0],rfl,rfl,rfl,rfl,rfl,rfl,rfl,rfl,EVle.tupL (ds:=[]) trivial⟩
theorem c_g_packed_Encode_1_v1 {v0n:Int} {v1size:Int} {y0t0p:List UInt8} {r:(List UInt8)} (H:g_packed_Encode_1_v1 v0n v1size y0t0p=some r):ACallS prog 95 [.d (cI v0n),.d (cI v1size),.ref 0 0] ⟨[.row 22 [.tsl 1 (y0t0p.map rB8) 0]],[⟨5,1,y0t0p.length,none⟩]⟩ (QE (.d (.tup [])) ⟨[.row 22 [.tsl 1 (r.map rB8) 1]],[⟨5,1,y0t0p.length,none⟩,⟨5,1,r.length,none⟩]⟩):=by
 refine ACallS.keep ?_
 refine ACallS.enter func95 rfl ntmps95 rfl fun S hS=>?_
 unfold g_packed_Encode_1_v1 at H
 obtain ⟨y1,hy1,H⟩:=bind_some' H
 refine .B 4 [] rfl trivial ?_
 refine .callF (en 19 rfl) rfl [] [] (x:=.tup [.tsl 1 (y1.1.map rB8) 1,.d (cI y1.2)]) (st':=⟨[.row 22 [.tsl 1 (y0t0p.map rB8) 0]],[⟨5,1,y0t0p.length,none⟩,⟨5,1,y1.1.length,none⟩]⟩) rfl (c_g_packed_PutDecimal (hy1)) ⟨.tsl _ _ _,.rfl' _,.rfl' _,trivial⟩ rfl rfl rfl rfl rfl rfl ?_
 refine .A 5 [] rfl trivial ?_
 refine .fin0 func95 results95 ?_
 cases H
 exact ⟨[0],[0,1],rfl,rfl,rfl,rfl,rfl,rfl,rfl,rfl,EVle.tupL (ds:=[]) trivial⟩
theorem c_g_packed_putNumber {v1s:List UInt8} {y0t0p:List UInt8} {r:(List UInt8)} (H:g_packed_putNumber v1s y0t0p=some r):ACallS prog 98 [.tsl 1 (y0t0p.map rB8) 0,.d (cS v1s)] ⟨[],[⟨5,1,y0t0p.length,none⟩]⟩ (QE (.tsl 1 (r.map rB8) 0) ⟨[],[⟨5,1,r.length,none⟩]⟩):=by
 obtain ⟨i5,hi5,hz5,hs5,hb5⟩:=in_5
 refine ACallS.keep ?_
 refine ACallS.enter func98 rfl ntmps98 rfl fun S hS=>?_
 unfold g_packed_putNumber at H
 obtain ⟨hk1,H⟩:=ck_some H
 obtain ⟨hk2,H⟩:=ck_some H
 obtain ⟨hk3,H⟩:=ck_some H
 refine .A 24 [.v (.ref 0 0) ⟨[.row 158 ((List.replicate 8 0:List UInt8).map fun b=>EV.d (cU8 b))],[⟨5,1,y0t0p.length,none⟩]⟩,.i (v1s.length:Int),.i ((v1s.length:Int)*2 ^ (Int.toNat (4))),.c (UInt8.ofInt ((v1s.length:Int)*2 ^ (Int.toNat (4)))),.g (.ref 0 (Int.toNat (0))),.w 9 ⟨[.row 158 (((List.replicate 8 0:List UInt8).set (Int.toNat (0)) (UInt8.ofInt ((v1s.length:Int)*2 ^ (Int.toNat (4))))).map fun b=>EV.d (cU8 b))],[⟨5,1,y0t0p.length,none⟩]⟩,.i (v1s.length:Int)] rfl ⟨OpQ.g (q_lenS underlying9 rfl),.e (u_storeArr (l:=(List.replicate 8 0:List UInt8)) (c1:=cU8) (a:=UInt8.ofInt ((v1s.length:Int)*2 ^ (Int.toNat (4)))) rfl rfl rfl rfl hk3 sz_5) rfl,OpQ.g (q_idxArrS (i:=0) underlying158 ⟨_,hi5,hs5⟩ rfl rfl hk2),OpQ.g (q_conv8 underlying3 underlying5 rfl),OpQ.g (q_shlI rfl rfl hk1),OpQ.g (q_lenS underlying9 rfl),.e (v_alloc zr_158 rfl) rfl⟩ ?_
 refine .blockJoin2 (ι:=List UInt8) (fun o0c0j1=>[(0,.tsl 1 (y0t0p.map rB8) 0),(5,.ref 0 0)]) (fun o0c0j1=>⟨[.row 158 (o0c0j1.map fun b=>EV.d (cU8 b))],[⟨5,1,y0t0p.length,none⟩]⟩) (fun s=>g_packed_putNumber_j1 y0t0p s=some r) ?_ ?_
 ·rintro o0c0j1 H
  replace H:g_packed_putNumber_j1 y0t0p o0c0j1=some r:=H
  unfold g_packed_putNumber_j1 at H
  obtain ⟨hk4,H⟩:=ck_some H
  refine .A 7 [.g (.osl 0 0 8 8),.t (.tsl 1 ((y0t0p++o0c0j1).map rB8) 0) 0 ⟨5,1,(y0t0p++o0c0j1).length,none⟩] rfl ⟨.e (v_appendOsl (l:=y0t0p) (l':=o0c0j1) (c1:=cU8) underlying22 hi5 hz5 hs5 rfl (by rw [hb5]; decide) rfl rfl rfl rfl hk4) rfl,OpQ.g (q_arrAll underlying158 ⟨_,hi5,hs5⟩ rfl)⟩ ?_
  refine .R func98 results98 rfl ?_
  cases H
  exact ⟨[],[0],rfl,rfl,(by first | rfl | (simp only [List.map_cons,List.map_nil,renMap,renArr,mergeSt]; rfl)),(by first | rfl | (simp only [List.map_cons,List.map_nil,renMap,renArr,mergeSt]; rfl)),(by first | rfl | (simp only [List.map_cons,List.map_nil,renMap,renArr,mergeSt]; rfl)),(by first | rfl | (simp only [List.map_cons,List.map_nil,renMap,renArr,mergeSt]; rfl)),(by first | rfl | (simp only [List.map_cons,List.map_nil,renMap,renArr,mergeSt]; rfl)),(by first | rfl | (simp only [List.map_cons,List.map_nil,renMap,renArr,mergeSt]; rfl)),.rfl' _⟩
 ·intro hj1 hj1x
  obtain ⟨n1,H⟩:=loop_some H
  refine .loop (ι:=Nat×(Int×List UInt8)) (fun ⟨_,v15l1,o0c0l1⟩=>[(0,.tsl 1 (y0t0p.map rB8) 0),(1,.d (cS v1s)),(5,.ref 0 0),(14,.d (cI (v1s.length:Int))),(15,.d (cI v15l1))]) (fun ⟨_,v15l1,o0c0l1⟩=>⟨[.row 158 (o0c0l1.map fun b=>EV.d (cU8 b))],[⟨5,1,y0t0p.length,none⟩]⟩) (fun p=>iter (fun s=>g_packed_putNumber_l1 v1s y0t0p s.1 s.2) p.1 p.2=some r) (·.1) (n1,(0,(List.replicate 8 0:List UInt8).set (Int.toNat (0)) (UInt8.ofInt ((v1s.length:Int)*2 ^ (Int.toNat (4)))))) H (.cons rfl (.rfl' _) (.cons rfl (.rfl' _) (.cons rfl (.rfl' _) (.cons rfl (.rfl' _) (.cons rfl (.rfl' _) (.nil)))))) rfl ?_
  rintro ⟨m1,v15l1,o0c0l1⟩ HI ih1
  obtain ⟨n1,q1,hm1,H,HK1⟩:=iter_succ HI
  clear HI
  replace H:g_packed_putNumber_l1 v1s y0t0p v15l1 o0c0l1=some q1:=H
  unfold g_packed_putNumber_l1 at H
  refine .A 5 [] rfl trivial ?_
  refine .ite H rfl (fun H=>?_) (fun H=>?_)
  ·obtain ⟨hk5,H⟩:=ck_some H
   obtain ⟨hk6,H⟩:=ck_some H
   refine .A 22 [.c (nth v1s v15l1.toNat),.c ((nth v1s v15l1.toNat) - 48),.i (Int.tmod v15l1 2)] rfl ⟨OpQ.g (q_remT rfl rfl hk6),OpQ.g (q8_sub (a:=nth v1s v15l1.toNat) (b:=48) rfl rfl),OpQ.g (q_indexL (i:=v15l1) underlying9 rfl rfl hk5)⟩ ?_
   refine .ite H rfl (fun H=>?_) (fun H=>?_)
   ·obtain ⟨hk7,H⟩:=ck_some H
    obtain ⟨hk8,H⟩:=ck_some H
    obtain ⟨hk9,H⟩:=ck_some H
    obtain ⟨hk10,H⟩:=ck_some H
    obtain ⟨hk11,H⟩:=ck_some H
    obtain ⟨hk12,H⟩:=ck_some H
    refine .A 15 [.i (Int.tdiv v15l1 2),.g (.ref 0 (Int.tdiv v15l1 2).toNat),.f 11 (.d (cU8 (nth o0c0l1 (Int.tdiv v15l1 2).toNat))),.c ((nth o0c0l1 (Int.tdiv v15l1 2).toNat) ||| ((nth v1s v15l1.toNat) - 48)),.g (.ref 0 (Int.tdiv v15l1 2).toNat),.w 7 ⟨[.row 158 ((o0c0l1.set (Int.tdiv v15l1 2).toNat ((nth o0c0l1 (Int.tdiv v15l1 2).toNat) ||| ((nth v1s v15l1.toNat) - 48))).map fun b=>EV.d (cU8 b))],[⟨5,1,y0t0p.length,none⟩]⟩,.i (v15l1+1)] rfl ⟨g_addI rfl rfl hk12,.e (u_storeArr (l:=o0c0l1) (c1:=cU8) (a:=(nth o0c0l1 (Int.tdiv v15l1 2).toNat) ||| ((nth v1s v15l1.toNat) - 48)) rfl rfl rfl rfl hk11 sz_5) rfl,OpQ.g (q_idxArrS (i:=Int.tdiv v15l1 2) underlying158 ⟨_,hi5,hs5⟩ rfl rfl hk10),OpQ.g (q8_or (a:=nth o0c0l1 (Int.tdiv v15l1 2).toNat) (b:=(nth v1s v15l1.toNat) - 48) rfl rfl),OpQ.g (q_loadArr (l:=o0c0l1) (c1:=cU8) one_5 rfl rfl hk9),OpQ.g (q_idxArrS (i:=Int.tdiv v15l1 2) underlying158 ⟨_,hi5,hs5⟩ rfl rfl hk8),OpQ.g (q_quoT rfl rfl hk7)⟩ ?_
    cases H
    exact .z (ih1 (n1,(v15l1+1,o0c0l1.set (Int.tdiv v15l1 2).toNat ((nth o0c0l1 (Int.tdiv v15l1 2).toNat) ||| ((nth v1s v15l1.toNat) - 48)))) HK1 hm1) rfl rfl
   ·obtain ⟨hk13,H⟩:=ck_some H
    obtain ⟨hk14,H⟩:=ck_some H
    obtain ⟨hk15,H⟩:=ck_some H
    obtain ⟨hk16,H⟩:=ck_some H
    obtain ⟨hk17,H⟩:=ck_some H
    obtain ⟨hk18,H⟩:=ck_some H
    refine .A 14 [.i (v15l1+1),.i (Int.tdiv (v15l1+1) 2),.c (u8shl ((nth v1s v15l1.toNat) - 48) 4),.g (.ref 0 (Int.tdiv (v15l1+1) 2).toNat),.w 7 ⟨[.row 158 ((o0c0l1.set (Int.tdiv (v15l1+1) 2).toNat (u8shl ((nth v1s v15l1.toNat) - 48) 4)).map fun b=>EV.d (cU8 b))],[⟨5,1,y0t0p.length,none⟩]⟩,.i (v15l1+1)] rfl ⟨g_addI rfl rfl hk18,.e (u_storeArr (l:=o0c0l1) (c1:=cU8) (a:=u8shl ((nth v1s v15l1.toNat) - 48) 4) rfl rfl rfl rfl hk17 sz_5) rfl,OpQ.g (q_idxArrS (i:=Int.tdiv (v15l1+1) 2) underlying158 ⟨_,hi5,hs5⟩ rfl rfl hk16),OpQ.g (q8_shl (a:=(nth v1s v15l1.toNat) - 48) (n:=4) rfl rfl hk15),OpQ.g (q_quoT rfl rfl hk14),g_addI rfl rfl hk13⟩ ?_
    cases H
    exact .z (ih1 (n1,(v15l1+1,o0c0l1.set (Int.tdiv (v15l1+1) 2).toNat (u8shl ((nth v1s v15l1.toNat) - 48) 4))) HK1 hm1) rfl rfl
  ·refine .A 1 [] rfl trivial ?_
   obtain ⟨q0,H9,hq0⟩:=map_some' H; clear H; cases hq0
   cases HK1
   have H:=H9
   exact .z (hj1x o0c0l1 H) rfl rfl
theorem c_f_packed_Encode {v0:Record} {r:(List UInt8)×Int} (H:f_packed_Encode v0=some r):ACall prog 59 [.agg (Record.row v0)] (·=.tup [slOf 1 rB8 r.1,cI r.2]):=by
 obtain ⟨i5,hi5,hz5,hs5,hb5⟩:=in_5
 refine ACall.enter' func59 rfl ntmps59 rfl fun S hS=>?_
 unfold f_packed_Encode at H
 obtain ⟨y1,hy1,H⟩:=bind_some' H
 refine .A 22 [.r 0,.d (.tup [cS y1.1,cI y1.2])] rfl (g_call (en 9 rfl) rfl rfl (c_f_textual_Encode (hy1))) ?_
 refine .ite H rfl (fun H=>?_) (fun H=>?_)
 ·refine .A 6 [] rfl trivial ?_
  refine .R func59 results59 rfl ?_
  cases H
  exact .m rfl (.tupL ⟨.nil 1,.rfl' _,trivial⟩)
 ·obtain ⟨y2,hy2,H⟩:=bind_some' H
  refine .B 15 [.r 1,.g (.clo 95 [.ref 1 0])] rfl (OpQ.g (q_makeFunc rfl)) ?_
  refine .callFC (en 20 rfl) rfl rfl [1] [] (x:=.d (.tup [])) (st':=⟨[.row 49 [.d (cI v0.source),.d (cI v0.serial),.d (cI v0.kind),.d (cS v0.a),.d (cS v0.b),.d (cI v0.start),.d (cI v0.units),.d (cI v0.call),.d (cI v0.part),.d (cB v0.last),.d (cI v0.trunk),.d (cB v0.inbound)],.row 22 [.tsl 1 (y2.map rB8) 0]],[⟨5,1,y2.length,none⟩]⟩) rfl (c_g_packed_Encode_1 (hy2)) ⟨.rfl' _,.rfl' _,.rfl' _,trivial⟩ rfl rfl rfl rfl rfl rfl ?_
  obtain ⟨y3,hy3,H⟩:=bind_some' H
  refine .B 6 [] rfl trivial ?_
  refine .callFC (en 20 rfl) rfl rfl [1] [0] (x:=.d (.tup [])) (st':=⟨[.row 49 [.d (cI v0.source),.d (cI v0.serial),.d (cI v0.kind),.d (cS v0.a),.d (cS v0.b),.d (cI v0.start),.d (cI v0.units),.d (cI v0.call),.d (cI v0.part),.d (cB v0.last),.d (cI v0.trunk),.d (cB v0.inbound)],.row 22 [.tsl 1 (y3.map rB8) 1]],[⟨5,1,y2.length,none⟩,⟨5,1,y3.length,none⟩]⟩) rfl (c_g_packed_Encode_1_v1 (hy3)) ⟨.rfl' _,.rfl' _,.rfl' _,trivial⟩ rfl rfl rfl rfl rfl rfl ?_
  obtain ⟨hk1,H⟩:=ck_some H
  obtain ⟨y4,hy4,H⟩:=bind_some' H
  obtain ⟨y5,hy5,H⟩:=bind_some' H
  obtain ⟨hk2,H⟩:=ck_some H
  obtain ⟨y6,hy6,H⟩:=bind_some' H
  refine .B 26 [.p 14,.i (v0.kind*2 ^ (Int.toNat (4))),.c (UInt8.ofInt (v0.kind*2 ^ (Int.toNat (4)))),.c y4,.c ((UInt8.ofInt (v0.kind*2 ^ (Int.toNat (4)))) ||| y4),.c y5,.c (((UInt8.ofInt (v0.kind*2 ^ (Int.toNat (4)))) ||| y4) ||| y5),.d (slOf 1 rB8 ([((UInt8.ofInt (v0.kind*2 ^ (Int.toNat (4)))) ||| y4) ||| y5]:List UInt8)),.a 1 5 1 rB8 (y3++([((UInt8.ofInt (v0.kind*2 ^ (Int.toNat (4)))) ||| y4) ||| y5]:List UInt8))] rfl ⟨s22.a rfl rfl rfl rfl hk2,g_buildSlice1 underlying22 hi5 hs5 hz5 rfl rfl rfl rfl rfl,OpQ.g (q8_or (a:=(UInt8.ofInt (v0.kind*2 ^ (Int.toNat (4)))) ||| y4) (b:=y5) rfl rfl),g_call (en 21 rfl) rfl rfl (c_f_packed_bit (hy5)),OpQ.g (q8_or (a:=UInt8.ofInt (v0.kind*2 ^ (Int.toNat (4)))) (b:=y4) rfl rfl),g_call (en 21 rfl) rfl rfl (c_f_packed_bit (hy4)),OpQ.g (q_conv8 underlying3 underlying5 rfl),OpQ.g (q_shlI rfl rfl hk1),(show drawB _ _=true by kernel_rfl)⟩ ?_
  refine .callF (en 22 rfl) rfl [] [1] (x:=.tsl 1 (y6.map rB8) 1) (st':=⟨[.row 49 [.d (cI v0.source),.d (cI v0.serial),.d (cI v0.kind),.d (cS v0.a),.d (cS v0.b),.d (cI v0.start),.d (cI v0.units),.d (cI v0.call),.d (cI v0.part),.d (cB v0.last),.d (cI v0.trunk),.d (cB v0.inbound)],.row 22 [.tsl 1 ((y3++([((UInt8.ofInt (v0.kind*2 ^ (Int.toNat (4)))) ||| y4) ||| y5]:List UInt8)).map rB8) 1]],[⟨5,1,y2.length,none⟩,⟨5,1,y6.length,none⟩]⟩) rfl (c_g_packed_putNumber (hy6)) ⟨.rfl' _,.rfl' _,trivial⟩ rfl rfl rfl rfl rfl rfl ?_
  obtain ⟨y7,hy7,H⟩:=bind_some' H
  refine .B 7 [] rfl trivial ?_
  refine .callF (en 22 rfl) rfl [] [1] (x:=.tsl 1 (y7.map rB8) 1) (st':=⟨[.row 49 [.d (cI v0.source),.d (cI v0.serial),.d (cI v0.kind),.d (cS v0.a),.d (cS v0.b),.d (cI v0.start),.d (cI v0.units),.d (cI v0.call),.d (cI v0.part),.d (cB v0.last),.d (cI v0.trunk),.d (cB v0.inbound)],.row 22 [.tsl 1 (y6.map rB8) 1]],[⟨5,1,y2.length,none⟩,⟨5,1,y7.length,none⟩]⟩) rfl (c_g_packed_putNumber (hy7)) ⟨.rfl' _,.rfl' _,trivial⟩ rfl rfl rfl rfl rfl rfl ?_
  obtain ⟨y8,hy8,H⟩:=bind_some' H
  refine .B 7 [] rfl trivial ?_
  refine .callFC (en 20 rfl) rfl rfl [1] [1] (x:=.d (.tup [])) (st':=⟨[.row 49 [.d (cI v0.source),.d (cI v0.serial),.d (cI v0.kind),.d (cS v0.a),.d (cS v0.b),.d (cI v0.start),.d (cI v0.units),.d (cI v0.call),.d (cI v0.part),.d (cB v0.last),.d (cI v0.trunk),.d (cB v0.inbound)],.row 22 [.tsl 1 (y8.map rB8) 2]],[⟨5,1,y2.length,none⟩,⟨5,1,y7.length,none⟩,⟨5,1,y8.length,none⟩]⟩) rfl (c_g_packed_Encode_1_v1 (hy8)) ⟨.rfl' _,.rfl' _,.rfl' _,trivial⟩ rfl rfl rfl rfl rfl rfl ?_
  obtain ⟨y9,hy9,H⟩:=bind_some' H
  refine .B 6 [] rfl trivial ?_
  refine .callFC (en 20 rfl) rfl rfl [1] [2] (x:=.d (.tup [])) (st':=⟨[.row 49 [.d (cI v0.source),.d (cI v0.serial),.d (cI v0.kind),.d (cS v0.a),.d (cS v0.b),.d (cI v0.start),.d (cI v0.units),.d (cI v0.call),.d (cI v0.part),.d (cB v0.last),.d (cI v0.trunk),.d (cB v0.inbound)],.row 22 [.tsl 1 (y9.map rB8) 3]],[⟨5,1,y2.length,none⟩,⟨5,1,y7.length,none⟩,⟨5,1,y8.length,none⟩,⟨5,1,y9.length,none⟩]⟩) rfl (c_g_packed_Encode_1_v1 (hy9)) ⟨.rfl' _,.rfl' _,.rfl' _,trivial⟩ rfl rfl rfl rfl rfl rfl ?_
  obtain ⟨y10,hy10,H⟩:=bind_some' H
  refine .B 6 [] rfl trivial ?_
  refine .callFC (en 20 rfl) rfl rfl [1] [3] (x:=.d (.tup [])) (st':=⟨[.row 49 [.d (cI v0.source),.d (cI v0.serial),.d (cI v0.kind),.d (cS v0.a),.d (cS v0.b),.d (cI v0.start),.d (cI v0.units),.d (cI v0.call),.d (cI v0.part),.d (cB v0.last),.d (cI v0.trunk),.d (cB v0.inbound)],.row 22 [.tsl 1 (y10.map rB8) 4]],[⟨5,1,y2.length,none⟩,⟨5,1,y7.length,none⟩,⟨5,1,y8.length,none⟩,⟨5,1,y9.length,none⟩,⟨5,1,y10.length,none⟩]⟩) rfl (c_g_packed_Encode_1_v1 (hy10)) ⟨.rfl' _,.rfl' _,.rfl' _,trivial⟩ rfl rfl rfl rfl rfl rfl ?_
  obtain ⟨y11,hy11,H⟩:=bind_some' H
  refine .B 6 [] rfl trivial ?_
  refine .callFC (en 20 rfl) rfl rfl [1] [4] (x:=.d (.tup [])) (st':=⟨[.row 49 [.d (cI v0.source),.d (cI v0.serial),.d (cI v0.kind),.d (cS v0.a),.d (cS v0.b),.d (cI v0.start),.d (cI v0.units),.d (cI v0.call),.d (cI v0.part),.d (cB v0.last),.d (cI v0.trunk),.d (cB v0.inbound)],.row 22 [.tsl 1 (y11.map rB8) 5]],[⟨5,1,y2.length,none⟩,⟨5,1,y7.length,none⟩,⟨5,1,y8.length,none⟩,⟨5,1,y9.length,none⟩,⟨5,1,y10.length,none⟩,⟨5,1,y11.length,none⟩]⟩) rfl (c_g_packed_Encode_1_v1 (hy11)) ⟨.rfl' _,.rfl' _,.rfl' _,trivial⟩ rfl rfl rfl rfl rfl rfl ?_
  obtain ⟨y12,hy12,H⟩:=bind_some' H
  refine .B 6 [] rfl trivial ?_
  refine .callFC (en 20 rfl) rfl rfl [1] [5] (x:=.d (.tup [])) (st':=⟨[.row 49 [.d (cI v0.source),.d (cI v0.serial),.d (cI v0.kind),.d (cS v0.a),.d (cS v0.b),.d (cI v0.start),.d (cI v0.units),.d (cI v0.call),.d (cI v0.part),.d (cB v0.last),.d (cI v0.trunk),.d (cB v0.inbound)],.row 22 [.tsl 1 (y12.map rB8) 6]],[⟨5,1,y2.length,none⟩,⟨5,1,y7.length,none⟩,⟨5,1,y8.length,none⟩,⟨5,1,y9.length,none⟩,⟨5,1,y10.length,none⟩,⟨5,1,y11.length,none⟩,⟨5,1,y12.length,none⟩]⟩) rfl (c_g_packed_Encode_1_v1 (hy12)) ⟨.rfl' _,.rfl' _,.rfl' _,trivial⟩ rfl rfl rfl rfl rfl rfl ?_
  obtain ⟨y13,hy13,H⟩:=bind_some' H
  obtain ⟨hk3,H⟩:=ck_some H
  refine .A 12 [.p 4,.c y13,.d (slOf 1 rB8 ([y13]:List UInt8)),.a 6 5 1 rB8 (y12++([y13]:List UInt8))] rfl ⟨s22.a rfl rfl rfl rfl hk3,g_buildSlice1 underlying22 hi5 hs5 hz5 rfl rfl rfl rfl rfl,g_call (en 23 rfl) rfl rfl (c_f_packed_sum (hy13)),(show drawB _ _=true by kernel_rfl)⟩ ?_
  refine .R func59 results59 rfl ?_
  cases H
  exact .m rfl (.tupL ⟨.tsl _ _ _,.rfl' _,trivial⟩)
set_option maxRecDepth 100000
set_option maxHeartbeats 1000000
theorem c_f_batch_line {v0r:Record} {r:(List UInt8)×Int} (H:f_batch_line v0r=some r):ACall prog 61 [.agg (Record.row v0r)] (·=.tup [cS r.1,cI r.2]):=by
 refine ACall.enter' func61 rfl ntmps61 rfl fun S hS=>?_
 unfold f_batch_line at H
 obtain ⟨y1,hy1,H⟩:=bind_some' H
 obtain ⟨hk1,H⟩:=ck_some H
 refine .A 24 [.r 0,.d (.tup [cS y1.1,cI y1.2]),.s (y1.1++([10]:List UInt8))] rfl ⟨OpQ.g (q_sadd rfl rfl hk1),g_call (en 9 rfl) rfl rfl (c_f_textual_Encode (hy1))⟩ ?_
 refine .R func61 results61 rfl ?_
 cases H
 exact .m rfl (.tupD rfl)
theorem c_g_api_Record_byte {v0list:List Record} {r:(List UInt8)} (H:g_api_Record_byte v0list=some r):ACallS prog 57 [.d (slOf 12 Record.row v0list),.d (.ex (.func (.func 58) #[] #[]))] ⟨[],[]⟩ (QE (.d (slOf 1 rB8 r)) ⟨[],[]⟩):=by
 refine ACallS.keep ?_
 refine ACallS.enter func57 rfl ntmps57 rfl fun S hS=>?_
 unfold g_api_Record_byte at H
 refine .A 16 [.i (v0list.length:Int)] rfl (s29.n rfl rfl) ?_
 refine .tok (i:=5) (e:=5) (sz:=1) rfl ?_
 obtain ⟨n1,H⟩:=loop_some H
 refine .loop (ι:=Nat×(List UInt8×Int)) (fun ⟨_,v5outl1,v12l1⟩=>[(1,.d (.ex (.func (.func 58) #[] #[]))),(5,.tsl 1 (v5outl1.map rB8) 0),(10,.d (slOf 12 Record.row v0list)),(11,.d (cI (v0list.length:Int))),(12,.d (cI v12l1))]) (fun ⟨_,v5outl1,v12l1⟩=>⟨[],[⟨5,1,v5outl1.length,none⟩]⟩) (fun p=>iter (fun s=>g_api_Record_byte_l1 v0list s.1 s.2) p.1 p.2=some r) (·.1) (n1,(([]:List UInt8),0)) H (.cons rfl (.rfl' _) (.cons rfl (.rfl' _) (.cons rfl (.rfl' _) (.cons rfl (.rfl' _) (.cons rfl (.rfl' _) (.nil)))))) rfl ?_
 rintro ⟨m1,v5outl1,v12l1⟩ HI ih1
 obtain ⟨n1,q1,hm1,H,HK1⟩:=iter_succ HI
 clear HI
 replace H:g_api_Record_byte_l1 v0list v5outl1 v12l1=some q1:=H
 unfold g_api_Record_byte_l1 at H
 refine .A 5 [] rfl trivial ?_
 refine .ite H rfl (fun H=>?_) (fun H=>?_)
 ·obtain ⟨hk1,H⟩:=ck_some H
  obtain ⟨y1,hy1,H⟩:=bind_some' H
  obtain ⟨hk2,H⟩:=ck_some H
  obtain ⟨hk3,H⟩:=ck_some H
  refine .A 32 [.d (.ro (Record.row (nth v0list v12l1.toNat))),.r 0,.d (.tup [slOf 1 rB8 y1.1,cI y1.2]),.a 0 5 1 rB8 (v5outl1++y1.1),.i (v12l1+1)] rfl ⟨g_addI rfl rfl hk3,s22.a rfl rfl rfl rfl hk2,g_callF (en 24 rfl) rfl rfl rfl (c_f_tagged_Encode (hy1)),s29.ix rfl rfl rfl hk1⟩ ?_
  cases H
  exact .t 0 1 (ih1 (n1,(v5outl1++y1.1,v12l1+1)) HK1 hm1) rfl rfl rfl rfl rfl hS rfl
 ·refine .A 6 [] rfl trivial ?_
  refine .R func57 results57 rfl ?_
  cases H
  cases HK1
  exact ⟨[],[],rfl,rfl,rfl,rfl,rfl,rfl,rfl,rfl,.tsl _ _ _⟩
theorem c_g_api_Record_byte_v1 {v0list:List Record} {r:(List UInt8)} (H:g_api_Record_byte_v1 v0list=some r):ACallS prog 57 [.d (slOf 12 Record.row v0list),.d (.ex (.func (.func 59) #[] #[]))] ⟨[],[]⟩ (QE (.d (slOf 1 rB8 r)) ⟨[],[]⟩):=by
 refine ACallS.keep ?_
 refine ACallS.enter func57 rfl ntmps57 rfl fun S hS=>?_
 unfold g_api_Record_byte_v1 at H
 refine .A 16 [.i (v0list.length:Int)] rfl (s29.n rfl rfl) ?_
 refine .tok (i:=5) (e:=5) (sz:=1) rfl ?_
 obtain ⟨n1,H⟩:=loop_some H
 refine .loop (ι:=Nat×(List UInt8×Int)) (fun ⟨_,v5outl1,v12l1⟩=>[(1,.d (.ex (.func (.func 59) #[] #[]))),(5,.tsl 1 (v5outl1.map rB8) 0),(10,.d (slOf 12 Record.row v0list)),(11,.d (cI (v0list.length:Int))),(12,.d (cI v12l1))]) (fun ⟨_,v5outl1,v12l1⟩=>⟨[],[⟨5,1,v5outl1.length,none⟩]⟩) (fun p=>iter (fun s=>g_api_Record_byte_v1_l1 v0list s.1 s.2) p.1 p.2=some r) (·.1) (n1,(([]:List UInt8),0)) H (.cons rfl (.rfl' _) (.cons rfl (.rfl' _) (.cons rfl (.rfl' _) (.cons rfl (.rfl' _) (.cons rfl (.rfl' _) (.nil)))))) rfl ?_
 rintro ⟨m1,v5outl1,v12l1⟩ HI ih1
 obtain ⟨n1,q1,hm1,H,HK1⟩:=iter_succ HI
 clear HI
 replace H:g_api_Record_byte_v1_l1 v0list v5outl1 v12l1=some q1:=H
 unfold g_api_Record_byte_v1_l1 at H
 refine .A 5 [] rfl trivial ?_
 refine .ite H rfl (fun H=>?_) (fun H=>?_)
 ·obtain ⟨hk1,H⟩:=ck_some H
  obtain ⟨y1,hy1,H⟩:=bind_some' H
  obtain ⟨hk2,H⟩:=ck_some H
  obtain ⟨hk3,H⟩:=ck_some H
  refine .A 32 [.d (.ro (Record.row (nth v0list v12l1.toNat))),.r 0,.d (.tup [slOf 1 rB8 y1.1,cI y1.2]),.a 0 5 1 rB8 (v5outl1++y1.1),.i (v12l1+1)] rfl ⟨g_addI rfl rfl hk3,s22.a rfl rfl rfl rfl hk2,g_callF (en 25 rfl) rfl rfl rfl (c_f_packed_Encode (hy1)),s29.ix rfl rfl rfl hk1⟩ ?_
  cases H
  exact .t 0 1 (ih1 (n1,(v5outl1++y1.1,v12l1+1)) HK1 hm1) rfl rfl rfl rfl rfl hS rfl
 ·refine .A 6 [] rfl trivial ?_
  refine .R func57 results57 rfl ?_
  cases H
  cases HK1
  exact ⟨[],[],rfl,rfl,rfl,rfl,rfl,rfl,rfl,rfl,.tsl _ _ _⟩
theorem c_g_api_Record_string {v0list:List Record} {r:(List UInt8)} (H:g_api_Record_string v0list=some r):ACallS prog 60 [.d (slOf 12 Record.row v0list),.d (.ex (.func (.func 61) #[] #[]))] ⟨[],[]⟩ (QE (.d (slOf 1 rB8 r)) ⟨[],[]⟩):=by
 obtain ⟨i5,hi5,hz5,hs5,hb5⟩:=in_5
 refine ACallS.keep ?_
 refine ACallS.enter func60 rfl ntmps60 rfl fun S hS=>?_
 unfold g_api_Record_string at H
 refine .A 16 [.i (v0list.length:Int)] rfl (s29.n rfl rfl) ?_
 refine .tok (i:=5) (e:=5) (sz:=1) rfl ?_
 obtain ⟨n1,H⟩:=loop_some H
 refine .loop (ι:=Nat×(List UInt8×Int)) (fun ⟨_,v5outl1,v12l1⟩=>[(1,.d (.ex (.func (.func 61) #[] #[]))),(5,.tsl 1 (v5outl1.map rB8) 0),(10,.d (slOf 12 Record.row v0list)),(11,.d (cI (v0list.length:Int))),(12,.d (cI v12l1))]) (fun ⟨_,v5outl1,v12l1⟩=>⟨[],[⟨5,1,v5outl1.length,none⟩]⟩) (fun p=>iter (fun s=>g_api_Record_string_l1 v0list s.1 s.2) p.1 p.2=some r) (·.1) (n1,(([]:List UInt8),0)) H (.cons rfl (.rfl' _) (.cons rfl (.rfl' _) (.cons rfl (.rfl' _) (.cons rfl (.rfl' _) (.cons rfl (.rfl' _) (.nil)))))) rfl ?_
 rintro ⟨m1,v5outl1,v12l1⟩ HI ih1
 obtain ⟨n1,q1,hm1,H,HK1⟩:=iter_succ HI
 clear HI
 replace H:g_api_Record_string_l1 v0list v5outl1 v12l1=some q1:=H
 unfold g_api_Record_string_l1 at H
 refine .A 5 [] rfl trivial ?_
 refine .ite H rfl (fun H=>?_) (fun H=>?_)
 ·obtain ⟨hk1,H⟩:=ck_some H
  obtain ⟨y1,hy1,H⟩:=bind_some' H
  obtain ⟨hk2,H⟩:=ck_some H
  obtain ⟨hk3,H⟩:=ck_some H
  refine .A 32 [.d (.ro (Record.row (nth v0list v12l1.toNat))),.r 0,.d (.tup [cS y1.1,cI y1.2]),.t (.tsl 1 ((v5outl1++y1.1).map rB8) 0) 0 ⟨5,1,(v5outl1++y1.1).length,none⟩,.i (v12l1+1)] rfl ⟨g_addI rfl rfl hk3,.e (v_appendStrL (l:=v5outl1) (a:=y1.1) underlying22 underlying9 hi5 hz5 hs5 rfl (by rw [hb5]; decide) rfl rfl rfl hk2) rfl,g_callF (en 26 rfl) rfl rfl rfl (c_f_batch_line (hy1)),s29.ix rfl rfl rfl hk1⟩ ?_
  cases H
  exact .t 0 1 (ih1 (n1,(v5outl1++y1.1,v12l1+1)) HK1 hm1) rfl rfl rfl rfl rfl hS rfl
 ·refine .A 6 [] rfl trivial ?_
  refine .R func60 results60 rfl ?_
  cases H
  cases HK1
  exact ⟨[],[],rfl,rfl,rfl,rfl,rfl,rfl,rfl,rfl,.tsl _ _ _⟩
theorem c_f_batch_payload {v0format:Int} {v1records:List Record} {r:(List UInt8)} (H:f_batch_payload v0format v1records=some r):ACall prog 33 [cI v0format,slOf 12 Record.row v1records] (·=slOf 1 rB8 r):=by
 refine ACall.enter' func33 rfl ntmps33 rfl fun S hS=>?_
 unfold f_batch_payload at H
 refine .A 15 [] rfl trivial ?_
 refine .ite H rfl (fun H=>?_) (fun H=>?_)
 ·obtain ⟨y1,hy1,H⟩:=bind_some' H
  refine .A 6 [.d (slOf 1 rB8 y1)] rfl (g_call (en 27 rfl) rfl rfl (ACall.ofE (ds:=[slOf 12 Record.row v1records,.ex (.func (.func 58) #[] #[])]) (c_g_api_Record_byte (hy1)))) ?_
  refine .R func33 results33 rfl ?_
  cases H
  exact .m rfl (.rfl' _)
 ·refine .A 5 [] rfl trivial ?_
  refine .ite H rfl (fun H=>?_) (fun H=>?_)
  ·obtain ⟨y2,hy2,H⟩:=bind_some' H
   refine .A 6 [.d (slOf 1 rB8 y2)] rfl (g_call (en 27 rfl) rfl rfl (ACall.ofE (ds:=[slOf 12 Record.row v1records,.ex (.func (.func 59) #[] #[])]) (c_g_api_Record_byte_v1 (hy2)))) ?_
   refine .R func33 results33 rfl ?_
   cases H
   exact .m rfl (.rfl' _)
  ·obtain ⟨y3,hy3,H⟩:=bind_some' H
   refine .A 8 [.d (slOf 1 rB8 y3)] rfl (g_call (en 28 rfl) rfl rfl (ACall.ofE (ds:=[slOf 12 Record.row v1records,.ex (.func (.func 61) #[] #[])]) (c_g_api_Record_string (hy3)))) ?_
   refine .R func33 results33 rfl ?_
   cases H
   exact .m rfl (.rfl' _)
theorem c_f_frame_Sum {v0b:List UInt8} {r:Int} (H:f_frame_Sum v0b=some r):ACall prog 76 [slOf 1 rB8 v0b] (·=cK .u32 r):=by
 refine ACall.enter' func76 rfl ntmps76 rfl fun S hS=>?_
 unfold f_frame_Sum at H
 refine .A 16 [.i (v0b.length:Int)] rfl (s22.n rfl rfl) ?_
 obtain ⟨n1,H⟩:=loop_some H
 refine .loop (ι:=Nat×(Int×Int)) (fun ⟨_,v3nl1,v8l1⟩=>[(3,.d (cK .u32 v3nl1)),(6,.d (slOf 1 rB8 v0b)),(7,.d (cI (v0b.length:Int))),(8,.d (cI v8l1))]) (fun ⟨_,v3nl1,v8l1⟩=>⟨[],[]⟩) (fun p=>iter (fun s=>f_frame_Sum_l1 v0b s.1 s.2) p.1 p.2=some r) (·.1) (n1,(2166136261,0)) H (.cons rfl (.rfl' _) (.cons rfl (.rfl' _) (.cons rfl (.rfl' _) (.cons rfl (.rfl' _) (.nil))))) rfl ?_
 rintro ⟨m1,v3nl1,v8l1⟩ HI ih1
 obtain ⟨n1,q1,hm1,H,HK1⟩:=iter_succ HI
 clear HI
 replace H:f_frame_Sum_l1 v0b v3nl1 v8l1=some q1:=H
 unfold f_frame_Sum_l1 at H
 refine .A 5 [] rfl trivial ?_
 refine .ite H rfl (fun H=>?_) (fun H=>?_)
 ·obtain ⟨hk1,H⟩:=ck_some H
  obtain ⟨hk2,H⟩:=ck_some H
  refine .A 27 [.d (.ro (rB8 (nth v0b v8l1.toNat))),.d (cK .u32 (IntKind.wrap .u32 ((nth v0b v8l1.toNat).toNat:Int))),.d (cK .u32 (bXor .u32 v3nl1 (IntKind.wrap .u32 ((nth v0b v8l1.toNat).toNat:Int)))),.d (cK .u32 (IntKind.wrap .u32 ((bXor .u32 v3nl1 (IntKind.wrap .u32 ((nth v0b v8l1.toNat).toNat:Int)))*16777619))),.i (v8l1+1)] rfl ⟨g_addI rfl rfl hk2,OpQ.g (q_mul rfl rfl rfl),OpQ.g (q_xor rfl rfl),OpQ.g (q_conv (n:=((nth v0b v8l1.toNat).toNat:Int)) underlying5 underlying90 rfl rfl),s22.ix rfl rfl rfl hk1⟩ ?_
  cases H
  exact .z (ih1 (n1,(IntKind.wrap .u32 ((bXor .u32 v3nl1 (IntKind.wrap .u32 ((nth v0b v8l1.toNat).toNat:Int)))*16777619),v8l1+1)) HK1 hm1) rfl rfl
 ·refine .A 6 [] rfl trivial ?_
  refine .R func76 results76 rfl ?_
  cases H
  cases HK1
  exact .m rfl (.rfl' _)
theorem c_g_frame_wrap_v1 {v1payload:List UInt8} {y0t0p:List UInt8} {r:(List UInt8)} (H:g_frame_wrap_v1 v1payload y0t0p=some r):ACallS prog 55 [.tsl 1 (y0t0p.map rB8) 0,.d (slOf 1 rB8 v1payload)] ⟨[],[⟨5,1,y0t0p.length,none⟩]⟩ (QE (.tsl 1 (r.map rB8) 0) ⟨[],[⟨5,1,r.length,none⟩]⟩):=by
 obtain ⟨i5,hi5,hz5,hs5,hb5⟩:=in_5
 refine ACallS.keep ?_
 refine ACallS.enter func55 rfl ntmps55 rfl fun S hS=>?_
 unfold g_frame_wrap_v1 at H
 obtain ⟨y1,hy1,H⟩:=bind_some' H
 obtain ⟨y2,hy2,H⟩:=bind_some' H
 obtain ⟨hk1,H⟩:=ck_some H
 obtain ⟨hk2,H⟩:=ck_some H
 obtain ⟨hk3,H⟩:=ck_some H
 obtain ⟨hk4,H⟩:=ck_some H
 obtain ⟨hk5,H⟩:=ck_some H
 obtain ⟨hk6,H⟩:=ck_some H
 refine .A 44 [.d (cK .u32 y1),.i (v1payload.length:Int),.d (slOf 1 rB8 y2),.a 0 5 1 rB8 (y0t0p++y2),.d (cK .u32 (Int.fdiv y1 (2 ^ (min (Int.toNat (24)) 32)))),.c (UInt8.ofInt (Int.fdiv y1 (2 ^ (min (Int.toNat (24)) 32)))),.d (cK .u32 (Int.fdiv y1 (2 ^ (min (Int.toNat (16)) 32)))),.c (UInt8.ofInt (Int.fdiv y1 (2 ^ (min (Int.toNat (16)) 32)))),.d (cK .u32 (Int.fdiv y1 (2 ^ (min (Int.toNat (8)) 32)))),.c (UInt8.ofInt (Int.fdiv y1 (2 ^ (min (Int.toNat (8)) 32)))),.c (UInt8.ofInt y1),.d (slOf 1 rB8 ([UInt8.ofInt (Int.fdiv y1 (2 ^ (min (Int.toNat (24)) 32))),UInt8.ofInt (Int.fdiv y1 (2 ^ (min (Int.toNat (16)) 32))),UInt8.ofInt (Int.fdiv y1 (2 ^ (min (Int.toNat (8)) 32))),UInt8.ofInt y1]:List UInt8)),.a 0 5 1 rB8 ((y0t0p++y2)++([UInt8.ofInt (Int.fdiv y1 (2 ^ (min (Int.toNat (24)) 32))),UInt8.ofInt (Int.fdiv y1 (2 ^ (min (Int.toNat (16)) 32))),UInt8.ofInt (Int.fdiv y1 (2 ^ (min (Int.toNat (8)) 32))),UInt8.ofInt y1]:List UInt8)),.a 0 5 1 rB8 (((y0t0p++y2)++([UInt8.ofInt (Int.fdiv y1 (2 ^ (min (Int.toNat (24)) 32))),UInt8.ofInt (Int.fdiv y1 (2 ^ (min (Int.toNat (16)) 32))),UInt8.ofInt (Int.fdiv y1 (2 ^ (min (Int.toNat (8)) 32))),UInt8.ofInt y1]:List UInt8))++v1payload)] rfl ⟨s22.a rfl rfl rfl rfl hk6,s22.a rfl rfl rfl rfl hk5,g_buildSliceN (n:=4) (rows:=([UInt8.ofInt (Int.fdiv y1 (2 ^ (min (Int.toNat (24)) 32))),UInt8.ofInt (Int.fdiv y1 (2 ^ (min (Int.toNat (16)) 32))),UInt8.ofInt (Int.fdiv y1 (2 ^ (min (Int.toNat (8)) 32))),UInt8.ofInt y1]:List UInt8).map rB8) underlying22 hi5 hs5 hz5 rfl rfl rfl rfl rfl,OpQ.g (q_conv8 underlying90 underlying5 rfl),OpQ.g (q_conv8 underlying90 underlying5 rfl),OpQ.g (q_shr (a:=y1) (b:=8) rfl rfl hk4 rfl),OpQ.g (q_conv8 underlying90 underlying5 rfl),OpQ.g (q_shr (a:=y1) (b:=16) rfl rfl hk3 rfl),OpQ.g (q_conv8 underlying90 underlying5 rfl),OpQ.g (q_shr (a:=y1) (b:=24) rfl rfl hk2 rfl),s22.a rfl rfl rfl rfl hk1,g_call (en 13 rfl) rfl rfl ((c_f_codec_PutNumber (hy2)).le ⟨.nil 1,.rfl' _,trivial⟩),s22.n rfl rfl,g_call (en 29 rfl) rfl rfl (c_f_frame_Sum (hy1))⟩ ?_
 refine .R func55 results55 rfl ?_
 cases H
 exact ⟨[],[0],rfl,rfl,rfl,rfl,rfl,rfl,rfl,rfl,.rfl' _⟩
theorem c_f_frame_Join {v0list:List (List UInt8)} {r:(List UInt8)×Int} (H:f_frame_Join v0list=some r):ACall prog 30 [slOf 1 (rSl 1 rB8) v0list] (·=.tup [slOf 1 rB8 r.1,cI r.2]):=by
 obtain ⟨i22,hi22,hz22,hs22,hb22⟩:=in_22
 refine ACall.enter' func30 rfl ntmps30 rfl fun S hS=>?_
 unfold f_frame_Join at H
 refine .A 17 [.i (v0list.length:Int)] rfl (s44.n rfl rfl) ?_
 refine .tok (i:=4) (e:=5) (sz:=1) rfl ?_
 obtain ⟨n1,H⟩:=loop_some H
 refine .loop (ι:=Nat×(List UInt8×Int)) (fun ⟨_,v4outl1,v9l1⟩=>[(4,.tsl 1 (v4outl1.map rB8) 0),(7,.d (slOf 1 (rSl 1 rB8) v0list)),(8,.d (cI (v0list.length:Int))),(9,.d (cI v9l1))]) (fun ⟨_,v4outl1,v9l1⟩=>⟨[],[⟨5,1,v4outl1.length,none⟩]⟩) (fun p=>iter (fun s=>f_frame_Join_l1 v0list s.1 s.2) p.1 p.2=some r) (·.1) (n1,(([]:List UInt8),0)) H (.cons rfl (.rfl' _) (.cons rfl (.rfl' _) (.cons rfl (.rfl' _) (.cons rfl (.rfl' _) (.nil))))) rfl ?_
 rintro ⟨m1,v4outl1,v9l1⟩ HI ih1
 obtain ⟨n1,q1,hm1,H,HK1⟩:=iter_succ HI
 clear HI
 replace H:f_frame_Join_l1 v0list v4outl1 v9l1=some q1:=H
 unfold f_frame_Join_l1 at H
 refine .A 5 [] rfl trivial ?_
 refine .ite H rfl (fun H=>?_) (fun H=>?_)
 ·obtain ⟨hk1,H⟩:=ck_some H
  refine .A 16 [.d (.ro ((rSl 1 rB8) (nth v0list v9l1.toNat))),.i ((nth v0list v9l1.toNat).length:Int)] rfl ⟨s22.n rfl rfl,s44.ix rfl rfl rfl hk1⟩ ?_
  refine .ite H rfl (fun H=>?_) (fun H=>?_)
  ·refine .A 5 [] rfl trivial ?_
   refine .R func30 results30 rfl ?_
   cases H
   cases HK1
   exact .m rfl (.tupL ⟨.nil 1,.rfl' _,trivial⟩)
  ·obtain ⟨y1,hy1,H⟩:=bind_some' H
   refine .B 4 [] rfl trivial ?_
   refine .callF (en 30 rfl) rfl [] [0] (x:=.tsl 1 (y1.map rB8) 0) (st':=⟨[],[⟨5,1,y1.length,none⟩]⟩) rfl (c_g_frame_wrap_v1 (hy1)) ⟨.rfl' _,.rfl' _,trivial⟩ rfl rfl rfl rfl rfl rfl ?_
   obtain ⟨hk2,H⟩:=ck_some H
   refine .A 7 [.i (v9l1+1)] rfl (g_addI rfl rfl hk2) ?_
   cases H
   exact .z (ih1 (n1,(y1,v9l1+1)) HK1 hm1) rfl rfl
 ·refine .A 7 [] rfl trivial ?_
  refine .R func30 results30 rfl ?_
  cases H
  cases HK1
  exact .m rfl (.tupL ⟨.tsl _ _ _,.rfl' _,trivial⟩)
theorem c_g_batch_all_int_byte {v0list:List Int} {r:(List UInt8)} (H:g_batch_all_int_byte v0list=some r):ACallS prog 31 [.d (slOf 1 rI v0list),.d (.ex (.func (.func 32) #[] #[]))] ⟨[],[]⟩ (QE (.d (slOf 1 rB8 r)) ⟨[],[]⟩):=by
 refine ACallS.keep ?_
 refine ACallS.enter func31 rfl ntmps31 rfl fun S hS=>?_
 unfold g_batch_all_int_byte at H
 refine .A 16 [.i (v0list.length:Int)] rfl (s68.n rfl rfl) ?_
 refine .tok (i:=5) (e:=5) (sz:=1) rfl ?_
 obtain ⟨n1,H⟩:=loop_some H
 refine .loop (ι:=Nat×(List UInt8×Int)) (fun ⟨_,v5outl1,v12l1⟩=>[(1,.d (.ex (.func (.func 32) #[] #[]))),(5,.tsl 1 (v5outl1.map rB8) 0),(10,.d (slOf 1 rI v0list)),(11,.d (cI (v0list.length:Int))),(12,.d (cI v12l1))]) (fun ⟨_,v5outl1,v12l1⟩=>⟨[],[⟨5,1,v5outl1.length,none⟩]⟩) (fun p=>iter (fun s=>g_batch_all_int_byte_l1 v0list s.1 s.2) p.1 p.2=some r) (·.1) (n1,(([]:List UInt8),0)) H (.cons rfl (.rfl' _) (.cons rfl (.rfl' _) (.cons rfl (.rfl' _) (.cons rfl (.rfl' _) (.cons rfl (.rfl' _) (.nil)))))) rfl ?_
 rintro ⟨m1,v5outl1,v12l1⟩ HI ih1
 obtain ⟨n1,q1,hm1,H,HK1⟩:=iter_succ HI
 clear HI
 replace H:g_batch_all_int_byte_l1 v0list v5outl1 v12l1=some q1:=H
 unfold g_batch_all_int_byte_l1 at H
 refine .A 5 [] rfl trivial ?_
 refine .ite H rfl (fun H=>?_) (fun H=>?_)
 ·obtain ⟨hk1,H⟩:=ck_some H
  obtain ⟨y1,hy1,H⟩:=bind_some' H
  obtain ⟨hk2,H⟩:=ck_some H
  obtain ⟨hk3,H⟩:=ck_some H
  refine .A 31 [.d (.ro (rI (nth v0list v12l1.toNat))),.d (.tup [slOf 1 rB8 y1.1,cI y1.2]),.a 0 5 1 rB8 (v5outl1++y1.1),.i (v12l1+1)] rfl ⟨g_addI rfl rfl hk3,s22.a rfl rfl rfl rfl hk2,g_callF (en 31 rfl) rfl rfl rfl (c_f_batch_number (hy1)),s68.ix rfl rfl rfl hk1⟩ ?_
  cases H
  exact .z (ih1 (n1,(v5outl1++y1.1,v12l1+1)) HK1 hm1) rfl rfl
 ·refine .A 6 [] rfl trivial ?_
  refine .R func31 results31 rfl ?_
  cases H
  cases HK1
  exact ⟨[],[],rfl,rfl,rfl,rfl,rfl,rfl,rfl,rfl,.tsl _ _ _⟩
set_option maxRecDepth 100000
set_option maxHeartbeats 1000000
theorem c_f_batch_Write {v0b:Batch} {r:(List UInt8)×Int} (H:f_batch_Write v0b=some r):ACall prog 14 [.agg (Batch.row v0b)] (·=.tup [slOf 1 rB8 r.1,cI r.2]):=by
 obtain ⟨i3,hi3,hz3,hs3,hb3⟩:=in_3
 obtain ⟨i22,hi22,hz22,hs22,hb22⟩:=in_22
 refine ACall.enter' func14 rfl ntmps14 rfl fun S hS=>?_
 unfold f_batch_Write at H
 obtain ⟨y1,hy1,H⟩:=bind_some' H
 refine .A 18 [.r 0,.i y1] rfl (g_call (en 32 rfl) rfl rfl (c_f_batch_Check (hy1))) ?_
 refine .ite H rfl (fun H=>?_) (fun H=>?_)
 ·refine .A 6 [] rfl trivial ?_
  refine .R func14 results14 rfl ?_
  cases H
  exact .m rfl (.tupL ⟨.nil 1,.rfl' _,trivial⟩)
 ·refine .A 2 [] rfl trivial ?_
  obtain ⟨y2,hy2,H⟩:=bind_some' H
  obtain ⟨y3,hy3,H⟩:=bind_some' H
  refine .ordersX (E0:=[(0,.d (.agg (Batch.row v0b))),(1,.ref 0 0),(2,.d (nilD)),(3,.d (cI 0)),(4,.d (cI y1)),(5,.ref 1 0),(6,.ref 2 0),(7,.d (.agg (Batch.row v0b))),(8,.d (cI y1)),(9,.d (cI y1)),(10,.d (cB (y1 != 0))),(12,.d (.agg (Batch.row v0b))),(13,.d (.agg (Head.row y2))),(14,.ref 0 3),(15,.d (slOf 12 Record.row v0b.records)),(16,.d (.agg (Totals.row y3)))]) (st0:=⟨[.row 31 [.d (cI v0b.source),.d (cI v0b.number),.d (cI v0b.format),.d (slOf 12 Record.row v0b.records)],.row 25 [.d (cI 0),.d (cI 0),.d (cI 0),.d (cI 0)],.row 52 [.d (cI 0),.d (cI 0),.d (cI 0),.d (cI 0),.d (cI 0),.d (cI 0)]],[]⟩) 7 5 6 [⟨[.row 31 [.d (cI v0b.source),.d (cI v0b.number),.d (cI v0b.format),.d (slOf 12 Record.row v0b.records)]],[]⟩,⟨[.row 31 [.d (cI v0b.source),.d (cI v0b.number),.d (cI v0b.format),.d (slOf 12 Record.row v0b.records)],.row 25 [.d (cI 0),.d (cI 0),.d (cI 0),.d (cI 0)]],[]⟩,⟨[.row 31 [.d (cI v0b.source),.d (cI v0b.number),.d (cI v0b.format),.d (slOf 12 Record.row v0b.records)],.row 25 [.d (cI 0),.d (cI 0),.d (cI 0),.d (cI 0)],.row 52 [.d (cI 0),.d (cI 0),.d (cI 0),.d (cI 0),.d (cI 0),.d (cI 0)]],[]⟩] [⟨[.row 31 [.d (cI v0b.source),.d (cI v0b.number),.d (cI v0b.format),.d (slOf 12 Record.row v0b.records)]],[]⟩,⟨[.row 31 [.d (cI v0b.source),.d (cI v0b.number),.d (cI v0b.format),.d (slOf 12 Record.row v0b.records)],.row 52 [.d (cI 0),.d (cI 0),.d (cI 0),.d (cI 0),.d (cI 0),.d (cI 0)]],[]⟩,⟨[.row 31 [.d (cI v0b.source),.d (cI v0b.number),.d (cI v0b.format),.d (slOf 12 Record.row v0b.records)],.row 52 [.d (cI 0),.d (cI 0),.d (cI 0),.d (cI 0),.d (cI 0),.d (cI 0)],.row 25 [.d (cI 0),.d (cI 0),.d (cI 0),.d (cI 0)]],[]⟩] hMix (by kernel_rfl) (by decide) (by decide) (by decide) rfl rfl (fun hrest=>?_) (fun hrest=>?_) ?_
  ·show XOps _ _ _ _ _ _ _ _ _ _ (_ :: _) _ _
   refine .g (x:=.d (.agg (Batch.row v0b))) 0 2 ⟨OpQ.g (q_loadOA one_31 sz_31 rfl rfl (Nat.le_of_ble_eq_true rfl) rfl),OpQ.g (q_loadOA one_31 sz_31 rfl rfl (Nat.le_of_ble_eq_true rfl) rfl),OpQ.g (q_loadOA one_31 sz_31 rfl rfl (Nat.le_of_ble_eq_true rfl) rfl),trivial⟩ rfl (by kernel_rfl) rfl ?_
   refine .g (x:=.d (.agg (Head.row y2))) 0 2 ⟨(g_call (en 8 rfl) rfl rfl (c_f_batch_headOf (hy2))),(g_call (en 8 rfl) rfl rfl (c_f_batch_headOf (hy2))),(g_call (en 8 rfl) rfl rfl (c_f_batch_headOf (hy2))),trivial⟩ rfl (by kernel_rfl) rfl ?_
   refine .g (x:=.ref 0 3) 0 2 ⟨OpQ.g (q_fieldRef fo_31_3 rfl),OpQ.g (q_fieldRef fo_31_3 rfl),OpQ.g (q_fieldRef fo_31_3 rfl),trivial⟩ rfl (by kernel_rfl) rfl ?_
   refine .g (x:=.d (slOf 12 Record.row v0b.records)) 0 2 ⟨OpQ.g (q_loadO one_29 rfl rfl rfl),OpQ.g (q_loadO one_29 rfl rfl rfl),OpQ.g (q_loadO one_29 rfl rfl rfl),trivial⟩ rfl (by kernel_rfl) rfl ?_
   refine .g (x:=.d (.agg (Totals.row y3))) 0 2 ⟨(g_call (en 33 rfl) rfl rfl (c_f_batch_Totals (hy3))),(g_call (en 33 rfl) rfl rfl (c_f_batch_Totals (hy3))),(g_call (en 33 rfl) rfl rfl (c_f_batch_Totals (hy3))),trivial⟩ rfl (by kernel_rfl) rfl ?_
   refine .v (x:=.ref 1 0) 0 (v_alloc zr_25 rfl) rfl rfl rfl rfl ?_
   refine .v (x:=.ref 2 0) 1 (v_alloc zr_52 rfl) rfl rfl rfl rfl ?_
   refine .nil rfl ?_
   exact .sub (.cons rfl (.rfl' _) (.cons rfl (.rfl' _) (.cons rfl (.rfl' _) (.cons rfl (.rfl' _) (.cons rfl (.rfl' _) (.cons rfl (.rfl' _) (.cons rfl (.rfl' _) (.cons rfl (.rfl' _) (.cons rfl (.rfl' _) (.cons rfl (.rfl' _) (.cons rfl (.rfl' _) (.cons rfl (.rfl' _) (.cons rfl (.rfl' _) (.cons rfl (.rfl' _) (.cons rfl (.rfl' _) (.cons rfl (.rfl' _) (.nil))))))))))))))))) hrest
  ·show XOps _ _ _ _ _ _ _ _ _ _ (_ :: _) _ _
   refine .g (x:=.d (.agg (Batch.row v0b))) 0 2 ⟨OpQ.g (q_loadOA one_31 sz_31 rfl rfl (Nat.le_of_ble_eq_true rfl) rfl),OpQ.g (q_loadOA one_31 sz_31 rfl rfl (Nat.le_of_ble_eq_true rfl) rfl),OpQ.g (q_loadOA one_31 sz_31 rfl rfl (Nat.le_of_ble_eq_true rfl) rfl),trivial⟩ rfl (by kernel_rfl) rfl ?_
   refine .g (x:=.d (.agg (Head.row y2))) 0 2 ⟨(g_call (en 8 rfl) rfl rfl (c_f_batch_headOf (hy2))),(g_call (en 8 rfl) rfl rfl (c_f_batch_headOf (hy2))),(g_call (en 8 rfl) rfl rfl (c_f_batch_headOf (hy2))),trivial⟩ rfl (by kernel_rfl) rfl ?_
   refine .g (x:=.ref 0 3) 0 2 ⟨OpQ.g (q_fieldRef fo_31_3 rfl),OpQ.g (q_fieldRef fo_31_3 rfl),OpQ.g (q_fieldRef fo_31_3 rfl),trivial⟩ rfl (by kernel_rfl) rfl ?_
   refine .g (x:=.d (slOf 12 Record.row v0b.records)) 0 2 ⟨OpQ.g (q_loadO one_29 rfl rfl rfl),OpQ.g (q_loadO one_29 rfl rfl rfl),OpQ.g (q_loadO one_29 rfl rfl rfl),trivial⟩ rfl (by kernel_rfl) rfl ?_
   refine .g (x:=.d (.agg (Totals.row y3))) 0 2 ⟨(g_call (en 33 rfl) rfl rfl (c_f_batch_Totals (hy3))),(g_call (en 33 rfl) rfl rfl (c_f_batch_Totals (hy3))),(g_call (en 33 rfl) rfl rfl (c_f_batch_Totals (hy3))),trivial⟩ rfl (by kernel_rfl) rfl ?_
   refine .v (x:=.ref 2 0) 1 (v_alloc zr_25 rfl) rfl rfl rfl rfl ?_
   refine .v (x:=.ref 1 0) 0 (v_alloc zr_52 rfl) rfl rfl rfl rfl ?_
   refine .nil rfl ?_
   exact .reorder [0,2,1] [] rfl rfl rfl (by rw [hS]; rfl) (by rw [hS]; rfl) (by rw [hS]; rfl) rfl rfl (.cons rfl (.rfl' _) (.cons rfl (.rfl' _) (.cons rfl (.rfl' _) (.cons rfl (.rfl' _) (.cons rfl (.rfl' _) (.cons rfl (.rfl' _) (.cons rfl (.rfl' _) (.cons rfl (.rfl' _) (.cons rfl (.rfl' _) (.cons rfl (.rfl' _) (.cons rfl (.rfl' _) (.cons rfl (.rfl' _) (.cons rfl (.rfl' _) (.cons rfl (.rfl' _) (.cons rfl (.rfl' _) (.cons rfl (.rfl' _) (.nil))))))))))))))))) hrest
  show AOps _ _ _ _ _ _ (_ :: _) _ _ _
  refine .A 4 [] rfl trivial ?_
  obtain ⟨y4,hy4,H⟩:=bind_some' H
  obtain ⟨y5,hy5,H⟩:=bind_some' H
  obtain ⟨hk1,H⟩:=ck_some H
  obtain ⟨y6,hy6,H⟩:=bind_some' H
  obtain ⟨y7,hy7,H⟩:=bind_some' H
  refine .orders2 26 17 20 [⟨[.row 31 [.d (cI v0b.source),.d (cI v0b.number),.d (cI v0b.format),.d (slOf 12 Record.row v0b.records)],.row 25 [.d (cI y2.source),.d (cI y2.number),.d (cI y2.format),.d (cI y2.count)],.row 52 [.d (cI y3.count),.d (cI (nth y3.units 0)),.d (cI (nth y3.units 1)),.d (cI (nth y3.units 2)),.d (cI (nth y3.units 3)),.d (cI (nth y3.units 4))]],[]⟩,⟨[.row 31 [.d (cI v0b.source),.d (cI v0b.number),.d (cI v0b.format),.d (slOf 12 Record.row v0b.records)],.row 25 [.d (cI y2.source),.d (cI y2.number),.d (cI y2.format),.d (cI y2.count)],.row 52 [.d (cI y3.count),.d (cI (nth y3.units 0)),.d (cI (nth y3.units 1)),.d (cI (nth y3.units 2)),.d (cI (nth y3.units 3)),.d (cI (nth y3.units 4))]],[⟨3,1,([y3.count]:List Int).length,none⟩]⟩,⟨[.row 31 [.d (cI v0b.source),.d (cI v0b.number),.d (cI v0b.format),.d (slOf 12 Record.row v0b.records)],.row 25 [.d (cI y2.source),.d (cI y2.number),.d (cI y2.format),.d (cI y2.count)],.row 52 [.d (cI y3.count),.d (cI (nth y3.units 0)),.d (cI (nth y3.units 1)),.d (cI (nth y3.units 2)),.d (cI (nth y3.units 3)),.d (cI (nth y3.units 4))]],[⟨3,1,(([y3.count]:List Int)++([nth y3.units 1,nth y3.units 2,nth y3.units 3,nth y3.units 4]:List Int)).length,none⟩]⟩] hMix (by kernel_rfl) (by decide) (by decide) (by kernel_rfl) rfl ?_
  show XOps _ _ _ _ _ _ _ _ _ _ (_ :: _) _ _
  refine .g (x:=.ref 1 0) 0 1 ⟨OpQ.g (q_fieldRef fo_25_0 rfl),OpQ.g (q_fieldRef fo_25_0 rfl),trivial⟩ rfl (by kernel_rfl) rfl ?_
  refine .g (x:=.d (cI y2.source)) 0 1 ⟨OpQ.g (q_loadO one_3 rfl rfl rfl),OpQ.g (q_loadO one_3 rfl rfl rfl),trivial⟩ rfl (by kernel_rfl) rfl ?_
  refine .g (x:=.ref 1 1) 0 1 ⟨OpQ.g (q_fieldRef fo_25_1 rfl),OpQ.g (q_fieldRef fo_25_1 rfl),trivial⟩ rfl (by kernel_rfl) rfl ?_
  refine .g (x:=.d (cI y2.number)) 0 1 ⟨OpQ.g (q_loadO one_3 rfl rfl rfl),OpQ.g (q_loadO one_3 rfl rfl rfl),trivial⟩ rfl (by kernel_rfl) rfl ?_
  refine .g (x:=.ref 1 2) 0 1 ⟨OpQ.g (q_fieldRef fo_25_2 rfl),OpQ.g (q_fieldRef fo_25_2 rfl),trivial⟩ rfl (by kernel_rfl) rfl ?_
  refine .g (x:=.d (cI y2.format)) 0 1 ⟨OpQ.g (q_loadO one_3 rfl rfl rfl),OpQ.g (q_loadO one_3 rfl rfl rfl),trivial⟩ rfl (by kernel_rfl) rfl ?_
  refine .g (x:=.ref 1 3) 0 1 ⟨OpQ.g (q_fieldRef fo_25_3 rfl),OpQ.g (q_fieldRef fo_25_3 rfl),trivial⟩ rfl (by kernel_rfl) rfl ?_
  refine .g (x:=.d (cI y2.count)) 0 1 ⟨OpQ.g (q_loadO one_3 rfl rfl rfl),OpQ.g (q_loadO one_3 rfl rfl rfl),trivial⟩ rfl (by kernel_rfl) rfl ?_
  refine .g (x:=.d (slOf 1 rI ([y2.source,y2.number,y2.format,y2.count]:List Int))) 0 1 ⟨(g_buildSliceN (n:=4) (rows:=([y2.source,y2.number,y2.format,y2.count]:List Int).map rI) underlying68 hi3 hs3 hz3 rfl rfl rfl rfl rfl),(g_buildSliceN (n:=4) (rows:=([y2.source,y2.number,y2.format,y2.count]:List Int).map rI) underlying68 hi3 hs3 hz3 rfl rfl rfl rfl rfl),trivial⟩ rfl (by kernel_rfl) rfl ?_
  refine .g (x:=.d (slOf 1 rB8 y4)) 0 1 ⟨(g_call (en 34 rfl) rfl rfl (ACall.ofE (ds:=[slOf 1 rI ([y2.source,y2.number,y2.format,y2.count]:List Int),.ex (.func (.func 32) #[] #[])]) (c_g_batch_all_int_byte (hy4)))),(g_call (en 34 rfl) rfl rfl (ACall.ofE (ds:=[slOf 1 rI ([y2.source,y2.number,y2.format,y2.count]:List Int),.ex (.func (.func 32) #[] #[])]) (c_g_batch_all_int_byte (hy4)))),trivial⟩ rfl (by kernel_rfl) rfl ?_
  refine .g (x:=.ref 0 2) 0 1 ⟨OpQ.g (q_fieldRef fo_31_2 rfl),OpQ.g (q_fieldRef fo_31_2 rfl),trivial⟩ rfl (by kernel_rfl) rfl ?_
  refine .g (x:=.d (cI v0b.format)) 0 1 ⟨OpQ.g (q_loadO one_3 rfl rfl rfl),OpQ.g (q_loadO one_3 rfl rfl rfl),trivial⟩ rfl (by kernel_rfl) rfl ?_
  refine .g (x:=.ref 0 3) 0 1 ⟨OpQ.g (q_fieldRef fo_31_3 rfl),OpQ.g (q_fieldRef fo_31_3 rfl),trivial⟩ rfl (by kernel_rfl) rfl ?_
  refine .g (x:=.d (slOf 12 Record.row v0b.records)) 0 1 ⟨OpQ.g (q_loadO one_29 rfl rfl rfl),OpQ.g (q_loadO one_29 rfl rfl rfl),trivial⟩ rfl (by kernel_rfl) rfl ?_
  refine .g (x:=.d (slOf 1 rB8 y5)) 0 1 ⟨(g_call (en 35 rfl) rfl rfl (c_f_batch_payload (hy5))),(g_call (en 35 rfl) rfl rfl (c_f_batch_payload (hy5))),trivial⟩ rfl (by kernel_rfl) rfl ?_
  refine .g (x:=.ref 2 0) 0 0 ⟨OpQ.g (q_fieldRef fo_52_0 rfl),trivial⟩ rfl (by kernel_rfl) rfl ?_
  refine .g (x:=.d (cI y3.count)) 0 0 ⟨OpQ.g (q_loadO one_3 rfl rfl rfl),trivial⟩ rfl (by kernel_rfl) rfl ?_
  refine .v (x:=.tsl 1 (([y3.count]:List Int).map rI) 0) 0 (v_buildSliceT (n:=1) underlying68 hi3 hs3 hz3 rfl rfl rfl rfl rfl) rfl rfl rfl rfl ?_
  refine .g (x:=.ref 2 1) 0 1 ⟨OpQ.g (q_fieldRef fo_52_1 rfl),OpQ.g (q_fieldRef fo_52_1 rfl),trivial⟩ rfl (by kernel_rfl) rfl ?_
  refine .g (x:=.osl 2 2 4 4) 0 1 ⟨OpQ.g (q_arrL (m:=1) (sz:=1) underlying50 ⟨_,hi3,hs3⟩ rfl rfl rfl (by decide)),OpQ.g (q_arrL (m:=1) (sz:=1) underlying50 ⟨_,hi3,hs3⟩ rfl rfl rfl (by decide)),trivial⟩ rfl (by kernel_rfl) rfl ?_
  refine .v (x:=.tsl 1 ((([y3.count]:List Int)++([nth y3.units 1,nth y3.units 2,nth y3.units 3,nth y3.units 4]:List Int)).map rI) 0) 1 (v_appendOslK (l:=([y3.count]:List Int)) (l':=([nth y3.units 1,nth y3.units 2,nth y3.units 3,nth y3.units 4]:List Int)) (c1:=cI) underlying68 hi3 hz3 hs3 rfl (by rw [hb3]; decide) rfl rfl rfl rfl rfl hk1) rfl rfl rfl rfl ?_
  refine .g (x:=.d (slOf 1 rB8 y6)) 2 2 ⟨(g_call (en 34 rfl) rfl rfl (ACall.ofE (ds:=[slOf 1 rI (([y3.count]:List Int)++([nth y3.units 1,nth y3.units 2,nth y3.units 3,nth y3.units 4]:List Int)),.ex (.func (.func 32) #[] #[])]) (c_g_batch_all_int_byte (hy6)))),trivial⟩ rfl (by kernel_rfl) rfl ?_
  refine .g (x:=.d (slOf 1 (rSl 1 rB8) ([y4,y5,y6]:List (List UInt8)))) 2 2 ⟨(g_buildSliceN (n:=3) (rows:=([y4,y5,y6]:List (List UInt8)).map (rSl 1 rB8)) underlying44 hi22 hs22 hz22 rfl rfl rfl rfl rfl),trivial⟩ rfl (by kernel_rfl) rfl ?_
  refine .g (x:=.d (.tup [slOf 1 rB8 y7.1,cI y7.2])) 2 2 ⟨(g_call (en 36 rfl) rfl rfl (c_f_frame_Join (hy7))),trivial⟩ rfl (by kernel_rfl) rfl ?_
  refine .g (x:=.d (slOf 1 rB8 y7.1)) 2 2 ⟨OpQ.g (q_extract rfl rfl),trivial⟩ rfl (by kernel_rfl) rfl ?_
  refine .g (x:=.d (cI y7.2)) 2 2 ⟨OpQ.g (q_extract rfl rfl),trivial⟩ rfl (by kernel_rfl) rfl ?_
  refine .nil rfl ?_
  show AOps _ _ _ _ _ _ (_ :: _) _ _ _
  refine .A 3 [] rfl trivial ?_
  refine .R func14 results14 rfl ?_
  cases H
  exact .m rfl (.tupD rfl)
theorem c_f_codec_back {v0u:Int} {r:Int} (H:f_codec_back v0u=some r):ACall prog 132 [cK .u64 v0u] (·=cI r):=by
 refine ACall.enter' func132 rfl ntmps132 rfl fun S hS=>?_
 unfold f_codec_back at H
 obtain ⟨hk1,H⟩:=ck_some H
 obtain ⟨hk2,H⟩:=ck_some H
 refine .A 16 [.d (cK .u64 (Int.fdiv v0u (2 ^ (min (Int.toNat (1)) 64)))),.i (IntKind.wrap .i64 (Int.fdiv v0u (2 ^ (min (Int.toNat (1)) 64)))),.d (cK .u64 (bAnd .u64 v0u 1)),.i (IntKind.wrap .i64 (bAnd .u64 v0u 1)),.i (-(IntKind.wrap .i64 (bAnd .u64 v0u 1))),.i (bXor .i64 (IntKind.wrap .i64 (Int.fdiv v0u (2 ^ (min (Int.toNat (1)) 64)))) (-(IntKind.wrap .i64 (bAnd .u64 v0u 1))))] rfl ⟨OpQ.g (q_xor rfl rfl),OpQ.g (q_negI rfl hk2.1 hk2.2),OpQ.g (q_conv underlying122 underlying3 rfl rfl),OpQ.g (q_and rfl rfl),OpQ.g (q_conv underlying122 underlying3 rfl rfl),OpQ.g (q_shr (a:=v0u) (b:=1) rfl rfl hk1 rfl)⟩ ?_
 refine .R func132 results132 rfl ?_
 cases H
 exact .m rfl (.rfl' _)
theorem c_f_codec_scan {v0b:List UInt8} {r:Int×Int×Int} (H:f_codec_scan v0b=some r):ACall prog 109 [slOf 1 rB8 v0b] (·=.tup [cI r.1,cI r.2.1,cI r.2.2]):=by
 refine ACall.enter' func109 rfl ntmps109 rfl fun S hS=>?_
 unfold f_codec_scan at H
 refine .A 16 [] rfl trivial ?_
 obtain ⟨n1,H⟩:=loop_some H
 refine .loop (ι:=Nat×(Int×Int)) (fun ⟨_,v5ul1,v6il1⟩=>[(0,.d (slOf 1 rB8 v0b)),(5,.d (cK .u64 v5ul1)),(6,.d (cI v6il1))]) (fun ⟨_,v5ul1,v6il1⟩=>⟨[],[]⟩) (fun p=>iter (fun s=>f_codec_scan_l1 v0b s.1 s.2) p.1 p.2=some r) (·.1) (n1,(0,0)) H (.cons rfl (.rfl' _) (.cons rfl (.rfl' _) (.cons rfl (.rfl' _) (.nil)))) rfl ?_
 rintro ⟨m1,v5ul1,v6il1⟩ HI ih1
 obtain ⟨n1,q1,hm1,H,HK1⟩:=iter_succ HI
 clear HI
 replace H:f_codec_scan_l1 v0b v5ul1 v6il1=some q1:=H
 unfold f_codec_scan_l1 at H
 refine .A 8 [.i (v0b.length:Int)] rfl (s22.n rfl rfl) ?_
 refine .ite H rfl (fun H=>?_) (fun H=>?_)
 ·obtain ⟨hk1,H⟩:=ck_some H
  refine .B 26 [.d (.ro (rB8 (nth v0b v6il1.toNat))),.b ((nth v0b v6il1.toNat) != 1),.b ((nth v0b v6il1.toNat)==0)] rfl ⟨fun hg=>OpQ.g (q8_eql (a:=nth v0b v6il1.toNat) (b:=0) rfl rfl),rfl,rfl,rfl,rfl,fun hg=>OpQ.g (q8_neq (a:=nth v0b v6il1.toNat) (b:=1) rfl rfl),rfl,s22.ix rfl rfl rfl hk1⟩ ?_
  refine .guardG (env':=[(27,_),(29,_)]) rfl rfl rfl ⟨.inr (.inl rfl),⟨.inr (.inr ⟨_,_,rfl,rfl⟩),trivial⟩⟩ rfl (fun hg=>OpQ.g (q_pickAndB rfl rfl rfl)) ?_
  refine .A 2 [] rfl rfl ?_
  refine .ite H rfl (fun H=>?_) (fun H=>?_)
  ·refine .A 6 [] rfl trivial ?_
   refine .R func109 results109 rfl ?_
   cases H
   cases HK1
   exact .m rfl (.tupD rfl)
  ·obtain ⟨hk2,H⟩:=ck_some H
   obtain ⟨hk3,H⟩:=ck_some H
   refine .A 18 [.c ((nth v0b v6il1.toNat) &&& 127),.d (cK .u64 (IntKind.wrap .u64 (((nth v0b v6il1.toNat) &&& 127).toNat:Int))),.i (7*v6il1),.d (cK .u64 (IntKind.wrap .u64 ((IntKind.wrap .u64 (((nth v0b v6il1.toNat) &&& 127).toNat:Int))*2 ^ (min (7*v6il1).toNat 64)))),.d (cK .u64 (bOr .u64 v5ul1 (IntKind.wrap .u64 ((IntKind.wrap .u64 (((nth v0b v6il1.toNat) &&& 127).toNat:Int))*2 ^ (min (7*v6il1).toNat 64))))),.b (decide ((nth v0b v6il1.toNat) < 128))] rfl ⟨OpQ.g (q8_lss (a:=nth v0b v6il1.toNat) (b:=128) rfl rfl),OpQ.g (q_or rfl rfl),OpQ.g (q_shl (a:=IntKind.wrap .u64 (((nth v0b v6il1.toNat) &&& 127).toNat:Int)) (b:=7*v6il1) rfl rfl hk3 rfl),g_mulI rfl rfl hk2,OpQ.g (q_conv (n:=(((nth v0b v6il1.toNat) &&& 127).toNat:Int)) underlying5 underlying122 rfl rfl),OpQ.g (q8_and (a:=nth v0b v6il1.toNat) (b:=127) rfl rfl)⟩ ?_
   refine .ite H rfl (fun H=>?_) (fun H=>?_)
   ·obtain ⟨y1,hy1,H⟩:=bind_some' H
    obtain ⟨hk4,H⟩:=ck_some H
    refine .A 10 [.i y1,.i (v6il1+1)] rfl ⟨g_addI rfl rfl hk4,g_call (en 37 rfl) rfl rfl (c_f_codec_back (hy1))⟩ ?_
    refine .R func109 results109 rfl ?_
    cases H
    cases HK1
    exact .m rfl (.tupD rfl)
   ·obtain ⟨hk5,H⟩:=ck_some H
    refine .A 7 [.i (v6il1+1)] rfl (g_addI rfl rfl hk5) ?_
    cases H
    exact .z (ih1 (n1,(bOr .u64 v5ul1 (IntKind.wrap .u64 ((IntKind.wrap .u64 (((nth v0b v6il1.toNat) &&& 127).toNat:Int))*2 ^ (min (7*v6il1).toNat 64))),v6il1+1)) HK1 hm1) rfl rfl
 ·refine .A 7 [] rfl trivial ?_
  refine .R func109 results109 rfl ?_
  cases H
  cases HK1
  exact .m rfl (.tupD rfl)
theorem c_f_codec_rest {v0b:List UInt8} {v1i:Int} {r:(List UInt8)} (H:f_codec_rest v0b v1i=some r):ACall prog 110 [slOf 1 rB8 v0b,cI v1i] (·=slOf 1 rB8 r):=by
 obtain ⟨i5,hi5,hz5,hs5,hb5⟩:=in_5
 refine ACall.enter' func110 rfl ntmps110 rfl fun S hS=>?_
 unfold f_codec_rest at H
 obtain ⟨hk1,H⟩:=ck_some H
 obtain ⟨hk2,H⟩:=ck_some H
 obtain ⟨hk3,H⟩:=ck_some H
 refine .A 30 [.i (v0b.length:Int),.i ((v0b.length:Int) - v1i),.n (.vc 0 ((List.replicate ((v0b.length:Int) - v1i).toNat 0:List UInt8).length)) ⟨5,1,((List.replicate ((v0b.length:Int) - v1i).toNat 0:List UInt8).length),some ((List.replicate ((v0b.length:Int) - v1i).toNat 0:List UInt8).map rB8)⟩,.i (v0b.length:Int),.i (v0b.length:Int),.d (slOf 1 rB8 ((v0b.take ((v0b.length:Int)).toNat).drop v1i.toNat)),.t (.d (cI ((min ((v0b.take ((v0b.length:Int)).toNat).drop v1i.toNat).length (List.replicate ((v0b.length:Int) - v1i).toNat 0:List UInt8).length:Nat):Int))) 0 ⟨5,1,((List.replicate ((v0b.length:Int) - v1i).toNat 0:List UInt8).length),some ((((v0b.take ((v0b.length:Int)).toNat).drop v1i.toNat).take (min ((v0b.take ((v0b.length:Int)).toNat).drop v1i.toNat).length (List.replicate ((v0b.length:Int) - v1i).toNat 0:List UInt8).length)++(List.replicate ((v0b.length:Int) - v1i).toNat 0:List UInt8).drop (min ((v0b.take ((v0b.length:Int)).toNat).drop v1i.toNat).length (List.replicate ((v0b.length:Int) - v1i).toNat 0:List UInt8).length)).map rB8)⟩] rfl ⟨.e (v_copyV (l:=(List.replicate ((v0b.length:Int) - v1i).toNat 0:List UInt8)) (l':=(v0b.take ((v0b.length:Int)).toNat).drop v1i.toNat) (row:=rB8) underlying22 hi5 hs5 rfl rfl rfl rfl) rfl,OpQ.g (q_slLHML (l:=v0b) (row:=rB8) underlying22 hi5 hs5 rfl rfl rfl rfl rfl hk3),s22.n rfl rfl,s22.n rfl rfl,.e (v_makeV (row:=rB8) (a:=(v0b.length:Int) - v1i) (b:=(v0b.length:Int) - v1i) (a0:=0) underlying22 hi5 hz5 hs5 rfl (by rw [hb5]; decide) rfl rfl rfl hk2) rfl,g_subI rfl rfl hk1,s22.n rfl rfl⟩ ?_
 refine .freezeL (l:=((v0b.take ((v0b.length:Int)).toNat).drop v1i.toNat).take (min ((v0b.take ((v0b.length:Int)).toNat).drop v1i.toNat).length (List.replicate ((v0b.length:Int) - v1i).toNat 0:List UInt8).length)++(List.replicate ((v0b.length:Int) - v1i).toNat 0:List UInt8).drop (min ((v0b.take ((v0b.length:Int)).toNat).drop v1i.toNat).length (List.replicate ((v0b.length:Int) - v1i).toNat 0:List UInt8).length)) (row:=rB8) (i:=4) rfl rfl ?_
 refine .R func110 results110 rfl ?_
 cases H
 exact .m rfl (.tsl _ _ _)
theorem c_f_codec_Number {v0b:List UInt8} {r:Int×(List UInt8)×Int} (H:f_codec_Number v0b=some r):ACall prog 75 [slOf 1 rB8 v0b] (·=.tup [cI r.1,slOf 1 rB8 r.2.1,cI r.2.2]):=by
 refine ACall.enter' func75 rfl ntmps75 rfl fun S hS=>?_
 unfold f_codec_Number at H
 obtain ⟨y1,hy1,H⟩:=bind_some' H
 refine .A 24 [.d (.tup [cI y1.1,cI y1.2.1,cI y1.2.2])] rfl (g_call (en 38 rfl) rfl rfl (c_f_codec_scan (hy1))) ?_
 refine .ite H rfl (fun H=>?_) (fun H=>?_)
 ·refine .A 7 [] rfl trivial ?_
  refine .R func75 results75 rfl ?_
  cases H
  exact .m rfl (.tupL ⟨.rfl' _,.nil 1,.rfl' _,trivial⟩)
 ·obtain ⟨y2,hy2,H⟩:=bind_some' H
  refine .A 11 [.d (slOf 1 rB8 y2)] rfl (g_call (en 39 rfl) rfl rfl (c_f_codec_rest (hy2))) ?_
  refine .R func75 results75 rfl ?_
  cases H
  exact .m rfl (.tupD rfl)
theorem c_f_frame_locate {v0:List UInt8} {r:Int×Int×Int} (H:f_frame_locate v0=some r):ACall prog 45 [slOf 1 rB8 v0] (·=.tup [cI r.1,cI r.2.1,cI r.2.2]):=by
 obtain ⟨i5,hi5,hz5,hs5,hb5⟩:=in_5
 refine ACall.enter' func45 rfl ntmps45 rfl fun S hS=>?_
 unfold f_frame_locate at H
 obtain ⟨hk1,H⟩:=ck_some H
 obtain ⟨y1,hy1,H⟩:=bind_some' H
 refine .A 38 [.i (v0.length:Int),.i (if 10 < (v0.length:Int) then 10 else (v0.length:Int)),.i (v0.length:Int),.i (if 10 < (v0.length:Int) then 10 else (v0.length:Int)),.d (slOf 1 rB8 (v0.take ((if 10 < (v0.length:Int) then 10 else (v0.length:Int))).toNat)),.d (.tup [cI y1.1,slOf 1 rB8 y1.2.1,cI y1.2.2])] rfl ⟨g_call (en 40 rfl) rfl rfl (c_f_codec_Number (hy1)),OpQ.g (q_slHML (l:=v0) (row:=rB8) underlying22 hi5 hs5 rfl rfl rfl rfl hk1),OpQ.g (q_minI rfl rfl),s22.n rfl rfl,OpQ.g (q_minI rfl rfl),s22.n rfl rfl⟩ ?_
 refine .ite H rfl (fun H=>?_) (fun H=>?_)
 ·refine .A 7 [] rfl trivial ?_
  refine .R func45 results45 rfl ?_
  cases H
  exact .m rfl (.tupD rfl)
 ·refine .A 6 [] rfl trivial ?_
  refine .ite H rfl (fun H=>?_) (fun H=>?_)
  ·refine .A 6 [] rfl trivial ?_
   refine .R func45 results45 rfl ?_
   cases H
   exact .m rfl (.tupD rfl)
  ·refine .A 6 [] rfl trivial ?_
   refine .ite H rfl (fun H=>?_) (fun H=>?_)
   ·refine .A 6 [] rfl trivial ?_
    refine .R func45 results45 rfl ?_
    cases H
    exact .m rfl (.tupD rfl)
   ·obtain ⟨hk2,H⟩:=ck_some H
    obtain ⟨hk3,H⟩:=ck_some H
    obtain ⟨hk4,H⟩:=ck_some H
    refine .A 22 [.i ((v0.take ((if 10 < (v0.length:Int) then 10 else (v0.length:Int))).toNat).length:Int),.i (y1.2.1.length:Int),.i (((v0.take ((if 10 < (v0.length:Int) then 10 else (v0.length:Int))).toNat).length:Int) - (y1.2.1.length:Int)),.i (v0.length:Int),.i ((v0.length:Int) - (((v0.take ((if 10 < (v0.length:Int) then 10 else (v0.length:Int))).toNat).length:Int) - (y1.2.1.length:Int))),.i (4+y1.1)] rfl ⟨g_addI rfl rfl hk4,g_subI rfl rfl hk3,s22.n rfl rfl,g_subI rfl rfl hk2,s22.n rfl rfl,s22.n rfl rfl⟩ ?_
    refine .ite H rfl (fun H=>?_) (fun H=>?_)
    ·refine .A 6 [] rfl trivial ?_
     refine .R func45 results45 rfl ?_
     cases H
     exact .m rfl (.tupD rfl)
    ·obtain ⟨hk5,H⟩:=ck_some H
     obtain ⟨hk6,H⟩:=ck_some H
     obtain ⟨hk7,H⟩:=ck_some H
     obtain ⟨hk8,H⟩:=ck_some H
     obtain ⟨hk9,H⟩:=ck_some H
     obtain ⟨hk10,H⟩:=ck_some H
     obtain ⟨hk11,H⟩:=ck_some H
     obtain ⟨hk12,H⟩:=ck_some H
     obtain ⟨hk13,H⟩:=ck_some H
     obtain ⟨hk14,H⟩:=ck_some H
     obtain ⟨hk15,H⟩:=ck_some H
     obtain ⟨hk16,H⟩:=ck_some H
     obtain ⟨hk17,H⟩:=ck_some H
     obtain ⟨hk18,H⟩:=ck_some H
     obtain ⟨y2,hy2,H⟩:=bind_some' H
     refine .A 50 [.p 30,.d (.ro (rB8 (nth v0 (((v0.take ((if 10 < (v0.length:Int) then 10 else (v0.length:Int))).toNat).length:Int) - (y1.2.1.length:Int)).toNat))),.d (cK .u32 (IntKind.wrap .u32 ((nth v0 (((v0.take ((if 10 < (v0.length:Int) then 10 else (v0.length:Int))).toNat).length:Int) - (y1.2.1.length:Int)).toNat).toNat:Int))),.d (cK .u32 (IntKind.wrap .u32 ((IntKind.wrap .u32 ((nth v0 (((v0.take ((if 10 < (v0.length:Int) then 10 else (v0.length:Int))).toNat).length:Int) - (y1.2.1.length:Int)).toNat).toNat:Int))*2 ^ (min (Int.toNat (24)) 32)))),.i ((((v0.take ((if 10 < (v0.length:Int) then 10 else (v0.length:Int))).toNat).length:Int) - (y1.2.1.length:Int))+1),.d (.ro (rB8 (nth v0 ((((v0.take ((if 10 < (v0.length:Int) then 10 else (v0.length:Int))).toNat).length:Int) - (y1.2.1.length:Int))+1).toNat))),.d (cK .u32 (IntKind.wrap .u32 ((nth v0 ((((v0.take ((if 10 < (v0.length:Int) then 10 else (v0.length:Int))).toNat).length:Int) - (y1.2.1.length:Int))+1).toNat).toNat:Int))),.d (cK .u32 (IntKind.wrap .u32 ((IntKind.wrap .u32 ((nth v0 ((((v0.take ((if 10 < (v0.length:Int) then 10 else (v0.length:Int))).toNat).length:Int) - (y1.2.1.length:Int))+1).toNat).toNat:Int))*2 ^ (min (Int.toNat (16)) 32)))),.d (cK .u32 (bOr .u32 (IntKind.wrap .u32 ((IntKind.wrap .u32 ((nth v0 (((v0.take ((if 10 < (v0.length:Int) then 10 else (v0.length:Int))).toNat).length:Int) - (y1.2.1.length:Int)).toNat).toNat:Int))*2 ^ (min (Int.toNat (24)) 32))) (IntKind.wrap .u32 ((IntKind.wrap .u32 ((nth v0 ((((v0.take ((if 10 < (v0.length:Int) then 10 else (v0.length:Int))).toNat).length:Int) - (y1.2.1.length:Int))+1).toNat).toNat:Int))*2 ^ (min (Int.toNat (16)) 32))))),.i ((((v0.take ((if 10 < (v0.length:Int) then 10 else (v0.length:Int))).toNat).length:Int) - (y1.2.1.length:Int))+2),.d (.ro (rB8 (nth v0 ((((v0.take ((if 10 < (v0.length:Int) then 10 else (v0.length:Int))).toNat).length:Int) - (y1.2.1.length:Int))+2).toNat))),.d (cK .u32 (IntKind.wrap .u32 ((nth v0 ((((v0.take ((if 10 < (v0.length:Int) then 10 else (v0.length:Int))).toNat).length:Int) - (y1.2.1.length:Int))+2).toNat).toNat:Int))),.d (cK .u32 (IntKind.wrap .u32 ((IntKind.wrap .u32 ((nth v0 ((((v0.take ((if 10 < (v0.length:Int) then 10 else (v0.length:Int))).toNat).length:Int) - (y1.2.1.length:Int))+2).toNat).toNat:Int))*2 ^ (min (Int.toNat (8)) 32)))),.d (cK .u32 (bOr .u32 (bOr .u32 (IntKind.wrap .u32 ((IntKind.wrap .u32 ((nth v0 (((v0.take ((if 10 < (v0.length:Int) then 10 else (v0.length:Int))).toNat).length:Int) - (y1.2.1.length:Int)).toNat).toNat:Int))*2 ^ (min (Int.toNat (24)) 32))) (IntKind.wrap .u32 ((IntKind.wrap .u32 ((nth v0 ((((v0.take ((if 10 < (v0.length:Int) then 10 else (v0.length:Int))).toNat).length:Int) - (y1.2.1.length:Int))+1).toNat).toNat:Int))*2 ^ (min (Int.toNat (16)) 32)))) (IntKind.wrap .u32 ((IntKind.wrap .u32 ((nth v0 ((((v0.take ((if 10 < (v0.length:Int) then 10 else (v0.length:Int))).toNat).length:Int) - (y1.2.1.length:Int))+2).toNat).toNat:Int))*2 ^ (min (Int.toNat (8)) 32))))),.i ((((v0.take ((if 10 < (v0.length:Int) then 10 else (v0.length:Int))).toNat).length:Int) - (y1.2.1.length:Int))+3),.d (.ro (rB8 (nth v0 ((((v0.take ((if 10 < (v0.length:Int) then 10 else (v0.length:Int))).toNat).length:Int) - (y1.2.1.length:Int))+3).toNat))),.d (cK .u32 (IntKind.wrap .u32 ((nth v0 ((((v0.take ((if 10 < (v0.length:Int) then 10 else (v0.length:Int))).toNat).length:Int) - (y1.2.1.length:Int))+3).toNat).toNat:Int))),.d (cK .u32 (bOr .u32 (bOr .u32 (bOr .u32 (IntKind.wrap .u32 ((IntKind.wrap .u32 ((nth v0 (((v0.take ((if 10 < (v0.length:Int) then 10 else (v0.length:Int))).toNat).length:Int) - (y1.2.1.length:Int)).toNat).toNat:Int))*2 ^ (min (Int.toNat (24)) 32))) (IntKind.wrap .u32 ((IntKind.wrap .u32 ((nth v0 ((((v0.take ((if 10 < (v0.length:Int) then 10 else (v0.length:Int))).toNat).length:Int) - (y1.2.1.length:Int))+1).toNat).toNat:Int))*2 ^ (min (Int.toNat (16)) 32)))) (IntKind.wrap .u32 ((IntKind.wrap .u32 ((nth v0 ((((v0.take ((if 10 < (v0.length:Int) then 10 else (v0.length:Int))).toNat).length:Int) - (y1.2.1.length:Int))+2).toNat).toNat:Int))*2 ^ (min (Int.toNat (8)) 32)))) (IntKind.wrap .u32 ((nth v0 ((((v0.take ((if 10 < (v0.length:Int) then 10 else (v0.length:Int))).toNat).length:Int) - (y1.2.1.length:Int))+3).toNat).toNat:Int)))),.i ((((v0.take ((if 10 < (v0.length:Int) then 10 else (v0.length:Int))).toNat).length:Int) - (y1.2.1.length:Int))+4),.i ((((v0.take ((if 10 < (v0.length:Int) then 10 else (v0.length:Int))).toNat).length:Int) - (y1.2.1.length:Int))+4),.i (((((v0.take ((if 10 < (v0.length:Int) then 10 else (v0.length:Int))).toNat).length:Int) - (y1.2.1.length:Int))+4)+y1.1),.d (slOf 1 rB8 ((v0.take (((((v0.take ((if 10 < (v0.length:Int) then 10 else (v0.length:Int))).toNat).length:Int) - (y1.2.1.length:Int))+4)+y1.1).toNat).drop ((((v0.take ((if 10 < (v0.length:Int) then 10 else (v0.length:Int))).toNat).length:Int) - (y1.2.1.length:Int))+4).toNat)),.d (cK .u32 y2)] rfl ⟨g_call (en 29 rfl) rfl rfl (c_f_frame_Sum (hy2)),OpQ.g (q_slLHL (l:=v0) (row:=rB8) underlying22 hi5 hs5 rfl rfl rfl rfl hk18),g_addI rfl rfl hk17,g_addI rfl rfl hk16,g_addI rfl rfl hk15,OpQ.g (q_or rfl rfl),OpQ.g (q_conv (n:=((nth v0 ((((v0.take ((if 10 < (v0.length:Int) then 10 else (v0.length:Int))).toNat).length:Int) - (y1.2.1.length:Int))+3).toNat).toNat:Int)) underlying5 underlying90 rfl rfl),s22.ix rfl rfl rfl hk14,g_addI rfl rfl hk13,OpQ.g (q_or rfl rfl),OpQ.g (q_shl (a:=IntKind.wrap .u32 ((nth v0 ((((v0.take ((if 10 < (v0.length:Int) then 10 else (v0.length:Int))).toNat).length:Int) - (y1.2.1.length:Int))+2).toNat).toNat:Int)) (b:=8) rfl rfl hk12 rfl),OpQ.g (q_conv (n:=((nth v0 ((((v0.take ((if 10 < (v0.length:Int) then 10 else (v0.length:Int))).toNat).length:Int) - (y1.2.1.length:Int))+2).toNat).toNat:Int)) underlying5 underlying90 rfl rfl),s22.ix rfl rfl rfl hk11,g_addI rfl rfl hk10,OpQ.g (q_or rfl rfl),OpQ.g (q_shl (a:=IntKind.wrap .u32 ((nth v0 ((((v0.take ((if 10 < (v0.length:Int) then 10 else (v0.length:Int))).toNat).length:Int) - (y1.2.1.length:Int))+1).toNat).toNat:Int)) (b:=16) rfl rfl hk9 rfl),OpQ.g (q_conv (n:=((nth v0 ((((v0.take ((if 10 < (v0.length:Int) then 10 else (v0.length:Int))).toNat).length:Int) - (y1.2.1.length:Int))+1).toNat).toNat:Int)) underlying5 underlying90 rfl rfl),s22.ix rfl rfl rfl hk8,g_addI rfl rfl hk7,OpQ.g (q_shl (a:=IntKind.wrap .u32 ((nth v0 (((v0.take ((if 10 < (v0.length:Int) then 10 else (v0.length:Int))).toNat).length:Int) - (y1.2.1.length:Int)).toNat).toNat:Int)) (b:=24) rfl rfl hk6 rfl),OpQ.g (q_conv (n:=((nth v0 (((v0.take ((if 10 < (v0.length:Int) then 10 else (v0.length:Int))).toNat).length:Int) - (y1.2.1.length:Int)).toNat).toNat:Int)) underlying5 underlying90 rfl rfl),s22.ix rfl rfl rfl hk5,(show drawB _ _=true by kernel_rfl)⟩ ?_
     refine .ite H rfl (fun H=>?_) (fun H=>?_)
     ·refine .A 6 [] rfl trivial ?_
      refine .R func45 results45 rfl ?_
      cases H
      exact .m rfl (.tupD rfl)
     ·obtain ⟨hk19,H⟩:=ck_some H
      obtain ⟨hk20,H⟩:=ck_some H
      obtain ⟨hk21,H⟩:=ck_some H
      refine .A 13 [.i ((((v0.take ((if 10 < (v0.length:Int) then 10 else (v0.length:Int))).toNat).length:Int) - (y1.2.1.length:Int))+4),.i ((((v0.take ((if 10 < (v0.length:Int) then 10 else (v0.length:Int))).toNat).length:Int) - (y1.2.1.length:Int))+4),.i (((((v0.take ((if 10 < (v0.length:Int) then 10 else (v0.length:Int))).toNat).length:Int) - (y1.2.1.length:Int))+4)+y1.1)] rfl ⟨g_addI rfl rfl hk21,g_addI rfl rfl hk20,g_addI rfl rfl hk19⟩ ?_
      refine .R func45 results45 rfl ?_
      cases H
      exact .m rfl (.tupD rfl)
theorem c_f_frame_copied {v0b:List UInt8} {v1from:Int} {v2to:Int} {r:(List UInt8)} (H:f_frame_copied v0b v1from v2to=some r):ACall prog 46 [slOf 1 rB8 v0b,cI v1from,cI v2to] (·=slOf 1 rB8 r):=by
 obtain ⟨i5,hi5,hz5,hs5,hb5⟩:=in_5
 refine ACall.enter' func46 rfl ntmps46 rfl fun S hS=>?_
 unfold f_frame_copied at H
 obtain ⟨hk1,H⟩:=ck_some H
 obtain ⟨hk2,H⟩:=ck_some H
 obtain ⟨hk3,H⟩:=ck_some H
 refine .A 27 [.i (v2to-v1from),.n (.vc 0 ((List.replicate (v2to-v1from).toNat 0:List UInt8).length)) ⟨5,1,((List.replicate (v2to-v1from).toNat 0:List UInt8).length),some ((List.replicate (v2to-v1from).toNat 0:List UInt8).map rB8)⟩,.d (slOf 1 rB8 ((v0b.take v2to.toNat).drop v1from.toNat)),.t (.d (cI ((min ((v0b.take v2to.toNat).drop v1from.toNat).length (List.replicate (v2to-v1from).toNat 0:List UInt8).length:Nat):Int))) 0 ⟨5,1,((List.replicate (v2to-v1from).toNat 0:List UInt8).length),some ((((v0b.take v2to.toNat).drop v1from.toNat).take (min ((v0b.take v2to.toNat).drop v1from.toNat).length (List.replicate (v2to-v1from).toNat 0:List UInt8).length)++(List.replicate (v2to-v1from).toNat 0:List UInt8).drop (min ((v0b.take v2to.toNat).drop v1from.toNat).length (List.replicate (v2to-v1from).toNat 0:List UInt8).length)).map rB8)⟩] rfl ⟨.e (v_copyV (l:=(List.replicate (v2to-v1from).toNat 0:List UInt8)) (l':=(v0b.take v2to.toNat).drop v1from.toNat) (row:=rB8) underlying22 hi5 hs5 rfl rfl rfl rfl) rfl,OpQ.g (q_slLHML (l:=v0b) (row:=rB8) underlying22 hi5 hs5 rfl rfl rfl rfl rfl hk3),.e (v_makeV (row:=rB8) (a:=v2to-v1from) (b:=v2to-v1from) (a0:=0) underlying22 hi5 hz5 hs5 rfl (by rw [hb5]; decide) rfl rfl rfl hk2) rfl,g_subI rfl rfl hk1⟩ ?_
 refine .freezeL (l:=((v0b.take v2to.toNat).drop v1from.toNat).take (min ((v0b.take v2to.toNat).drop v1from.toNat).length (List.replicate (v2to-v1from).toNat 0:List UInt8).length)++(List.replicate (v2to-v1from).toNat 0:List UInt8).drop (min ((v0b.take v2to.toNat).drop v1from.toNat).length (List.replicate (v2to-v1from).toNat 0:List UInt8).length)) (row:=rB8) (i:=6) rfl rfl ?_
 refine .R func46 results46 rfl ?_
 cases H
 exact .m rfl (.tsl _ _ _)
theorem c_f_frame_Unwrap {v0b:List UInt8} {r:(List UInt8)×(List UInt8)×Int} (H:f_frame_Unwrap v0b=some r):ACall prog 21 [slOf 1 rB8 v0b] (·=.tup [slOf 1 rB8 r.1,slOf 1 rB8 r.2.1,cI r.2.2]):=by
 refine ACall.enter' func21 rfl ntmps21 rfl fun S hS=>?_
 unfold f_frame_Unwrap at H
 obtain ⟨y1,hy1,H⟩:=bind_some' H
 refine .A 24 [.d (.tup [cI y1.1,cI y1.2.1,cI y1.2.2])] rfl (g_call (en 41 rfl) rfl rfl (c_f_frame_locate (hy1))) ?_
 refine .ite H rfl (fun H=>?_) (fun H=>?_)
 ·refine .A 7 [] rfl trivial ?_
  refine .R func21 results21 rfl ?_
  cases H
  exact .m rfl (.tupL ⟨.nil 1,.nil 1,.rfl' _,trivial⟩)
 ·obtain ⟨y2,hy2,H⟩:=bind_some' H
  obtain ⟨y3,hy3,H⟩:=bind_some' H
  refine .A 16 [.d (slOf 1 rB8 y2),.i (v0b.length:Int),.d (slOf 1 rB8 y3)] rfl ⟨g_call (en 42 rfl) rfl rfl (c_f_frame_copied (hy3)),s22.n rfl rfl,g_call (en 42 rfl) rfl rfl (c_f_frame_copied (hy2))⟩ ?_
  refine .R func21 results21 rfl ?_
  cases H
  exact .m rfl (.tupD rfl)
theorem c_g_batch_numbers {v0b:List UInt8} {o1c0p:Head} {r:Int×Head} (H:g_batch_numbers v0b o1c0p=some r):ACallS prog 42 [.d (slOf 1 rB8 v0b),.osl 0 0 4 4] ⟨[.row 79 [.ref 1 0,.ref 1 1,.ref 1 2,.ref 1 3],.row 25 [.d (cI o1c0p.source),.d (cI o1c0p.number),.d (cI o1c0p.format),.d (cI o1c0p.count)]],[]⟩ (QE (.d (cI r.1)) ⟨[.row 79 [.ref 1 0,.ref 1 1,.ref 1 2,.ref 1 3],.row 25 [.d (cI r.2.source),.d (cI r.2.number),.d (cI r.2.format),.d (cI r.2.count)]],[]⟩):=by
 obtain ⟨i79,hi79,hz79,hs79,hb79⟩:=in_79
 refine ACallS.keep ?_
 refine ACallS.enter func42 rfl ntmps42 rfl fun S hS=>?_
 unfold g_batch_numbers at H
 refine .A 11 [.i 4] rfl (OpQ.g (q_lenOsl underlying111 rfl)) ?_
 refine .blockJoin2 (ι:=List UInt8×Int×Int×Int×Int) (fun ⟨v0bj1,o1c0j1,o1c1j1,o1c2j1,o1c3j1⟩=>[(0,.d (slOf 1 rB8 v0bj1))]) (fun ⟨v0bj1,o1c0j1,o1c1j1,o1c2j1,o1c3j1⟩=>⟨[.row 79 [.ref 1 0,.ref 1 1,.ref 1 2,.ref 1 3],.row 25 [.d (cI o1c0j1),.d (cI o1c1j1),.d (cI o1c2j1),.d (cI o1c3j1)]],[]⟩) (fun s=>g_batch_numbers_j1 s.1 s.2.1 s.2.2.1 s.2.2.2.1 s.2.2.2.2=some r) ?_ ?_
 ·rintro ⟨v0bj1,o1c0j1,o1c1j1,o1c2j1,o1c3j1⟩ H
  replace H:g_batch_numbers_j1 v0bj1 o1c0j1 o1c1j1 o1c2j1 o1c3j1=some r:=H
  unfold g_batch_numbers_j1 at H
  refine .A 7 [.i (v0bj1.length:Int)] rfl (s22.n rfl rfl) ?_
  refine .ite H rfl (fun H=>?_) (fun H=>?_)
  ·refine .A 4 [] rfl trivial ?_
   refine .R func42 results42 rfl ?_
   cases H
   exact ⟨[0,1],[],rfl,rfl,rfl,rfl,rfl,rfl,rfl,rfl,.rfl' _⟩
  ·refine .A 5 [] rfl trivial ?_
   refine .R func42 results42 rfl ?_
   cases H
   exact ⟨[0,1],[],rfl,rfl,rfl,rfl,rfl,rfl,rfl,rfl,.rfl' _⟩
 ·intro hj1 hj1x
  refine .loop0 ?_
  refine .A 5 [] rfl trivial ?_
  refine .cond rfl (fun hc=>?_) (fun hc=>absurd hc (by decide))
  clear hc
  obtain ⟨y1,hy1,H⟩:=bind_some' H
  refine .A 27 [.g (.ref 0 0),.d (.tup [cI y1.1,slOf 1 rB8 y1.2.1,cI y1.2.2])] rfl ⟨g_call (en 40 rfl) rfl rfl (c_f_codec_Number (hy1)),OpQ.g (q_idxOsl (m:=0) underlying111 hi79 hs79 rfl rfl rfl (by decide))⟩ ?_
  refine .ite H rfl (fun H=>?_) (fun H=>?_)
  ·refine .A 5 [] rfl trivial ?_
   refine .R func42 results42 rfl ?_
   cases H
   exact ⟨[0,1],[],rfl,rfl,rfl,rfl,rfl,rfl,rfl,rfl,.rfl' _⟩
  ·refine .A 14 [.i 1] rfl (OpQ.g (q_addI (a:=0) (b:=1) rfl rfl (by decide) (by decide))) ?_
   refine .inLoop ?_
   refine .A 5 [] rfl trivial ?_
   refine .cond rfl (fun hc=>?_) (fun hc=>absurd hc (by decide))
   clear hc
   obtain ⟨y2,hy2,H⟩:=bind_some' H
   refine .A 27 [.g (.ref 0 1),.d (.tup [cI y2.1,slOf 1 rB8 y2.2.1,cI y2.2.2])] rfl ⟨g_call (en 40 rfl) rfl rfl (c_f_codec_Number (hy2)),OpQ.g (q_idxOsl (m:=1) underlying111 hi79 hs79 rfl rfl rfl (by decide))⟩ ?_
   refine .ite H rfl (fun H=>?_) (fun H=>?_)
   ·refine .A 5 [] rfl trivial ?_
    refine .R func42 results42 rfl ?_
    cases H
    exact ⟨[0,1],[],rfl,rfl,rfl,rfl,rfl,rfl,rfl,rfl,.rfl' _⟩
   ·refine .A 14 [.i 2] rfl (OpQ.g (q_addI (a:=1) (b:=1) rfl rfl (by decide) (by decide))) ?_
    refine .inLoop ?_
    refine .A 5 [] rfl trivial ?_
    refine .cond rfl (fun hc=>?_) (fun hc=>absurd hc (by decide))
    clear hc
    obtain ⟨y3,hy3,H⟩:=bind_some' H
    refine .A 27 [.g (.ref 0 2),.d (.tup [cI y3.1,slOf 1 rB8 y3.2.1,cI y3.2.2])] rfl ⟨g_call (en 40 rfl) rfl rfl (c_f_codec_Number (hy3)),OpQ.g (q_idxOsl (m:=2) underlying111 hi79 hs79 rfl rfl rfl (by decide))⟩ ?_
    refine .ite H rfl (fun H=>?_) (fun H=>?_)
    ·refine .A 5 [] rfl trivial ?_
     refine .R func42 results42 rfl ?_
     cases H
     exact ⟨[0,1],[],rfl,rfl,rfl,rfl,rfl,rfl,rfl,rfl,.rfl' _⟩
    ·refine .A 14 [.i 3] rfl (OpQ.g (q_addI (a:=2) (b:=1) rfl rfl (by decide) (by decide))) ?_
     refine .inLoop ?_
     refine .A 5 [] rfl trivial ?_
     refine .cond rfl (fun hc=>?_) (fun hc=>absurd hc (by decide))
     clear hc
     obtain ⟨y4,hy4,H⟩:=bind_some' H
     refine .A 27 [.g (.ref 0 3),.d (.tup [cI y4.1,slOf 1 rB8 y4.2.1,cI y4.2.2])] rfl ⟨g_call (en 40 rfl) rfl rfl (c_f_codec_Number (hy4)),OpQ.g (q_idxOsl (m:=3) underlying111 hi79 hs79 rfl rfl rfl (by decide))⟩ ?_
     refine .ite H rfl (fun H=>?_) (fun H=>?_)
     ·refine .A 5 [] rfl trivial ?_
      refine .R func42 results42 rfl ?_
      cases H
      exact ⟨[0,1],[],rfl,rfl,rfl,rfl,rfl,rfl,rfl,rfl,.rfl' _⟩
     ·refine .A 14 [.i 4] rfl (OpQ.g (q_addI (a:=3) (b:=1) rfl rfl (by decide) (by decide))) ?_
      refine .inLoop ?_
      refine .A 5 [] rfl trivial ?_
      refine .cond rfl (fun hc=>absurd hc (by decide)) (fun hc=>?_)
      clear hc
      refine .A 1 [] rfl trivial ?_
      exact .z (hj1x (y4.2.1,y1.1,y2.1,y3.1,y4.1) H) rfl rfl
theorem c_f_batch_first {v0data:List UInt8} {r:Head×(List UInt8)×Int} (H:f_batch_first v0data=some r):ACall prog 19 [slOf 1 rB8 v0data] (·=.tup [.agg (Head.row r.1),slOf 1 rB8 r.2.1,cI r.2.2]):=by
 obtain ⟨i25,hi25,hz25,hs25,hb25⟩:=in_25
 obtain ⟨i79,hi79,hz79,hs79,hb79⟩:=in_79
 refine ACall.enter' func19 rfl ntmps19 rfl fun S hS=>?_
 unfold f_batch_first at H
 obtain ⟨y1,hy1,H⟩:=bind_some' H
 refine .A 24 [.r 0,.d (.tup [slOf 1 rB8 y1.1,slOf 1 rB8 y1.2.1,cI y1.2.2])] rfl (g_call (en 43 rfl) rfl rfl (c_f_frame_Unwrap (hy1))) ?_
 refine .ite H rfl (fun H=>?_) (fun H=>?_)
 ·refine .A 8 [.d (.agg (Head.row (⟨0,0,0,0⟩:Head)))] rfl (OpQ.g (q_buildP pl_25 hi25 hz25 rfl rfl)) ?_
  refine .R func19 results19 rfl ?_
  cases H
  exact .m rfl (.tupL ⟨.rfl' _,.nil 1,.rfl' _,trivial⟩)
 ·obtain ⟨y2,hy2,H⟩:=bind_some' H
  refine .B 14 [.r 1,.v (.osl 2 0 4 4) ⟨[.row 25 [.d (cI 0),.d (cI 0),.d (cI 0),.d (cI 0)],.row 25 [.d (cI 0),.d (cI 0),.d (cI 0),.d (cI 0)],.row 79 [.ref 1 0,.ref 1 1,.ref 1 2,.ref 1 3]],[]⟩] rfl (.e (v_buildSliceR underlying111 hi79 hs79 hz79 rfl rfl rfl rfl) rfl) ?_
  refine .callF (en 44 rfl) rfl [2,1] [] (x:=.d (cI y2.1)) (st':=⟨[.row 25 [.d (cI 0),.d (cI 0),.d (cI 0),.d (cI 0)],.row 25 [.d (cI y2.2.source),.d (cI y2.2.number),.d (cI y2.2.format),.d (cI y2.2.count)],.row 79 [.ref 1 0,.ref 1 1,.ref 1 2,.ref 1 3]],[]⟩) rfl (c_g_batch_numbers (hy2)) ⟨.rfl' _,.rfl' _,trivial⟩ rfl rfl rfl rfl rfl rfl ?_
  refine .A 7 [] rfl trivial ?_
  refine .ite H rfl (fun H=>?_) (fun H=>?_)
  ·refine .A 8 [.d (.agg (Head.row (⟨0,0,0,0⟩:Head)))] rfl (OpQ.g (q_buildP pl_25 hi25 hz25 rfl rfl)) ?_
   refine .R func19 results19 rfl ?_
   cases H
   exact .m rfl (.tupL ⟨.rfl' _,.nil 1,.rfl' _,trivial⟩)
  ·obtain ⟨y3,hy3,H⟩:=bind_some' H
   refine .A 13 [.i y3] rfl (g_call (en 7 rfl) rfl rfl (c_f_batch_checkHead (hy3))) ?_
   refine .ite H rfl (fun H=>?_) (fun H=>?_)
   ·refine .A 8 [.d (.agg (Head.row (⟨0,0,0,0⟩:Head)))] rfl (OpQ.g (q_buildP pl_25 hi25 hz25 rfl rfl)) ?_
    refine .R func19 results19 rfl ?_
    cases H
    exact .m rfl (.tupL ⟨.rfl' _,.nil 1,.rfl' _,trivial⟩)
   ·refine .A 9 [] rfl trivial ?_
    refine .R func19 results19 rfl ?_
    cases H
    exact .m rfl (.tupD rfl)
set_option maxRecDepth 100000
set_option maxHeartbeats 1000000
theorem c_f_batch_Head {v0data:List UInt8} {r:Head×Int} (H:f_batch_Head v0data=some r):ACall prog 7 [slOf 1 rB8 v0data] (·=.tup [.agg (Head.row r.1),cI r.2]):=by
 refine ACall.enter' func7 rfl ntmps7 rfl fun S hS=>?_
 unfold f_batch_Head at H
 obtain ⟨y1,hy1,H⟩:=bind_some' H
 refine .A 25 [.r 0,.d (.tup [.agg (Head.row y1.1),slOf 1 rB8 y1.2.1,cI y1.2.2]),.r 1] rfl (g_call (en 45 rfl) rfl rfl (c_f_batch_first (hy1))) ?_
 refine .R func7 results7 rfl ?_
 cases H
 exact .m rfl (.tupD rfl)
theorem c_f_w12_awake {r:Bool} (H:f_w12_awake=some r):ACall prog 6 [] (·=cB r):=by
 obtain ⟨i3,hi3,hz3,hs3,hb3⟩:=in_3
 obtain ⟨i25,hi25,hz25,hs25,hb25⟩:=in_25
 obtain ⟨i31,hi31,hz31,hs31,hb31⟩:=in_31
 obtain ⟨i49,hi49,hz49,hs49,hb49⟩:=in_49
 refine ACall.enter' func6 rfl ntmps6 rfl fun S hS=>?_
 unfold f_w12_awake at H
 obtain ⟨y1,hy1,H⟩:=bind_some' H
 obtain ⟨y2,hy2,H⟩:=bind_some' H
 obtain ⟨y3,hy3,H⟩:=bind_some' H
 obtain ⟨y4,hy4,H⟩:=bind_some' H
 refine .A 84 [.d (.agg (Record.row (⟨6,1,1,([49]:List UInt8),([50]:List UInt8),0,90,0,0,false,0,false⟩:Record))),.r 0,.d (.agg (Record.row (⟨0,0,2,([]:List UInt8),([]:List UInt8),0,1,0,0,false,0,false⟩:Record))),.d (slOf 12 Record.row ([(⟨6,1,1,([49]:List UInt8),([50]:List UInt8),0,90,0,0,false,0,false⟩:Record),(⟨0,0,2,([]:List UInt8),([]:List UInt8),0,1,0,0,false,0,false⟩:Record)]:List Record)),.d (.agg (Totals.row y1)),.r 1,.d (.agg (Batch.row (⟨1,1,1,([]:List Record)⟩:Batch))),.d (.tup [slOf 1 rB8 y2.1,cI y2.2]),.d (.tup [.agg (Head.row y3.1),cI y3.2]),.r 2,.g (.ref 1 2),.g (.ref 1 3),.i (y2.1.length:Int),.d (.agg (Head.row (⟨1,1,1,0⟩:Head))),.b (eqVs (Head.vals y3.1) (Head.vals (⟨1,1,1,0⟩:Head))),.d (slOf 12 Record.row ([(⟨6,1,1,([49]:List UInt8),([50]:List UInt8),0,90,0,0,false,0,false⟩:Record)]:List Record)),.d (.agg (Batch.row (⟨5,1,1,([(⟨6,1,1,([49]:List UInt8),([50]:List UInt8),0,90,0,0,false,0,false⟩:Record)]:List Record)⟩:Batch))),.i y4] rfl ⟨rfl,rfl,fun hg=>g_call (en 32 rfl) rfl rfl (c_f_batch_Check (gcall_some hy4 hg)),rfl,fun hg=>OpQ.g (q_buildP pl_31 hi31 hz31 rfl rfl),rfl,fun hg=>g_buildSlice1 underlying29 hi49 hs49 hz49 rfl rfl rfl rfl rfl,rfl,rfl,fun hg=>OpQ.g (q_steql fk_25 rfl rfl (xs:=Head.vals y3.1) (ys:=Head.vals (⟨1,1,1,0⟩:Head)) rfl rfl rfl rfl),rfl,rfl,fun hg=>OpQ.g (q_buildP pl_25 hi25 hz25 rfl rfl),rfl,rfl,rfl,rfl,fun hg=>s22.n rfl rfl,rfl,rfl,rfl,rfl,rfl,rfl,fun hg=>OpQ.g (q_idxArr (m:=2) (sz:=1) underlying50 ⟨_,hi3,hs3⟩ rfl rfl rfl (by decide)),rfl,rfl,rfl,rfl,fun hg=>OpQ.g (q_idxArr (m:=1) (sz:=1) underlying50 ⟨_,hi3,hs3⟩ rfl rfl rfl (by decide)),rfl,g_call (en 46 rfl) rfl rfl (c_f_batch_Head (hy3)),g_call (en 47 rfl) rfl rfl (c_f_batch_Write (hy2)),OpQ.g (OpQ.le (q_buildP pl_31 hi31 hz31 rfl rfl) (EVle.d (.agg ⟨.rfl' _,.rfl' _,.rfl' _,.nil 12,trivial⟩))),g_call (en 33 rfl) rfl rfl (c_f_batch_Totals (hy1)),g_buildSliceN (n:=2) (rows:=([(⟨6,1,1,([49]:List UInt8),([50]:List UInt8),0,90,0,0,false,0,false⟩:Record),(⟨0,0,2,([]:List UInt8),([]:List UInt8),0,1,0,0,false,0,false⟩:Record)]:List Record).map Record.row) underlying29 hi49 hs49 hz49 rfl rfl rfl rfl rfl,OpQ.g (q_buildP pl_49 hi49 hz49 rfl rfl),OpQ.g (q_buildP pl_49 hi49 hz49 rfl rfl)⟩ ?_
 refine .R func6 results6 rfl ?_
 cases H
 exact .m rfl (.rfl' _)
theorem c_f_r07_join {v0a:List UInt8} {v1b:List UInt8} {r:(List UInt8)} (H:f_r07_join v0a v1b=some r):ACall prog 83 [slOf 1 rB8 v0a,slOf 1 rB8 v1b] (·=slOf 1 rB8 r):=by
 obtain ⟨i5,hi5,hz5,hs5,hb5⟩:=in_5
 refine ACall.enter' func83 rfl ntmps83 rfl fun S hS=>?_
 unfold f_r07_join at H
 obtain ⟨hk1,H⟩:=ck_some H
 obtain ⟨hk2,H⟩:=ck_some H
 refine .A 18 [.n (.tsl 1 (([]:List UInt8).map rB8) 0) ⟨5,1,([]:List UInt8).length,none⟩,.a 0 5 1 rB8 (([]:List UInt8)++v0a),.a 0 5 1 rB8 ((([]:List UInt8)++v0a)++v1b)] rfl ⟨s22.a rfl rfl rfl rfl hk2,s22.a rfl rfl rfl rfl hk1,.e (v_build0T underlying22 hi5 hs5) rfl⟩ ?_
 refine .R func83 results83 rfl ?_
 cases H
 exact .m rfl (.tsl _ _ _)
theorem c_f_r08_Sum {v0b:List UInt8} {r:Int} (H:f_r08_Sum v0b=some r):ACall prog 51 [slOf 1 rB8 v0b] (·=cK .u32 r):=by
 refine ACall.enter' func51 rfl ntmps51 rfl fun S hS=>?_
 unfold f_r08_Sum at H
 refine .A 14 [] rfl trivial ?_
 obtain ⟨n1,H⟩:=loop_some H
 refine .loop (ι:=Nat×(Int×Int)) (fun ⟨_,v3nl1,v4il1⟩=>[(0,.d (slOf 1 rB8 v0b)),(3,.d (cK .u32 v3nl1)),(4,.d (cI v4il1))]) (fun ⟨_,v3nl1,v4il1⟩=>⟨[],[]⟩) (fun p=>iter (fun s=>f_r08_Sum_l1 v0b s.1 s.2) p.1 p.2=some r) (·.1) (n1,(2166136261,0)) H (.cons rfl (.rfl' _) (.cons rfl (.rfl' _) (.cons rfl (.rfl' _) (.nil)))) rfl ?_
 rintro ⟨m1,v3nl1,v4il1⟩ HI ih1
 obtain ⟨n1,q1,hm1,H,HK1⟩:=iter_succ HI
 clear HI
 replace H:f_r08_Sum_l1 v0b v3nl1 v4il1=some q1:=H
 unfold f_r08_Sum_l1 at H
 refine .A 8 [.i (v0b.length:Int)] rfl (s22.n rfl rfl) ?_
 refine .ite H rfl (fun H=>?_) (fun H=>?_)
 ·obtain ⟨hk1,H⟩:=ck_some H
  obtain ⟨hk2,H⟩:=ck_some H
  refine .A 20 [.d (.ro (rB8 (nth v0b v4il1.toNat))),.d (cK .u32 (IntKind.wrap .u32 ((nth v0b v4il1.toNat).toNat:Int))),.d (cK .u32 (bXor .u32 v3nl1 (IntKind.wrap .u32 ((nth v0b v4il1.toNat).toNat:Int)))),.d (cK .u32 (IntKind.wrap .u32 ((bXor .u32 v3nl1 (IntKind.wrap .u32 ((nth v0b v4il1.toNat).toNat:Int)))*16777619))),.i (v4il1+1)] rfl ⟨g_addI rfl rfl hk2,OpQ.g (q_mul rfl rfl rfl),OpQ.g (q_xor rfl rfl),OpQ.g (q_conv (n:=((nth v0b v4il1.toNat).toNat:Int)) underlying5 underlying90 rfl rfl),s22.ix rfl rfl rfl hk1⟩ ?_
  cases H
  exact .z (ih1 (n1,(IntKind.wrap .u32 ((bXor .u32 v3nl1 (IntKind.wrap .u32 ((nth v0b v4il1.toNat).toNat:Int)))*16777619),v4il1+1)) HK1 hm1) rfl rfl
 ·refine .A 6 [] rfl trivial ?_
  refine .R func51 results51 rfl ?_
  cases H
  cases HK1
  exact .m rfl (.rfl' _)
end Go.Proofs.YthoengcicaicoaaGreatDoor
