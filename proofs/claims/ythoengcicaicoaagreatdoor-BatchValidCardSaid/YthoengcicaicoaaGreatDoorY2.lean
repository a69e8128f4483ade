/- Our own texts R1 U2 U3 V1 U4 R2 N1 N2 N3 N4 R3 R4 R5 R6 R7 R8 T2 T3 T4 T5 T6 T7 T8 T9 TA TB TC TD TE P9 Q1 Q2 Q3 Q4 Q5 Q7 Q8 Q9 N5 U5 N6 QA N7 N8 N9 NA Z3 LTys of this seat in one. -/
import Derived.Test.YthoengcicaicoaaGreatDoorY1
import Derived.Lib.ItoaLen
import Derived.Lib.Split
import Derived.Lib.Join
import Derived.Lib.ItoaNum
import Derived.Test.YthoengcicaicoaaGreatDoorRows
set_option linter.unusedSimpArgs false
set_option linter.unusedVariables false
set_option linter.unusedSectionVars false
namespace Go.Proofs.YthoengcicaicoaaGreatDoor
open Go.RowKit Go.Abs
theorem gcall_mk {α:Type} [Inhabited α] {b:Bool} {x:α}:gcall b (some x)=some (if b=true then x else default):=by
 unfold gcall; split <;> rfl
theorem loop_all {α R:Type} [Inhabited α] {step:Int→Option (Int ⊕ R)} (l:List α) (p:α→Bool) (fin bad:R) (hl:l.length < 18446744073709551616)
  (h1:∀ i:Int,0≤i→i < (l.length:Int)→step i=some (if p (nth l i.toNat)=true then .inl (i+1) else .inr bad)) (h2:∀ i:Int,i=(l.length:Int)→step i=some (.inr fin)):loop step 0=some (if l.all p=true then fin else bad):=by
 have:=loop_spec (step:=step) (fun i:Int=>some (if (l.drop i.toNat).all p=true then fin else bad)) (fun i=>0≤i∧i≤(l.length:Int)) (fun i=>((l.length:Int) - i).toNat) (fun i hI=>by
  by_cases hi:i < (l.length:Int)
  ·have hd:=drop_nth (l:=l) (k:=i.toNat) (by omega)
   rw [h1 i hI.1 hi]
   by_cases hp:p (nth l i.toNat)=true
   ·rw [if_pos hp]
    refine .inr ⟨i+1,rfl,⟨by omega,by omega⟩,by omega,?_⟩
    rw [show (i+1).toNat=i.toNat+1 from by omega,hd]
    simp [hp]
   ·rw [if_neg hp]
    refine .inl ⟨bad,rfl,?_⟩
    rw [hd]
    simp [hp]
  ·have:i=(l.length:Int):=by omega
   refine .inl ⟨fin,h2 i this,?_⟩
   rw [List.drop_of_length_le (by omega)]
   simp) (s:=0) ⟨by omega,by omega⟩ (by omega)
 simpa using this
def isDig (c:UInt8):Bool:=decide (48≤c) && decide (c≤57)
def validB (s:List UInt8):Bool:=s.all isDig && decide (1≤s.length) && decide (s.length≤15)
theorem p_Valid (s:List UInt8) (hl:s.length < 1000000000):f_digits_Valid s=some (validB s):=by
 unfold f_digits_Valid
 rw [loop_all s isDig (decide ((s.length:Int)≥1) && decide ((s.length:Int)≤15)) false (by omega) (fun i h0 h1=>?_) (fun i hi=>?_)]
 ·unfold validB
  cases s.all isDig <;> simp
  rw [Bool.eq_iff_iff]; simp; omega
 ·unfold f_digits_Valid_l1 f_digits_digit
  rw [if_pos (by simpa using h1),ck_pos (by omega)]
  simp only [Option.bind_some]
  rw [ck_pos (by omega)]
  unfold isDig
  simp only [ge_iff_le]
  cases decide (48≤nth s i.toNat) <;> cases decide (nth s i.toNat≤57) <;> rfl
 ·unfold f_digits_Valid_l1 f_digits_Valid_j1
  rw [if_neg (by simp; omega)]
  rfl
def errF (r:Record):Int :=
 if ¬(1≤r.source∧r.source≤99∧1≤r.serial∧r.serial≤999999999) then 6
 else if ¬(1≤r.kind∧r.kind≤4) then 7
 else if validB r.a=false∨(validB r.b=false∧¬((r.kind=3∨r.kind=4)∧r.b=[])) then 12
 else if ¬(0≤r.start∧r.start≤12622780799) then 15
 else if ¬(0≤r.units∧r.units≤1099511627776)∨(r.kind=1∧r.units > 604800) then 6
 else if r.kind=1∧r.start+r.units > 12622780800 then 15
 else if ¬(0≤r.call∧r.call≤999999999∧0≤r.part∧r.part≤99) then 6
 else if ¬(r.part=0↔r.call=0)∨(r.last=true∧r.part=0) then 8
 else if ¬(0≤r.trunk∧r.trunk≤999) then 6
 else if r.inbound=true∧r.trunk=0 then 8
 else 0
theorem ite_same {α:Type} {b:Bool} {p:Prop} [Decidable p] {x y x' y':α} (h:b=true↔p) (hx:p→x=x') (hy:¬p→y=y'):(if b=true then x else y)=if p then x' else y':=by
 by_cases hp:p
 ·rw [if_pos hp,if_pos (h.2 hp),hx hp]
 ·rw [if_neg hp,if_neg (fun hb=>hp (h.1 hb)),hy hp]
theorem ite_some {α:Type} {p:Prop} [Decidable p] {x y:α}:(if p then some x else some y)=some (if p then x else y):=by split <;> rfl
theorem p_check (r:Record) (ha:r.a.length < 1000000000) (hb:r.b.length < 1000000000):f_textual_check r=some (errF r):=by
 have key:∀ m,(m=1099511627776∧r.kind≠1)∨(m=604800∧r.kind=1)→f_textual_check_j1 r m=some (errF r):=by
  intro m hm
  unfold f_textual_check_j1 errF
  simp only [f_textual_within,p_Valid _ ha,p_Valid _ hb,Option.bind_some,gcall_mk]
  simp only [←ite_some]
  refine ite_same (by simp; grind) (fun _=>rfl) (fun h1=>?_)
  refine ite_same (by simp; grind) (fun _=>rfl) (fun h2=>?_)
  refine ite_same (by simp; grind) (fun _=>rfl) (fun h3=>?_)
  refine ite_same (by simp; grind) (fun _=>rfl) (fun h4=>?_)
  refine ite_same (by simp; grind) (fun _=>rfl) (fun h5=>?_)
  rw [ck_pos (by omega)]
  refine ite_same (by simp) (fun _=>rfl) (fun h6=>?_)
  refine ite_same (by simp; grind) (fun _=>rfl) (fun h7=>?_)
  refine ite_same (by simp; grind) (fun _=>rfl) (fun h8=>?_)
  refine ite_same (by simp; grind) (fun _=>rfl) (fun h9=>?_)
  refine ite_same (by simp) (fun _=>rfl) (fun h10=>rfl)
 unfold f_textual_check
 split
 ·rename_i h
  exact key _ (.inr ⟨rfl,by simpa using h⟩)
 ·rename_i h
  exact key _ (.inl ⟨rfl,by simpa using h⟩)
structure Good (r:Record):Prop where
 source:1≤r.source∧r.source≤99
 serial:1≤r.serial∧r.serial≤999999999
 kind:1≤r.kind∧r.kind≤4
 a:validB r.a=true
 b:validB r.b=true∨(r.kind=3∨r.kind=4)∧r.b=[]
 start:0≤r.start∧r.start≤12622780799
 units:0≤r.units∧r.units≤1099511627776
 call:0≤r.call∧r.call≤999999999
 part:0≤r.part∧r.part≤99
 trunk:0≤r.trunk∧r.trunk≤999
theorem errF_good {r:Record} (h:errF r=0):Good r:=by
 unfold errF at h
 split at h; · cases h
 split at h; · cases h
 split at h; · cases h
 split at h; · cases h
 split at h; · cases h
 split at h; · cases h
 split at h; · cases h
 split at h; · cases h
 split at h; · cases h
 split at h; · cases h
 rename_i h1 h2 h3 h4 h5 h6 h7 h8 h9 h10
 refine ⟨by omega,by omega,by omega,?_,?_,by omega,by omega,by omega,by omega,by omega⟩
 ·cases hv:validB r.a with
  | true=>rfl
  | false=>exact absurd (.inl hv) h3
 ·cases hv:validB r.b with
  | true=>exact .inl rfl
  | false =>
   right
   by_cases hh:(r.kind=3∨r.kind=4)∧r.b=[]
   ·exact hh
   ·exact absurd (.inr ⟨hv,hh⟩) h3
theorem validB_len {s:List UInt8} (h:validB s=true):s.length≤15:=by
 unfold validB at h
 simp at h
 exact h.2
def headF (r:Record):List (List UInt8):=[(([118,116,100,99]:List UInt8).take r.kind.toNat).drop (r.kind-1).toNat,Go.Lib.itoa r.source,Go.Lib.itoa r.serial,r.a,if r.b=[] then [45] else r.b,Go.Lib.itoa r.start,Go.Lib.itoa r.units]
def partF (r:Record):List (List UInt8):=if r.part=0 then [] else [[112,97,114,116],Go.Lib.itoa r.call,Go.Lib.itoa r.part]++if r.last=true then [[108,97,115,116]] else []
def trunkF (r:Record):List (List UInt8):=if r.trunk=0 then [] else [if r.inbound=true then [105,110] else [111,117,116],Go.Lib.itoa r.trunk]
def wordsF (r:Record):List (List UInt8):=headF r++partF r++trunkF r
def lineF (r:Record):List UInt8:=Go.Lib.join (wordsF r) [32]
theorem join_len (sep:List UInt8) (xs:List (List UInt8)) (m:Nat) (h:∀ x,x∈xs→x.length≤m):(Go.Lib.join xs sep).length≤xs.length*(m+sep.length):=by
 cases xs with
 | nil=>simp [Go.Lib.join]
 | cons x r =>
  rw [Go.Lib.join_cons]
  have h1:∀ (r:List (List UInt8)),(∀ x,x∈r→x.length≤m)→(Go.Lib.joinTail sep r).length≤r.length*(m+sep.length):=by
   intro r
   induction r with
   | nil=>simp [Go.Lib.joinTail]
   | cons y r ih =>
    intro hr
    have:=ih fun z hz=>hr z (List.mem_cons_of_mem _ hz)
    have h2:=hr y List.mem_cons_self
    simp only [Go.Lib.joinTail,List.map_cons,List.flatten_cons,List.length_append,List.length_cons,Nat.add_mul] at *
    omega
  have h3:=h1 r fun z hz=>h z (List.mem_cons_of_mem _ hz)
  have h4:=h x List.mem_cons_self
  simp only [List.length_append,List.length_cons,Nat.add_mul] at *
  omega
theorem itoa_le {n:Int} (h0:0≤n) (h1:n≤9223372036854775807):(Go.Lib.itoa n).length≤21:=Go.Lib.itoa_length_le n (by omega) h1
theorem words_le {r:Record} (g:Good r):(wordsF r).length≤13∧∀ x,x∈wordsF r→x.length≤21:=by
 have ha:=validB_len g.a
 have hb:r.b.length≤15:=by
  rcases g.b with h | h
  ·exact validB_len h
  ·rw [h.2]; simp
 obtain ⟨gs,ge,gk,_,_,gst,gu,gc,gp,gt⟩:=g
 refine ⟨?_,fun x hx=>?_⟩
 ·have h1:(partF r).length≤4:=by unfold partF; split; simp; split <;> simp
  have h2:(trunkF r).length≤2:=by unfold trunkF; split <;> simp
  have h3:(headF r).length=7:=rfl
  simp only [wordsF,List.length_append]; omega
 ·unfold wordsF at hx
  rcases List.mem_append.1 hx with hx | hx
  ·rcases List.mem_append.1 hx with hx | hx
   ·unfold headF at hx
    simp only [List.mem_cons,List.not_mem_nil,or_false] at hx
    rcases hx with rfl | rfl | rfl | rfl | rfl | rfl | rfl
    ·simp; omega
    ·exact itoa_le (by omega) (by omega)
    ·exact itoa_le (by omega) (by omega)
    ·omega
    ·split
     ·simp
     ·omega
    ·exact itoa_le (by omega) (by omega)
    ·exact itoa_le (by omega) (by omega)
   ·unfold partF at hx
    split at hx
    ·cases hx
    ·rcases List.mem_append.1 hx with hx | hx
     ·simp only [List.mem_cons,List.not_mem_nil,or_false] at hx
      rcases hx with rfl | rfl | rfl
      ·simp
      ·exact itoa_le (by omega) (by omega)
      ·exact itoa_le (by omega) (by omega)
     ·split at hx
      ·simp only [List.mem_cons,List.not_mem_nil,or_false] at hx
       subst hx; simp
      ·cases hx
  ·unfold trunkF at hx
   split at hx
   ·cases hx
   ·simp only [List.mem_cons,List.not_mem_nil,or_false] at hx
    rcases hx with rfl | rfl
    ·split <;> simp
    ·exact itoa_le (by omega) (by omega)
theorem p_Itoa {n:Int} (h0:0≤n) (h1:n≤9223372036854775807):x_Itoa n=some (Go.Lib.itoa n):=by
 unfold x_Itoa; rw [ck_pos (by omega)]
theorem p_Encode_ok (r:Record) (h:errF r=0):f_textual_Encode r=some (lineF r,0):=by
 have g:=errF_good h
 have ha:=validB_len g.a
 have hb:r.b.length≤15:=by
  rcases g.b with h | h
  ·exact validB_len h
  ·rw [h.2]; simp
 have hj3:∀ ws,ws=wordsF r→f_textual_Encode_j3 ws=some (lineF r,0):=by
  rintro ws rfl
  unfold f_textual_Encode_j3 x_Join
  obtain ⟨w1,w2⟩:=words_le g
  have:=join_len [32] (wordsF r) 21 w2
  simp only [List.length_cons,List.length_nil] at this
  have h3:(wordsF r).length*22≤13*22:=Nat.mul_le_mul_right _ w1
  rw [ck_pos ⟨by omega,by omega⟩]
  rfl
 have hj2:∀ ws,ws=headF r++partF r→ws.length≤11→f_textual_Encode_j2 r ws=some (lineF r,0):=by
  intro ws hw hl
  unfold f_textual_Encode_j2
  by_cases ht:r.trunk=0
  ·rw [if_neg (by simp [ht])]
   exact hj3 _ (by rw [hw,wordsF,trunkF,if_pos ht]; simp)
  ·rw [if_pos (by simp [ht])]
   unfold f_textual_Encode_j4
   rw [p_Itoa g.trunk.1 (by have:=g.trunk.2; omega)]
   simp only [Option.bind_some]
   split
   ·rename_i hi
    rw [ck_pos (by simp; omega)]
    exact hj3 _ (by rw [hw,wordsF,trunkF,if_neg ht,if_pos hi])
   ·rename_i hi
    rw [ck_pos (by simp; omega)]
    exact hj3 _ (by rw [hw,wordsF,trunkF,if_neg ht,if_neg hi])
 have hj1:∀ b,b=(if r.b=[] then [45] else r.b)→f_textual_Encode_j1 r b=some (lineF r,0):=by
  rintro b rfl
  unfold f_textual_Encode_j1
  have gk:=g.kind
  rw [ck_pos (by omega),ck_pos (by simp; omega),p_Itoa (by have:=g.source; omega) (by have:=g.source; omega),p_Itoa (by have:=g.serial; omega) (by have:=g.serial; omega),p_Itoa g.start.1 (by have:=g.start; omega),p_Itoa g.units.1 (by have:=g.units; omega)]
  simp only [Option.bind_some]
  by_cases hp:r.part=0
  ·rw [if_neg (by simp [hp])]
   exact hj2 _ (by rw [partF,if_pos hp]; simp [headF]) (by simp)
  ·rw [if_pos (by simp [hp]),p_Itoa g.call.1 (by have:=g.call; omega),p_Itoa g.part.1 (by have:=g.part; omega)]
   simp only [Option.bind_some]
   rw [ck_pos (by simp)]
   split
   ·rename_i hl
    rw [ck_pos (by simp)]
    exact hj2 _ (by rw [partF,if_neg hp,if_pos hl]; simp [headF]) (by simp)
   ·rename_i hl
    exact hj2 _ (by rw [partF,if_neg hp,if_neg hl]; simp [headF]) (by simp)
 unfold f_textual_Encode
 rw [p_check r (by omega) (by omega),h]
 simp only [Option.bind_some]
 rw [if_neg (by simp)]
 split
 ·rename_i hb0
  exact hj1 _ (by rw [if_pos (by simpa using hb0)])
 ·rename_i hb0
  exact hj1 _ (by rw [if_neg (by simpa using hb0)])
theorem p_Encode (r:Record) (ha:r.a.length < 1000000000) (hb:r.b.length < 1000000000):f_textual_Encode r=some (if errF r=0 then lineF r else [],errF r):=by
 by_cases h:errF r=0
 ·rw [p_Encode_ok r h,if_pos h,h]
 ·unfold f_textual_Encode
  rw [p_check r ha hb,if_neg h]
  simp only [Option.bind_some]
  rw [if_pos (by simpa using h)]
def chkL (src:Int):List Record→Int
 | []=>0
 | r :: l=>if errF r=0 then (if r.source=src then chkL src l else 8) else errF r
def hdF (s n f:Int):Int:=if (s < 1∨99 < s)∨(n < 1∨999999999 < n) then 6 else if f < 1∨3 < f then 7 else 0
def chkF (b:Batch):Int:=if hdF b.source b.number b.format=0 then (if 4096 < b.records.length then 5 else chkL b.source b.records) else hdF b.source b.number b.format
def SmL (l:List Record):Prop:=∀ r,r∈l→r.a.length < 1000000000∧r.b.length < 1000000000
theorem SmL.nth {l:List Record} (h:SmL l) {k:Nat} (hk:k < l.length):(Go.Abs.nth l k).a.length < 1000000000∧(Go.Abs.nth l k).b.length < 1000000000:=by
 rw [nth_eq hk]; exact h _ (List.getElem_mem hk)
theorem p_checkL (b:Batch) (h:SmL b.records) (hl:b.records.length≤4096):loop (fun s=>f_batch_Check_l1 b s) 0=some (chkL b.source b.records):=by
 have:=loop_spec (step:=fun s=>f_batch_Check_l1 b s) (fun i:Int=>some (chkL b.source (b.records.drop i.toNat))) (fun i=>0≤i∧i≤(b.records.length:Int)) (fun i=>((b.records.length:Int) - i).toNat) (fun i hI=>by
  obtain ⟨h0,h1⟩:=hI
  show (∃ r,f_batch_Check_l1 b i=_∧_)∨∃ s',f_batch_Check_l1 b i=_∧_
  unfold f_batch_Check_l1
  by_cases hi:i < (b.records.length:Int)
  ·have hd:=drop_nth (l:=b.records) (k:=i.toNat) (by omega)
   have hs:=h.nth (k:=i.toNat) (by omega)
   rw [if_pos (by simpa using hi),ck_pos ⟨h0,hi⟩,p_Encode _ hs.1 hs.2,hd]
   generalize Go.Abs.nth b.records i.toNat=r at *
   simp only [Option.bind_some,chkL]
   by_cases he:errF r=0
   ·rw [if_neg (by simp [he]),if_pos he]
    by_cases hsrc:r.source=b.source
    ·rw [if_neg (by simp [hsrc]),if_pos hsrc,ck_pos (by omega)]
     refine .inr ⟨i+1,rfl,⟨by omega,by omega⟩,by omega,?_⟩
     rw [show (i+1).toNat=i.toNat+1 from by omega]
    ·rw [if_pos (by simpa using hsrc),if_neg hsrc]
     exact .inl ⟨_,rfl,rfl⟩
   ·rw [if_pos (by simpa using he),if_neg he]
    exact .inl ⟨_,rfl,rfl⟩
  ·rw [if_neg (by simpa using hi),List.drop_of_length_le (by omega)]
   exact .inl ⟨_,rfl,rfl⟩) (s:=0) ⟨by omega,by omega⟩ (by omega)
 simpa using this
theorem p_head (h:Head):f_batch_checkHead h=some (if hdF h.source h.number h.format=0 then (if h.count < 0∨4096 < h.count then 5 else 0) else hdF h.source h.number h.format):=by
 unfold f_batch_checkHead
 simp only [f_batch_within,Option.bind_some,gcall_mk]
 by_cases h1:(h.source < 1∨99 < h.source)∨(h.number < 1∨999999999 < h.number)
 ·have e:hdF h.source h.number h.format=6:=if_pos h1
  rw [e]
  show _=some (6:Int)
  by_cases hs:h.source < 1∨99 < h.source
  ·rw [if_pos (by simp; omega)]
  ·have hn:h.number < 1∨999999999 < h.number:=by omega
   rw [if_pos (by simp; omega)]
 ·by_cases h2:h.format < 1∨3 < h.format
  ·have e:hdF h.source h.number h.format=7:=by unfold hdF; rw [if_neg h1,if_pos h2]
   rw [e]
   show _=some (7:Int)
   rw [if_neg (by simp; omega),if_pos (by simp; omega)]
  ·have e:hdF h.source h.number h.format=0:=by unfold hdF; rw [if_neg h1,if_neg h2]
   rw [e]
   show _=some (if h.count < 0∨4096 < h.count then 5 else 0)
   rw [if_neg (by simp; omega),if_neg (by simp; omega)]
   by_cases h3:h.count < 0∨4096 < h.count
   ·rw [if_pos h3,if_pos (by simp; omega)]
   ·rw [if_neg h3,if_neg (by simp; omega)]
theorem p_Check (b:Batch) (h:SmL b.records):f_batch_Check b=some (chkF b):=by
 unfold f_batch_Check f_batch_headOf chkF
 simp only [Option.bind_some,p_head]
 by_cases h1:hdF b.source b.number b.format=0
 ·simp only [h1,if_true]
  by_cases h2:4096 < b.records.length
  ·have h2':(b.records.length:Int) < 0∨4096 < (b.records.length:Int):=by omega
   rw [if_pos h2',if_pos h2]; rfl
  ·have h2':¬ ((b.records.length:Int) < 0∨4096 < (b.records.length:Int)):=by omega
   rw [if_neg h2',if_neg h2]
   exact p_checkL b h (by omega)
 ·simp only [if_neg h1]
  rw [if_pos (by simpa using h1)]
def vb (u:Int):List UInt8:=if 127 < u then UInt8.ofInt (128+u % 128) :: vb (u / 128) else [UInt8.ofInt u]
termination_by u.toNat
decreasing_by omega
theorem vb_len:∀ (k:Nat) (u:Int),u < 128 ^ k*128→(vb u).length≤k+1
 | 0,u,h=>by
  unfold vb
  rw [if_neg (by simp at h; omega)]; simp
 | k+1,u,h=>by
  unfold vb
  split
  ·have e:(128:Int) ^ (k+1)=128 ^ k*128:=Int.pow_succ _ _
   rw [e] at h
   have:=vb_len k (u / 128) (by
    generalize (128:Int) ^ k=p at *
    omega)
   simp only [List.length_cons]; omega
  ·simp
theorem vb_le {u:Int} (h:u < 18446744073709551616):(vb u).length≤10:=vb_len 9 u (by
 have:(128:Int) ^ 9=9223372036854775808:=by decide
 rw [this]; omega)
theorem or_tab128:∀ r:Fin 256,UInt8.ofNat r.val ||| 128=UInt8.ofNat (128+r.val % 128):=by decide +kernel
theorem ofInt_nat {u:Int} (h:0≤u):UInt8.ofInt u=UInt8.ofNat (u.toNat % 256):=by
 unfold UInt8.ofInt
 congr 1
 have:(2:Int) ^ 8=256:=by decide
 rw [this]; omega
theorem or128 {u:Int} (h:0≤u):UInt8.ofInt u ||| 128=UInt8.ofInt (128+u % 128):=by
 rw [ofInt_nat h,or_tab128 ⟨u.toNat % 256,Nat.mod_lt _ (by decide)⟩,ofInt_nat (by omega)]
 congr 1
 have:(128+u % 128).toNat=128+u.toNat % 128:=by omega
 rw [this]
 simp only
 omega
theorem p_addC (n:Int) (b:List UInt8) (h0:0≤n) (h1:n≤9223372036854775807) (hb:b.length≤900000000):g_codec_add n b=some (b++vb (2*n)):=by
 unfold g_codec_add f_codec_zigzag
 have hz:bXor .u64 (IntKind.wrap .u64 ((IntKind.wrap .u64 n)*2 ^ (min (Int.toNat (1)) 64))) (IntKind.wrap .u64 (n / 2 ^ (Int.toNat (63))))=2*n:=by
  have e1:IntKind.wrap .u64 n=n:=by simp [IntKind.wrap,IntKind.bits,IntKind.signed]; omega
  have e2:n / 2 ^ (Int.toNat (63))=0:=by
   have:(2:Int) ^ (Int.toNat 63)=9223372036854775808:=by decide
   rw [this]; omega
  have e3:(2:Int) ^ (min (Int.toNat 1) 64)=2:=by decide
  rw [e1,e2,e3]
  have e4:IntKind.wrap .u64 (n*2)=2*n:=by simp [IntKind.wrap,IntKind.bits,IntKind.signed]; omega
  have e5:IntKind.wrap .u64 0=0:=by decide
  rw [e4,e5]
  unfold bXor
  have e6:(BitVec.ofInt (IntKind.bits .u64) (2*n) ^^^ BitVec.ofInt (IntKind.bits .u64) 0)=BitVec.ofInt (IntKind.bits .u64) (2*n):=by
   have:BitVec.ofInt (IntKind.bits .u64) 0=0#(IntKind.bits .u64):=by decide
   rw [this,BitVec.xor_zero]
  rw [e6,BitVec.toNat_ofInt]
  have e7:(((2*n) % ((2 ^ IntKind.bits .u64:Nat):Int)).toNat:Int)=2*n:=by
   have:((2 ^ IntKind.bits .u64:Nat):Int)=18446744073709551616:=by decide
   rw [this]; omega
  rw [e7]
  simp [IntKind.wrap,IntKind.bits,IntKind.signed]; omega
 rw [ck_pos (by decide),hz]
 simp only [Option.bind_some]
 have hl:=vb_le (u:=2*n) (by omega)
 have:=loop_spec (step:=fun s:List UInt8×Int=>g_codec_add_l1 s.1 s.2) (fun s=>some (s.1++vb s.2)) (fun s=>0≤s.2∧s.2 < 18446744073709551616∧s.1.length+(vb s.2).length≤1000000000) (fun s=>s.2.toNat) (by
  rintro ⟨c,u⟩ ⟨k0,k1,k2⟩
  simp only at k0 k1 k2 ⊢
  unfold g_codec_add_l1
  by_cases hu:127 < u
  ·have hv:vb u=UInt8.ofInt (128+u % 128) :: vb (u / 128):=by rw [vb]; rw [if_pos hu]
   have hf:Int.fdiv u (2 ^ (min (Int.toNat (7)) 64))=u / 128:=by
    have:(2:Int) ^ (min (Int.toNat (7)) 64)=128:=by decide
    rw [this,Int.fdiv_eq_ediv_of_nonneg _ (by decide)]
   rw [hv] at k2 ⊢
   simp only [List.length_cons] at k2
   rw [if_pos (by simp; omega),ck_pos (by simp; omega),ck_pos (by decide),or128 k0,hf]
   exact .inr ⟨_,rfl,⟨by simp only; omega,by simp only; omega,by simp; omega⟩,by simp only; omega,by simp⟩
  ·have hv:vb u=[UInt8.ofInt u]:=by rw [vb]; rw [if_neg hu]
   rw [hv] at k2 ⊢
   rw [if_neg (by simp; omega)]
   unfold g_codec_add_j1
   rw [ck_pos (by simpa using k2)]
   exact .inl ⟨_,rfl,rfl⟩) (s:=(b,2*n)) ⟨by simp only; omega,by simp only; omega,by simp only; omega⟩ (by simp only; omega)
 rw [this]
theorem p_PutC (n:Int) (h0:0≤n) (h1:n≤9223372036854775807):f_codec_PutNumber [] n=some (vb (2*n)):=by
 unfold f_codec_PutNumber f_codec_grown
 rw [ck_pos (by simp <;> omega),ck_pos (by simp)]
 simp only [Option.bind_some]
 rw [p_addC n _ h0 h1 (by simp)]
 rfl
def Sh200 (r:Record):Prop:=r.a.length≤200∧r.b.length≤200
instance (r:Record):Decidable (Sh200 r):=by unfold Sh200; infer_instance
def okT (r:Record):Bool:=decide (1≤r.kind∧r.kind≤4∧0≤r.units∧r.units≤1099511627776)
def addT (u:List Int) (r:Record):List Int:=if okT r=true then setN u 5 r.kind.toNat (nth u r.kind.toNat+r.units) else u
def totT (l:List Record):List Int:=l.foldl addT [0,0,0,0,0]
def conT (r:Record) (k:Nat):Int:=if okT r=true∧r.kind.toNat=k then r.units else 0
def sumT:List Record→Nat→Int
 | [],_=>0
 | r :: l,k=>conT r k+sumT l k
theorem conT_bd (r:Record) (k:Nat):0≤conT r k∧conT r k≤1099511627776:=by
 unfold conT
 split
 ·rename_i h
  have:=h.1
  simp only [okT,decide_eq_true_eq] at this
  exact ⟨this.2.2.1,this.2.2.2⟩
 ·omega
theorem sumT_bd:∀ (l:List Record) (k:Nat),0≤sumT l k∧sumT l k≤l.length*1099511627776
 | [],k=>by simp [sumT]
 | r :: l,k=>by
  have h1:=conT_bd r k
  have h2:=sumT_bd l k
  simp only [sumT,List.length_cons]
  omega
theorem addT_len {u:List Int} (h:u.length=5) (r:Record):(addT u r).length=5:=by
 unfold addT; split
 ·exact setN_len _ _ _ _
 ·exact h
theorem nth_addT (u:List Int) (r:Record) {k:Nat} (hk:k < 5):nth (addT u r) k=nth u k+conT r k:=by
 unfold addT conT
 by_cases h:okT r=true
 ·rw [if_pos h,nth_setN hk]
  by_cases h2:r.kind.toNat=k
  ·rw [if_pos h2,if_pos ⟨h,h2⟩,h2]
  ·rw [if_neg h2,if_neg (fun h3=>h2 h3.2)]; omega
 ·rw [if_neg h,if_neg (fun h3=>h h3.1)]; omega
theorem nth_fold:∀ (l:List Record) (u:List Int) {k:Nat},k < 5→nth (l.foldl addT u) k=nth u k+sumT l k
 | [],u,k,_=>by simp [sumT]
 | r :: l,u,k,hk=>by
  simp only [List.foldl_cons,sumT]
  rw [nth_fold l _ hk,nth_addT u r hk]; omega
theorem nth_totT (l:List Record) {k:Nat} (hk:k < 5):nth (totT l) k=sumT l k:=by
 unfold totT
 rw [nth_fold l _ hk]
 have:nth ([0,0,0,0,0]:List Int) k=0:=by
  match k,hk with
  | 0,_=>rfl
  | 1,_=>rfl
  | 2,_=>rfl
  | 3,_=>rfl
  | 4,_=>rfl
 omega
theorem five {u:List Int} (h:u.length=5):[nth u 0,nth u 1,nth u 2,nth u 3,nth u 4]=u:=by
 match u,h with
 | [a,b,c,d,e],_=>rfl
theorem five_bd {u:List Int} {x:Int} (h:∀ j,j < 5→0≤nth u j∧nth u j≤x) {n:Int} (h1:1≤n) (h2:n≤4):0≤nth u n.toNat∧nth u n.toNat≤x:=h _ (by omega)
theorem p_Totals (l:List Record) (hl:l.length≤1000000):f_batch_Totals l=some ⟨(l.length:Int),totT l⟩:=by
 unfold f_batch_Totals
 have:=loop_spec (step:=fun s:Int×Int×Int×Int×Int×Int=>f_batch_Totals_l1 l s.1 s.2.1 s.2.2.1 s.2.2.2.1 s.2.2.2.2.1 s.2.2.2.2.2)
  (fun s=>some ⟨(l.length:Int),(l.drop s.1.toNat).foldl addT [s.2.1,s.2.2.1,s.2.2.2.1,s.2.2.2.2.1,s.2.2.2.2.2]⟩)
  (fun s=>0≤s.1∧s.1≤(l.length:Int)∧∀ j,j < 5→0≤nth [s.2.1,s.2.2.1,s.2.2.2.1,s.2.2.2.2.1,s.2.2.2.2.2] j∧nth [s.2.1,s.2.2.1,s.2.2.2.1,s.2.2.2.2.1,s.2.2.2.2.2] j≤s.1*1099511627776)
  (fun s=>((l.length:Int) - s.1).toNat) (by
   rintro ⟨i,c1,c2,c3,c4,c5⟩ ⟨h0,h1,h2⟩
   simp only at h0 h1 h2 ⊢
   unfold f_batch_Totals_l1
   by_cases hi:i < (l.length:Int)
   ·right
    have hd:=drop_nth (l:=l) (k:=i.toNat) (by omega)
    rw [if_pos (by simpa using hi),ck_pos ⟨h0,hi⟩]
    generalize nth l i.toNat=r at *
    simp only [f_batch_within,Option.bind_some,gcall_mk]
    have hfive:=five (u:=[c1,c2,c3,c4,c5]) rfl
    generalize hu:[c1,c2,c3,c4,c5]=u at *
    have hul:u.length=5:=by rw [←hu]; rfl
    by_cases hk:okT r=true
    ·have hk':=hk
     simp only [okT,decide_eq_true_eq] at hk'
     have hb:=five_bd h2 hk'.1 hk'.2.1
     have hadd:addT u r=setN u 5 r.kind.toNat (nth u r.kind.toNat+r.units):=if_pos hk
     rw [if_pos (by simp; omega),ck_pos (by omega),ck_pos (by omega),ck_pos (by omega),ck_pos (by omega),ck_pos (by omega),ck_pos (by omega)]
     refine ⟨_,rfl,⟨by omega,by omega,?_⟩,by omega,?_⟩
     ·simp only
      rw [←hadd,five (addT_len hul r)]
      intro j hj
      rw [nth_addT u r hj]
      have:=h2 j hj
      have:=conT_bd r j
      omega
     ·simp only
      rw [←hadd,five (addT_len hul r),show (i+1).toNat=i.toNat+1 from by omega,hd,List.foldl_cons]
    ·have hk':=hk
     simp only [okT,decide_eq_true_eq] at hk'
     have hadd:addT u r=u:=if_neg hk
     rw [if_neg (by simp; omega),ck_pos (by omega)]
     refine ⟨_,rfl,⟨by omega,by omega,?_⟩,by omega,?_⟩
     ·simp only
      rw [hu]
      intro j hj
      have:=h2 j hj
      omega
     ·simp only
      rw [hu,show (i+1).toNat=i.toNat+1 from by omega,hd,List.foldl_cons,hadd]
   ·left
    rw [if_neg (by simpa using hi),List.drop_of_length_le (by omega)]
    exact ⟨_,rfl,rfl⟩) (s:=(0,0,0,0,0,0)) ⟨by simp,by simp,by
     intro j hj
     match j,hj with
     | 0,_=>simp [nth]
     | 1,_=>simp [nth]
     | 2,_=>simp [nth]
     | 3,_=>simp [nth]
     | 4,_=>simp [nth]⟩ (by simp; omega)
 rw [this]; rfl
theorem collect {α R:Type} [Inhabited α] {step:List UInt8×Int→Option ((List UInt8×Int) ⊕ R)} (l:List α) (f:α→List UInt8) (G:List UInt8→Option R) (B:Nat) (hB:∀ x,x∈l→(f x).length≤B) (hb:l.length*B≤900000000) (hl:l.length≤1000000000)
  (h1:∀ (out:List UInt8) (i:Int),0≤i→i < (l.length:Int)→out.length≤900000000→step (out,i)=some (.inl (out++f (nth l i.toNat),i+1)))
  (h2:∀ (out:List UInt8),out.length≤900000000→∃ r,step (out,(l.length:Int))=some (.inr r)∧G out=some r):loop step ([],0)=G (l.map f).flatten:=by
 have:=loop_spec (step:=step) (fun s=>G (s.1++((l.drop s.2.toNat).map f).flatten)) (fun s=>0≤s.2∧s.2≤(l.length:Int)∧s.1.length≤s.2.toNat*B) (fun s=>((l.length:Int) - s.2).toNat) (by
  rintro ⟨out,i⟩ ⟨k0,k1,k2⟩
  simp only at k0 k1 k2 ⊢
  have hle:out.length≤900000000:=Nat.le_trans k2 (Nat.le_trans (Nat.mul_le_mul_right B (by omega)) hb)
  by_cases hi:i < (l.length:Int)
  ·right
   have hd:=drop_nth (l:=l) (k:=i.toNat) (by omega)
   have hm:nth l i.toNat∈l:=by rw [nth_eq (by omega)]; exact List.getElem_mem _
   have hx:=hB _ hm
   refine ⟨_,h1 out i k0 hi hle,⟨by simp only; omega,by simp only; omega,?_⟩,by simp only; omega,?_⟩
   ·simp only
    rw [show (i+1).toNat=i.toNat+1 from by omega,Nat.succ_mul,List.length_append]; omega
   ·simp only
    rw [show (i+1).toNat=i.toNat+1 from by omega,hd]
    simp
  ·left
   have e:i=(l.length:Int):=by omega
   subst e
   obtain ⟨r,a1,a2⟩:=h2 out hle
   exact ⟨r,a1,by rw [List.drop_of_length_le (by omega)]; simpa using a2⟩) (s:=([],0)) ⟨by simp,by simp,by simp⟩ (by simp; omega)
 rw [this]; simp
def numsF (l:List Int):List UInt8:=(l.map fun n=>vb (2*n)).flatten
def NumL (l:List Int):Prop:=∀ n,n∈l→0≤n∧n≤9223372036854775807
theorem NumL.nth {l:List Int} (h:NumL l) {k:Nat} (hk:k < l.length):0≤Go.Abs.nth l k∧Go.Abs.nth l k≤9223372036854775807:=by
 rw [nth_eq hk]; exact h _ (List.getElem_mem hk)
theorem p_nums (l:List Int) (h:NumL l) (hl:l.length≤1000000):g_batch_all_int_byte l=some (numsF l):=by
 unfold g_batch_all_int_byte
 refine collect (step:=fun s:List UInt8×Int=>g_batch_all_int_byte_l1 l s.1 s.2) l (fun n=>vb (2*n)) some 10 (fun n hn=>vb_le (by have:=h n hn; omega)) (by omega) (by omega) (fun out i h0 hi ho=>?_) (fun out ho=>?_)
 ·have hn:=h.nth (k:=i.toNat) (by omega)
  have hv:=vb_le (u:=2*Go.Abs.nth l i.toNat) (by omega)
  show g_batch_all_int_byte_l1 l out i=_
  unfold g_batch_all_int_byte_l1 f_batch_number
  rw [if_pos (by simpa using hi),ck_pos ⟨h0,hi⟩,p_PutC _ hn.1 hn.2]
  simp only [Option.bind_some]
  rw [ck_pos (by omega),ck_pos (by omega)]
 ·show ∃ r,g_batch_all_int_byte_l1 l out (l.length:Int)=_∧_
  unfold g_batch_all_int_byte_l1
  rw [if_neg (by simp)]
  exact ⟨_,rfl,rfl⟩
theorem sum_tot (b:List UInt8) (hb:b.length≤1000000000):∃ n,f_frame_Sum b=some n:=by
 unfold f_frame_Sum
 obtain ⟨r,h,_⟩:=loop_post (step:=fun s:Int×Int=>f_frame_Sum_l1 b s.1 s.2) (fun _=>True) (fun s=>0≤s.2∧s.2≤(b.length:Int)) (fun s=>((b.length:Int) - s.2).toNat) (by
  rintro ⟨n,i⟩ ⟨h0,h1⟩
  simp only at h0 h1 ⊢
  unfold f_frame_Sum_l1
  by_cases hi:i < (b.length:Int)
  ·rw [if_pos (by simpa using hi),ck_pos ⟨h0,hi⟩,ck_pos (by omega)]
   exact .inr ⟨_,rfl,⟨by simp only; omega,by simp only; omega⟩,by simp only; omega⟩
  ·rw [if_neg (by simpa using hi)]
   exact .inl ⟨_,rfl,trivial⟩) (s:=(2166136261,0)) ⟨by simp,by simp⟩ (by simp; omega)
 exact ⟨r,h⟩
def sumW (b:List UInt8):Int:=(f_frame_Sum b).getD 0
theorem p_Sum (b:List UInt8) (hb:b.length≤1000000000):f_frame_Sum b=some (sumW b):=by
 obtain ⟨n,h⟩:=sum_tot b hb
 unfold sumW; rw [h]; rfl
def wrapF (b:List UInt8):List UInt8:=vb (2*(b.length:Int))++[UInt8.ofInt (Int.fdiv (sumW b) (2 ^ (min (Int.toNat (24)) 32))),UInt8.ofInt (Int.fdiv (sumW b) (2 ^ (min (Int.toNat (16)) 32))),UInt8.ofInt (Int.fdiv (sumW b) (2 ^ (min (Int.toNat (8)) 32))),UInt8.ofInt (sumW b)]++b
theorem wrapF_len (b:List UInt8) (hb:b.length≤1000000000):(wrapF b).length≤b.length+14:=by
 have:=vb_le (u:=2*(b.length:Int)) (by omega)
 simp [wrapF]; omega
theorem p_wrap (b out:List UInt8) (hb:b.length≤1048576) (ho:out.length≤900000000):g_frame_wrap_v1 b out=some (out++wrapF b):=by
 have hv:=vb_le (u:=2*(b.length:Int)) (by omega)
 unfold g_frame_wrap_v1
 rw [p_Sum b (by omega),p_PutC _ (by omega) (by omega)]
 simp only [Option.bind_some]
 rw [ck_pos (by omega),ck_pos (by decide),ck_pos (by decide),ck_pos (by decide),ck_pos (by simp; omega),ck_pos (by simp; omega)]
 simp [wrapF]
def joinW (l:List (List UInt8)):List UInt8:=(l.map wrapF).flatten
theorem nth_mem' {α:Type} [Inhabited α] {l:List α} {k:Nat} (h:k < l.length):nth l k∈l:=by rw [nth_eq h]; exact List.getElem_mem _
theorem p_Join (l:List (List UInt8)) (h:∀ x,x∈l→x.length≤1048576) (hl:l.length≤100):f_frame_Join l=some (joinW l,0):=by
 unfold f_frame_Join
 refine collect (step:=fun s:List UInt8×Int=>f_frame_Join_l1 l s.1 s.2) l wrapF (fun o=>some (o,0)) 1048590 (fun x hx=>by have:=wrapF_len x (by have:=h x hx; omega); have:=h x hx; omega) (by omega) (by omega) (fun out i h0 hi ho=>?_) (fun out ho=>?_)
 ·have hx:=h _ (nth_mem' (l:=l) (k:=i.toNat) (by omega))
  show f_frame_Join_l1 l out i=_
  unfold f_frame_Join_l1
  rw [if_pos (by simpa using hi),ck_pos ⟨h0,hi⟩,if_neg (by simp; omega),p_wrap _ _ hx ho]
  simp only [Option.bind_some]
  rw [ck_pos (by omega)]
 ·show ∃ r,f_frame_Join_l1 l out (l.length:Int)=_∧_
  unfold f_frame_Join_l1
  rw [if_neg (by simp)]
  exact ⟨_,rfl,rfl⟩
end Go.Proofs.YthoengcicaicoaaGreatDoor
namespace Go.Proofs.YthoengcicaicoaaGreatDoor.C11
open Go.RowKit Go.Abs
def pk (n:Int):UInt8:=UInt8.ofInt (n / 10 % 10*16+n % 10)
def packF:Nat→Int→List UInt8
 | 0,_=>[]
 | k+1,n=>pk (n / 100 ^ k) :: packF k n
theorem packF_len:∀ (k:Nat) (n:Int),(packF k n).length=k
 | 0,_=>rfl
 | k+1,n=>by simp [packF,packF_len k n]
def putF (b:List UInt8) (n size:Int):List UInt8×Int :=
 if size < 1∨size > 9∨n < 0 then ([],6) else if n / 100 ^ size.toNat > 0 then ([],6) else (b++packF size.toNat n,0)
theorem tdiv_nn {n m:Int} (h:0≤n):Int.tdiv n m=n / m:=Int.tdiv_eq_ediv_of_nonneg h
theorem tmod_nn {n m:Int} (h:0≤n):Int.tmod n m=n % m:=Int.tmod_eq_emod_of_nonneg h
theorem or_tab:∀ x y:Fin 10,bOr .i64 ((x.val:Int)*2 ^ 4) (y.val:Int)=(x.val:Int)*16+(y.val:Int):=by decide +kernel
theorem or_dig {x y:Int} (hx:0≤x∧x < 10) (hy:0≤y∧y < 10):bOr .i64 (x*2 ^ (Int.toNat 4)) y=x*16+y:=by
 have:=or_tab ⟨x.toNat,by omega⟩ ⟨y.toNat,by omega⟩
 simpa [Int.toNat_of_nonneg hx.1,Int.toNat_of_nonneg hy.1] using this
theorem pow100_succ (k:Nat):(100:Int) ^ (k+1)=100 ^ k*100:=by rw [Int.pow_succ]
theorem pow100_pos (k:Nat):(0:Int) < 100 ^ k:=Int.pow_pos (by decide)
theorem div_pow {n:Int} (k:Nat):n / 100 ^ k / 100=n / 100 ^ (k+1):=by
 rw [pow100_succ,Int.ediv_ediv_of_nonneg (Int.le_of_lt (pow100_pos k))]
theorem div_pow_nn {n:Int} (h:0≤n) (k:Nat):0≤n / 100 ^ k:=Int.ediv_nonneg h (Int.le_of_lt (pow100_pos k))
theorem div_pow_le {n:Int} (h:0≤n) (k:Nat):n / 100 ^ k≤n:=Int.ediv_le_self _ h
theorem set_last (b t:List UInt8) (m:Nat) (x:UInt8):((b++List.replicate (m+1) 0)++t).set (b.length+m) x=(b++List.replicate m 0)++(x :: t):=by
 rw [List.replicate_succ',←List.append_assoc,List.append_assoc (b++List.replicate m 0),List.set_append_right _ _ (by simp)]
 simp
theorem p_PutDecimal (b:List UInt8) (n size:Int) (hb:b.length≤100000000) (hn:n≤9223372036854775807):f_packed_PutDecimal b n size=some (putF b n size):=by
 unfold f_packed_PutDecimal putF
 by_cases h:size < 1∨size > 9∨n < 0
 ·rw [if_pos (by simpa [or_assoc] using h),if_pos h]
 ·rw [if_neg (by simpa [or_assoc] using h),if_neg h]
  have h1:1≤size∧size≤9∧0≤n:=by omega
  obtain ⟨k,rfl⟩:∃ k:Nat,size=k:=⟨size.toNat,by omega⟩
  have e0:Int.toNat ((b.length:Int)+(k:Int))=b.length+k:=by omega
  have e1:b.take (min b.length (List.replicate (Int.toNat ((b.length:Int)+(k:Int))) 0:List UInt8).length)++(List.replicate (Int.toNat ((b.length:Int)+(k:Int))) 0:List UInt8).drop (min b.length (List.replicate (Int.toNat ((b.length:Int)+(k:Int))) 0:List UInt8).length)=b++List.replicate k 0:=by
   rw [e0,List.length_replicate,Nat.min_eq_left (by omega),List.take_length,List.drop_replicate]
   congr 2; omega
  rw [e1,ck_pos (by omega),ck_pos (by omega),ck_pos (by simp; omega)]
  have:=loop_post (step:=fun s=>f_packed_PutDecimal_l1 b s.1 s.2.1 s.2.2) (fun r=>r=if n / 100 ^ (k:Int).toNat > 0 then ([],6) else (b++packF (k:Int).toNat n,0))
   (fun s:List UInt8×Int×Int=>∃ j,j≤k∧s=((b++List.replicate (k-j) 0)++packF j n,n / 100 ^ j,((b.length+k-j:Nat):Int) - 1)) (fun s=>(s.2.2+1).toNat) (fun s hI=>by
    obtain ⟨j,hj,rfl⟩:=hI
    simp only []
    have hnn:=div_pow_nn h1.2.2 j
    have hle:=div_pow_le h1.2.2 j
    unfold f_packed_PutDecimal_l1
    by_cases hjk:j=k
    ·subst hjk
     rw [if_neg (by simp; omega)]
     refine .inl ⟨_,?_,rfl⟩
     unfold f_packed_PutDecimal_j1
     simp only [Nat.sub_self,List.replicate_zero,List.append_nil,Int.toNat_natCast]
     by_cases hp:n / 100 ^ j > 0
     ·rw [if_pos (by simpa using hp),if_pos hp]; rfl
     ·rw [if_neg (by simpa using hp),if_neg hp]; rfl
    ·obtain ⟨m,hm⟩:∃ m,k-j=m+1:=⟨k-j-1,by omega⟩
     rw [if_pos (by simp; omega)]
     generalize hq:n / 100 ^ j=q at hnn hle
     have hq10:0≤q / 10:=by omega
     rw [tdiv_nn hnn,tdiv_nn hnn,tmod_nn hq10,tmod_nn hnn]
     have hx:0≤q / 10 % 10∧q / 10 % 10 < 10:=by omega
     have e4:(2:Int) ^ (Int.toNat 4)=16:=by decide
     rw [or_dig hx (by omega),e4]
     have hlen:((b++List.replicate (k-j) 0)++packF j n).length=b.length+k:=by simp [packF_len]; omega
     have ei:Int.toNat (((b.length+k-j:Nat):Int) - 1)=b.length+m:=by omega
     rw [ck_pos (by omega),ck_pos (by omega),ck_pos (by omega),ck_pos (by omega),ck_pos (by rw [hlen]; omega),ck_pos (by rw [hlen]; omega),ck_pos (by omega),ck_pos (by omega)]
     refine .inr ⟨_,rfl,⟨j+1,by omega,?_⟩,?_⟩
     ·have e5:k-(j+1)=m:=by omega
      rw [ei,hm,set_last,e5]
      refine Prod.ext ?_ (Prod.ext ?_ ?_)
      ·show _=_++packF (j+1) n
       rw [packF,hq]; rfl
      ·show q / 100=n / 100 ^ (j+1)
       rw [←hq,div_pow]
      ·simp only []; omega
     ·simp only []; omega) (s:=(b++List.replicate k 0,n,((b++List.replicate k 0).length:Int) - 1)) ⟨0,by omega,by simp [packF]⟩ (by simp; omega)
  obtain ⟨r,hr,rfl⟩:=this
  exact hr
theorem u8_all {p:UInt8→Prop} (h:∀ n:Fin 256,p (UInt8.ofNat n.val)) (x:UInt8):p x:=by
 have:=h ⟨x.toNat,x.toNat_lt⟩
 simpa using this
theorem u8_hi (x:UInt8):u8shr x 4=x / 16:=u8_all (p:=fun x=>u8shr x 4=x / 16) (by decide +kernel) x
theorem u8_lo (x:UInt8):x &&& 15=x % 16:=u8_all (p:=fun x=>x &&& 15=x % 16) (by decide +kernel) x
theorem u8_hin (x:UInt8):(x / 16).toNat=x.toNat / 16:=by simp
theorem u8_lon (x:UInt8):(x % 16).toNat=x.toNat % 16:=by simp
def decS:Int→List UInt8→Int×Int
 | n,[]=>(n,0)
 | n,x :: xs=>if 9 < x.toNat / 16∨9 < x.toNat % 16 then (0,1) else decS (100*n+((x.toNat / 16:Nat):Int)*10+((x.toNat % 16:Nat):Int)) xs
def decD (b:List UInt8):Int×Int:=if b.length < 1∨b.length > 9 then (0,6) else decS 0 b
theorem decS_drop {b:List UInt8} {i:Nat} (n:Int) (h:i < b.length):decS n (b.drop i)=if 9 < (nth b i).toNat / 16∨9 < (nth b i).toNat % 16 then (0,1) else decS (100*n+(((nth b i).toNat / 16:Nat):Int)*10+(((nth b i).toNat % 16:Nat):Int)) (b.drop (i+1)):=by
 rw [nth_eq h,List.drop_eq_getElem_cons h,decS]
theorem u8_gt9h (x:UInt8):(decide ((x / 16) > 9))=decide (9 < x.toNat / 16):=by
 rw [Bool.eq_iff_iff,decide_eq_true_iff,decide_eq_true_iff,gt_iff_lt,UInt8.lt_iff_toNat_lt,u8_hin]; exact Iff.rfl
theorem u8_gt9l (x:UInt8):(decide ((x % 16) > 9))=decide (9 < x.toNat % 16):=by
 rw [Bool.eq_iff_iff,decide_eq_true_iff,decide_eq_true_iff,gt_iff_lt,UInt8.lt_iff_toNat_lt,u8_lon]; exact Iff.rfl
def decI (b:List UInt8) (n i:Int):Prop:=0≤i∧i≤(b.length:Int)∧0≤n∧n < 100 ^ i.toNat
theorem decI_step {b:List UInt8} {n i:Int} {x y:Nat} (h:decI b n i) (hi:i < (b.length:Int)) (hx:x≤9) (hy:y≤9):decI b (100*n+(x:Int)*10+(y:Int)) (i+1):=by
 obtain ⟨h1,h2,h3,h4⟩:=h
 have:(i+1).toNat=i.toNat+1:=by omega
 refine ⟨by omega,by omega,by omega,?_⟩
 rw [this,pow100_succ]
 omega
theorem pow_le8 {k:Nat} (h:k≤8):(100:Int) ^ k≤10000000000000000:=by
 have:∀ j:Fin 9,(100:Int) ^ j.val≤10000000000000000:=by decide +kernel
 exact this ⟨k,by omega⟩
theorem p_Decimal (b:List UInt8) (hb:b.length≤1000000000):f_packed_Decimal b=some (decD b):=by
 unfold f_packed_Decimal decD
 by_cases h:b.length < 1∨b.length > 9
 ·rw [if_pos (by simp; omega),if_pos h]
 ·rw [if_neg (by simp; omega),if_neg h]
  refine loop_spec (fun s=>some (decS s.1 (b.drop s.2.toNat))) (fun s:Int×Int=>decI b s.1 s.2) (fun s=>((b.length:Int) - s.2).toNat) (fun s hI=>?_) ⟨by omega,by omega,by omega,by simp⟩ (by simp; omega)
  obtain ⟨n,i⟩:=s
  obtain ⟨h1,h2,h3,h4⟩:=id hI
  simp only [] at *
  unfold f_packed_Decimal_l1
  by_cases hi:i < (b.length:Int)
  ·have hp:=pow_le8 (k:=i.toNat) (by omega)
   rw [if_pos (by simpa using hi),ck_pos ⟨h1,hi⟩,ck_pos (by decide),u8_hi,u8_lo,u8_gt9h,u8_gt9l]
   have hd:=decS_drop n (show i.toNat < b.length by omega)
   generalize nth b (i.toNat)=x at hd
   by_cases hx:9 < x.toNat / 16∨9 < x.toNat % 16
   ·rw [if_pos (by simpa using hx)]
    exact .inl ⟨_,rfl,by rw [hd,if_pos hx]⟩
   ·rw [if_neg (by simpa using hx),u8_hin,u8_lon,ck_pos (by omega),ck_pos (by decide),ck_pos (by omega),ck_pos (by omega),ck_pos (by omega),ck_pos (by omega)]
    refine .inr ⟨_,rfl,decI_step hI hi (by omega) (by omega),by simp only []; omega,?_⟩
    rw [hd,if_neg hx,show (i+1).toNat=i.toNat+1 by omega]
  ·rw [if_neg (by simpa using hi)]
   refine .inl ⟨_,rfl,?_⟩
   rw [List.drop_of_length_le (by omega)]; rfl
theorem pk_nat (q:Int) (h:0≤q):(pk q).toNat / 16=(q / 10 % 10).toNat∧(pk q).toNat % 16=(q % 10).toNat:=by
 have key:∀ x y:Fin 10,(UInt8.ofInt ((x.val:Int)*16+(y.val:Int))).toNat=x.val*16+y.val:=by decide +kernel
 have:=key ⟨(q / 10 % 10).toNat,by omega⟩ ⟨(q % 10).toNat,by omega⟩
 simp only [Int.toNat_of_nonneg (show 0≤q / 10 % 10 by omega),Int.toNat_of_nonneg (show 0≤q % 10 by omega)] at this
 unfold pk
 rw [this]
 omega
theorem dec_pack {n:Int} (h:0≤n):∀ (k:Nat) (m:Int),decS m (packF k n)=(m*100 ^ k+n % 100 ^ k,0)
 | 0,m=>by simp [packF,decS,Int.emod_one]
 | k+1,m=>by
  obtain ⟨h1,h2⟩:=pk_nat (n / 100 ^ k) (div_pow_nn h k)
  have hq:=div_pow_nn h k
  rw [packF,decS,h1,h2,if_neg (by omega),dec_pack h k]
  have e:n % 100 ^ (k+1)=(n / 100 ^ k % 100)*100 ^ k+n % 100 ^ k:=by
   rw [Int.emod_def n (100 ^ (k+1)),←div_pow,pow100_succ,Int.emod_def n (100 ^ k),Int.emod_def (n / 100 ^ k) 100]
   generalize n / 100 ^ k / 100=u
   generalize n / 100 ^ k=q
   generalize (100:Int) ^ k=P
   have a1:P*100*u=100*(P*u):=by rw [Int.mul_comm P 100,Int.mul_assoc]
   have a2:(q-100*u)*P=P*q-100*(P*u):=by rw [Int.sub_mul,Int.mul_comm q P,Int.mul_assoc,Int.mul_comm u P]
   omega
  have e2:((n / 100 ^ k / 10 % 10).toNat:Int)*10+((n / 100 ^ k % 10).toNat:Int)=n / 100 ^ k % 100:=by omega
  refine Prod.ext ?_ rfl
  simp only []
  rw [e,←e2,pow100_succ,Int.add_mul,Int.add_mul,Int.add_mul]
  have e3:100*m*100 ^ k=m*(100 ^ k*100):=by rw [Int.mul_comm 100 m,Int.mul_assoc,Int.mul_comm 100]
  rw [e3]; omega
theorem decD_pack {n:Int} {k:Nat} (h:0≤n) (hn:n < 100 ^ k) (hk:1≤k∧k≤9):decD (packF k n)=(n,0):=by
 unfold decD
 rw [packF_len,if_neg (by omega),dec_pack h,Int.emod_eq_of_lt h hn]
 simp
end Go.Proofs.YthoengcicaicoaaGreatDoor.C11
namespace Go.Proofs.YthoengcicaicoaaGreatDoor
open Go.RowKit Go.Abs
def zz (u:Int):Int:=if u % 2=1 then -(u / 2) - 1 else u / 2
def numC:Nat→Int→List UInt8→Int×Nat×Int
 | _,_,[]=>(0,0,2)
 | i,u,x :: t=>if (i=9∧x≠1)∨(0 < i∧x=0) then (0,0,1) else if x.toNat < 128 then (zz (u+(x.toNat:Int)*128 ^ i),i+1,0) else numC (i+1) (u+((x.toNat % 128:Nat):Int)*128 ^ i) t
def numN (b:List UInt8):Int×List UInt8×Int:=if (numC 0 0 b).2.2=0 then ((numC 0 0 b).1,b.drop (numC 0 0 b).2.1,0) else (0,[],(numC 0 0 b).2.2)
theorem pow128 (i:Nat):(128:Int) ^ i=((2 ^ (7*i):Nat):Int):=by
 rw [Nat.pow_mul]; simp
theorem pow128_tab:∀ i:Fin 10,(128:Int) ^ i.val≤9223372036854775808∧1≤(128:Int) ^ i.val:=by decide
theorem pow128_tab8:∀ i:Fin 9,(128:Int) ^ i.val≤72057594037927936:=by decide
theorem pow128_le {i:Nat} (h:i≤9):(128:Int) ^ i≤9223372036854775808∧1≤(128:Int) ^ i:=pow128_tab ⟨i,by omega⟩
theorem pow128_8 {i:Nat} (h:i≤8):(128:Int) ^ i≤72057594037927936:=pow128_tab8 ⟨i,by omega⟩
theorem wrap_u64 {n:Int} (h0:0≤n) (h1:n < 18446744073709551616):IntKind.wrap .u64 n=n:=by simp [IntKind.wrap,IntKind.bits,IntKind.signed]; omega
theorem wrap_i64' {n:Int} (h0:-9223372036854775808≤n) (h1:n≤9223372036854775807):IntKind.wrap .i64 n=n:=by simp [IntKind.wrap,IntKind.bits,IntKind.signed]; omega
theorem bor_add {i:Nat} {u c:Int} (hu0:0≤u) (hu:u < 128 ^ i) (hc:0≤c) (h:u+c*128 ^ i < 18446744073709551616):bOr .u64 u (c*128 ^ i)=u+c*128 ^ i:=by
 have hp:=pow128 i
 have hcp:0≤c*128 ^ i:=Int.mul_nonneg hc (by have:=Int.pow_pos (n:=128) (m:=i) (by decide); omega)
 unfold bOr
 obtain ⟨a,rfl⟩:=Int.eq_ofNat_of_zero_le hu0
 obtain ⟨k,rfl⟩:=Int.eq_ofNat_of_zero_le hc
 rw [hp] at hu h hcp ⊢
 have hu':a < 2 ^ (7*i):=by exact_mod_cast hu
 have e1:((k:Int)*((2 ^ (7*i):Nat):Int))=((2 ^ (7*i)*k:Nat):Int):=by push_cast; exact Int.mul_comm _ _
 rw [e1] at h hcp ⊢
 have h':a+2 ^ (7*i)*k < 18446744073709551616:=by have:=h; generalize 2 ^ (7*i)*k=z at this ⊢; omega
 have e2:(BitVec.ofInt (IntKind.bits .u64) (a:Int) ||| BitVec.ofInt (IntKind.bits .u64) ((2 ^ (7*i)*k:Nat):Int)).toNat=a+2 ^ (7*i)*k:=by
  rw [BitVec.toNat_or,BitVec.ofInt_natCast,BitVec.ofInt_natCast,BitVec.toNat_ofNat,BitVec.toNat_ofNat]
  have b1:a % 2 ^ IntKind.bits .u64=a:=Nat.mod_eq_of_lt (show a < 18446744073709551616 by omega)
  have b2:2 ^ (7*i)*k % 2 ^ IntKind.bits .u64=2 ^ (7*i)*k:=Nat.mod_eq_of_lt (show 2 ^ (7*i)*k < 18446744073709551616 by omega)
  rw [b1,b2,Nat.or_comm,←Nat.two_pow_add_eq_or_of_lt hu',Nat.add_comm]
 rw [e2,wrap_u64 (by omega) (by have:=h'; generalize 2 ^ (7*i)*k=z at this ⊢; omega)]
 push_cast; rfl
theorem and127:∀ x:UInt8,(x &&& 127).toNat=x.toNat % 128:=by
 intro x
 have h:=C11.u8_all (p:=fun x=>(x &&& 127).toNat=x.toNat % 128) (by decide +kernel) x
 exact h
theorem p_back (u:Int) (h0:0≤u) (h1:u < 18446744073709551616):f_codec_back u=some (zz u):=by
 unfold f_codec_back
 have ea:bAnd .u64 u 1=u % 2:=by
  unfold bAnd
  obtain ⟨a,rfl⟩:=Int.eq_ofNat_of_zero_le h0
  have e2:(BitVec.ofInt (IntKind.bits .u64) (a:Int) &&& BitVec.ofInt (IntKind.bits .u64) 1).toNat=a % 2:=by
   rw [BitVec.toNat_and,BitVec.ofInt_natCast,BitVec.toNat_ofNat]
   have b1:a % 2 ^ IntKind.bits .u64=a:=Nat.mod_eq_of_lt (show a < 18446744073709551616 by omega)
   have b2:(BitVec.ofInt (IntKind.bits .u64) 1).toNat=1:=by decide
   rw [b1,b2,Nat.and_one_is_mod]
  rw [e2,wrap_u64 (by omega) (by omega)]; omega
 have ef:Int.fdiv u (2 ^ (min (Int.toNat (1)) 64))=u / 2:=by
  have:(2:Int) ^ (min (Int.toNat (1)) 64)=2:=by decide
  rw [this,Int.fdiv_eq_ediv_of_nonneg _ (by decide)]
 rw [ea,ef,wrap_i64' (n:=u % 2) (by omega) (by omega),wrap_i64' (n:=u / 2) (by omega) (by omega),ck_pos (by decide),ck_pos (by omega)]
 congr 1
 unfold zz
 have hm:0≤u / 2∧u / 2≤9223372036854775807:=by omega
 generalize u / 2=q at *
 by_cases ho:u % 2=1
 ·rw [if_pos ho,ho]
  unfold bXor
  obtain ⟨a,rfl⟩:=Int.eq_ofNat_of_zero_le hm.1
  have e2:BitVec.ofInt (IntKind.bits .i64) (-1)=BitVec.allOnes (IntKind.bits .i64):=by decide
  rw [e2,BitVec.xor_allOnes,BitVec.toNat_not,BitVec.ofInt_natCast,BitVec.toNat_ofNat]
  have b1:a % 2 ^ IntKind.bits .i64=a:=Nat.mod_eq_of_lt (show a < 18446744073709551616 by omega)
  rw [b1]
  simp [IntKind.wrap,IntKind.bits,IntKind.signed]
  omega
 ·rw [if_neg ho]
  have:u % 2=0:=by omega
  rw [this]
  unfold bXor
  obtain ⟨a,rfl⟩:=Int.eq_ofNat_of_zero_le hm.1
  have e2:BitVec.ofInt (IntKind.bits .i64) (-0)=0#(IntKind.bits .i64):=by decide
  rw [e2,BitVec.xor_zero,BitVec.ofInt_natCast,BitVec.toNat_ofNat]
  have b1:a % 2 ^ IntKind.bits .i64=a:=Nat.mod_eq_of_lt (show a < 18446744073709551616 by omega)
  rw [b1,wrap_i64' (by omega) (by omega)]
theorem numC_drop {b:List UInt8} {k:Nat} (i:Nat) (u:Int) (h:k < b.length):numC i u (b.drop k)=if (i=9∧nth b k≠1)∨(0 < i∧nth b k=0) then (0,0,1) else if (nth b k).toNat < 128 then (zz (u+((nth b k).toNat:Int)*128 ^ i),i+1,0) else numC (i+1) (u+(((nth b k).toNat % 128:Nat):Int)*128 ^ i) (b.drop (k+1)):=by
 rw [drop_nth h]; rfl
theorem lt128 {x:UInt8}:decide (x < 128)=decide (x.toNat < 128):=by
 congr 1
def numI (b:List UInt8) (u i:Int):Prop:=0≤i∧i≤9∧i≤(b.length:Int)∧0≤u∧u < 128 ^ i.toNat
theorem numI_step {b:List UInt8} {u i:Int} {x:UInt8} (h:numI b u i) (hi:i < (b.length:Int)) (hx:¬ ((i.toNat=9∧x≠1)∨(0 < i.toNat∧x=0))) :
  u+(x.toNat:Int)*128 ^ i.toNat < 18446744073709551616∧(¬ x.toNat < 128→numI b (u+((x.toNat % 128:Nat):Int)*128 ^ i.toNat) (i+1)):=by
 obtain ⟨h0,h9,hl,hu0,hu⟩:=h
 have hp:=pow128_le (i:=i.toNat) (by omega)
 have hx8:=x.toNat_lt
 by_cases h9':i.toNat=9
 ·have hx1:x=1:=by
   rcases Decidable.em (x=1) with h | h
   ·exact h
   ·exact absurd (.inl ⟨h9',h⟩) hx
  subst hx1
  have:(1:UInt8).toNat=1:=rfl
  rw [this]
  exact ⟨by omega,fun h=>absurd (by omega) h⟩
 ·have h8:=pow128_8 (i:=i.toNat) (by omega)
  have hmul:(x.toNat:Int)*128 ^ i.toNat≤255*128 ^ i.toNat:=Int.mul_le_mul_of_nonneg_right (by omega) (by omega)
  refine ⟨by omega,fun hn=>⟨by omega,by omega,by omega,?_,?_⟩⟩
  ·have:0≤((x.toNat % 128:Nat):Int)*128 ^ i.toNat:=Int.mul_nonneg (by omega) (by omega)
   omega
  ·have e:(i+1).toNat=i.toNat+1:=by omega
   have hm2:((x.toNat % 128:Nat):Int)*128 ^ i.toNat≤127*128 ^ i.toNat:=Int.mul_le_mul_of_nonneg_right (by omega) (by omega)
   rw [e,Int.pow_succ]; omega
theorem p_scan (b:List UInt8) (hb:b.length≤1000000):f_codec_scan b=some ((numC 0 0 b).1,((numC 0 0 b).2.1:Int),(numC 0 0 b).2.2):=by
 unfold f_codec_scan
 have:=loop_spec (step:=fun s:Int×Int=>f_codec_scan_l1 b s.1 s.2) (fun s=>let r:=numC s.2.toNat s.1 (b.drop s.2.toNat); some (r.1,(r.2.1:Int),r.2.2)) (fun s=>numI b s.1 s.2) (fun s=>((b.length:Int) - s.2).toNat) (by
  rintro ⟨u,i⟩ hI
  have hI0:numI b u i:=hI
  clear hI
  obtain ⟨h0,h9,hl,hu0,hu⟩:=id hI0
  simp only
  unfold f_codec_scan_l1
  by_cases hi:i < (b.length:Int)
  ·rw [if_pos (by simpa using hi),ck_pos ⟨h0,hi⟩,numC_drop _ _ (by omega)]
   generalize hx:nth b i.toNat=x
   by_cases hc:(i.toNat=9∧x≠1)∨(0 < i.toNat∧x=0)
   ·have hc':(((i==9) && (x != 1)) || ((decide (i > 0)) && (x==0)))=true:=by
     simp only [Bool.or_eq_true,Bool.and_eq_true,beq_iff_eq,bne_iff_ne,decide_eq_true_eq]
     rcases hc with ⟨a,c⟩ | ⟨a,c⟩
     ·exact .inl ⟨by omega,c⟩
     ·exact .inr ⟨by omega,c⟩
    rw [if_pos hc',if_pos hc]
    exact .inl ⟨_,rfl,rfl⟩
   ·have hc':¬ (((i==9) && (x != 1)) || ((decide (i > 0)) && (x==0)))=true:=by
     simp only [Bool.or_eq_true,Bool.and_eq_true,beq_iff_eq,bne_iff_ne,decide_eq_true_eq]
     rintro (⟨a,c⟩ | ⟨a,c⟩)
     ·exact hc (.inl ⟨by omega,c⟩)
     ·exact hc (.inr ⟨by omega,c⟩)
    obtain ⟨s1,s2⟩:=numI_step hI0 hi hc
    have hp:=pow128_le (i:=i.toNat) (by omega)
    have hsh:IntKind.wrap .u64 ((IntKind.wrap .u64 ((x &&& 127).toNat:Int))*2 ^ (min (Int.toNat (7*i)) 64))=((x.toNat % 128:Nat):Int)*128 ^ i.toNat:=by
     rw [and127,wrap_u64 (n:=((x.toNat % 128:Nat):Int)) (by omega) (by omega)]
     have e1:min (Int.toNat (7*i)) 64=7*i.toNat:=by omega
     have e2:(2:Int) ^ (7*i.toNat)=128 ^ i.toNat:=by rw [pow128]; simp
     rw [e1,e2]
     refine wrap_u64 (Int.mul_nonneg (by omega) (by omega)) ?_
     have:((x.toNat % 128:Nat):Int)*128 ^ i.toNat≤(x.toNat:Int)*128 ^ i.toNat:=Int.mul_le_mul_of_nonneg_right (by omega) (by omega)
     omega
    have hor:bOr .u64 u (((x.toNat % 128:Nat):Int)*128 ^ i.toNat)=u+((x.toNat % 128:Nat):Int)*128 ^ i.toNat:=by
     refine bor_add hu0 hu (by omega) ?_
     have:((x.toNat % 128:Nat):Int)*128 ^ i.toNat≤(x.toNat:Int)*128 ^ i.toNat:=Int.mul_le_mul_of_nonneg_right (by omega) (by omega)
     omega
    rw [if_neg hc',if_neg hc,ck_pos (by omega),ck_pos (by omega),hsh,hor,lt128]
    by_cases hx1:x.toNat < 128
    ·have hm:((x.toNat % 128:Nat):Int)=(x.toNat:Int):=by omega
     have hnn:0≤(x.toNat:Int)*128 ^ i.toNat:=Int.mul_nonneg (by omega) (by omega)
     rw [if_pos (by simpa using hx1),if_pos hx1,hm,p_back _ (by omega) s1]
     simp only [Option.bind_some]
     rw [ck_pos (by omega)]
     refine .inl ⟨_,rfl,?_⟩
     simp only [Option.some.injEq,Prod.mk.injEq,true_and,and_true]
     omega
    ·rw [if_neg (by simpa using hx1),if_neg hx1,ck_pos (by omega)]
     refine .inr ⟨_,rfl,s2 hx1,by simp only; omega,?_⟩
     simp only
     rw [show (i+1).toNat=i.toNat+1 from by omega]
  ·have e:i=(b.length:Int):=by omega
   subst e
   rw [if_neg (by simp)]
   refine .inl ⟨_,rfl,?_⟩
   simp [numC]) (s:=(0,0)) ⟨by simp,by simp,by simp,by simp,by simp⟩ (by simp; omega)
 simpa using this
theorem p_rest (b:List UInt8) (c:Nat) (hc:c≤b.length) (hb:b.length≤1000000):f_codec_rest b (c:Int)=some (b.drop c):=by
 unfold f_codec_rest
 rw [ck_pos (by omega),ck_pos (by omega),ck_pos (by omega)]
 have e1:b.take (Int.toNat ((b.length:Int)))=b:=List.take_of_length_le (by omega)
 have e2:Int.toNat (c:Int)=c:=by omega
 have e3:Int.toNat ((b.length:Int) - (c:Int))=b.length-c:=by omega
 rw [e1,e2,e3]
 simp
 exact List.take_of_length_le (by simp)
theorem numC_le:∀ (b:List UInt8) (i:Nat) (u:Int),(numC i u b).2.2=0→i < (numC i u b).2.1∧(numC i u b).2.1≤i+b.length
 | [],i,u,h=>by simp [numC] at h
 | x :: t,i,u,h=>by
  unfold numC at h ⊢
  split at h
  ·cases h
  ·rename_i hc
   rw [if_neg hc]
   split at h
   ·rename_i hx
    rw [if_pos hx]; simp
   ·rename_i hx
    rw [if_neg hx]
    have:=numC_le t (i+1) _ h
    simp only [List.length_cons]; omega
theorem p_Number (b:List UInt8) (hb:b.length≤1000000):f_codec_Number b=some (numN b):=by
 unfold f_codec_Number numN
 rw [p_scan b hb]
 simp only [Option.bind_some]
 by_cases h:(numC 0 0 b).2.2=0
 ·have:=numC_le b 0 0 h
  rw [if_neg (by simp [h]),if_pos h,p_rest b _ (by omega) hb]
  rfl
 ·rw [if_pos (by simpa using h),if_neg h]
theorem numN_of {b:List UInt8}:numN b=let r:=numC 0 0 b; if r.2.2=0 then (r.1,b.drop r.2.1,0) else (0,[],r.2.2):=rfl
theorem numC_take:∀ (b:List UInt8) (i:Nat) (u:Int),i≤9→numC i u (b.take (10-i))=numC i u b
 | [],i,u,_=>by simp
 | x :: t,i,u,h=>by
  have e:10-i=(9-i)+1:=by omega
  rw [e,List.take_succ_cons]
  unfold numC
  split
  ·rfl
  ·rename_i hc
   split
   ·rfl
   ·rename_i hx
    have h8:i≠9:=fun h9=>by
     have h1:x=1:=by
      rcases Decidable.em (x=1) with h | h
      ·exact h
      ·exact absurd (.inl ⟨h9,h⟩) hc
     subst h1
     exact hx (by decide)
    have:=numC_take t (i+1) (u+((x.toNat % 128:Nat):Int)*128 ^ i) (by omega)
    rw [show 10-(i+1)=9-i from by omega] at this
    exact this
def be4 (a b c d:UInt8):Int:=(a.toNat:Int)*16777216+(b.toNat:Int)*65536+(c.toNat:Int)*256+(d.toNat:Int)
def unwF (b:List UInt8):List UInt8×List UInt8×Int :=
 let r:=numC 0 0 b
 if r.2.2≠0 then ([],[],r.2.2) else if r.1 < 0 then ([],[],1) else if 1048576 < r.1 then ([],[],5) else
 if b.length < r.2.1+4+r.1.toNat then ([],[],2) else
 if sumW ((b.drop (r.2.1+4)).take r.1.toNat)≠be4 (nth b r.2.1) (nth b (r.2.1+1)) (nth b (r.2.1+2)) (nth b (r.2.1+3)) then ([],[],4) else
 ((b.drop (r.2.1+4)).take r.1.toNat,b.drop (r.2.1+4+r.1.toNat),0)
theorem wrap_u32 {n:Int} (h0:0≤n) (h1:n < 4294967296):IntKind.wrap .u32 n=n:=by simp [IntKind.wrap,IntKind.bits,IntKind.signed]; omega
theorem bor32 {k a c:Nat} (ha:a < 2 ^ k) (h:a+2 ^ k*c < 4294967296):bOr .u32 ((2 ^ k*c:Nat):Int) ((a:Nat):Int)=((2 ^ k*c+a:Nat):Int):=by
 unfold bOr
 have e2:(BitVec.ofInt (IntKind.bits .u32) ((2 ^ k*c:Nat):Int) ||| BitVec.ofInt (IntKind.bits .u32) (a:Int)).toNat=2 ^ k*c+a:=by
  rw [BitVec.toNat_or,BitVec.ofInt_natCast,BitVec.ofInt_natCast,BitVec.toNat_ofNat,BitVec.toNat_ofNat]
  have b1:a % 2 ^ IntKind.bits .u32=a:=Nat.mod_eq_of_lt (show a < 4294967296 by omega)
  have b2:2 ^ k*c % 2 ^ IntKind.bits .u32=2 ^ k*c:=Nat.mod_eq_of_lt (show 2 ^ k*c < 4294967296 by omega)
  rw [b1,b2,←Nat.two_pow_add_eq_or_of_lt ha]
 rw [e2]
 exact wrap_u32 (by omega) (by omega)
theorem be4_or (a b c d:UInt8):bOr .u32 (bOr .u32 (bOr .u32 ((a.toNat:Int)*16777216) ((b.toNat:Int)*65536)) ((c.toNat:Int)*256)) (d.toNat:Int)=be4 a b c d:=by
 have ha:=a.toNat_lt; have hb:=b.toNat_lt; have hc:=c.toNat_lt; have hd:=d.toNat_lt
 have h1:=bor32 (k:=24) (a:=b.toNat*65536) (c:=a.toNat) (by omega) (by omega)
 have h2:=bor32 (k:=16) (a:=c.toNat*256) (c:=a.toNat*256+b.toNat) (by omega) (by omega)
 have h3:=bor32 (k:=8) (a:=d.toNat) (c:=a.toNat*65536+b.toNat*256+c.toNat) (by omega) (by omega)
 have e1:(a.toNat:Int)*16777216=((2 ^ 24*a.toNat:Nat):Int):=by omega
 have e2:(b.toNat:Int)*65536=((b.toNat*65536:Nat):Int):=by omega
 have e3:(c.toNat:Int)*256=((c.toNat*256:Nat):Int):=by omega
 rw [e1,e2,h1,show ((2 ^ 24*a.toNat+b.toNat*65536:Nat):Int)=((2 ^ 16*(a.toNat*256+b.toNat):Nat):Int) from by omega,e3,h2,
  show ((2 ^ 16*(a.toNat*256+b.toNat)+c.toNat*256:Nat):Int)=((2 ^ 8*(a.toNat*65536+b.toNat*256+c.toNat):Nat):Int) from by omega,h3]
 unfold be4; omega
theorem shl32 (x:UInt8) (k:Nat) (hk:k=24∨k=16∨k=8):IntKind.wrap .u32 ((IntKind.wrap .u32 (x.toNat:Int))*2 ^ (min (Int.toNat (k:Int)) 32))=(x.toNat:Int)*2 ^ k:=by
 have hx:=x.toNat_lt
 rw [wrap_u32 (n:=(x.toNat:Int)) (by omega) (by omega)]
 rcases hk with rfl | rfl | rfl
 ·have e:(2:Int) ^ (min (Int.toNat ((24:Nat):Int)) 32)=16777216:=by decide
  have e':(2:Int) ^ 24=16777216:=by decide
  rw [e,e',wrap_u32 (by omega) (by omega)]
 ·have e:(2:Int) ^ (min (Int.toNat ((16:Nat):Int)) 32)=65536:=by decide
  have e':(2:Int) ^ 16=65536:=by decide
  rw [e,e',wrap_u32 (by omega) (by omega)]
 ·have e:(2:Int) ^ (min (Int.toNat ((8:Nat):Int)) 32)=256:=by decide
  have e':(2:Int) ^ 8=256:=by decide
  rw [e,e',wrap_u32 (by omega) (by omega)]
theorem shl24 (x:UInt8):IntKind.wrap .u32 ((IntKind.wrap .u32 (x.toNat:Int))*2 ^ (min (Int.toNat (24)) 32))=(x.toNat:Int)*16777216:=shl32 x 24 (by simp)
theorem shl16 (x:UInt8):IntKind.wrap .u32 ((IntKind.wrap .u32 (x.toNat:Int))*2 ^ (min (Int.toNat (16)) 32))=(x.toNat:Int)*65536:=shl32 x 16 (by simp)
theorem shl8 (x:UInt8):IntKind.wrap .u32 ((IntKind.wrap .u32 (x.toNat:Int))*2 ^ (min (Int.toNat (8)) 32))=(x.toNat:Int)*256:=shl32 x 8 (by simp)
theorem take_m (b:List UInt8):b.take (Int.toNat (if 10 < (b.length:Int) then 10 else (b.length:Int)))=b.take 10:=by
 split
 ·rfl
 ·rw [List.take_of_length_le (by omega),List.take_of_length_le (by omega)]
theorem p_copied (b:List UInt8) (i j:Nat) (h1:i≤j) (h2:j≤b.length) (hb:b.length≤1000000):f_frame_copied b (i:Int) (j:Int)=some ((b.drop i).take (j-i)):=by
 unfold f_frame_copied
 rw [ck_pos (by omega),ck_pos (by omega),ck_pos (by omega)]
 have e1:Int.toNat (i:Int)=i:=by omega
 have e2:Int.toNat (j:Int)=j:=by omega
 have e3:Int.toNat ((j:Int) - (i:Int))=j-i:=by omega
 rw [e1,e2,e3,List.drop_take]
 have e4:((b.drop i).take (j-i)).length=j-i:=by simp; omega
 simp only [e4,List.length_replicate,Nat.min_self]
 rw [List.take_take,Nat.min_self,List.drop_of_length_le (l:=List.replicate (j-i) (0:UInt8)) (by simp),List.append_nil]
theorem p_Unwrap (b:List UInt8) (hb:b.length≤1000000):f_frame_Unwrap b=some (unwF b):=by
 unfold f_frame_Unwrap f_frame_locate unwF
 rw [ck_pos (by split <;> omega),take_m,p_Number _ (by simp; omega),numN_of,numC_take b 0 0 (by omega)]
 have hle:=numC_le (b.take 10) 0 0
 rw [numC_take b 0 0 (by omega)] at hle
 generalize numC 0 0 b=r at hle ⊢
 obtain ⟨n,c,e⟩:=r
 simp only [Option.bind_some] at hle ⊢
 have hl10:(b.take 10).length=min 10 b.length:=List.length_take
 by_cases he:e=0
 ·subst he
  have hle:=hle rfl
  simp only [if_true,ne_eq,not_true_eq_false,if_false]
  rw [if_neg (by simp)]
  by_cases h1:n < 0
  ·rw [if_pos (by simpa using h1),if_pos h1]; rfl
  ·rw [if_neg (by simpa using h1),if_neg h1]
   by_cases h2:1048576 < n
   ·rw [if_pos (by simpa using h2),if_pos h2]; rfl
   ·rw [if_neg (by simpa using h2),if_neg h2]
    have hE:((b.take 10).length:Int) - (((b.take 10).drop c).length:Int)=(c:Int):=by
     rw [List.length_drop]; omega
    have hn:(n.toNat:Int)=n:=by omega
    simp only [hE]
    rw [ck_pos (by omega),ck_pos (by omega),ck_pos (by omega)]
    by_cases h3:b.length < c+4+n.toNat
    ·rw [if_pos (by simp; omega),if_pos h3]; rfl
    ·have g1:Int.toNat (c:Int)=c:=by omega
     have g2:Int.toNat ((c:Int)+1)=c+1:=by omega
     have g3:Int.toNat ((c:Int)+2)=c+2:=by omega
     have g4:Int.toNat ((c:Int)+3)=c+3:=by omega
     have g5:Int.toNat ((c:Int)+4)=c+4:=by omega
     have g6:Int.toNat ((c:Int)+4+n)=c+4+n.toNat:=by omega
     have ep:(b.take (c+4+n.toNat)).drop (c+4)=(b.drop (c+4)).take n.toNat:=by
      rw [List.drop_take]; congr 1; omega
     rw [if_neg (by simp; omega),if_neg h3,ck_pos (by omega),ck_pos (by decide),ck_pos (by omega),ck_pos (by omega),ck_pos (by decide),ck_pos (by omega),ck_pos (by omega),ck_pos (by decide),ck_pos (by omega),ck_pos (by omega),ck_pos (by omega),ck_pos (by omega),ck_pos (by omega),ck_pos (by omega),
      g1,g2,g3,g4,g5,g6,ep,p_Sum _ (by simp; omega)]
     simp only [Option.bind_some]
     have s1:=shl24 (nth b c)
     have s2:=shl16 (nth b (c+1))
     have s3:=shl8 (nth b (c+2))
     have hd:=(nth b (c+3)).toNat_lt
     rw [s1,s2,s3,wrap_u32 (n:=((nth b (c+3)).toNat:Int)) (by omega) (by omega),be4_or]
     by_cases h4:sumW ((b.drop (c+4)).take n.toNat)=be4 (nth b c) (nth b (c+1)) (nth b (c+2)) (nth b (c+3))
     ·rw [if_neg (by simpa using h4),if_neg (by simpa using h4),ck_pos (by omega),ck_pos (by omega),ck_pos (by omega)]
      simp only [Option.bind_some]
      have k1:(c:Int)+4=((c+4:Nat):Int):=by omega
      have k2:(c:Int)+4+n=((c+4+n.toNat:Nat):Int):=by omega
      rw [if_neg (by simp),k2,k1,p_copied b _ _ (by omega) (by omega) hb]
      simp only [Option.bind_some]
      rw [p_copied b _ _ (by omega) (by omega) hb]
      simp only [Option.bind_some]
      rw [show c+4+n.toNat-(c+4)=n.toNat from by omega,List.take_of_length_le (l:=b.drop (c+4+n.toNat)) (by simp)]
     ·rw [if_pos (by simpa using h4),if_pos h4]; rfl
 ·simp only [if_neg he]
  rw [if_pos (by simpa using he),if_pos he]
  simp only [Option.bind_some]
  rw [if_pos (by simpa using he)]
theorem unwF_le (b:List UInt8):(unwF b).1.length≤b.length∧(unwF b).2.1.length≤b.length:=by
 unfold unwF
 simp only
 split
 ·simp
 ·split
  ·simp
  ·split
   ·simp
   ·split
    ·simp
    ·split
     ·simp
     ·simp; omega
def takF:Nat→List UInt8→List Int×Int
 | 0,b=>([],if b.length > 0 then 3 else 0)
 | k+1,b=>if (numN b).2.2≠0 then ([],(numN b).2.2) else ((numN b).1 :: (takF k (numN b).2.1).1,(takF k (numN b).2.1).2)
theorem numN_le (b:List UInt8):(numN b).2.1.length≤b.length:=by
 unfold numN
 split
 ·simp
 ·simp
theorem takF_len:∀ (k:Nat) (b:List UInt8),(takF k b).2=0→(takF k b).1.length=k
 | 0,b,_=>rfl
 | k+1,b,h=>by
  unfold takF at h ⊢
  split at h
  ·rename_i hn; exact absurd h hn
  ·rename_i hn
   rw [if_neg hn]
   simp only [List.length_cons,takF_len k _ h]
theorem p_nums4 (b:List UInt8) (h:Head) (hb:b.length≤1000000):∃ h',g_batch_numbers b h=some ((takF 4 b).2,h')∧((takF 4 b).2=0→h'=⟨nth (takF 4 b).1 0,nth (takF 4 b).1 1,nth (takF 4 b).1 2,nth (takF 4 b).1 3⟩):=by
 unfold g_batch_numbers
 have l1:=numN_le b
 rw [p_Number b hb]
 simp only [Option.bind_some,takF]
 by_cases e1:(numN b).2.2=0
 ·have l2:=numN_le (numN b).2.1
  rw [if_neg (by simp [e1]),p_Number _ (by omega)]
  simp only [Option.bind_some,e1,ne_eq,not_true_eq_false,if_false]
  generalize (numN b).2.1=b2 at *
  by_cases e2:(numN b2).2.2=0
  ·have l3:=numN_le (numN b2).2.1
   rw [if_neg (by simp [e2]),p_Number _ (by omega)]
   simp only [Option.bind_some,e2,ne_eq,not_true_eq_false,if_false]
   generalize (numN b2).2.1=b3 at *
   by_cases e3:(numN b3).2.2=0
   ·have l4:=numN_le (numN b3).2.1
    rw [if_neg (by simp [e3]),p_Number _ (by omega)]
    simp only [Option.bind_some,e3,ne_eq,not_true_eq_false,if_false]
    generalize (numN b3).2.1=b4 at *
    by_cases e4:(numN b4).2.2=0
    ·rw [if_neg (by simp [e4])]
     simp only [e4,not_true_eq_false,if_false]
     unfold g_batch_numbers_j1
     generalize (numN b4).2.1=b5
     by_cases e5:b5.length > 0
     ·rw [if_pos (by simp only [decide_eq_true_eq]; omega),if_pos e5]
      exact ⟨_,rfl,fun h=>absurd h (by decide)⟩
     ·rw [if_neg (by simp only [decide_eq_true_eq]; omega),if_neg e5]
      exact ⟨_,rfl,fun _=>rfl⟩
    ·rw [if_pos (by simpa using e4)]
     simp only [e4,not_false_eq_true,if_true]
     exact ⟨_,rfl,fun h=>by first | exact absurd h e4 | exact False.elim h⟩
   ·rw [if_pos (by simpa using e3)]
    simp only [e3,not_false_eq_true,if_true]
    exact ⟨_,rfl,fun h=>by first | exact absurd h e3 | exact False.elim h⟩
  ·rw [if_pos (by simpa using e2)]
   simp only [e2,not_false_eq_true,if_true,ne_eq]
   exact ⟨_,rfl,fun h=>by first | exact absurd h e2 | exact False.elim h⟩
 ·rw [if_pos (by simpa using e1)]
  simp only [e1,not_false_eq_true,if_true,ne_eq]
  exact ⟨_,rfl,fun h=>by first | exact absurd h e1 | exact False.elim h⟩
theorem p_nums5 (b:List UInt8) (u:List Int) (c:Int) (hb:b.length≤1000000):∃ h',g_batch_numbers_v1 b ⟨c,u⟩=some ((takF 5 b).2,h')∧((takF 5 b).2=0→h'=⟨nth (takF 5 b).1 0,[nth u 0,nth (takF 5 b).1 1,nth (takF 5 b).1 2,nth (takF 5 b).1 3,nth (takF 5 b).1 4]⟩):=by
 unfold g_batch_numbers_v1
 have l1:=numN_le b
 rw [p_Number b hb]
 simp only [Option.bind_some,takF]
 by_cases e1:(numN b).2.2=0
 ·have l2:=numN_le (numN b).2.1
  rw [if_neg (by simp [e1]),p_Number _ (by omega)]
  simp only [Option.bind_some,e1,ne_eq,not_true_eq_false,if_false]
  generalize (numN b).2.1=b2 at *
  by_cases e2:(numN b2).2.2=0
  ·have l3:=numN_le (numN b2).2.1
   rw [if_neg (by simp [e2]),p_Number _ (by omega)]
   simp only [Option.bind_some,e2,ne_eq,not_true_eq_false,if_false]
   generalize (numN b2).2.1=b3 at *
   by_cases e3:(numN b3).2.2=0
   ·have l4:=numN_le (numN b3).2.1
    rw [if_neg (by simp [e3]),p_Number _ (by omega)]
    simp only [Option.bind_some,e3,ne_eq,not_true_eq_false,if_false]
    generalize (numN b3).2.1=b4 at *
    by_cases e4:(numN b4).2.2=0
    ·have l5:=numN_le (numN b4).2.1
     rw [if_neg (by simp [e4]),p_Number _ (by omega)]
     simp only [Option.bind_some,e4,ne_eq,not_true_eq_false,if_false]
     generalize (numN b4).2.1=b5 at *
     by_cases e5:(numN b5).2.2=0
     ·rw [if_neg (by simp [e5])]
      simp only [e5,not_true_eq_false,if_false]
      unfold g_batch_numbers_v1_j1
      generalize (numN b5).2.1=b6
      by_cases e6:b6.length > 0
      ·rw [if_pos (by simp only [decide_eq_true_eq]; omega),if_pos e6]
       exact ⟨_,rfl,fun h=>absurd h (by decide)⟩
      ·rw [if_neg (by simp only [decide_eq_true_eq]; omega),if_neg e6]
       exact ⟨_,rfl,fun _=>rfl⟩
     ·rw [if_pos (by simpa using e5)]
      simp only [e5,not_false_eq_true,if_true]
      exact ⟨_,rfl,fun h=>by first | exact absurd h e5 | exact False.elim h⟩
    ·rw [if_pos (by simpa using e4)]
     simp only [e4,not_false_eq_true,if_true]
     exact ⟨_,rfl,fun h=>by first | exact absurd h e4 | exact False.elim h⟩
   ·rw [if_pos (by simpa using e3)]
    simp only [e3,not_false_eq_true,if_true]
    exact ⟨_,rfl,fun h=>by first | exact absurd h e3 | exact False.elim h⟩
  ·rw [if_pos (by simpa using e2)]
   simp only [e2,not_false_eq_true,if_true,ne_eq]
   exact ⟨_,rfl,fun h=>by first | exact absurd h e2 | exact False.elim h⟩
 ·rw [if_pos (by simpa using e1)]
  simp only [e1,not_false_eq_true,if_true,ne_eq]
  exact ⟨_,rfl,fun h=>by first | exact absurd h e1 | exact False.elim h⟩
def hdE (h:Head):Int:=if hdF h.source h.number h.format=0 then (if h.count < 0∨4096 < h.count then 5 else 0) else hdF h.source h.number h.format
def hdT (l:List Int):Head:=⟨nth l 0,nth l 1,nth l 2,nth l 3⟩
def fstF (b:List UInt8):Head×List UInt8×Int :=
 if (unwF b).2.2≠0 then (⟨0,0,0,0⟩,[],(unwF b).2.2) else
 if (takF 4 (unwF b).1).2≠0 then (⟨0,0,0,0⟩,[],(takF 4 (unwF b).1).2) else
 if hdE (hdT (takF 4 (unwF b).1).1)≠0 then (⟨0,0,0,0⟩,[],hdE (hdT (takF 4 (unwF b).1).1)) else (hdT (takF 4 (unwF b).1).1,(unwF b).2.1,0)
theorem p_first (b:List UInt8) (hb:b.length≤100000):f_batch_first b=some (fstF b):=by
 unfold f_batch_first fstF
 have hl:=unwF_le b
 rw [p_Unwrap b (by omega)]
 simp only [Option.bind_some]
 by_cases e1:(unwF b).2.2=0
 ·obtain ⟨h',g1,g2⟩:=p_nums4 (unwF b).1 ⟨0,0,0,0⟩ (by omega)
  rw [if_neg (by simp [e1]),if_neg (by simp [e1]),g1]
  simp only [Option.bind_some]
  by_cases e2:(takF 4 (unwF b).1).2=0
  ·have g3:=g2 e2
   subst g3
   rw [if_neg (by simp [e2]),if_neg (by simp [e2]),p_head]
   simp only [Option.bind_some]
   show (if (hdE (hdT (takF 4 (unwF b).1).1) != 0)=true then _ else _)=_
   by_cases e3:hdE (hdT (takF 4 (unwF b).1).1)=0
   ·rw [if_neg (by simp [e3]),if_neg (by simp [e3])]; rfl
   ·rw [if_pos (by simpa using e3),if_pos e3]; rfl
  ·rw [if_pos (by simpa using e2),if_pos e2]
 ·rw [if_pos (by simpa using e1),if_pos e1]
def totL (l:List Int):Totals:=⟨nth l 0,[0,nth l 1,nth l 2,nth l 3,nth l 4]⟩
def trlF (b:List UInt8):Totals×Int :=
 if (unwF b).2.2≠0 then (⟨0,[0,0,0,0,0]⟩,(unwF b).2.2) else if (unwF b).2.1.length > 0 then (⟨0,[0,0,0,0,0]⟩,3) else
 if (takF 5 (unwF b).1).2≠0 then (⟨0,[0,0,0,0,0]⟩,(takF 5 (unwF b).1).2) else (totL (takF 5 (unwF b).1).1,0)
theorem p_trailer (b:List UInt8) (hb:b.length≤100000):∃ t,f_batch_trailer b=some (t,(trlF b).2)∧((trlF b).2=0→t=(trlF b).1):=by
 unfold f_batch_trailer trlF
 have hl:=unwF_le b
 rw [p_Unwrap b (by omega)]
 simp only [Option.bind_some]
 by_cases e1:(unwF b).2.2=0
 ·by_cases e2:(unwF b).2.1.length > 0
  ·have:(((unwF b).2.2==0) && (decide (((unwF b).2.1.length:Int) > 0)))=true:=by
    simp only [Bool.and_eq_true,beq_iff_eq,decide_eq_true_eq]; exact ⟨e1,by omega⟩
   rw [if_pos this]
   simp only [e1,e2,ne_eq,not_true_eq_false,if_false,if_true]
   unfold f_batch_trailer_j1
   rw [if_pos (by decide)]
   exact ⟨_,rfl,fun h=>absurd h (by decide)⟩
  ·have:¬ (((unwF b).2.2==0) && (decide (((unwF b).2.1.length:Int) > 0)))=true:=by
    simp only [Bool.and_eq_true,beq_iff_eq,decide_eq_true_eq]; exact fun h=>e2 (by omega)
   obtain ⟨h',g1,g2⟩:=p_nums5 (unwF b).1 [0,0,0,0,0] 0 (by omega)
   rw [if_neg this]
   simp only [e1,e2,ne_eq,not_true_eq_false,if_false]
   unfold f_batch_trailer_j1
   rw [if_neg (by decide),g1]
   simp only [Option.bind_some]
   by_cases e3:(takF 5 (unwF b).1).2=0
   ·simp only [e3,not_true_eq_false,if_false]
    exact ⟨_,rfl,fun _=>(g2 e3).trans rfl⟩
   ·simp only [e3,not_false_eq_true,if_true]
    exact ⟨_,rfl,fun h=>by first | exact absurd h e3 | exact False.elim h⟩
 ·have:¬ (((unwF b).2.2==0) && (decide (((unwF b).2.1.length:Int) > 0)))=true:=by
   simp only [Bool.and_eq_true,beq_iff_eq,decide_eq_true_eq]; exact fun h=>e1 h.1
  rw [if_neg this]
  unfold f_batch_trailer_j1
  rw [if_pos (by simpa using e1)]
  simp only [e1,ne_eq,not_false_eq_true,if_true]
  exact ⟨_,rfl,fun h=>by first | exact absurd h e1 | exact False.elim h⟩
end Go.Proofs.YthoengcicaicoaaGreatDoor
namespace Go.Proofs.YthoengcicaicoaaGreatDoor.C11
open Go.RowKit Go.Abs
def nibI (s:List UInt8) (i k:Nat):UInt8:=if k=0 then UInt8.ofNat s.length else if k≤i then nth s (k-1) - 48 else 0
def telI (s:List UInt8) (i:Nat):List UInt8:=(List.range 8).map fun j=>nibI s i (2*j)*16+nibI s i (2*j+1)
def telF (s:List UInt8):List UInt8:=telI s s.length
theorem telI_len (s:List UInt8) (i:Nat):(telI s i).length=8:=by simp [telI]
theorem telI_nth {s:List UInt8} {i j:Nat} (h:j < 8):nth (telI s i) j=nibI s i (2*j)*16+nibI s i (2*j+1):=by
 rw [nth_eq (by rw [telI_len]; exact h)]
 simp [telI]
theorem telI_next {s:List UInt8} {i:Nat} (hi:i < 15):telI s (i+1)=(telI s i).set ((i+1) / 2) (nibI s (i+1) (2*((i+1) / 2))*16+nibI s (i+1) (2*((i+1) / 2)+1)):=by
 apply List.ext_getElem?
 intro j
 rw [List.getElem?_set,telI_len]
 by_cases hj:j < 8
 ·by_cases e:(i+1) / 2=j
  ·subst e
   rw [if_pos rfl,if_pos hj]
   simp [telI,hj]
  ·rw [if_neg e]
   simp only [telI,List.getElem?_map,List.getElem?_range hj,Option.map_some,Option.some.injEq]
   have a:∀ k,k≠i+1→nibI s (i+1) k=nibI s i k:=fun k hk=>by
    unfold nibI
    by_cases h0:k=0
    ·rw [if_pos h0,if_pos h0]
    ·rw [if_neg h0,if_neg h0]
     by_cases h1:k≤i
     ·rw [if_pos h1,if_pos (by omega)]
     ·rw [if_neg h1,if_neg (by omega)]
   rw [a _ (by omega),a _ (by omega)]
 ·rw [List.getElem?_eq_none (by rw [telI_len]; omega)]
  rw [if_neg (by omega),List.getElem?_eq_none (by rw [telI_len]; omega)]
theorem nib_digs {s:List UInt8} (hs:s.all isDig=true) {i k:Nat} (hk:1≤k) (hi:i≤s.length):(nibI s i k).toNat≤9:=by
 unfold nibI
 rw [if_neg (by omega)]
 by_cases h:k≤i
 ·rw [if_pos h]
  have hm:nth s (k-1)∈s:=by rw [nth_eq (by omega)]; exact List.getElem_mem _
  have:=List.all_eq_true.1 hs _ hm
  simp only [isDig,Bool.and_eq_true,decide_eq_true_eq,UInt8.le_iff_toNat_le] at this
  have e:(nth s (k-1) - 48).toNat=(nth s (k-1)).toNat-48:=UInt8.toNat_sub_of_le _ _ (by rw [UInt8.le_iff_toNat_le]; exact this.1)
  rw [e]
  have h2:(nth s (k-1)).toNat≤57:=this.2
  omega
 ·rw [if_neg h]; decide
theorem or_lo:∀ x y:Fin 16,(UInt8.ofNat x.val*16+0) ||| UInt8.ofNat y.val=UInt8.ofNat x.val*16+UInt8.ofNat y.val:=by decide +kernel
theorem or_nib {x y:UInt8} (hx:x.toNat < 16) (hy:y.toNat < 16):(x*16+0) ||| y=x*16+y:=by
 have:=or_lo ⟨x.toNat,hx⟩ ⟨y.toNat,hy⟩
 simpa using this
theorem shl4 (x:UInt8):u8shl x 4=x*16:=u8_all (p:=fun x=>u8shl x 4=x*16) (by decide +kernel) x
theorem len16 {n:Nat} (h:n≤15):UInt8.ofInt ((n:Int)*16)=UInt8.ofNat n*16:=by
 have:∀ j:Fin 16,UInt8.ofInt ((j.val:Int)*16)=UInt8.ofNat j.val*16:=by decide +kernel
 exact this ⟨n,by omega⟩
theorem nib_lt {s:List UInt8} (hs:s.all isDig=true) (hl:s.length≤15) {i k:Nat} (hi:i≤s.length):(nibI s i k).toNat < 16:=by
 by_cases h:k=0
 ·subst h
  unfold nibI
  rw [if_pos rfl]
  simp; omega
 ·have:=nib_digs hs (i:=i) (k:=k) (by omega) hi; omega
theorem telI_zero {s:List UInt8} (hl:s.length≤15):telI s 0=(List.replicate 8 0:List UInt8).set 0 (UInt8.ofInt ((s.length:Int)*16)):=by
 rw [len16 hl]
 simp [telI,nibI,List.range_succ,List.replicate]
theorem nib_new {s:List UInt8} {i:Nat}:nibI s (i+1) (i+1)=nth s i-48:=by simp [nibI]
theorem nib_zero {s:List UInt8} {i k:Nat} (h:i < k):nibI s i k=0:=by unfold nibI; rw [if_neg (by omega),if_neg (by omega)]
theorem nib_old {s:List UInt8} {i k:Nat} (h:k≠i+1):nibI s (i+1) k=nibI s i k:=by
 unfold nibI
 by_cases h0:k=0
 ·rw [if_pos h0,if_pos h0]
 ·rw [if_neg h0,if_neg h0]
  by_cases h1:k≤i
  ·rw [if_pos h1,if_pos (by omega)]
  ·rw [if_neg h1,if_neg (by omega)]
theorem p_putNumber (s out:List UInt8) (hs:s.all isDig=true) (hl:s.length≤15) (ho:out.length≤100000000):g_packed_putNumber s out=some (out++telF s):=by
 unfold g_packed_putNumber
 have e4:(2:Int) ^ (Int.toNat 4)=16:=by decide
 rw [e4,ck_pos (by omega),ck_pos (by decide),ck_pos (by decide),show Int.toNat 0=0 from rfl,←telI_zero hl]
 have:=loop_post (step:=fun q=>g_packed_putNumber_l1 s out q.1 q.2) (fun r=>r=out++telF s) (fun q:Int×List UInt8=>∃ i:Nat,i≤s.length∧q=((i:Int),telI s i)) (fun q=>((s.length:Int) - q.1).toNat) (fun q hI=>by
  obtain ⟨i,hi,rfl⟩:=hI
  simp only []
  unfold g_packed_putNumber_l1
  by_cases h:i < s.length
  ·rw [if_pos (by simpa using h),ck_pos (by omega),ck_pos (by decide),tmod_nn (by omega)]
   have hlen:=telI_len s i
   have hnx:=telI_next (s:=s) (i:=i) (by omega)
   refine .inr ⟨((i:Int)+1,telI s (i+1)),?_,⟨i+1,by omega,by simp⟩,by simp only []; omega⟩
   by_cases hp:i % 2=0
   ·rw [if_pos (by simp; omega),tdiv_nn (by omega)]
    have ei:Int.toNat ((i:Int) / 2)=(i+1) / 2:=by omega
    rw [ck_pos (by omega),ck_pos (by omega),ck_pos (by rw [hlen]; omega),ck_pos (by omega),ck_pos (by rw [hlen]; omega),ck_pos (by omega),ei,telI_nth (by omega),Int.toNat_natCast]
    have e1:2*((i+1) / 2)=i:=by omega
    rw [hnx,e1,nib_zero (by omega:i < i+1),nib_new,nib_old (by omega:i≠i+1),or_nib (nib_lt hs hl (by omega)) (by rw [←nib_new (i:=i)]; exact nib_lt hs hl (by omega))]
   ·rw [if_neg (by simp; omega),tdiv_nn (by omega)]
    have ei:Int.toNat (((i:Int)+1) / 2)=(i+1) / 2:=by omega
    rw [ck_pos (by omega),ck_pos (by omega),ck_pos (by decide),ck_pos (by omega),ck_pos (by rw [hlen]; omega),ck_pos (by omega),ei,Int.toNat_natCast]
    have e1:2*((i+1) / 2)=i+1:=by omega
    rw [hnx,e1,nib_zero (by omega:i+1 < i+1+1),nib_new,shl4]
    simp
  ·have:i=s.length:=by omega
   subst this
   rw [if_neg (by simp)]
   refine .inl ⟨_,?_,rfl⟩
   unfold g_packed_putNumber_j1
   rw [ck_pos ⟨telI_len _ _,by rw [telI_len]; omega⟩]
   rfl) (s:=(0,telI s 0)) ⟨0,by omega,by simp⟩ (by simp; omega)
 obtain ⟨r,hr,rfl⟩:=this
 exact hr
def sumF (b:List UInt8):UInt8:=b.foldl (·+·) 0
theorem foldl_drop {b:List UInt8} {i:Nat} (n:UInt8) (h:i < b.length):(b.drop i).foldl (·+·) n=(b.drop (i+1)).foldl (·+·) (n+nth b i):=by
 rw [nth_eq h,List.drop_eq_getElem_cons h,List.foldl_cons]
theorem p_sum (b:List UInt8) (hb:b.length≤1000000000):f_packed_sum b=some (sumF b):=by
 unfold f_packed_sum
 refine loop_spec (fun s=>some ((b.drop s.2.toNat).foldl (·+·) s.1)) (fun s:UInt8×Int=>0≤s.2∧s.2≤(b.length:Int)) (fun s=>((b.length:Int) - s.2).toNat) (fun s hI=>?_) ⟨by omega,by omega⟩ (by simp; omega)
 obtain ⟨n,i⟩:=s
 simp only [] at hI ⊢
 unfold f_packed_sum_l1
 by_cases hi:i < (b.length:Int)
 ·rw [if_pos (by simpa using hi),ck_pos ⟨hI.1,hi⟩,ck_pos (by omega)]
  refine .inr ⟨_,rfl,by simp only []; omega,by simp only []; omega,?_⟩
  rw [foldl_drop n (by omega:i.toNat < b.length),show (i+1).toNat=i.toNat+1 by omega]
 ·rw [if_neg (by simpa using hi)]
  refine .inl ⟨_,rfl,?_⟩
  rw [List.drop_of_length_le (by omega)]; rfl
def flagF (r:Record):UInt8:=UInt8.ofInt (r.kind*16+((if r.last=true then 1 else 0)+(if r.inbound=true then 2 else 0)))
def headB (r:Record):List UInt8:=packF 1 r.source++packF 5 r.serial++[flagF r]++telF r.a++telF r.b
def bodyF (r:Record):List UInt8:=headB r++packF 6 r.start++packF 7 r.units++packF 5 r.call++packF 1 r.part++packF 2 r.trunk
def bytesF (r:Record):List UInt8:=bodyF r++[sumF (bodyF r)]
theorem telF_len (s:List UInt8):(telF s).length=8:=telI_len _ _
theorem headB_len (r:Record):(headB r).length=23:=by simp [headB,packF_len,telF_len]
theorem bodyF_len (r:Record):(bodyF r).length=44:=by simp [bodyF,headB_len,packF_len]
theorem putF_ok {b:List UInt8} {n:Int} {k:Nat} (hk:1≤k∧k≤9) (h0:0≤n) (h1:n < 100 ^ k):putF b n (k:Int)=(b++packF k n,0):=by
 unfold putF
 rw [if_neg (by omega),Int.toNat_natCast,Int.ediv_eq_zero_of_lt h0 h1,if_neg (by omega)]
theorem good_tel {r:Record} (g:Good r):(r.a.all isDig=true∧r.a.length≤15)∧r.b.all isDig=true∧r.b.length≤15:=by
 have key:∀ s:List UInt8,validB s=true→s.all isDig=true∧s.length≤15:=fun s h=>by
  unfold validB at h
  simp only [Bool.and_eq_true,decide_eq_true_eq] at h
  exact ⟨h.1.1,h.2⟩
 refine ⟨key _ g.a,?_⟩
 rcases g.b with h | ⟨_,h⟩
 ·exact key _ h
 ·rw [h]; exact ⟨rfl,by simp⟩
theorem put1 {b:List UInt8} {n:Int} {k:Nat} (hb:b.length≤100000) (hk:1≤k∧k≤9) (h0:0≤n) (h1:n < 100 ^ k):g_packed_Encode_1_v1 n (k:Int) b=some (b++packF k n):=by
 have h2:(100:Int) ^ k≤1000000000000000000:=by
  have:∀ j:Fin 10,(100:Int) ^ j.val≤1000000000000000000:=by decide +kernel
  exact this ⟨k,by omega⟩
 unfold g_packed_Encode_1_v1
 rw [p_PutDecimal b n k (by omega) (by omega),putF_ok hk h0 h1]
 rfl
theorem flag_or {r:Record} (hk:1≤r.kind∧r.kind≤4):(UInt8.ofInt (r.kind*2 ^ (Int.toNat 4)) ||| (if r.last=true then 1 else 0)) ||| (if r.inbound=true then 2 else 0)=flagF r:=by
 unfold flagF
 obtain ⟨h1,h2⟩:=hk
 have:r.kind=1∨r.kind=2∨r.kind=3∨r.kind=4:=by omega
 rcases this with h | h | h | h <;> rw [h] <;> cases r.last <;> cases r.inbound <;> decide
theorem p_bit (b:Bool) (n:UInt8):f_packed_bit b n=some (if b=true then n else 0):=by unfold f_packed_bit; cases b <;> rfl
theorem p_Encode11 (r:Record) (ha:r.a.length < 1000000000) (hb:r.b.length < 1000000000):f_packed_Encode r=some (if errF r=0 then bytesF r else [],errF r):=by
 unfold f_packed_Encode
 rw [p_Encode r ha hb]
 simp only [Option.bind_some]
 by_cases h:errF r=0
 ·have g:=errF_good h
  obtain ⟨⟨a1,a2⟩,b1,b2⟩:=good_tel g
  have e1:g_packed_Encode_1 r.source 1=some (packF 1 r.source):=by
   unfold g_packed_Encode_1
   rw [p_PutDecimal [] _ 1 (by simp) (by have:=g.source; omega)]
   rw [show ((1:Int))=((1:Nat):Int) from rfl,putF_ok ⟨by omega,by omega⟩ (by have:=g.source; omega) (by have:=g.source; omega)]
   rfl
  have e4:(2:Int) ^ (Int.toNat 4)=16:=by decide
  rw [if_neg (by simpa using h),e1,if_pos h,h]
  simp only [Option.bind_some]
  rw [show (5:Int)=((5:Nat):Int) from rfl,put1 (by simp [packF_len]) ⟨by omega,by omega⟩ (by have:=g.serial; omega) (by have:=g.serial; omega)]
  simp only [Option.bind_some]
  rw [ck_pos (by rw [e4]; have:=g.kind; omega),p_bit,p_bit]
  simp only [Option.bind_some]
  rw [ck_pos (by simp [packF_len]),flag_or g.kind,p_putNumber r.a _ a1 a2 (by simp [packF_len])]
  simp only [Option.bind_some]
  rw [p_putNumber r.b _ b1 b2 (by simp [packF_len,telF_len])]
  simp only [Option.bind_some]
  rw [show packF 1 r.source++packF 5 r.serial++[flagF r]++telF r.a++telF r.b=headB r from rfl]
  rw [show (6:Int)=((6:Nat):Int) from rfl,put1 (by simp [headB_len]) ⟨by omega,by omega⟩ (by have:=g.start; omega) (by have:=g.start; omega)]
  simp only [Option.bind_some]
  rw [show (7:Int)=((7:Nat):Int) from rfl,put1 (by simp [headB_len,packF_len]) ⟨by omega,by omega⟩ (by have:=g.units; omega) (by have:=g.units; omega)]
  simp only [Option.bind_some]
  rw [put1 (by simp [headB_len,packF_len]) ⟨by omega,by omega⟩ (by have:=g.call; omega) (by have:=g.call; omega)]
  simp only [Option.bind_some]
  rw [show (1:Int)=((1:Nat):Int) from rfl,put1 (by simp [headB_len,packF_len]) ⟨by omega,by omega⟩ (by have:=g.part; omega) (by have:=g.part; omega)]
  simp only [Option.bind_some]
  rw [show (2:Int)=((2:Nat):Int) from rfl,put1 (by simp [headB_len,packF_len]) ⟨by omega,by omega⟩ (by have:=g.trunk; omega) (by have:=g.trunk; omega)]
  simp only [Option.bind_some]
  rw [show headB r++packF 6 r.start++packF 7 r.units++packF 5 r.call++packF 1 r.part++packF 2 r.trunk=bodyF r from rfl,p_sum _ (by rw [bodyF_len]; omega)]
  simp only [Option.bind_some]
  rw [ck_pos (by simp [bodyF_len])]
  rfl
 ·rw [if_pos (by simpa using h),if_neg h]
def nibAt (f:List UInt8) (k:Nat):UInt8:=if k % 2=0 then nth f (k / 2) / 16 else nth f (k / 2) % 16
def telN (f:List UInt8):Nat:=(nth f 0).toNat / 16
def telG (f:List UInt8):Nat→Nat→List UInt8→List UInt8×Bool
 | _,0,out=>(out,true)
 | k,m+1,out=>if k≤telN f∧(nibAt f k).toNat≤9 then telG f (k+1) m (out++[48+nibAt f k]) else if k≤telN f∨nibAt f k≠0 then ([],false) else telG f (k+1) m out
def telD (f:List UInt8):List UInt8×Bool:=telG f 1 15 []
theorem le9 (x:UInt8):decide (x≤9)=decide (x.toNat≤9):=by
 rw [Bool.eq_iff_iff,decide_eq_true_iff,decide_eq_true_iff,UInt8.le_iff_toNat_le]; exact Iff.rfl
theorem p_number (f:List UInt8) (hf:f.length=8):f_packed_number f=some (telD f):=by
 unfold f_packed_number
 rw [ck_pos (by omega),ck_pos (by decide)]
 refine loop_spec (fun s=>some (telG f (s.2.toNat+1) (15-s.2.toNat) s.1)) (fun s:List UInt8×Int=>0≤s.2∧s.2≤15∧(s.1.length:Int)≤s.2) (fun s=>(15-s.2).toNat) (fun s hI=>?_) ⟨by omega,by omega,by simp⟩ (by simp)
 obtain ⟨out,i⟩:=s
 obtain ⟨h1,h2,h3⟩:=hI
 simp only [] at h1 h2 h3 ⊢
 unfold f_packed_number_l1
 by_cases hi:i < 15
 ·rw [if_pos (by simpa using hi),ck_pos (by omega),tmod_nn h1,tdiv_nn h1,tdiv_nn (by omega),ck_pos (by omega),ck_pos (by rw [hf]; omega),ck_pos (by decide),ck_pos (by decide)]
  obtain ⟨m,hm⟩:∃ m,15-i.toNat=m+1:=⟨14-i.toNat,by omega⟩
  have hm2:15-(i+1).toNat=m:=by omega
  have hk2:(i+1).toNat+1=i.toNat+1+1:=by omega
  have main:∀ y:UInt8,y=nibAt f (i.toNat+1)→(∃ r,f_packed_number_j1 f out i y=some (.inr r)∧some (telG f (i.toNat+1) (15-i.toNat) out)=some r)∨∃ s':List UInt8×Int,f_packed_number_j1 f out i y=some (.inl s')∧(0≤s'.2∧s'.2≤15∧(s'.1.length:Int)≤s'.2)∧(15-s'.2).toNat < (15-i).toNat∧some (telG f (s'.2.toNat+1) (15-s'.2.toNat) s'.1)=some (telG f (i.toNat+1) (15-i.toNat) out):=by
   rintro y rfl
   unfold f_packed_number_j1
   rw [u8_hi,u8_hin,le9,hm,telG]
   have e1:(i < (((nth f (Int.toNat 0)).toNat / 16:Nat):Int))↔i.toNat+1≤telN f:=by unfold telN; rw [show Int.toNat 0=0 from rfl]; omega
   by_cases c1:i.toNat+1≤telN f
   ·by_cases c2:(nibAt f (i.toNat+1)).toNat≤9
    ·rw [if_pos (by simp only [Bool.and_eq_true,decide_eq_true_eq]; exact ⟨e1.2 c1,c2⟩),if_pos ⟨c1,c2⟩,ck_pos (by simp; omega),ck_pos (by omega)]
     refine .inr ⟨_,rfl,⟨by simp only []; omega,by simp only []; omega,by simp; omega⟩,by simp only []; omega,?_⟩
     simp only []
     rw [hm2,hk2]
    ·rw [if_neg (fun h=>c2 h.2:¬ (i.toNat+1≤telN f∧(nibAt f (i.toNat+1)).toNat≤9)),if_neg (by simp only [Bool.and_eq_true,decide_eq_true_eq]; exact fun h=>c2 h.2),if_pos (by simp only [Bool.or_eq_true,decide_eq_true_eq]; exact .inl (e1.2 c1)),if_pos (.inl c1)]
     exact .inl ⟨_,rfl,rfl⟩
   ·rw [if_neg (fun h=>c1 h.1:¬ (i.toNat+1≤telN f∧(nibAt f (i.toNat+1)).toNat≤9)),if_neg (by simp only [Bool.and_eq_true,decide_eq_true_eq]; exact fun h=>c1 (e1.1 h.1))]
    by_cases c3:nibAt f (i.toNat+1)≠0
    ·rw [if_pos (by simp only [Bool.or_eq_true,bne_iff_ne]; exact .inr c3),if_pos (.inr c3)]
     exact .inl ⟨_,rfl,rfl⟩
    ·rw [if_neg (by simp only [Bool.or_eq_true,decide_eq_true_eq,bne_iff_ne]; exact fun h=>h.elim (fun h=>c1 (e1.1 h)) c3),if_neg (fun h=>h.elim c1 c3),ck_pos (by omega)]
     refine .inr ⟨_,rfl,⟨by simp only []; omega,by simp only []; omega,by simp only []; omega⟩,by simp only []; omega,?_⟩
     simp only []
     rw [hm2,hk2]
  by_cases hp:i % 2=0
  ·rw [if_pos (by simpa using hp),ck_pos (by omega),ck_pos (by rw [hf]; omega)]
   refine main _ ?_
   unfold nibAt
   rw [if_neg (by omega),u8_lo,show Int.toNat (i / 2)=(i.toNat+1) / 2 by omega]
  ·rw [if_neg (by simpa using hp)]
   refine main _ ?_
   unfold nibAt
   rw [if_pos (by omega),u8_hi,show Int.toNat ((i+1) / 2)=(i.toNat+1) / 2 by omega]
 ·have:i=15:=by omega
  subst this
  rw [if_neg (by simp)]
  exact .inl ⟨_,rfl,rfl⟩
theorem telG_len (f:List UInt8):∀ (m k:Nat) (out:List UInt8),(telG f k m out).1.length≤out.length+m
 | 0,k,out=>by simp [telG]
 | m+1,k,out=>by
  unfold telG
  split
  ·have:=telG_len f m (k+1) (out++[48+nibAt f k])
   simp at this ⊢; omega
  ·split
   ·simp
   ·have:=telG_len f m (k+1) out
    omega
theorem telD_len (f:List UInt8):(telD f).1.length≤15:=by have:=telG_len f 15 1 []; simpa [telD] using this
def Z:Record:=⟨0,0,0,[],[],0,0,0,0,false,0,false⟩
def cut (b:List UInt8) (i n:Nat):List UInt8:=(b.drop i).take n
def recF (b:List UInt8):Record:=⟨(decD (cut b 0 1)).1,(decD (cut b 1 5)).1,(((nth b 6).toNat / 16:Nat):Int),(telD (cut b 7 8)).1,(telD (cut b 15 8)).1,(decD (cut b 23 6)).1,(decD (cut b 29 7)).1,(decD (cut b 36 5)).1,(decD (cut b 41 1)).1,(nth b 6 % 2)==1,(decD (cut b 42 2)).1,decide (nth b 6 % 16≥2)⟩
def formB (b:List UInt8):Bool:=((decD (cut b 0 1)).2==0) && ((decD (cut b 1 5)).2==0) && (telD (cut b 7 8)).2 && (telD (cut b 15 8)).2 && ((decD (cut b 23 6)).2==0) && ((decD (cut b 29 7)).2==0) && ((decD (cut b 36 5)).2==0) && ((decD (cut b 41 1)).2==0) && ((decD (cut b 42 2)).2==0) && decide (nth b 6 % 16≤3)
def unpackF (b:List UInt8):Record×Int :=
 if b.length < 45 then (Z,2) else if b.length > 45 then (Z,3) else if sumF (b.take 44)≠nth b 44 then (Z,4)
 else if formB b=false then (Z,1) else if errF (recF b)≠0 then (Z,errF (recF b)) else (recF b,0)
theorem p_field (b:List UInt8) (bad:Bool) (n:Nat) (h:n≤b.length):g_packed_reader_field (n:Int) ⟨b,bad⟩=some (b.take n,⟨b.drop n,bad⟩):=by
 unfold g_packed_reader_field
 simp only []
 rw [ck_pos (by omega),ck_pos (by omega),Int.toNat_natCast]
theorem p_rdecimal (b:List UInt8) (bad:Bool) (n:Nat) (h:n≤b.length) (hn:n≤1000):g_packed_reader_decimal (n:Int) ⟨b,bad⟩=some ((decD (b.take n)).1,⟨b.drop n,bad || ((decD (b.take n)).2 != 0)⟩):=by
 unfold g_packed_reader_decimal
 rw [p_field b bad n h]
 simp only [Option.bind_some]
 rw [p_Decimal _ (by simp; omega)]
 rfl
theorem p_rnumber (b:List UInt8) (bad:Bool) (h:8≤b.length):g_packed_reader_number ⟨b,bad⟩=some ((telD (b.take 8)).1,⟨b.drop 8,bad || !(telD (b.take 8)).2⟩):=by
 unfold g_packed_reader_number
 rw [show (8:Int)=((8:Nat):Int) from rfl,p_field b bad 8 h]
 simp only [Option.bind_some]
 rw [p_number _ (by simp; omega)]
 rfl
theorem drop_cut (b:List UInt8) (i n:Nat):(b.drop i).take n=cut b i n:=rfl
theorem u8_bits (x:UInt8):(x % 16≤3)→((x &&& 1) != 0)=((x % 2)==1)∧((x &&& 2) != 0)=decide (x % 16≥2):=u8_all (p:=fun x=>x % 16≤3→((x &&& 1) != 0)=((x % 2)==1)∧((x &&& 2) != 0)=decide (x % 16≥2)) (by decide +kernel) x
theorem p_Decode11 (b:List UInt8) (hb:b.length≤100000):f_packed_Decode b=some (unpackF b):=by
 unfold f_packed_Decode unpackF
 by_cases h1:b.length < 45
 ·rw [if_pos (by simp; omega),if_pos h1]; rfl
 ·rw [if_neg (by simp; omega),if_neg h1]
  by_cases h2:b.length > 45
  ·rw [if_pos (by simp; omega),if_pos h2]; rfl
  ·have hl:b.length=45:=by omega
   rw [if_neg (by simp; omega),if_neg h2,ck_pos (by omega),p_sum _ (by simp; omega)]
   simp only [Option.bind_some]
   rw [ck_pos (by omega),show Int.toNat 44=44 from rfl]
   by_cases h3:sumF (b.take 44)≠nth b 44
   ·rw [if_pos (by simpa using h3),if_pos h3]; rfl
   ·rw [if_neg (by simpa using h3),if_neg h3]
    rw [show (1:Int)=((1:Nat):Int) from rfl,p_rdecimal _ _ 1 (by omega) (by omega)]
    simp only [Option.bind_some]
    rw [show (5:Int)=((5:Nat):Int) from rfl,p_rdecimal _ _ 5 (by simp; omega) (by omega)]
    simp only [Option.bind_some]
    rw [p_field _ _ 1 (by simp; omega)]
    simp only [Option.bind_some]
    rw [ck_pos (by simp; omega),ck_pos (by decide),p_rnumber _ _ (by simp; omega)]
    simp only [Option.bind_some]
    rw [p_rnumber _ _ (by simp; omega)]
    simp only [Option.bind_some]
    rw [show (6:Int)=((6:Nat):Int) from rfl,p_rdecimal _ _ 6 (by simp; omega) (by omega)]
    simp only [Option.bind_some]
    rw [show (7:Int)=((7:Nat):Int) from rfl,p_rdecimal _ _ 7 (by simp; omega) (by omega)]
    simp only [Option.bind_some]
    rw [p_rdecimal _ _ 5 (by simp; omega) (by omega)]
    simp only [Option.bind_some]
    rw [p_rdecimal _ _ 1 (by simp; omega) (by omega)]
    simp only [Option.bind_some]
    rw [show (2:Int)=((2:Nat):Int) from rfl,p_rdecimal _ _ 2 (by simp; omega) (by omega)]
    simp only [Option.bind_some,List.drop_drop,drop_cut,Nat.reduceAdd,Bool.false_or,u8_hi,u8_lo,u8_hin]
    have e0:b.take 1=cut b 0 1:=rfl
    have e6:nth (cut b 6 1) (Int.toNat 0)=nth b 6:=by
     rw [show Int.toNat 0=0 from rfl,nth_eq (by simp [cut]; omega),nth_eq (by omega)]
     simp [cut]
    rw [e0,e6]
    have hbad:(((((((((((decD (cut b 0 1)).2 != 0) || ((decD (cut b 1 5)).2 != 0)) || !(telD (cut b 7 8)).2) || !(telD (cut b 15 8)).2) || ((decD (cut b 23 6)).2 != 0)) || ((decD (cut b 29 7)).2 != 0)) || ((decD (cut b 36 5)).2 != 0)) || ((decD (cut b 41 1)).2 != 0)) || ((decD (cut b 42 2)).2 != 0)) || decide (nth b 6 % 16 > 3))=!formB b:=by
     have:decide (nth b 6 % 16 > 3)=!decide (nth b 6 % 16≤3):=by
      rw [Bool.eq_iff_iff]; simp
     unfold formB
     rw [this]
     simp only [Bool.not_and,bne,Bool.or_assoc]
    rw [hbad]
    by_cases hf:formB b=false
    ·rw [if_pos (by simp [hf]),if_pos hf]; rfl
    ·rw [if_neg (by simpa using hf),if_neg hf]
     have h16:nth b 6 % 16≤3:=by
      have hf':formB b=true:=by simpa using hf
      unfold formB at hf'
      simp only [Bool.and_eq_true,decide_eq_true_eq] at hf'
      exact hf'.2
     obtain ⟨b1,b2⟩:=u8_bits _ h16
     rw [b1,b2]
     rw [show (⟨(decD (cut b 0 1)).1,(decD (cut b 1 5)).1,(((nth b 6).toNat / 16:Nat):Int),(telD (cut b 7 8)).1,(telD (cut b 15 8)).1,(decD (cut b 23 6)).1,(decD (cut b 29 7)).1,(decD (cut b 36 5)).1,(decD (cut b 41 1)).1,(nth b 6 % 2)==1,(decD (cut b 42 2)).1,decide (nth b 6 % 16≥2)⟩:Record)=recF b from rfl]
     rw [p_Encode (recF b) (by have:=telD_len (cut b 7 8); simp only [recF]; omega) (by have:=telD_len (cut b 15 8); simp only [recF]; omega)]
     simp only [Option.bind_some]
     by_cases he:errF (recF b)≠0
     ·rw [if_pos (by simpa using he),if_pos he]; rfl
     ·rw [if_neg (by simpa using he),if_neg he]
theorem u8_two {x y:UInt8} (hx:x.toNat < 16) (hy:y.toNat < 16):(x*16+y) / 16=x∧(x*16+y) % 16=y:=by
 have h:(x*16+y).toNat=x.toNat*16+y.toNat:=by
  rw [UInt8.toNat_add,UInt8.toNat_mul,show (16:UInt8).toNat=16 from rfl]; omega
 constructor
 ·apply UInt8.toNat_inj.1; rw [u8_hin,h]; omega
 ·apply UInt8.toNat_inj.1; rw [u8_lon,h]; omega
theorem u8_join (x:UInt8):(x / 16)*16+x % 16=x:=u8_all (p:=fun x=>(x / 16)*16+x % 16=x) (by decide +kernel) x
theorem nibAt_telF {s:List UInt8} (hs:s.all isDig=true) (hl:s.length≤15) {k:Nat} (hk:k < 16):nibAt (telF s) k=nibI s s.length k:=by
 have h2:=u8_two (nib_lt hs hl (k:=2*(k / 2)) (Nat.le_refl _)) (nib_lt hs hl (k:=2*(k / 2)+1) (Nat.le_refl _))
 unfold nibAt telF
 rw [telI_nth (by omega)]
 split
 ·rw [h2.1,show 2*(k / 2)=k by omega]
 ·rw [h2.2,show 2*(k / 2)+1=k by omega]
theorem telN_telF {s:List UInt8} (hs:s.all isDig=true) (hl:s.length≤15):telN (telF s)=s.length:=by
 have h:=nibAt_telF hs hl (k:=0) (by omega)
 unfold nibAt at h
 rw [if_pos rfl] at h
 unfold telN
 have h':=congrArg UInt8.toNat h
 rw [u8_hin] at h'
 rw [show (0 / 2:Nat)=0 from rfl] at h'
 rw [h']
 simp [nibI]; omega
theorem dig48 (x:UInt8):(48:UInt8)+(x-48)=x:=u8_all (p:=fun x=>(48:UInt8)+(x-48)=x) (by decide +kernel) x
theorem telG_telF {s:List UInt8} (hs:s.all isDig=true) (hl:s.length≤15):∀ m i:Nat,i+m=15→telG (telF s) (i+1) m (s.take i)=(s,true)
 | 0,i,e=>by rw [telG,List.take_of_length_le (by omega)]
 | m+1,i,e=>by
  rw [telG,telN_telF hs hl,nibAt_telF hs hl (by omega)]
  by_cases hi:i < s.length
  ·rw [if_pos ⟨by omega,nib_digs hs (by omega) (Nat.le_refl _)⟩]
   have:nibI s s.length (i+1)=nth s i-48:=by unfold nibI; rw [if_neg (by omega),if_pos (by omega)]; rfl
   rw [this,dig48]
   have e1:s.take i++[nth s i]=s.take (i+1):=by rw [nth_eq hi,List.take_append_getElem hi]
   rw [e1]
   exact telG_telF hs hl m (i+1) (by omega)
  ·rw [if_neg (by omega),nib_zero (by omega),if_neg (by simp; omega)]
   have:=telG_telF hs hl m (i+1) (by omega)
   rw [List.take_of_length_le (by omega)] at this ⊢
   exact this
theorem telD_telF {s:List UInt8} (hs:s.all isDig=true) (hl:s.length≤15):telD (telF s)=(s,true):=by
 have:=telG_telF hs hl 15 0 rfl
 simpa [telD] using this
theorem telG_inv (f:List UInt8):∀ (m i:Nat) (s:List UInt8),telG f (i+1) m ((List.range (min i (telN f))).map fun j=>48+nibAt f (j+1))=(s,true) →
  s=(List.range (min (i+m) (telN f))).map (fun j=>48+nibAt f (j+1))∧∀ j,i < j→j≤i+m→(j≤telN f→(nibAt f j).toNat≤9)∧(telN f < j→nibAt f j=0)
 | 0,i,s,h=>by
  rw [telG] at h
  exact ⟨(congrArg Prod.fst h).symm,fun j h1 h2=>by omega⟩
 | m+1,i,s,h=>by
  rw [telG] at h
  by_cases h1:i+1≤telN f∧(nibAt f (i+1)).toNat≤9
  ·rw [if_pos h1,Nat.min_eq_left (by omega)] at h
   have e:(List.range i).map (fun j=>48+nibAt f (j+1))++[48+nibAt f (i+1)]=(List.range (min (i+1) (telN f))).map (fun j=>48+nibAt f (j+1)):=by
    rw [Nat.min_eq_left (by omega),List.range_succ,List.map_append]; rfl
   rw [e] at h
   obtain ⟨e1,e2⟩:=telG_inv f m (i+1) s h
   refine ⟨by rw [e1,show i+1+m=i+(m+1) by omega],fun j h3 h4=>?_⟩
   by_cases hj:j=i+1
   ·subst hj; exact ⟨fun _=>h1.2,fun h=>by omega⟩
   ·exact e2 j (by omega) (by omega)
  ·rw [if_neg h1] at h
   by_cases h2:i+1≤telN f∨nibAt f (i+1)≠0
   ·rw [if_pos h2] at h; cases h
   ·rw [if_neg h2] at h
    have hN:¬ i+1≤telN f:=fun h=>h2 (.inl h)
    have h0:nibAt f (i+1)=0:=Decidable.byContradiction fun h=>h2 (.inr h)
    have e:(List.range (min i (telN f))).map (fun j=>48+nibAt f (j+1))=(List.range (min (i+1) (telN f))).map (fun j=>48+nibAt f (j+1)):=by
     rw [show min i (telN f)=min (i+1) (telN f) by omega]
    rw [e] at h
    obtain ⟨e1,e2⟩:=telG_inv f m (i+1) s h
    refine ⟨by rw [e1,show i+1+m=i+(m+1) by omega],fun j h3 h4=>?_⟩
    by_cases hj:j=i+1
    ·subst hj; exact ⟨fun h=>absurd h hN,fun _=>h0⟩
    ·exact e2 j (by omega) (by omega)
theorem sub48 (x:UInt8):(48:UInt8)+x-48=x:=u8_all (p:=fun x=>(48:UInt8)+x-48=x) (by decide +kernel) x
theorem telF_telD {f s:List UInt8} (hf:f.length=8) (h:telD f=(s,true)):telF s=f:=by
 obtain ⟨e,hd⟩:=telG_inv f 15 0 s (by simpa [telD] using h)
 have hN:telN f≤15:=by unfold telN; have:=(nth f 0).toNat_lt; omega
 rw [Nat.min_eq_right (by omega)] at e
 have hs:s.length=telN f:=by rw [e]; simp
 have hn:∀ k,k < 16→nibI s s.length k=nibAt f k:=by
  intro k hk
  unfold nibI
  by_cases h0:k=0
  ·subst h0
   rw [if_pos rfl,hs]
   apply UInt8.toNat_inj.1
   unfold nibAt telN
   rw [if_pos rfl,u8_hin,show (0 / 2:Nat)=0 from rfl,UInt8.toNat_ofNat']
   have:=(nth f 0).toNat_lt; omega
  ·rw [if_neg h0]
   by_cases h1:k≤s.length
   ·rw [if_pos h1,nth_eq (by omega)]
    simp only [e,List.getElem_map,List.getElem_range]
    rw [show k-1+1=k by omega,sub48]
   ·rw [if_neg h1,(hd k (by omega) (by omega)).2 (by omega)]
 apply List.ext_getElem
 ·rw [telF_len,hf]
 ·intro j h1 h2
  have h1':j < 8:=by rw [telF_len] at h1; exact h1
  refine (nth_eq h1).symm.trans (Eq.trans ?_ (nth_eq h2))
  unfold telF
  rw [telI_nth h1',hn _ (by omega),hn _ (by omega)]
  unfold nibAt
  rw [if_pos (by omega),if_neg (by omega),show 2*j / 2=j by omega,show (2*j+1) / 2=j by omega,u8_join]
theorem pk_two {m:Int} (hm:0≤m) {x:UInt8} (h1:x.toNat / 16≤9) (h2:x.toNat % 16≤9):pk (100*m+((x.toNat / 16:Nat):Int)*10+((x.toNat % 16:Nat):Int))=x:=by
 apply UInt8.toNat_inj.1
 have:=pk_nat (100*m+((x.toNat / 16:Nat):Int)*10+((x.toNat % 16:Nat):Int)) (by omega)
 omega
theorem pack_dec:∀ (c:List UInt8) (m n:Int),0≤m→decS m c=(n,0)→0≤n∧packF c.length n=c∧n / 100 ^ c.length=m
 | [],m,n,hm,h=>by
  rw [decS] at h
  have:m=n:=congrArg Prod.fst h
  subst this
  exact ⟨hm,rfl,by simp⟩
 | x :: r,m,n,hm,h=>by
  rw [decS] at h
  split at h
  ·cases congrArg Prod.snd h
  ·rename_i hx
   obtain ⟨h1,h2,h3⟩:=pack_dec r _ n (by omega) h
   refine ⟨h1,?_,?_⟩
   ·rw [List.length_cons,packF,h2,h3,pk_two hm (by omega) (by omega)]
   ·rw [List.length_cons,←div_pow,h3]; omega
theorem packF_decD {c:List UInt8} {k:Nat} (hc:c.length=k) (h:(decD c).2=0):packF k (decD c).1=c:=by
 unfold decD at h ⊢
 split at h
 ·cases h
 ·rename_i h1
  rw [if_neg h1,←hc]
  exact (pack_dec c 0 _ (by omega) (Prod.ext rfl h)).2.1
theorem flag_back (x:UInt8):x % 16≤3→UInt8.ofInt (((x.toNat / 16:Nat):Int)*16+((if ((x % 2)==1)=true then 1 else 0)+(if decide (x % 16≥2)=true then 2 else 0)))=x :=
 u8_all (p:=fun x=>x % 16≤3→UInt8.ofInt (((x.toNat / 16:Nat):Int)*16+((if ((x % 2)==1)=true then 1 else 0)+(if decide (x % 16≥2)=true then 2 else 0)))=x) (by decide +kernel) x
theorem cut_cut_len {b:List UInt8} {i n:Nat} (h:i+n≤b.length):(cut b i n).length=n:=by simp [cut]; omega
theorem cut_join (b:List UInt8) (i m n:Nat):cut b i m++cut b (i+m) n=cut b i (m+n):=by
 unfold cut
 rw [←List.drop_drop,←List.take_add]
theorem cut_one {b:List UInt8} {i:Nat} (h:i < b.length):[nth b i]=cut b i 1:=by
 unfold cut
 rw [nth_eq h,List.drop_eq_getElem_cons h]; rfl
theorem cut_all (b:List UInt8):cut b 0 b.length=b:=by simp [cut]
theorem bytes_back {b:List UInt8} (h:(unpackF b).2=0):bytesF (unpackF b).1=b∧errF (unpackF b).1=0:=by
 unfold unpackF at h ⊢
 split at h; · cases h
 split at h; · cases h
 split at h; · cases h
 split at h; · cases h
 split at h; · exact absurd h (by assumption)
 rename_i h1 h2 h3 h4 h5
 rw [if_neg h1,if_neg h2,if_neg h3,if_neg h4,if_neg h5]
 have hl:b.length=45:=by omega
 refine ⟨?_,by simpa using h5⟩
 have h4':formB b=true:=by simpa using h4
 unfold formB at h4'
 simp only [Bool.and_eq_true,beq_iff_eq,decide_eq_true_eq] at h4'
 obtain ⟨⟨⟨⟨⟨⟨⟨⟨⟨f1,f2⟩,f3⟩,f4⟩,f5⟩,f6⟩,f7⟩,f8⟩,f9⟩,f10⟩:=h4'
 have hbody:bodyF (recF b)=b.take 44:=by
  have e:∀ i n,i+n≤45→(cut b i n).length=n:=fun i n h=>cut_cut_len (by omega)
  unfold bodyF headB
  simp only [recF]
  rw [packF_decD (e 0 1 (by omega)) f1,packF_decD (e 1 5 (by omega)) f2,packF_decD (e 23 6 (by omega)) f5,packF_decD (e 29 7 (by omega)) f6,packF_decD (e 36 5 (by omega)) f7,packF_decD (e 41 1 (by omega)) f8,packF_decD (e 42 2 (by omega)) f9,
   telF_telD (e 7 8 (by omega)) (Prod.ext rfl f3),telF_telD (e 15 8 (by omega)) (Prod.ext rfl f4)]
  unfold flagF
  simp only []
  rw [flag_back _ f10,cut_one (by omega)]
  rw [cut_join b 0 1,cut_join b 0 (1+5),cut_join b 0 (1+5+1),cut_join b 0 (1+5+1+8),cut_join b 0 (1+5+1+8+8),cut_join b 0 (1+5+1+8+8+6),cut_join b 0 (1+5+1+8+8+6+7),cut_join b 0 (1+5+1+8+8+6+7+5),cut_join b 0 (1+5+1+8+8+6+7+5+1)]
  rfl
 unfold bytesF
 have h3':sumF (b.take 44)=nth b 44:=Decidable.byContradiction h3
 rw [hbody,h3',cut_one (by omega),show b.take 44=cut b 0 44 from rfl,cut_join b 0 44 1,show 44+1=b.length by omega,cut_all]
theorem cut_left (x y:List UInt8) (i n:Nat) (h:i+n≤x.length):cut (x++y) i n=cut x i n:=by
 unfold cut
 rw [List.drop_append_of_le_length (by omega),List.take_append_of_le_length (by simp; omega)]
theorem cut_end (x y:List UInt8) (i n:Nat) (h:x.length=i) (hy:y.length=n):cut (x++y) i n=y:=by
 subst h hy
 simp [cut]
theorem bytes_len (r:Record):(bytesF r).length=45:=by simp [bytesF,bodyF_len]
theorem nth_left (x y:List UInt8) (i:Nat) (h:i < x.length):nth (x++y) i=nth x i:=by
 rw [nth_eq (by simp; omega),nth_eq h,List.getElem_append_left h]
theorem nth_end (x:List UInt8) (y:UInt8) (i:Nat) (h:x.length=i):nth (x++[y]) i=y:=by
 subst h
 rw [nth_eq (by simp)]; simp
theorem flag_read {r:Record} (hk:1≤r.kind∧r.kind≤4):(((flagF r).toNat / 16:Nat):Int)=r.kind∧((flagF r % 2)==1)=r.last∧decide (flagF r % 16≥2)=r.inbound∧flagF r % 16≤3:=by
 unfold flagF
 obtain ⟨h1,h2⟩:=hk
 have:r.kind=1∨r.kind=2∨r.kind=3∨r.kind=4:=by omega
 rcases this with h | h | h | h <;> rw [h] <;> cases r.last <;> cases r.inbound <;> decide
theorem fields_of {r:Record} (g:Good r):recF (bytesF r)=r∧formB (bytesF r)=true:=by
 have hf:=flag_read g.kind
 have c1:cut (bytesF r) 0 1=packF 1 r.source:=by
  unfold bytesF bodyF headB
  iterate 10 rw [cut_left _ _ _ _ (by simp [packF_len,telF_len])]
  have e:(packF 1 r.source).length=1:=packF_len _ _
  have:=cut_all (packF 1 r.source)
  rw [e] at this; exact this
 have c2:cut (bytesF r) 1 5=packF 5 r.serial:=by
  unfold bytesF bodyF headB
  iterate 9 rw [cut_left _ _ _ _ (by simp [packF_len,telF_len])]
  exact cut_end _ _ _ _ (by simp [packF_len,telF_len]) (by simp [packF_len,telF_len])
 have c3:nth (bytesF r) 6=flagF r:=by
  unfold bytesF bodyF headB
  iterate 8 rw [nth_left _ _ _ (by simp [packF_len,telF_len])]
  exact nth_end _ _ _ (by simp [packF_len,telF_len])
 have c4:cut (bytesF r) 7 8=telF r.a:=by
  unfold bytesF bodyF headB
  iterate 7 rw [cut_left _ _ _ _ (by simp [packF_len,telF_len])]
  exact cut_end _ _ _ _ (by simp [packF_len,telF_len]) (by simp [packF_len,telF_len])
 have c5:cut (bytesF r) 15 8=telF r.b:=by
  unfold bytesF bodyF headB
  iterate 6 rw [cut_left _ _ _ _ (by simp [packF_len,telF_len])]
  exact cut_end _ _ _ _ (by simp [packF_len,telF_len]) (by simp [packF_len,telF_len])
 have c6:cut (bytesF r) 23 6=packF 6 r.start:=by
  unfold bytesF bodyF headB
  iterate 5 rw [cut_left _ _ _ _ (by simp [packF_len,telF_len])]
  exact cut_end _ _ _ _ (by simp [packF_len,telF_len]) (by simp [packF_len,telF_len])
 have c7:cut (bytesF r) 29 7=packF 7 r.units:=by
  unfold bytesF bodyF headB
  iterate 4 rw [cut_left _ _ _ _ (by simp [packF_len,telF_len])]
  exact cut_end _ _ _ _ (by simp [packF_len,telF_len]) (by simp [packF_len,telF_len])
 have c8:cut (bytesF r) 36 5=packF 5 r.call:=by
  unfold bytesF bodyF headB
  iterate 3 rw [cut_left _ _ _ _ (by simp [packF_len,telF_len])]
  exact cut_end _ _ _ _ (by simp [packF_len,telF_len]) (by simp [packF_len,telF_len])
 have c9:cut (bytesF r) 41 1=packF 1 r.part:=by
  unfold bytesF bodyF headB
  iterate 2 rw [cut_left _ _ _ _ (by simp [packF_len,telF_len])]
  exact cut_end _ _ _ _ (by simp [packF_len,telF_len]) (by simp [packF_len,telF_len])
 have c10:cut (bytesF r) 42 2=packF 2 r.trunk:=by
  unfold bytesF bodyF headB
  rw [cut_left _ _ _ _ (by simp [packF_len,telF_len])]
  exact cut_end _ _ _ _ (by simp [packF_len,telF_len]) (by simp [packF_len,telF_len])
 obtain ⟨⟨ga,gal⟩,gb,gbl⟩:=good_tel g
 have gs:=g.source; have gr:=g.serial; have gt:=g.start; have gu:=g.units; have gc:=g.call; have gp:=g.part; have gk:=g.trunk
 have d1:decD (packF 1 r.source)=(r.source,0):=decD_pack (by omega) (by omega) (by omega)
 have d2:decD (packF 5 r.serial)=(r.serial,0):=decD_pack (by omega) (by omega) (by omega)
 have d3:decD (packF 6 r.start)=(r.start,0):=decD_pack (by omega) (by omega) (by omega)
 have d4:decD (packF 7 r.units)=(r.units,0):=decD_pack (by omega) (by omega) (by omega)
 have d5:decD (packF 5 r.call)=(r.call,0):=decD_pack (by omega) (by omega) (by omega)
 have d6:decD (packF 1 r.part)=(r.part,0):=decD_pack (by omega) (by omega) (by omega)
 have d7:decD (packF 2 r.trunk)=(r.trunk,0):=decD_pack (by omega) (by omega) (by omega)
 constructor
 ·unfold recF
  rw [c1,c2,c3,c4,c5,c6,c7,c8,c9,c10,d1,d2,d3,d4,d5,d6,d7,telD_telF ga gal,telD_telF gb gbl,hf.1,hf.2.1,hf.2.2.1]
 ·unfold formB
  rw [c1,c2,c3,c4,c5,c6,c7,c8,c9,c10,d1,d2,d3,d4,d5,d6,d7,telD_telF ga gal,telD_telF gb gbl]
  simp [hf.2.2.2]
theorem read_back {r:Record} (h:errF r=0):unpackF (bytesF r)=(r,0):=by
 have hf:=fields_of (errF_good h)
 unfold unpackF
 rw [bytes_len,if_neg (by omega),if_neg (by omega),hf.1,hf.2,if_neg,if_neg (by simp),if_neg (by simp [h])]
 unfold bytesF
 rw [List.take_append_of_le_length (by rw [bodyF_len]; omega),List.take_of_length_le (by rw [bodyF_len]; omega),nth_end _ _ _ (bodyF_len r)]
 simp
def okRs (b:List UInt8):Nat→Nat→List Record
 | _,0=>[]
 | i,n+1=>if (unpackF (cut b (i*45) 45)).2=0 then (unpackF (cut b (i*45) 45)).1 :: okRs b (i+1) n else okRs b (i+1) n
def noRs (b:List UInt8):Nat→Nat→List Reject
 | _,0=>[]
 | i,n+1=>if (unpackF (cut b (i*45) 45)).2=0 then noRs b (i+1) n else ⟨0,0,i,(unpackF (cut b (i*45) 45)).2⟩ :: noRs b (i+1) n
theorem okRs_len (b:List UInt8):∀ n i:Nat,(okRs b i n).length≤n
 | 0,i=>by simp [okRs]
 | n+1,i=>by
  have:=okRs_len b n (i+1)
  unfold okRs
  split
  ·simp; omega
  ·omega
theorem noRs_len (b:List UInt8):∀ n i:Nat,(noRs b i n).length≤n
 | 0,i=>by simp [noRs]
 | n+1,i=>by
  have:=noRs_len b n (i+1)
  unfold noRs
  split
  ·omega
  ·simp; omega
def allF (b:List UInt8):List Record×List Reject×Int :=
 if b.length % 45≠0 then ([],[],2) else if b.length / 45 > 4096 then ([],[],5) else (okRs b 0 (b.length / 45),noRs b 0 (b.length / 45),0)
theorem cut_len (b:List UInt8) {i:Nat} (h:i < b.length / 45):(cut b (i*45) 45).length=45:=by
 simp [cut]; omega
theorem len_mod (b:List UInt8):(Int.tmod (b.length:Int) 45 != 0)=decide (b.length % 45≠0):=by
 rw [Bool.eq_iff_iff,decide_eq_true_iff,tmod_nn (by omega)]
 simp; omega
theorem len_div (b:List UInt8):Int.tdiv (b.length:Int) 45=((b.length / 45:Nat):Int):=by
 rw [tdiv_nn (by omega)]; omega
theorem p_All11 (b:List UInt8) (hb:b.length≤100000):f_packed_All b=some (allF b):=by
 unfold f_packed_All allF
 rw [len_mod,len_div,ck_pos (by decide)]
 by_cases h1:b.length % 45≠0
 ·rw [if_pos (by simpa using h1),if_pos h1]
 ·rw [if_neg (by simpa using h1),if_neg h1,ck_pos (by omega)]
  by_cases h2:b.length / 45 > 4096
  ·rw [if_pos (by simp; omega),if_pos h2]
  ·rw [if_neg (by simp; omega),if_neg h2,ck_pos (by omega)]
   have:=loop_spec (step:=fun st=>f_packed_All_l1 b st.1 st.2.1 st.2.2.1 st.2.2.2.1 st.2.2.2.2)
    (fun st:List Record×List Reject×Int×List UInt8×Bool=>some (st.1++okRs b st.2.2.1.toNat (b.length / 45-st.2.2.1.toNat),st.2.1++noRs b st.2.2.1.toNat (b.length / 45-st.2.2.1.toNat),(0:Int)))
    (fun st=>(0≤st.2.2.1∧st.2.2.1≤((b.length / 45:Nat):Int)∧(st.1.length:Int)≤st.2.2.1∧(st.2.1.length:Int)≤st.2.2.1)∧st.2.2.2.1=b.drop (st.2.2.1.toNat*45)∧st.2.2.2.2=false) (fun st=>(((b.length / 45:Nat):Int) - st.2.2.1).toNat) (fun st hI=>by
     obtain ⟨out,no,i,c,bad⟩:=st
     obtain ⟨⟨i0,i1,i2,i3⟩,e1,e2⟩:=hI
     simp only at i0 i1 i2 i3 e1 e2 ⊢
     subst e1 e2
     unfold f_packed_All_l1
     rw [len_div]
     by_cases hi:i < ((b.length / 45:Nat):Int)
     ·rw [if_pos (by simpa using hi),show (45:Int)=((45:Nat):Int) from rfl,p_field _ _ 45 (by rw [List.length_drop]; omega),Option.bind_some]
      simp only [drop_cut]
      rw [p_Decode11 _ (by rw [cut_len b (by omega)]; omega),Option.bind_some]
      rw [show b.length / 45-i.toNat=(b.length / 45-(i.toNat+1))+1 by omega]
      by_cases hd:(unpackF (cut b (i.toNat*45) 45)).2=0
      ·rw [if_neg (by simp [hd]),ck_pos (by simp; omega),ck_pos (by omega)]
       refine .inr ⟨_,rfl,⟨⟨by simp only; omega,by simp only; omega,by simp; omega,by simp only; omega⟩,by simp only [List.drop_drop]; congr 1; omega,rfl⟩,by simp only; omega,?_⟩
       simp only
       rw [show (i+1).toNat=i.toNat+1 from by omega]
       simp [okRs,noRs,hd]
      ·rw [if_pos (by simpa using hd),ck_pos (by simp; omega),ck_pos (by omega)]
       refine .inr ⟨_,rfl,⟨⟨by simp only; omega,by simp only; omega,by simp only; omega,by simp; omega⟩,by simp only [List.drop_drop]; congr 1; omega,rfl⟩,by simp only; omega,?_⟩
       simp only
       rw [show (i+1).toNat=i.toNat+1 from by omega]
       simp [okRs,noRs,hd]
       omega
     ·rw [if_neg (by simpa using hi)]
      refine .inl ⟨_,rfl,?_⟩
      rw [show b.length / 45-i.toNat=0 by omega]
      simp [okRs,noRs]) (s:=([],[],0,b,false)) ⟨⟨by simp,by simp; omega,by simp,by simp⟩,by simp,rfl⟩ (by simp only; omega)
   rw [this]
   simp
end Go.Proofs.YthoengcicaicoaaGreatDoor.C11
namespace Go.Proofs.YthoengcicaicoaaGreatDoor.C10
open Go.RowKit Go.Abs
def elmF (last:Int) (out:List Element) (b:List UInt8):List Element×Int :=
 if b.length=0 then (out,0) else if (nth b 0).toNat=0 then ([],6) else if ((nth b 0).toNat:Int)≤last then ([],9)
 else if b.length < 2∨b.length-2 < (nth b 1).toNat then ([],2)
 else elmF (nth b 0).toNat (out++[⟨((nth b 0).toNat:Int),(b.drop 2).take (nth b 1).toNat⟩]) (b.drop (2+(nth b 1).toNat))
termination_by b.length
decreasing_by simp; omega
theorem slice_dt (b:List UInt8) (i j:Nat):(b.take j).drop i=(b.drop i).take (j-i):=List.drop_take
theorem p_Elements (b:List UInt8) (hb:b.length≤1000000):f_tagged_Elements b=some (elmF 0 [] b):=by
 unfold f_tagged_Elements
 have:=loop_spec (step:=fun st=>f_tagged_Elements_l1 st.1 st.2.1 st.2.2) (fun st:List UInt8×List Element×Int=>some (elmF st.2.2 st.2.1 st.1))
  (fun st=>st.1.length+st.2.1.length≤1000000) (fun st=>st.1.length) (fun st hI=>by
   obtain ⟨b,out,last⟩:=st
   simp only at hI ⊢
   unfold f_tagged_Elements_l1
   rw [elmF]
   by_cases h0:b.length=0
   ·rw [if_neg (by simp; simpa using h0),if_pos h0]; exact .inl ⟨_,rfl,rfl⟩
   ·rw [if_pos (by simp; omega),if_neg h0,ck_pos (by omega)]
    simp only [show Int.toNat 0=0 from rfl,show Int.toNat 1=1 from rfl]
    by_cases h1:(nth b 0).toNat=0
    ·rw [if_pos (by simp [h1]),if_pos h1]; exact .inl ⟨_,rfl,rfl⟩
    ·rw [if_neg (by simp; omega),if_neg h1]
     by_cases h2:((nth b 0).toNat:Int)≤last
     ·rw [if_pos (by simpa using h2),if_pos h2]; exact .inl ⟨_,rfl,rfl⟩
     ·rw [if_neg (by simpa using h2),if_neg h2,ck_pos (by intro _; omega),ck_pos (by intro h; simp at h; omega)]
      by_cases h3:b.length < 2∨b.length-2 < (nth b 1).toNat
      ·rw [if_pos (by simp; omega),if_pos h3]; exact .inl ⟨_,rfl,rfl⟩
      ·have ht:(Int.toNat (2+((nth b 1).toNat:Int)))=2+(nth b 1).toNat:=by omega
       rw [if_neg (by simp; omega),if_neg h3,ck_pos (by omega),ck_pos (by omega),ck_pos (by omega),ht,ck_pos (by simp; omega),ck_pos (by simp; omega),ck_pos (by omega)]
       refine .inr ⟨_,rfl,by simp; omega,by simp; omega,?_⟩
       simp only
       rw [show Int.toNat 2=2 from rfl,slice_dt,show 2+(nth b 1).toNat-2=(nth b 1).toNat by omega]) (s:=(b,[],0)) (by simp; omega) (by simp only; omega)
 rw [this]
theorem nth_drop (b:List UInt8) (i j:Nat) (h:i+j < b.length):nth (b.drop i) j=nth b (i+j):=by
 rw [nth_eq (by simp; omega),nth_eq h,List.getElem_drop]
def okL:Int→List Element→Prop
 | _,[]=>True
 | last,x :: r=>1≤x.tag∧x.tag≤255∧last < x.tag∧x.value.length≤255∧okL x.tag r
def encL:List Element→List UInt8
 | []=>[]
 | x :: r=>[UInt8.ofInt x.tag,UInt8.ofInt (x.value.length:Int)]++x.value++encL r
theorem byte_back {n:Int} (h:0≤n∧n≤255):((UInt8.ofInt n).toNat:Int)=n:=by
 have key:∀ x:Fin 256,((UInt8.ofInt (x.val:Int)).toNat:Int)=(x.val:Int):=by decide +kernel
 have:=key ⟨n.toNat,by omega⟩
 simp only [Int.toNat_of_nonneg h.1] at this
 exact this
theorem elm_enc:∀ (l:List Element) (last:Int) (out:List Element),okL last l→elmF last out (encL l)=(out++l,0)
 | [],last,out,_=>by rw [elmF]; simp [encL]
 | x :: r,last,out,h=>by
  obtain ⟨h1,h2,h3,h4,h5⟩:=h
  have e1:=byte_back (n:=x.tag) (by omega)
  have e2:=byte_back (n:=(x.value.length:Int)) (by omega)
  have n0:nth (encL (x :: r)) 0=UInt8.ofInt x.tag:=rfl
  have n1:nth (encL (x :: r)) 1=UInt8.ofInt (x.value.length:Int):=rfl
  have hl:(encL (x :: r)).length=2+x.value.length+(encL r).length:=by simp [encL]; omega
  rw [elmF,n0,n1,e1,show (UInt8.ofInt (x.value.length:Int)).toNat=x.value.length by omega,if_neg (by omega),if_neg (by omega),if_neg (by omega),if_neg (by omega)]
  have d1:((encL (x :: r)).drop 2).take x.value.length=x.value:=by simp [encL]
  have d2:(encL (x :: r)).drop (2+x.value.length)=encL r:=by
   rw [←List.drop_drop]; simp [encL]
  rw [d1,d2,elm_enc r _ _ h5]
  simp
theorem byte_fwd (x:UInt8):UInt8.ofInt (x.toNat:Int)=x:=by
 apply UInt8.toNat_inj.1
 have:=byte_back (n:=(x.toNat:Int)) (by have:=x.toNat_lt; omega)
 omega
theorem elm_back:∀ (n:Nat) (b:List UInt8) (last:Int) (out:List Element),b.length≤n→0≤last→(elmF last out b).2=0→∃ l,(elmF last out b).1=out++l∧okL last l∧encL l=b
 | n,b,last,out,hn,hl,h=>by
  rw [elmF] at h ⊢
  by_cases h0:b.length=0
  ·rw [if_pos h0]
   exact ⟨[],by simp,trivial,by rw [List.length_eq_zero_iff] at h0; rw [h0]; rfl⟩
  ·rw [if_neg h0] at h ⊢
   split at h; · cases h
   rename_i h1
   rw [if_neg h1]
   split at h; · cases h
   rename_i h2
   rw [if_neg h2]
   split at h; · cases h
   rename_i h3
   rw [if_neg h3]
   obtain ⟨n,rfl⟩:∃ m,n=m+1:=⟨n-1,by omega⟩
   obtain ⟨l,e1,e2,e3⟩:=elm_back n _ _ _ (by rw [List.length_drop]; omega) (by omega) h
   have hb0:=(nth b 0).toNat_lt
   have hb1:=(nth b 1).toNat_lt
   have htl:((b.drop 2).take (nth b 1).toNat).length=(nth b 1).toNat:=by simp; omega
   refine ⟨⟨((nth b 0).toNat:Int),(b.drop 2).take (nth b 1).toNat⟩ :: l,by rw [e1]; simp,⟨by simp only; omega,by simp only; omega,by simp only; omega,by simp only; omega,e2⟩,?_⟩
   rw [encL,e3]
   simp only [htl,byte_fwd]
   have:b=[nth b 0,nth b 1]++((b.drop 2).take (nth b 1).toNat++(b.drop 2).drop (nth b 1).toNat):=by
    rw [List.take_append_drop,nth_eq (show 0 < b.length by omega),nth_eq (show 1 < b.length by omega)]
    match b,h3 with
    | x :: y :: r,_=>rfl
    | [x],h3=>simp at h3
    | [],h3=>simp at h3
   conv=>rhs; rw [this]
   rw [List.drop_drop,List.append_assoc]
def byG (n:Int) (out:List UInt8):List UInt8:=if n > 0 then byG (n / 256) (UInt8.ofInt n :: out) else out
termination_by n.toNat
decreasing_by omega
def byF (n:Int):List UInt8:=byG n []
theorem pow256 (k:Nat):(256:Int) ^ (k+1)=256 ^ k*256:=Int.pow_succ _ _
theorem byG_len:∀ (k:Nat) (n:Int) (out:List UInt8),n < 256 ^ k→(byG n out).length≤out.length+k
 | k,n,out,h=>by
  rw [byG]
  split
  ·match k,h with
   | 0,h=>simp at h; omega
   | k+1,h =>
    have:=byG_len k (n / 256) (UInt8.ofInt n :: out) (by rw [pow256] at h; exact Int.ediv_lt_of_lt_mul (by omega) h)
    simp at this ⊢; omega
  ·omega
theorem byF_len {n:Int} (h:n≤9223372036854775807):(byF n).length≤8:=by
 have:=byG_len 8 n [] (by rw [show (256:Int) ^ 8=18446744073709551616 from by decide]; omega)
 simpa [byF] using this
theorem ofInt_mod {n:Int} (h:0≤n):UInt8.ofInt (n % 256)=UInt8.ofInt n:=by
 apply UInt8.toNat_inj.1
 simp [UInt8.ofInt]
theorem p_bytes (n:Int) (h:n≤9223372036854775807):f_tagged_bytes n=some (byF n):=by
 unfold f_tagged_bytes byF
 exact loop_spec (step:=fun st=>f_tagged_bytes_l1 st.1 st.2) (fun st:Int×List UInt8=>some (byG st.1 st.2)) (fun st=>∃ k,st.2.length+k≤8∧st.1 < 256 ^ k) (fun st=>st.1.toNat) (fun st hI=>by
  obtain ⟨n,out⟩:=st
  obtain ⟨k,i0,i1⟩:=hI
  simp only at i0 i1 ⊢
  unfold f_tagged_bytes_l1
  rw [byG]
  by_cases hn:n > 0
  ·rw [if_pos (by simpa using hn),if_pos hn,ck_pos (by simp; omega),ck_pos (by decide),show (2:Int) ^ Int.toNat 8=256 from rfl]
   match k,i1 with
   | 0,i1=>simp at i1; omega
   | k+1,i1=>exact .inr ⟨_,rfl,⟨k,by simp; omega,by rw [pow256] at i1; exact Int.ediv_lt_of_lt_mul (by omega) i1⟩,by simp only; omega,rfl⟩
  ·rw [if_neg (by simpa using hn),if_neg hn]
   exact .inl ⟨_,rfl,rfl⟩) ⟨8,by simp,by simp only; rw [show (256:Int) ^ 8=18446744073709551616 from by decide]; omega⟩ (by simp only; omega)
theorem pack_post (s:List UInt8) (hs:s.length < 1000000000):∃ r,f_digits_Pack s=some r∧r.1.length≤8∧(validB s=false→r.1=[]):=by
 unfold f_digits_Pack
 rw [p_Valid s hs,Option.bind_some]
 cases hv:validB s with
 | false=>exact ⟨_,by rw [if_pos (by rfl)],by simp,fun _=>rfl⟩
 | true =>
  have hl:=validB_len hv
  rw [if_neg (by simp)]
  have:=loop_post (step:=fun st=>f_digits_Pack_l1 s st.1 st.2) (fun r:List UInt8×Int=>r.1.length≤8) (fun st:List UInt8×Int=>0≤st.2∧(2*st.1.length:Int)=st.2∧st.2≤(s.length:Int)+1) (fun st=>((s.length:Int) - st.2).toNat) (fun st hI=>by
   obtain ⟨b,i⟩:=st
   obtain ⟨i0,i1,i2⟩:=hI
   simp only at i0 i1 i2 ⊢
   unfold f_digits_Pack_l1
   by_cases hi:i < (s.length:Int)
   ·rw [if_pos (by simpa using hi),ck_pos (by omega)]
    by_cases hj:i+1 < (s.length:Int)
    ·rw [if_pos (by simpa using hj),ck_pos (by omega),ck_pos (by omega)]
     unfold f_digits_Pack_j1
     rw [ck_pos (by omega),ck_pos (by decide),ck_pos (by simp; omega),ck_pos (by omega)]
     exact .inr ⟨_,rfl,⟨by simp only; omega,by simp; omega,by simp only; omega⟩,by simp only; omega⟩
    ·rw [if_neg (by simpa using hj)]
     unfold f_digits_Pack_j1
     rw [ck_pos (by omega),ck_pos (by decide),ck_pos (by simp; omega),ck_pos (by omega)]
     exact .inr ⟨_,rfl,⟨by simp only; omega,by simp; omega,by simp only; omega⟩,by simp only; omega⟩
   ·rw [if_neg (by simpa using hi)]
    refine .inl ⟨_,rfl,?_⟩
    simp only
    omega) (s:=([],0)) ⟨by simp,by simp,by simp; omega⟩ (by simp only; omega)
  obtain ⟨r,h1,h2⟩:=this
  exact ⟨r,h1,h2,fun h=>by cases h⟩
def pkF (s:List UInt8):List UInt8:=((f_digits_Pack s).getD ([],0)).1
theorem p_Pack (s:List UInt8) (hs:s.length < 1000000000):∃ e,f_digits_Pack s=some (pkF s,e):=by
 obtain ⟨r,h,_⟩:=pack_post s hs
 exact ⟨r.2,by unfold pkF; rw [h]; rfl⟩
theorem pkF_len (s:List UInt8) (hs:s.length < 1000000000):(pkF s).length≤8:=by
 obtain ⟨r,h,h1,_⟩:=pack_post s hs
 unfold pkF; rw [h]; exact h1
theorem pkF_nil:pkF []=[]:=by
 obtain ⟨r,h,_,h2⟩:=pack_post [] (by simp)
 unfold pkF; rw [h]; exact h2 rfl
def one (tag:Int) (v:List UInt8):List Element:=if v.length=0 then [] else [⟨tag,v⟩]
theorem encL_app:∀ x y:List Element,encL (x++y)=encL x++encL y
 | [],y=>rfl
 | a :: x,y=>by rw [List.cons_append,encL,encL,encL_app x y]; simp only [List.append_assoc]
theorem one_len (tag:Int) (v:List UInt8) (h:v.length≤8):(encL (one tag v)).length≤10:=by
 unfold one; split
 ·simp [encL]
 ·simp [encL]; omega
theorem p_add (tag:Int) (v out:List UInt8) (h:out.length+v.length≤900000000):g_tagged_Encode_1 tag v out=some (out++encL (one tag v)):=by
 unfold g_tagged_Encode_1 one
 by_cases hv:v.length=0
 ·rw [if_neg (by simp; exact List.length_eq_zero_iff.1 hv),if_pos hv]; simp [encL]
 ·rw [if_pos (by simp; omega),if_neg hv]
  unfold g_tagged_put
  rw [ck_pos (by simp; omega),ck_pos (by simp; omega)]
  simp [encL]
def flI (r:Record):Int:=(if r.last=true then 1 else 0)+(if r.inbound=true then 2 else 0)
def valsF (r:Record):List (List UInt8):=[[],byF r.kind,byF r.source,byF r.serial,pkF r.a,pkF r.b,byF r.start,byF r.units,byF r.call,byF r.part,byF r.trunk,byF (flI r)]
def elsF (r:Record):List Element:=one 1 (byF r.kind)++one 2 (byF r.source)++one 3 (byF r.serial)++one 4 (pkF r.a)++one 5 (pkF r.b)++one 6 (byF r.start)++one 7 (byF r.units)++one 8 (byF r.call)++one 9 (byF r.part)++one 10 (byF r.trunk)++one 11 (byF (flI r))
def bytesT (r:Record):List UInt8:=[UInt8.ofInt (((encL (elsF r)).length:Int) / 256),UInt8.ofInt ((encL (elsF r)).length:Int)]++encL (elsF r)
theorem p_flag (b:Bool) (n:Int):f_tagged_flag b n=some (if b=true then n else 0):=by unfold f_tagged_flag; cases b <;> rfl
theorem flI_le (r:Record):0≤flI r∧flI r≤3:=by unfold flI; cases r.last <;> cases r.inbound <;> decide
theorem p_Encode10 (r:Record) (ha:r.a.length < 1000000000) (hb:r.b.length < 1000000000):f_tagged_Encode r=some (if errF r=0 then bytesT r else [],errF r):=by
 unfold f_tagged_Encode
 rw [p_Encode r ha hb,Option.bind_some]
 by_cases he:errF r=0
 ·have g:=errF_good he
  have gs:=g.source; have gr:=g.serial; have gk:=g.kind; have gt:=g.start; have gu:=g.units; have gc:=g.call; have gp:=g.part; have gkk:=g.trunk
  obtain ⟨e1,h1⟩:=p_Pack r.a ha
  obtain ⟨e2,h2⟩:=p_Pack r.b hb
  have k1:=pkF_len r.a ha
  have k2:=pkF_len r.b hb
  have hf:=flI_le r
  have b1:=byF_len (n:=r.kind) (by omega); have b2:=byF_len (n:=r.source) (by omega); have b3:=byF_len (n:=r.serial) (by omega); have b4:=byF_len (n:=r.start) (by omega)
  have b5:=byF_len (n:=r.units) (by omega); have b6:=byF_len (n:=r.call) (by omega); have b7:=byF_len (n:=r.part) (by omega); have b8:=byF_len (n:=r.trunk) (by omega); have b9:=byF_len (n:=flI r) (by omega)
  have o1:=one_len 1 _ b1; have o2:=one_len 2 _ b2; have o3:=one_len 3 _ b3; have o4:=one_len 4 _ k1; have o5:=one_len 5 _ k2; have o6:=one_len 6 _ b4
  have o7:=one_len 7 _ b5; have o8:=one_len 8 _ b6; have o9:=one_len 9 _ b7; have o10:=one_len 10 _ b8; have o11:=one_len 11 _ b9
  rw [if_neg (by simp [he]),h1,h2,if_pos he,he]
  simp only [Option.bind_some,p_flag]
  rw [ck_pos (by decide),show (List.replicate (Int.toNat 2) 0:List UInt8)=[0,0] from rfl]
  rw [p_bytes _ (by omega),Option.bind_some,p_add _ _ _ (by simp; omega),Option.bind_some,p_bytes _ (by omega),Option.bind_some,p_add _ _ _ (by simp; omega),Option.bind_some]
  rw [p_bytes _ (by omega),Option.bind_some,p_add _ _ _ (by simp; omega),Option.bind_some,p_add _ _ _ (by simp; omega),Option.bind_some,p_add _ _ _ (by simp; omega),Option.bind_some]
  rw [p_bytes _ (by omega),Option.bind_some,p_add _ _ _ (by simp; omega),Option.bind_some,p_bytes _ (by omega),Option.bind_some,p_add _ _ _ (by simp; omega),Option.bind_some]
  rw [p_bytes _ (by omega),Option.bind_some,p_add _ _ _ (by simp; omega),Option.bind_some,p_bytes _ (by omega),Option.bind_some,p_add _ _ _ (by simp; omega),Option.bind_some]
  rw [p_bytes _ (by omega),Option.bind_some,p_add _ _ _ (by simp; omega),Option.bind_some]
  rw [show ((if r.last=true then 1 else 0)+(if r.inbound=true then 2 else 0):Int)=flI r from rfl]
  rw [ck_pos (by omega),p_bytes _ (by omega),Option.bind_some,p_add _ _ _ (by simp; omega),Option.bind_some]
  have e:([0,0]++encL (one 1 (byF r.kind))++encL (one 2 (byF r.source))++encL (one 3 (byF r.serial))++encL (one 4 (pkF r.a))++encL (one 5 (pkF r.b))++encL (one 6 (byF r.start))++encL (one 7 (byF r.units))++encL (one 8 (byF r.call))++encL (one 9 (byF r.part))++encL (one 10 (byF r.trunk))++encL (one 11 (byF (flI r))):List UInt8)=0 :: 0 :: encL (elsF r):=by
   unfold elsF
   simp only [encL_app,List.append_assoc,List.cons_append,List.nil_append]
  have hl:(encL (elsF r)).length≤110:=by
   unfold elsF
   simp only [encL_app,List.length_append]
   omega
  rw [e]
  rw [ck_pos (by simp; omega),ck_pos (by decide),ck_pos (by simp; omega),ck_pos (by simp),ck_pos (by simp; omega),ck_pos (by simp)]
  have e3:(((0 :: 0 :: encL (elsF r):List UInt8).length:Int) - 2)=((encL (elsF r)).length:Int):=by simp; omega
  rw [e3,show (2:Int) ^ Int.toNat 8=256 from rfl]
  rfl
 ·rw [if_pos (by simpa using he)]; simp [he]
theorem okL_app:∀ (x y:List Element) (last m:Int),okL last x→(∀ e,e∈x→e.tag≤m)→last≤m→okL m y→okL last (x++y)
 | [],y,last,m,_,_,hm,hy=>by
  cases y with
  | nil=>trivial
  | cons a y=>exact ⟨hy.1,hy.2.1,by have:=hy.2.2.1; omega,hy.2.2.2⟩
 | a :: x,y,last,m,hx,hm,hl,hy=>⟨hx.1,hx.2.1,hx.2.2.1,hx.2.2.2.1,okL_app x y a.tag m hx.2.2.2.2 (fun e he=>hm e (List.mem_cons_of_mem _ he)) (hm a List.mem_cons_self) hy⟩
theorem okL_one {tag last:Int} {v:List UInt8} (h:1≤tag∧tag≤255∧last < tag) (hv:v.length≤8):okL last (one tag v):=by
 unfold one; split
 ·trivial
 ·exact ⟨h.1,h.2.1,h.2.2,by simp only; omega,trivial⟩
theorem one_tag {tag m:Int} {v:List UInt8} (h:tag≤m):∀ e,e∈one tag v→e.tag≤m:=by
 intro e he
 unfold one at he
 split at he
 ·cases he
 ·rw [List.mem_singleton] at he; subst he; exact h
theorem els_ok {r:Record} (g:Good r) (ha:r.a.length < 1000000000) (hb:r.b.length < 1000000000):okL 0 (elsF r):=by
 have gs:=g.source; have gr:=g.serial; have gk:=g.kind; have gt:=g.start; have gu:=g.units; have gc:=g.call; have gp:=g.part; have gkk:=g.trunk
 have k1:=pkF_len r.a ha
 have k2:=pkF_len r.b hb
 have hf:=flI_le r
 have b1:=byF_len (n:=r.kind) (by omega); have b2:=byF_len (n:=r.source) (by omega); have b3:=byF_len (n:=r.serial) (by omega); have b4:=byF_len (n:=r.start) (by omega)
 have b5:=byF_len (n:=r.units) (by omega); have b6:=byF_len (n:=r.call) (by omega); have b7:=byF_len (n:=r.part) (by omega); have b8:=byF_len (n:=r.trunk) (by omega); have b9:=byF_len (n:=flI r) (by omega)
 unfold elsF
 simp only [List.append_assoc]
 refine okL_app _ _ 0 1 (okL_one (by omega) b1) (one_tag (by omega)) (by omega) ?_
 refine okL_app _ _ 1 2 (okL_one (by omega) b2) (one_tag (by omega)) (by omega) ?_
 refine okL_app _ _ 2 3 (okL_one (by omega) b3) (one_tag (by omega)) (by omega) ?_
 refine okL_app _ _ 3 4 (okL_one (by omega) k1) (one_tag (by omega)) (by omega) ?_
 refine okL_app _ _ 4 5 (okL_one (by omega) k2) (one_tag (by omega)) (by omega) ?_
 refine okL_app _ _ 5 6 (okL_one (by omega) b4) (one_tag (by omega)) (by omega) ?_
 refine okL_app _ _ 6 7 (okL_one (by omega) b5) (one_tag (by omega)) (by omega) ?_
 refine okL_app _ _ 7 8 (okL_one (by omega) b6) (one_tag (by omega)) (by omega) ?_
 refine okL_app _ _ 8 9 (okL_one (by omega) b7) (one_tag (by omega)) (by omega) ?_
 refine okL_app _ _ 9 10 (okL_one (by omega) b8) (one_tag (by omega)) (by omega) ?_
 exact okL_one (by omega) b9
theorem enc_len {r:Record} (g:Good r) (ha:r.a.length < 1000000000) (hb:r.b.length < 1000000000):(encL (elsF r)).length≤110:=by
 have gs:=g.source; have gr:=g.serial; have gk:=g.kind; have gt:=g.start; have gu:=g.units; have gc:=g.call; have gp:=g.part; have gkk:=g.trunk
 have hf:=flI_le r
 have o1:=one_len 1 _ (byF_len (n:=r.kind) (by omega)); have o2:=one_len 2 _ (byF_len (n:=r.source) (by omega)); have o3:=one_len 3 _ (byF_len (n:=r.serial) (by omega)); have o4:=one_len 4 _ (pkF_len r.a ha); have o5:=one_len 5 _ (pkF_len r.b hb); have o6:=one_len 6 _ (byF_len (n:=r.start) (by omega))
 have o7:=one_len 7 _ (byF_len (n:=r.units) (by omega)); have o8:=one_len 8 _ (byF_len (n:=r.call) (by omega)); have o9:=one_len 9 _ (byF_len (n:=r.part) (by omega)); have o10:=one_len 10 _ (byF_len (n:=r.trunk) (by omega)); have o11:=one_len 11 _ (byF_len (n:=flI r) (by omega))
 unfold elsF
 simp only [encL_app,List.length_append]
 omega
theorem u8_all {p:UInt8→Prop} (h:∀ n:Fin 256,p (UInt8.ofNat n.val)) (x:UInt8):p x:=by
 have:=h ⟨x.toNat,x.toNat_lt⟩
 simpa using this
theorem u8_hi (x:UInt8):u8shr x 4=x / 16:=u8_all (p:=fun x=>u8shr x 4=x / 16) (by decide +kernel) x
theorem u8_lo (x:UInt8):x &&& 15=x % 16:=u8_all (p:=fun x=>x &&& 15=x % 16) (by decide +kernel) x
def upkG:List UInt8→List UInt8
 | []=>[]
 | x :: r=>if x % 16≠15∨r≠[] then [48+x / 16]++[48+x % 16]++upkG r else [48+x / 16]
def finU (s:List UInt8):List UInt8×Int:=if validB s=true then (s,0) else ([],12)
def unpF (b:List UInt8):List UInt8×Int:=finU (upkG b)
theorem drop_ne {b:List UInt8} {i:Int} (h0:0≤i) (hi:i < (b.length:Int)):(b.drop (i.toNat+1)≠[])↔i < (b.length:Int) - 1:=by
 rw [ne_eq,List.drop_eq_nil_iff]; omega
theorem p_Unpack (b:List UInt8) (hb:b.length≤100000):f_digits_Unpack b=some (unpF b):=by
 unfold f_digits_Unpack
 have:=loop_spec (step:=fun st=>f_digits_Unpack_l1 b st.1 st.2) (fun st:List UInt8×Int=>some (finU (st.1++upkG (b.drop st.2.toNat)))) (fun st=>0≤st.2∧st.2≤(b.length:Int)∧(st.1.length:Int)≤2*st.2) (fun st=>((b.length:Int) - st.2).toNat) (fun st hI=>by
  obtain ⟨s,i⟩:=st
  obtain ⟨i0,i1,i2⟩:=hI
  simp only at i0 i1 i2 ⊢
  unfold f_digits_Unpack_l1
  by_cases hi:i < (b.length:Int)
  ·rw [if_pos (by simpa using hi),ck_pos (by omega),ck_pos (by decide),ck_pos (by simp; omega),ck_pos (by intro _; omega),drop_nth (show i.toNat < b.length by omega),upkG,u8_hi,u8_lo]
   by_cases hc:nth b i.toNat % 16≠15∨b.drop (i.toNat+1)≠[]
   ·have hc':((nth b i.toNat % 16 != 15) || decide (i < (b.length:Int) - 1))=true:=by
     rw [drop_ne i0 hi] at hc; simpa using hc
    rw [if_pos hc',if_pos hc,ck_pos (by simp; omega),ck_pos (by omega)]
    refine .inr ⟨_,rfl,⟨by simp only; omega,by simp only; omega,by simp; omega⟩,by simp only; omega,?_⟩
    simp only
    rw [show (i+1).toNat=i.toNat+1 by omega]
    simp
   ·have hc':¬ ((nth b i.toNat % 16 != 15) || decide (i < (b.length:Int) - 1))=true:=by
     rw [drop_ne i0 hi] at hc; simpa using hc
    rw [if_neg hc',if_neg hc,ck_pos (by omega)]
    refine .inr ⟨_,rfl,⟨by simp only; omega,by simp only; omega,by simp; omega⟩,by simp only; omega,?_⟩
    simp only
    have hd:b.drop (i.toNat+1)=[]:=Decidable.byContradiction fun h=>hc (.inr h)
    rw [show (i+1).toNat=i.toNat+1 by omega,hd]
    simp [upkG]
  ·rw [if_neg (by simpa using hi)]
   have hj:f_digits_Unpack_j1 s=some (finU s):=by
    unfold f_digits_Unpack_j1 finU
    rw [p_Valid s (by omega),Option.bind_some]
    cases validB s <;> rfl
   rw [hj]
   refine .inl ⟨_,rfl,?_⟩
   rw [List.drop_of_length_le (by omega)]
   simp [upkG]) (s:=([],0)) ⟨by simp,by simp,by simp⟩ (by simp only; omega)
 rw [this]
 simp [unpF]
def numS:Int→List UInt8→Int
 | n,[]=>n
 | n,x :: r=>numS (n*256+(x.toNat:Int)) r
def badN (v:List UInt8):Bool:=((decide ((v.length:Int) < 1)) || (decide ((v.length:Int) > 6))) || (nth v 0==0)
theorem pow_le6 {k:Nat} (h:k≤6):(256:Int) ^ k≤281474976710656:=by
 have:∀ j:Fin 7,(256:Int) ^ j.val≤281474976710656:=by decide +kernel
 exact this ⟨k,by omega⟩
theorem p_number (v:List UInt8) (hv:v.length≤100000):f_tagged_number v=some (if badN v=true then (0,false) else (numS 0 v,true)):=by
 unfold f_tagged_number badN
 rw [show Int.toNat 0=0 from rfl,ck_pos (by intro h; simp at h; omega)]
 by_cases hb:(((decide ((v.length:Int) < 1)) || (decide ((v.length:Int) > 6))) || (nth v 0==0))=true
 ·rw [if_pos hb,if_pos hb]
 ·rw [if_neg hb,if_neg hb]
  simp at hb
  have:=loop_spec (step:=fun st=>f_tagged_number_l1 v st.1 st.2) (fun st:Int×Int=>some (numS st.1 (v.drop st.2.toNat),true)) (fun st=>0≤st.2∧st.2≤(v.length:Int)∧0≤st.1∧st.1 < 256 ^ st.2.toNat) (fun st=>((v.length:Int) - st.2).toNat) (fun st hI=>by
   obtain ⟨n,i⟩:=st
   obtain ⟨i0,i1,i2,i3⟩:=hI
   simp only at i0 i1 i2 i3 ⊢
   unfold f_tagged_number_l1
   have hp:=pow_le6 (k:=i.toNat) (by omega)
   rw [show (2:Int) ^ Int.toNat 8=256 from rfl]
   by_cases hi:i < (v.length:Int)
   ·have hx:=(nth v i.toNat).toNat_lt
    rw [if_pos (by simpa using hi),ck_pos (by omega),ck_pos (by refine ⟨by omega,by omega,?_,?_⟩ <;> omega),ck_pos (by omega),ck_pos (by omega),drop_nth (show i.toNat < v.length by omega),numS]
    refine .inr ⟨_,rfl,⟨by simp only; omega,by simp only; omega,by simp only; omega,?_⟩,by simp only; omega,?_⟩
    ·simp only
     rw [show (i+1).toNat=i.toNat+1 by omega,pow256]
     omega
    ·simp only
     rw [show (i+1).toNat=i.toNat+1 by omega]
   ·rw [if_neg (by simpa using hi),List.drop_of_length_le (by omega)]
    exact .inl ⟨_,rfl,rfl⟩) (s:=(0,0)) ⟨by simp,by simp,by simp,by simp⟩ (by simp only; omega)
  rw [this]; rfl
def Z:Record:=⟨0,0,0,[],[],0,0,0,0,false,0,false⟩
def flagV (v:List UInt8):Bool:=decide (v.length=1) && decide (1≤(nth v 0).toNat) && decide ((nth v 0).toNat≤3)
def fldF (r:Record) (x:Element):Option Record :=
 if x.tag=4 then (if (unpF x.value).2=0 then some { r with a:=(unpF x.value).1 } else none)
 else if x.tag=5 then (if (unpF x.value).2=0 then some { r with b:=(unpF x.value).1 } else none)
 else if x.tag=11 then (if flagV x.value=true then some { r with last:=(nth x.value 0 % 2==1),inbound:=decide (nth x.value 0≥2) } else none)
 else if badN x.value=true then none
 else if x.tag=1 then some { r with kind:=numS 0 x.value }
 else if x.tag=2 then some { r with source:=numS 0 x.value }
 else if x.tag=3 then some { r with serial:=numS 0 x.value }
 else if x.tag=6 then some { r with start:=numS 0 x.value }
 else if x.tag=7 then some { r with units:=numS 0 x.value }
 else if x.tag=8 then some { r with call:=numS 0 x.value }
 else if x.tag=9 then some { r with part:=numS 0 x.value }
 else if x.tag=10 then some { r with trunk:=numS 0 x.value }
 else none
theorem unp_len (b:List UInt8):(unpF b).1.length≤15:=by
 unfold unpF finU
 split
 ·rename_i h; exact validB_len h
 ·simp
def SmallAB (r:Record):Prop:=r.a.length≤15∧r.b.length≤15
def foldF:Record→List Element→Option Record
 | r,[]=>some r
 | r,x :: l=>match fldF r x with
  | some r'=>foldF r' l
  | none=>none
def endF (r:Record):Record×Int:=if errF r≠0 then (Z,errF r) else (r,0)
def finD (ok:Bool) (r:Record) (l:List Element):Record×Int:=if ok=true then (match foldF r l with
 | some r'=>endF r'
 | none=>(Z,1)) else (Z,1)
theorem finD_nil (r:Record):finD true r []=endF r:=rfl
theorem finD_some {r r':Record} {x:Element} {l:List Element} (h:fldF r x=some r'):finD true r (x :: l)=finD true r' l:=by
 unfold finD; rw [foldF,h]
theorem finD_none {r:Record} {x:Element} {l:List Element} (h:fldF r x=none):finD true r (x :: l)=(Z,1):=by
 unfold finD; rw [foldF,h]; rfl
def headN (b:List UInt8):Nat:=(nth b 0).toNat*256+(nth b 1).toNat
def decT (b:List UInt8):Record×Int :=
 if b.length < 2∨b.length-2 < headN b then (Z,2) else if b.length-2 > headN b then (Z,3)
 else if (elmF 0 [] (b.drop 2)).2≠0 then (Z,(elmF 0 [] (b.drop 2)).2) else finD true Z (elmF 0 [] (b.drop 2)).1
theorem okL_mem:∀ (l:List Element) (last:Int),okL last l→0≤last→∀ x,x∈l→1≤x.tag∧x.value.length≤255
 | [],_,_,_,x,hx=>by cases hx
 | a :: l,last,h,h0,x,hx=>by
  rcases List.mem_cons.1 hx with e | e
  ·subst e; exact ⟨h.1,h.2.2.2.1⟩
  ·exact okL_mem l a.tag h.2.2.2.2 (by have:=h.1; omega) x e
def mkR (t:Int×Int×Int×List UInt8×List UInt8×Int×Int×Int×Int×Bool×Int×Bool):Record :=
 ⟨t.1,t.2.1,t.2.2.1,t.2.2.2.1,t.2.2.2.2.1,t.2.2.2.2.2.1,t.2.2.2.2.2.2.1,t.2.2.2.2.2.2.2.1,t.2.2.2.2.2.2.2.2.1,t.2.2.2.2.2.2.2.2.2.1,t.2.2.2.2.2.2.2.2.2.2.1,t.2.2.2.2.2.2.2.2.2.2.2⟩
theorem elm_len' (b:List UInt8):(elmF 0 [] b).1.length≤b.length:=by
 have key:∀ (n:Nat) (b:List UInt8) (last:Int) (out:List Element),b.length≤n→(elmF last out b).1.length≤out.length+b.length:=by
  intro n
  induction n with
  | zero=>intro b last out hn; rw [elmF,if_pos (by omega)]; simp
  | succ n ih =>
   intro b last out hn
   rw [elmF]
   split
   ·simp
   ·split
    ·simp
    ·split
     ·simp
     ·split
      ·simp
      ·have:=ih (b.drop (2+(nth b 1).toNat)) (nth b 0).toNat (out++[⟨((nth b 0).toNat:Int),(b.drop 2).take (nth b 1).toNat⟩]) (by rw [List.length_drop]; omega)
       simp at this ⊢
       omega
 have:=key _ b 0 [] (Nat.le_refl _)
 simpa using this
theorem elm_mem {b:List UInt8} (h:(elmF 0 [] b).2=0):∀ x,x∈(elmF 0 [] b).1→1≤x.tag∧x.value.length≤255:=by
 obtain ⟨l,e1,e2,_⟩:=elm_back _ b 0 [] (Nat.le_refl _) (by omega) h
 rw [List.nil_append] at e1
 rw [e1]
 exact okL_mem l 0 e2 (by omega)
theorem byG_app:∀ (k:Nat) (n:Int) (out:List UInt8),n.toNat≤k→byG n out=byF n++out
 | k,n,out,h=>by
  unfold byF
  rw [byG]
  conv=>rhs; rw [byG]
  by_cases hn:n > 0
  ·rw [if_pos hn,if_pos hn]
   match k,h with
   | 0,h=>omega
   | k+1,h =>
    rw [byG_app k (n / 256) _ (by omega),byG_app k (n / 256) [UInt8.ofInt n] (by omega)]
    simp
  ·rw [if_neg hn,if_neg hn]; rfl
theorem byF_pos {n:Int} (h:n > 0):byF n=byF (n / 256)++[UInt8.ofInt n]:=by
 conv=>lhs; unfold byF; rw [byG,if_pos h]
 exact byG_app _ _ _ (Nat.le_refl _)
theorem byF_zero {n:Int} (h:n≤0):byF n=[]:=by unfold byF; rw [byG,if_neg (by omega)]
theorem ofInt_nat (n:Int) (h:0≤n):((UInt8.ofInt n).toNat:Int)=n % 256:=by
 rw [←ofInt_mod h]; exact byte_back (by omega)
theorem numS_app:∀ (x y:List UInt8) (m:Int),numS m (x++y)=numS (numS m x) y
 | [],y,m=>rfl
 | a :: x,y,m=>by rw [List.cons_append,numS,numS,numS_app x y]
theorem numS_byF:∀ (k:Nat) (n:Int),0≤n→n.toNat≤k→numS 0 (byF n)=n
 | k,n,h0,h=>by
  by_cases hn:n > 0
  ·match k,h with
   | 0,h=>omega
   | k+1,h =>
    rw [byF_pos hn,numS_app,numS_byF k (n / 256) (by omega) (by omega),numS,numS,ofInt_nat n h0]
    omega
  ·rw [byF_zero (by omega),numS]; omega
theorem byF_first:∀ (k:Nat) (n:Int),0 < n→n.toNat≤k→byF n≠[]∧nth (byF n) 0≠0
 | k,n,h0,h=>by
  rw [byF_pos h0]
  by_cases hq:n / 256 > 0
  ·match k,h with
   | 0,h=>omega
   | k+1,h =>
    obtain ⟨h1,h2⟩:=byF_first k (n / 256) hq (by omega)
    refine ⟨by simp,?_⟩
    match hb:byF (n / 256),h1,h2 with
    | x :: r,_,h2=>exact h2
  ·rw [byF_zero (by omega)]
   refine ⟨by simp,fun e=>?_⟩
   have e':UInt8.ofInt n=0:=e
   have:=ofInt_nat n (by omega)
   rw [e'] at this
   simp at this
   omega
theorem byF_good {n:Int} (h0:0 < n) (h1:n < 281474976710656):badN (byF n)=false:=by
 obtain ⟨a1,a2⟩:=byF_first n.toNat n h0 (Nat.le_refl _)
 have hl:=byG_len 6 n [] (by rw [show (256:Int) ^ 6=281474976710656 from by decide]; omega)
 have hl':(byF n).length≤6:=by simpa [byF] using hl
 have hp:0 < (byF n).length:=List.length_pos_iff.2 a1
 unfold badN
 simp [a2]
 omega
theorem num_back {n:Int} (h0:0 < n):numS 0 (byF n)=n:=numS_byF n.toNat n (by omega) (Nat.le_refl _)
def pkG:List UInt8→List UInt8
 | []=>[]
 | [c]=>[(u8shl (c-48) 4) ||| 15]
 | c :: d :: r=>((u8shl (c-48) 4) ||| (d-48)) :: pkG r
theorem pkG_one {l:List UInt8} (h:l.length=1):pkG l=[(u8shl (nth l 0-48) 4) ||| 15]:=by
 match l,h with
 | [c],_=>rfl
theorem pkG_two {l:List UInt8} (h:2≤l.length):pkG l=((u8shl (nth l 0-48) 4) ||| (nth l 1-48)) :: pkG (l.drop 2):=by
 match l,h with
 | c :: d :: r,_=>rfl
theorem p_PackG (s:List UInt8) (hv:validB s=true):f_digits_Pack s=some (pkG s,0):=by
 have hl:=validB_len hv
 unfold f_digits_Pack
 rw [p_Valid s (by omega),Option.bind_some,hv,if_neg (by simp)]
 have:=loop_spec (step:=fun st=>f_digits_Pack_l1 s st.1 st.2) (fun st:List UInt8×Int=>some (st.1++pkG (s.drop st.2.toNat),(0:Int))) (fun st:List UInt8×Int=>0≤st.2∧(2*st.1.length:Int)=st.2∧st.2≤(s.length:Int)+1) (fun st=>((s.length:Int) - st.2).toNat) (fun st hI=>by
  obtain ⟨b,i⟩:=st
  obtain ⟨i0,i1,i2⟩:=hI
  simp only at i0 i1 i2 ⊢
  unfold f_digits_Pack_l1
  by_cases hi:i < (s.length:Int)
  ·have n0:nth (s.drop i.toNat) 0=nth s i.toNat:=by rw [nth_drop _ _ _ (by omega)]; rfl
   rw [if_pos (by simpa using hi),ck_pos (by omega)]
   by_cases hj:i+1 < (s.length:Int)
   ·have n1:nth (s.drop i.toNat) 1=nth s (i.toNat+1):=by rw [nth_drop _ _ _ (by omega)]
    rw [if_pos (by simpa using hj),ck_pos (by omega),ck_pos (by omega)]
    unfold f_digits_Pack_j1
    rw [ck_pos (by omega),ck_pos (by decide),ck_pos (by simp; omega),ck_pos (by omega),pkG_two (by rw [List.length_drop]; omega),n0,n1,show Int.toNat (i+1)=i.toNat+1 by omega]
    refine .inr ⟨_,rfl,⟨by simp only; omega,by simp; omega,by simp only; omega⟩,by simp only; omega,?_⟩
    simp only
    rw [List.drop_drop,show (i+2).toNat=i.toNat+2 by omega]
    simp
   ·rw [if_neg (by simpa using hj)]
    unfold f_digits_Pack_j1
    rw [ck_pos (by omega),ck_pos (by decide),ck_pos (by simp; omega),ck_pos (by omega),pkG_one (by rw [List.length_drop]; omega),n0]
    refine .inr ⟨_,rfl,⟨by simp only; omega,by simp; omega,by simp only; omega⟩,by simp only; omega,?_⟩
    simp only
    rw [List.drop_of_length_le (show s.length≤(i+2).toNat by omega)]
    simp [pkG]
  ·rw [if_neg (by simpa using hi),List.drop_of_length_le (by omega)]
   exact .inl ⟨_,rfl,by simp [pkG]⟩) (s:=([],0)) ⟨by simp,by simp,by simp; omega⟩ (by simp only; omega)
 rw [this]; simp
theorem pkF_valid {s:List UInt8} (hv:validB s=true):pkF s=pkG s:=by
 unfold pkF; rw [p_PackG s hv]; rfl
theorem two_tab:∀ x y:Fin 10,let c:=UInt8.ofNat (48+x.val); let d:=UInt8.ofNat (48+y.val); let b:=(u8shl (c-48) 4) ||| (d-48); (b % 16≠15)∧48+b / 16=c∧48+b % 16=d:=by decide +kernel
theorem one_tab:∀ x:Fin 10,let c:=UInt8.ofNat (48+x.val); let b:=(u8shl (c-48) 4) ||| 15; (b % 16=15)∧48+b / 16=c:=by decide +kernel
theorem dig_fin {c:UInt8} (h:isDig c=true):∃ x:Fin 10,c=UInt8.ofNat (48+x.val):=by
 unfold isDig at h
 simp only [Bool.and_eq_true,decide_eq_true_eq,UInt8.le_iff_toNat_le] at h
 have h1:(48:UInt8).toNat=48:=rfl
 have h2:(57:UInt8).toNat=57:=rfl
 refine ⟨⟨c.toNat-48,by omega⟩,?_⟩
 apply UInt8.toNat_inj.1
 rw [UInt8.toNat_ofNat']
 have:=c.toNat_lt
 show c.toNat=(48+(c.toNat-48)) % 2 ^ 8
 omega
theorem upk_pk:∀ s:List UInt8,s.all isDig=true→upkG (pkG s)=s
 | [],_=>rfl
 | [c],h=>by
  simp at h
  obtain ⟨x,rfl⟩:=dig_fin h
  have:=one_tab x
  simp only at this
  rw [pkG,upkG,if_neg (fun h=>h.elim (fun h=>h this.1) (fun h=>h rfl)),this.2]
 | c :: d :: r,h=>by
  simp at h
  obtain ⟨x,rfl⟩:=dig_fin h.1
  obtain ⟨y,rfl⟩:=dig_fin h.2.1
  have:=two_tab x y
  simp only at this
  rw [pkG,upkG,if_pos (.inl this.1),this.2.1,this.2.2,upk_pk r (by simpa using h.2.2)]
  rfl
theorem tel_back {s:List UInt8} (hv:validB s=true):unpF (pkF s)=(s,0):=by
 have hd:s.all isDig=true:=by
  unfold validB at hv
  simp only [Bool.and_eq_true] at hv
  exact hv.1.1
 rw [pkF_valid hv]
 unfold unpF finU
 rw [upk_pk s hd,if_pos hv]
theorem num_step {r0:Record} {rest:List Element} {t n:Int} (set:Int→Record) (h0:0≤n) (h1:n < 281474976710656) (hz:set 0=r0) (hf:∀ v,badN v=false→fldF r0 ⟨t,v⟩=some (set (numS 0 v))) :
  foldF r0 (one t (byF n)++rest)=foldF (set n) rest:=by
 unfold one
 by_cases hn:n > 0
 ·obtain ⟨a1,_⟩:=byF_first n.toNat n hn (Nat.le_refl _)
  rw [if_neg (fun h=>a1 (List.length_eq_zero_iff.1 h)),List.singleton_append,foldF,hf _ (byF_good hn h1),num_back hn]
 ·have:n=0:=by omega
  subst this
  rw [byF_zero (by omega),if_pos (show ([]:List UInt8).length=0 from rfl),List.nil_append,hz]
theorem tel_step {r0:Record} {rest:List Element} {t:Int} {s:List UInt8} (set:List UInt8→Record) (hv:validB s=true∨s=[]) (hz:set []=r0) (hf:∀ v,(unpF v).2=0→fldF r0 ⟨t,v⟩=some (set (unpF v).1)) :
  foldF r0 (one t (pkF s)++rest)=foldF (set s) rest:=by
 unfold one
 rcases hv with hv | hv
 ·have hb:=tel_back hv
  have hne:¬ (pkF s).length=0:=by
   intro h
   have:pkF s=[]:=List.length_eq_zero_iff.1 h
   rw [this] at hb
   have e:=congrArg Prod.snd hb
   have e2:(unpF []).2=12:=rfl
   rw [e2] at e
   cases e
  rw [if_neg hne,List.singleton_append,foldF,hf _ (by rw [hb]),hb]
 ·subst hv
  rw [pkF_nil,if_pos (show ([]:List UInt8).length=0 from rfl),List.nil_append,hz]
theorem flag_step {r0:Record} {r:Record} (hl:r0.last=false) (hi:r0.inbound=false):foldF r0 (one 11 (byF (flI r)))=some { r0 with last:=r.last,inbound:=r.inbound }:=by
 have hb:∀ n:Fin 4,byF (n.val:Int)=if n.val=0 then [] else [UInt8.ofNat n.val]:=by
  intro n
  match n with
  | ⟨0,_⟩=>rw [byF_zero (by simp)]; rfl
  | ⟨1,_⟩=>rw [byF_pos (by simp),byF_zero (by simp)]; rfl
  | ⟨2,_⟩=>rw [byF_pos (by simp),byF_zero (by simp)]; rfl
  | ⟨3,_⟩=>rw [byF_pos (by simp),byF_zero (by simp)]; rfl
 have h0:byF 0=[]:=hb 0
 have h1:byF 1=[1]:=hb 1
 have h2:byF 2=[2]:=hb 2
 have h3:byF 3=[3]:=hb 3
 obtain ⟨s,e,k,a,b,st,u,c,p,la,tr,ib⟩:=r0
 simp only at hl hi
 subst hl hi
 unfold flI one
 cases r.last <;> cases r.inbound
 ·simp only [Bool.false_eq_true,if_false,Int.add_zero]; rw [h0]; rfl
 ·simp only [Bool.false_eq_true,if_false,if_true,Int.zero_add]; rw [h2]; rfl
 ·simp only [Bool.false_eq_true,if_false,if_true,Int.add_zero]; rw [h1]; rfl
 ·simp only [if_true]; rw [show (1+2:Int)=3 from rfl,h3]; rfl
theorem fold_els {r:Record} (g:Good r):foldF Z (elsF r)=some r:=by
 have gs:=g.source; have gr:=g.serial; have gk:=g.kind; have gt:=g.start; have gu:=g.units; have gc:=g.call; have gp:=g.part; have gkk:=g.trunk
 have gb:validB r.b=true∨r.b=[]:=g.b.elim .inl (fun h=>.inr h.2)
 have nb:∀ {t:Int} {v:List UInt8} {r0:Record},badN v=false→(¬ t=4∧¬ t=5∧¬ t=11)→fldF r0 ⟨t,v⟩=(if t=1 then some { r0 with kind:=numS 0 v } else if t=2 then some { r0 with source:=numS 0 v } else if t=3 then some { r0 with serial:=numS 0 v } else if t=6 then some { r0 with start:=numS 0 v } else if t=7 then some { r0 with units:=numS 0 v } else if t=8 then some { r0 with call:=numS 0 v } else if t=9 then some { r0 with part:=numS 0 v } else if t=10 then some { r0 with trunk:=numS 0 v } else none):=by
  intro t v r0 hv ht
  unfold fldF
  simp only
  rw [if_neg ht.1,if_neg ht.2.1,if_neg ht.2.2,if_neg (by rw [hv]; simp)]
 unfold elsF
 simp only [List.append_assoc]
 unfold Z
 rw [num_step (r0:=⟨0,0,0,[],[],0,0,0,0,false,0,false⟩) (fun n=>⟨0,0,n,[],[],0,0,0,0,false,0,false⟩) (by omega) (by omega) rfl (fun v hv=>by rw [nb hv (by decide)]; rfl)]
 rw [num_step (r0:=⟨0,0,r.kind,[],[],0,0,0,0,false,0,false⟩) (fun n=>⟨n,0,r.kind,[],[],0,0,0,0,false,0,false⟩) (by omega) (by omega) rfl (fun v hv=>by rw [nb hv (by decide)]; rfl)]
 rw [num_step (r0:=⟨r.source,0,r.kind,[],[],0,0,0,0,false,0,false⟩) (fun n=>⟨r.source,n,r.kind,[],[],0,0,0,0,false,0,false⟩) (by omega) (by omega) rfl (fun v hv=>by rw [nb hv (by decide)]; rfl)]
 rw [tel_step (r0:=⟨r.source,r.serial,r.kind,[],[],0,0,0,0,false,0,false⟩) (fun n=>⟨r.source,r.serial,r.kind,n,[],0,0,0,0,false,0,false⟩) (.inl g.a) rfl (fun v hv=>by unfold fldF; simp only; rw [if_pos trivial,if_pos hv])]
 rw [tel_step (r0:=⟨r.source,r.serial,r.kind,r.a,[],0,0,0,0,false,0,false⟩) (fun n=>⟨r.source,r.serial,r.kind,r.a,n,0,0,0,0,false,0,false⟩) gb rfl (fun v hv=>by unfold fldF; simp only; rw [if_neg (by decide),if_pos trivial,if_pos hv])]
 rw [num_step (r0:=⟨r.source,r.serial,r.kind,r.a,r.b,0,0,0,0,false,0,false⟩) (fun n=>⟨r.source,r.serial,r.kind,r.a,r.b,n,0,0,0,false,0,false⟩) (by omega) (by omega) rfl (fun v hv=>by rw [nb hv (by decide)]; rfl)]
 rw [num_step (r0:=⟨r.source,r.serial,r.kind,r.a,r.b,r.start,0,0,0,false,0,false⟩) (fun n=>⟨r.source,r.serial,r.kind,r.a,r.b,r.start,n,0,0,false,0,false⟩) (by omega) (by omega) rfl (fun v hv=>by rw [nb hv (by decide)]; rfl)]
 rw [num_step (r0:=⟨r.source,r.serial,r.kind,r.a,r.b,r.start,r.units,0,0,false,0,false⟩) (fun n=>⟨r.source,r.serial,r.kind,r.a,r.b,r.start,r.units,n,0,false,0,false⟩) (by omega) (by omega) rfl (fun v hv=>by rw [nb hv (by decide)]; rfl)]
 rw [num_step (r0:=⟨r.source,r.serial,r.kind,r.a,r.b,r.start,r.units,r.call,0,false,0,false⟩) (fun n=>⟨r.source,r.serial,r.kind,r.a,r.b,r.start,r.units,r.call,n,false,0,false⟩) (by omega) (by omega) rfl (fun v hv=>by rw [nb hv (by decide)]; rfl)]
 rw [num_step (r0:=⟨r.source,r.serial,r.kind,r.a,r.b,r.start,r.units,r.call,r.part,false,0,false⟩) (fun n=>⟨r.source,r.serial,r.kind,r.a,r.b,r.start,r.units,r.call,r.part,false,n,false⟩) (by omega) (by omega) rfl (fun v hv=>by rw [nb hv (by decide)]; rfl)]
 rw [flag_step rfl rfl]
theorem bytesT_parts {r:Record} (h:(encL (elsF r)).length≤110):(bytesT r).length=2+(encL (elsF r)).length∧headN (bytesT r)=(encL (elsF r)).length∧(bytesT r).drop 2=encL (elsF r):=by
 refine ⟨by simp [bytesT]; omega,?_,rfl⟩
 unfold headN
 have e0:nth (bytesT r) 0=UInt8.ofInt (((encL (elsF r)).length:Int) / 256):=rfl
 have e1:nth (bytesT r) 1=UInt8.ofInt ((encL (elsF r)).length:Int):=rfl
 rw [e0,e1]
 have h1:=ofInt_nat (((encL (elsF r)).length:Int) / 256) (by omega)
 have h2:=ofInt_nat ((encL (elsF r)).length:Int) (by omega)
 omega
theorem dec_back {r:Record} (ha:r.a.length < 1000000000) (hb:r.b.length < 1000000000) (h:errF r=0):decT (bytesT r)=(r,0):=by
 have g:=errF_good h
 obtain ⟨e1,e2,e3⟩:=bytesT_parts (enc_len g ha hb)
 unfold decT
 rw [e1,e2,e3,if_neg (by omega),if_neg (by omega),elm_enc _ 0 [] (els_ok g ha hb),if_neg (by simp),List.nil_append]
 unfold finD endF
 rw [fold_els g]
 simp [h]
theorem nth_app (x y:List UInt8) (i:Nat) (h:i < x.length):nth (x++y) i=nth x i:=by
 rw [nth_eq (by simp; omega),nth_eq h,List.getElem_append_left h]
theorem ofInt_low (m:Int) (x:UInt8) (h:0≤m):UInt8.ofInt (m*256+(x.toNat:Int))=x:=by
 apply UInt8.toNat_inj.1
 have h1:=ofInt_nat (m*256+(x.toNat:Int)) (by omega)
 have h2:=x.toNat_lt
 omega
theorem byF_numS:∀ (v:List UInt8) (m:Int),0≤m→(m > 0∨v=[]∨nth v 0≠0)→byF (numS m v)=byF m++v
 | [],m,_,_=>by rw [numS,List.append_nil]
 | x :: r,m,h0,h=>by
  have hx:=x.toNat_lt
  have hp:m*256+(x.toNat:Int) > 0:=by
   rcases h with h | h | h
   ·omega
   ·cases h
   ·have:x≠0:=h
    have:0 < x.toNat:=Nat.pos_of_ne_zero fun e=>this (UInt8.toNat_inj.1 (by rw [e]; rfl))
    omega
  rw [numS,byF_numS r _ (by omega) (.inl hp),byF_pos hp,ofInt_low m x h0]
  have:(m*256+(x.toNat:Int)) / 256=m:=by omega
  rw [this]; simp
theorem num_same {v:List UInt8} (h:badN v=false):byF (numS 0 v)=v:=by
 unfold badN at h
 simp only [Bool.or_eq_false_iff,beq_eq_false_iff_ne] at h
 rw [byF_numS v 0 (by omega) (.inr (.inr h.2)),byF_zero (by omega)]; rfl
theorem nib_join (x:UInt8):∀ _:True,(u8shl (48+x / 16-48) 4 ||| (48+x % 16-48))=x:=fun _=>u8_all (p:=fun x=>(u8shl (48+x / 16-48) 4 ||| (48+x % 16-48))=x) (by decide +kernel) x
theorem nib_last (x:UInt8):x % 16=15→(u8shl (48+x / 16-48) 4 ||| 15)=x:=u8_all (p:=fun x=>x % 16=15→(u8shl (48+x / 16-48) 4 ||| 15)=x) (by decide +kernel) x
theorem pk_upk:∀ v:List UInt8,pkG (upkG v)=v
 | []=>rfl
 | x :: r=>by
  rw [upkG]
  by_cases h:x % 16≠15∨r≠[]
  ·rw [if_pos h]
   show (u8shl (48+x / 16-48) 4 ||| (48+x % 16-48)) :: pkG (upkG r)=x :: r
   rw [nib_join x trivial,pk_upk r]
  ·have h1:x % 16=15:=Decidable.byContradiction fun e=>h (.inl e)
   have h2:r=[]:=Decidable.byContradiction fun e=>h (.inr e)
   rw [if_neg h,h2]
   show [(u8shl (48+x / 16-48) 4 ||| 15)]=[x]
   rw [nib_last x h1]
theorem tel_same {v:List UInt8} (h:(unpF v).2=0):pkF (unpF v).1=v∧validB (unpF v).1=true:=by
 unfold unpF finU at h ⊢
 by_cases hv:validB (upkG v)=true
 ·rw [if_pos hv]
  exact ⟨by rw [pkF_valid hv,pk_upk],hv⟩
 ·rw [if_neg hv] at h; cases h
theorem flag_same {v:List UInt8} {r:Record} (h:flagV v=true):byF (flI { r with last:=(nth v 0 % 2==1),inbound:=decide (nth v 0≥2) })=v:=by
 unfold flagV at h
 simp only [Bool.and_eq_true,decide_eq_true_eq] at h
 obtain ⟨⟨h1,h2⟩,h3⟩:=h
 match v,h1 with
 | [x],_ =>
  have hx:nth [x] 0=x:=rfl
  rw [hx] at h2 h3 ⊢
  have key:∀ x:UInt8,1≤x.toNat→x.toNat≤3→(if (x % 2==1)=true then (1:Int) else 0)+(if decide (x≥2)=true then 2 else 0)=(x.toNat:Int):=u8_all (by decide +kernel)
  have e:flI { r with last:=(x % 2==1),inbound:=decide (x≥2) }=(x.toNat:Int):=key x h2 h3
  rw [e]
  have:=byF_numS [x] 0 (by omega) (.inr (.inr (by rw [hx]; rintro rfl; simp at h2)))
  simpa [numS,byF_zero] using this
def fv (r:Record) (t:Nat):List UInt8:=nth (valsF r) t
theorem fv1 (r:Record):fv r 1=byF r.kind:=rfl
theorem fv2 (r:Record):fv r 2=byF r.source:=rfl
theorem fv3 (r:Record):fv r 3=byF r.serial:=rfl
theorem fv4 (r:Record):fv r 4=pkF r.a:=rfl
theorem fv5 (r:Record):fv r 5=pkF r.b:=rfl
theorem fv6 (r:Record):fv r 6=byF r.start:=rfl
theorem fv7 (r:Record):fv r 7=byF r.units:=rfl
theorem fv8 (r:Record):fv r 8=byF r.call:=rfl
theorem fv9 (r:Record):fv r 9=byF r.part:=rfl
theorem fv10 (r:Record):fv r 10=byF r.trunk:=rfl
theorem fv11 (r:Record):fv r 11=byF (flI r):=rfl
def elsFrom (r:Record):Nat→Nat→List Element
 | _,0=>[]
 | k,n+1=>one (k:Int) (fv r k)++elsFrom r (k+1) n
theorem els_from (r:Record):elsFrom r 1 11=elsF r:=by
 simp only [elsFrom,elsF,List.append_nil,List.append_assoc]
 rfl
theorem from_skip (r:Record):∀ (d k n:Nat),(∀ t,k≤t→t < k+d→fv r t=[])→elsFrom r k (d+n)=elsFrom r (k+d) n
 | 0,k,n,_=>by simp
 | d+1,k,n,h=>by
  rw [show d+1+n=(d+n)+1 by omega,elsFrom,h k (by omega) (by omega),from_skip r d (k+1) n (fun t h1 h2=>h t (by omega) (by omega))]
  rw [show k+1+d=k+(d+1) by omega]; rfl
theorem unp_ne {v:List UInt8} (h:(unpF v).2=0) (e:v=[]):False:=by
 subst e
 have e2:(unpF []).2=12:=by decide
 rw [e2] at h; cases h
theorem nth_set_eq {α:Type} [Inhabited α] (l:List α) (t:Nat) (v:α) (h:t < l.length):nth (l.set t v) t=v:=by
 unfold nth; rw [List.getD_eq_getElem?_getD,List.getElem?_set_self h]; rfl
theorem nth_set_ne {α:Type} [Inhabited α] (l:List α) (t s:Nat) (v:α) (h:s≠t):nth (l.set t v) s=nth l s:=by
 unfold nth; rw [List.getD_eq_getElem?_getD,List.getD_eq_getElem?_getD,List.getElem?_set_ne (Ne.symm h)]
theorem fv_set {r r':Record} {t:Nat} {v w:List UInt8} (h:valsF r'=(valsF r).set t v) (ht:t < 12) (hv:v=w):fv r' t=w∧∀ s,s < 12→s≠t→fv r' s=fv r s:=by
 refine ⟨?_,fun s _ hs=>?_⟩
 ·unfold fv; rw [h,nth_set_eq _ _ _ (show t < (valsF r).length from ht)]; exact hv
 ·unfold fv; rw [h,nth_set_ne _ _ _ _ hs]
def Keeps (r r':Record) (x:Element):Prop:=∃ t:Nat,x.tag=(t:Int)∧1≤t∧t≤11∧fv r' t=x.value∧x.value≠[]∧∀ s,s < 12→s≠t→fv r' s=fv r s
theorem keeps_of {r r':Record} {x:Element} (t:Nat) {v:List UInt8} (h:valsF r'=(valsF r).set t v) (hx:x.tag=(t:Int)) (h1:1≤t) (h2:t≤11) (hv:v=x.value) (hn:x.value≠[]):Keeps r r' x :=
 have k:=fv_set (w:=x.value) h (by omega) hv
 ⟨t,hx,h1,h2,k.1,hn,k.2⟩
theorem set1 (r:Record) (n:Int):valsF { r with kind:=n }=(valsF r).set 1 (byF n):=rfl
theorem set2 (r:Record) (n:Int):valsF { r with source:=n }=(valsF r).set 2 (byF n):=rfl
theorem set3 (r:Record) (n:Int):valsF { r with serial:=n }=(valsF r).set 3 (byF n):=rfl
theorem set4 (r:Record) (s:List UInt8):valsF { r with a:=s }=(valsF r).set 4 (pkF s):=rfl
theorem set5 (r:Record) (s:List UInt8):valsF { r with b:=s }=(valsF r).set 5 (pkF s):=rfl
theorem set6 (r:Record) (n:Int):valsF { r with start:=n }=(valsF r).set 6 (byF n):=rfl
theorem set7 (r:Record) (n:Int):valsF { r with units:=n }=(valsF r).set 7 (byF n):=rfl
theorem set8 (r:Record) (n:Int):valsF { r with call:=n }=(valsF r).set 8 (byF n):=rfl
theorem set9 (r:Record) (n:Int):valsF { r with part:=n }=(valsF r).set 9 (byF n):=rfl
theorem set10 (r:Record) (n:Int):valsF { r with trunk:=n }=(valsF r).set 10 (byF n):=rfl
theorem set11 (r:Record) (a b:Bool):valsF { r with last:=a,inbound:=b }=(valsF r).set 11 (byF (flI { r with last:=a,inbound:=b })):=rfl
theorem nzB {v:List UInt8} (h:badN v=false):v≠[]:=fun e=>by subst e; simp [badN] at h
theorem nzF {v:List UInt8} (h:flagV v=true):v≠[]:=fun e=>by subst e; simp [flagV] at h
theorem fld_keeps {r r':Record} {x:Element} (h:fldF r x=some r'):Keeps r r' x:=by
 unfold fldF at h
 by_cases h4:x.tag=4
 ·rw [if_pos h4] at h
  by_cases hu:(unpF x.value).2=0
  ·rw [if_pos hu] at h
   injection h with h; rw [←h]
   exact keeps_of 4 (set4 r _) h4 (by omega) (by omega) (tel_same hu).1 (fun e=>unp_ne hu e)
  ·rw [if_neg hu] at h; cases h
 rw [if_neg h4] at h
 by_cases h5:x.tag=5
 ·rw [if_pos h5] at h
  by_cases hu:(unpF x.value).2=0
  ·rw [if_pos hu] at h
   injection h with h; rw [←h]
   exact keeps_of 5 (set5 r _) h5 (by omega) (by omega) (tel_same hu).1 (fun e=>unp_ne hu e)
  ·rw [if_neg hu] at h; cases h
 rw [if_neg h5] at h
 by_cases h11:x.tag=11
 ·rw [if_pos h11] at h
  by_cases hu:flagV x.value=true
  ·rw [if_pos hu] at h
   injection h with h; rw [←h]
   exact keeps_of 11 (set11 r _ _) h11 (by omega) (by omega) (flag_same hu) (nzF hu)
  ·rw [if_neg hu] at h; cases h
 rw [if_neg h11] at h
 by_cases hb:badN x.value=true
 ·rw [if_pos hb] at h; cases h
 rw [if_neg hb] at h
 have hb':badN x.value=false:=by simpa using hb
 by_cases h1:x.tag=1
 ·rw [if_pos h1] at h
  injection h with h; rw [←h]
  exact keeps_of 1 (set1 r _) h1 (by omega) (by omega) (num_same hb') (nzB hb')
 rw [if_neg h1] at h
 by_cases h2:x.tag=2
 ·rw [if_pos h2] at h
  injection h with h; rw [←h]
  exact keeps_of 2 (set2 r _) h2 (by omega) (by omega) (num_same hb') (nzB hb')
 rw [if_neg h2] at h
 by_cases h3:x.tag=3
 ·rw [if_pos h3] at h
  injection h with h; rw [←h]
  exact keeps_of 3 (set3 r _) h3 (by omega) (by omega) (num_same hb') (nzB hb')
 rw [if_neg h3] at h
 by_cases h6:x.tag=6
 ·rw [if_pos h6] at h
  injection h with h; rw [←h]
  exact keeps_of 6 (set6 r _) h6 (by omega) (by omega) (num_same hb') (nzB hb')
 rw [if_neg h6] at h
 by_cases h7:x.tag=7
 ·rw [if_pos h7] at h
  injection h with h; rw [←h]
  exact keeps_of 7 (set7 r _) h7 (by omega) (by omega) (num_same hb') (nzB hb')
 rw [if_neg h7] at h
 by_cases h8:x.tag=8
 ·rw [if_pos h8] at h
  injection h with h; rw [←h]
  exact keeps_of 8 (set8 r _) h8 (by omega) (by omega) (num_same hb') (nzB hb')
 rw [if_neg h8] at h
 by_cases h9:x.tag=9
 ·rw [if_pos h9] at h
  injection h with h; rw [←h]
  exact keeps_of 9 (set9 r _) h9 (by omega) (by omega) (num_same hb') (nzB hb')
 rw [if_neg h9] at h
 by_cases h10:x.tag=10
 ·rw [if_pos h10] at h
  injection h with h; rw [←h]
  exact keeps_of 10 (set10 r _) h10 (by omega) (by omega) (num_same hb') (nzB hb')
 rw [if_neg h10] at h
 cases h
theorem fold_keeps:∀ (l:List Element) (r r':Record) (last:Nat),last≤11→okL (last:Int) l→foldF r l=some r'→(∀ t,last < t→t < 12→fv r t=[]) →
  elsFrom r' (last+1) (11-last)=l∧∀ t,t≤last→fv r' t=fv r t
 | [],r,r',last,hl,_,h,hz=>by
  rw [foldF] at h
  cases h
  refine ⟨?_,fun t _=>rfl⟩
  have this:elsFrom r (last+1) (11-last)=elsFrom r (last+1+(11-last)) 0:=from_skip r (11-last) (last+1) 0 (fun t h1 h2=>hz t (by omega) (by omega))
  rw [this]; rfl
 | x :: l,r,r',last,hl,ho,h,hz=>by
  rw [foldF] at h
  cases hf:fldF r x with
  | none=>rw [hf] at h; cases h
  | some r1 =>
   rw [hf] at h
   obtain ⟨t,t1,t2,t3,t4,t5,t6⟩:=fld_keeps hf
   obtain ⟨o1,o2,o3,o4,o5⟩:=ho
   rw [t1] at o5 o3
   have hlt:last < t:=by omega
   obtain ⟨q1,q2⟩:=fold_keeps l r1 r' t t3 o5 h (fun s h1 h2=>by rw [t6 s h2 (by omega)]; exact hz s (by omega) h2)
   refine ⟨?_,fun s hs=>by rw [q2 s (by omega),t6 s (by omega) (by omega)]⟩
   have hsk:=from_skip r' (t-last-1) (last+1) (11-t+1) (fun s h1 h2=>by rw [q2 s (by omega),t6 s (by omega) (by omega)]; exact hz s (by omega) (by omega))
   rw [show t-last-1+(11-t+1)=11-last by omega,show last+1+(t-last-1)=t by omega] at hsk
   rw [hsk,elsFrom,q1,q2 t (Nat.le_refl _),t4]
   unfold one
   rw [if_neg (fun e=>t5 (List.length_eq_zero_iff.1 e)),←t1]
   rfl
theorem two_ahead {b:List UInt8} (h:2≤b.length):nth b 0 :: nth b 1 :: b.drop 2=b:=by
 match b,h with
 | x :: y :: rest,_=>rfl
theorem dec_same {b:List UInt8} (h:(decT b).2=0):bytesT (decT b).1=b∧errF (decT b).1=0:=by
 unfold decT at h ⊢
 by_cases h1:b.length < 2∨b.length-2 < headN b
 ·rw [if_pos h1] at h; cases h
 rw [if_neg h1] at h ⊢
 by_cases h2:b.length-2 > headN b
 ·rw [if_pos h2] at h; cases h
 rw [if_neg h2] at h ⊢
 by_cases h3:(elmF 0 [] (b.drop 2)).2≠0
 ·rw [if_pos h3] at h; exact absurd h h3
 rw [if_neg h3] at h ⊢
 obtain ⟨l,e1,e2,e3⟩:=elm_back _ (b.drop 2) 0 [] (Nat.le_refl _) (by omega) (by simpa using h3)
 rw [List.nil_append] at e1
 rw [e1] at h ⊢
 unfold finD endF at h ⊢
 rw [if_pos rfl] at h ⊢
 cases hf:foldF Z l with
 | none=>rw [hf] at h; cases h
 | some r =>
  rw [hf] at h
  simp only at h ⊢
  by_cases he:errF r≠0
  ·rw [if_pos he] at h; exact absurd h he
  ·rw [if_neg he]
   have he':errF r=0:=by simpa using he
   refine ⟨?_,he'⟩
   obtain ⟨q,_⟩:=fold_keeps l Z r 0 (by omega) e2 hf (fun t h1 h2=>by
    match t,h1,h2 with
    | 1,_,_=>exact (fv1 _).trans (byF_zero (by decide))
    | 2,_,_=>exact (fv2 _).trans (byF_zero (by decide))
    | 3,_,_=>exact (fv3 _).trans (byF_zero (by decide))
    | 4,_,_=>exact (fv4 _).trans pkF_nil
    | 5,_,_=>exact (fv5 _).trans pkF_nil
    | 6,_,_=>exact (fv6 _).trans (byF_zero (by decide))
    | 7,_,_=>exact (fv7 _).trans (byF_zero (by decide))
    | 8,_,_=>exact (fv8 _).trans (byF_zero (by decide))
    | 9,_,_=>exact (fv9 _).trans (byF_zero (by decide))
    | 10,_,_=>exact (fv10 _).trans (byF_zero (by decide))
    | 11,_,_=>exact (fv11 _).trans (byF_zero (by decide)))
   rw [show 0+1=1 from rfl,show 11-0=11 from rfl,els_from] at q
   have hx:=(nth b 0).toNat_lt
   have hy:=(nth b 1).toNat_lt
   have hlen:(encL l).length=headN b:=by rw [e3,List.length_drop]; omega
   unfold bytesT
   rw [q,hlen,e3]
   unfold headN
   have b0:UInt8.ofInt ((((nth b 0).toNat*256+(nth b 1).toNat:Nat):Int) / 256)=nth b 0:=by
    rw [show (((nth b 0).toNat*256+(nth b 1).toNat:Nat):Int) / 256=((nth b 0).toNat:Int) by omega,byte_fwd]
   have b1:UInt8.ofInt (((nth b 0).toNat*256+(nth b 1).toNat:Nat):Int)=nth b 1:=by
    have:=ofInt_low ((nth b 0).toNat:Int) (nth b 1) (by omega)
    rw [show (((nth b 0).toNat*256+(nth b 1).toNat:Nat):Int)=((nth b 0).toNat:Int)*256+((nth b 1).toNat:Int) by omega]
    exact this
   rw [b0,b1]
   exact two_ahead (by omega)
theorem and1:∀ x:UInt8,((x &&& 1) != 0)=(x % 2==1):=u8_all (by decide +kernel)
theorem and2:∀ x:UInt8,x.toNat≤3→((x &&& 2) != 0)=decide (x≥2):=u8_all (by decide +kernel)
theorem small_a {r:Record} {s:List UInt8} (h:SmallAB r) (hs:s.length≤15):SmallAB { r with a:=s }:=⟨hs,h.2⟩
theorem small_b {r:Record} {s:List UInt8} (h:SmallAB r) (hs:s.length≤15):SmallAB { r with b:=s }:=⟨h.1,hs⟩
def Fits (r:Record) (x:Element) (ok:Bool) (r':Record):Prop:=(ok=true∧fldF r x=some r'∧SmallAB r')∨(ok=false∧fldF r x=none)
theorem p_tfield_j1 (r:Record) (x:Element) (hx:x.value.length≤100000) (hs:SmallAB r) (hn:x.tag≠1∧x.tag≠2∧x.tag≠3∧x.tag≠6∧x.tag≠7∧x.tag≠8∧x.tag≠9∧x.tag≠10) :
  ∃ ok r',g_tagged_field_j1 x r (x.tag==4 || x.tag==5)=some (ok,r')∧Fits r x ok r':=by
 obtain ⟨n1,n2,n3,n6,n7,n8,n9,n10⟩:=hn
 have hu:=unp_len x.value
 unfold g_tagged_field_j1 Fits fldF
 by_cases h4:x.tag=4
 ·rw [if_pos (by simp [h4]),p_Unpack _ hx,Option.bind_some,if_pos (by simp [h4]),if_pos h4]
  refine ⟨_,_,rfl,?_⟩
  by_cases he:(unpF x.value).2=0
  ·rw [if_pos he]; exact .inl ⟨by simpa using he,rfl,small_a hs hu⟩
  ·rw [if_neg he]; exact .inr ⟨by simpa using he,rfl⟩
 rw [if_neg h4]
 by_cases h5:x.tag=5
 ·rw [if_pos (by simp [h5]),p_Unpack _ hx,Option.bind_some,if_neg (by simp [h5]),if_pos h5]
  refine ⟨_,_,rfl,?_⟩
  by_cases he:(unpF x.value).2=0
  ·rw [if_pos he]; exact .inl ⟨by simpa using he,rfl,small_b hs hu⟩
  ·rw [if_neg he]; exact .inr ⟨by simpa using he,rfl⟩
 rw [if_neg (by simp [h4,h5]),if_neg h5]
 by_cases h11:x.tag=11
 ·rw [if_pos (by simpa using h11),if_pos h11,show Int.toNat 0=0 from rfl,ck_pos (by intro h; simp at h; omega),ck_pos (by intro h; simp at h; omega)]
  have hf:(((((x.value.length:Int) != 1) || (decide (nth x.value 0 < 1))) || (decide (nth x.value 0 > 3)))=true)↔¬ flagV x.value=true:=by
   unfold flagV
   have a1:(nth x.value 0 < 1)↔(nth x.value 0).toNat < 1:=UInt8.lt_iff_toNat_lt
   have a2:(nth x.value 0 > 3)↔3 < (nth x.value 0).toNat:=UInt8.lt_iff_toNat_lt
   simp only [Bool.or_eq_true,bne_iff_ne,ne_eq,decide_eq_true_eq,Bool.and_eq_true,a1,a2]
   omega
  by_cases hv:flagV x.value=true
  ·rw [if_neg (fun h=>(hf.1 h) hv),if_pos hv]
   have h1:x.value.length=1∧(nth x.value 0).toNat≤3:=by
    unfold flagV at hv
    simp only [Bool.and_eq_true,decide_eq_true_eq] at hv
    exact ⟨hv.1.1,hv.2⟩
   rw [ck_pos (by omega),ck_pos (by omega),and1,and2 _ h1.2]
   exact ⟨_,_,rfl,.inl ⟨rfl,rfl,hs⟩⟩
  ·rw [if_pos (hf.2 hv),if_neg hv]
   exact ⟨_,_,rfl,.inr ⟨rfl,rfl⟩⟩
 rw [if_neg (by simpa using h11),if_neg h11]
 refine ⟨_,_,rfl,.inr ⟨rfl,?_⟩⟩
 by_cases hb:badN x.value=true
 ·rw [if_pos hb]
 ·rw [if_neg hb,if_neg n1,if_neg n2,if_neg n3,if_neg n6,if_neg n7,if_neg n8,if_neg n9,if_neg n10]
theorem p_tfield (r:Record) (x:Element) (hx:x.value.length≤100000) (hs:SmallAB r):∃ ok r',g_tagged_field x r=some (ok,r')∧Fits r x ok r':=by
 unfold g_tagged_field
 by_cases h1:x.tag=1
 ·rw [if_pos (decide_eq_true h1),p_number _ hx,Option.bind_some]
  refine ⟨_,_,rfl,?_⟩
  unfold Fits fldF
  rw [if_neg (show ¬ x.tag=4 by omega),if_neg (show ¬ x.tag=5 by omega),if_neg (show ¬ x.tag=11 by omega)]
  by_cases hb:badN x.value=true
  ·rw [if_pos hb,if_pos hb]; exact .inr ⟨rfl,rfl⟩
  ·rw [if_neg hb,if_neg hb,if_pos h1]; exact .inl ⟨rfl,rfl,hs⟩
 rw [if_neg (by simpa using h1)]
 by_cases h2:x.tag=2
 ·rw [if_pos (decide_eq_true h2),p_number _ hx,Option.bind_some]
  refine ⟨_,_,rfl,?_⟩
  unfold Fits fldF
  rw [if_neg (show ¬ x.tag=4 by omega),if_neg (show ¬ x.tag=5 by omega),if_neg (show ¬ x.tag=11 by omega)]
  by_cases hb:badN x.value=true
  ·rw [if_pos hb,if_pos hb]; exact .inr ⟨rfl,rfl⟩
  ·rw [if_neg hb,if_neg hb,if_neg h1,if_pos h2]; exact .inl ⟨rfl,rfl,hs⟩
 rw [if_neg (by simpa using h2)]
 by_cases h3:x.tag=3
 ·rw [if_pos (decide_eq_true h3),p_number _ hx,Option.bind_some]
  refine ⟨_,_,rfl,?_⟩
  unfold Fits fldF
  rw [if_neg (show ¬ x.tag=4 by omega),if_neg (show ¬ x.tag=5 by omega),if_neg (show ¬ x.tag=11 by omega)]
  by_cases hb:badN x.value=true
  ·rw [if_pos hb,if_pos hb]; exact .inr ⟨rfl,rfl⟩
  ·rw [if_neg hb,if_neg hb,if_neg h1,if_neg h2,if_pos h3]; exact .inl ⟨rfl,rfl,hs⟩
 rw [if_neg (by simpa using h3)]
 by_cases h6:x.tag=6
 ·rw [if_pos (decide_eq_true h6),p_number _ hx,Option.bind_some]
  refine ⟨_,_,rfl,?_⟩
  unfold Fits fldF
  rw [if_neg (show ¬ x.tag=4 by omega),if_neg (show ¬ x.tag=5 by omega),if_neg (show ¬ x.tag=11 by omega)]
  by_cases hb:badN x.value=true
  ·rw [if_pos hb,if_pos hb]; exact .inr ⟨rfl,rfl⟩
  ·rw [if_neg hb,if_neg hb,if_neg h1,if_neg h2,if_neg h3,if_pos h6]; exact .inl ⟨rfl,rfl,hs⟩
 rw [if_neg (by simpa using h6)]
 by_cases h7:x.tag=7
 ·rw [if_pos (decide_eq_true h7),p_number _ hx,Option.bind_some]
  refine ⟨_,_,rfl,?_⟩
  unfold Fits fldF
  rw [if_neg (show ¬ x.tag=4 by omega),if_neg (show ¬ x.tag=5 by omega),if_neg (show ¬ x.tag=11 by omega)]
  by_cases hb:badN x.value=true
  ·rw [if_pos hb,if_pos hb]; exact .inr ⟨rfl,rfl⟩
  ·rw [if_neg hb,if_neg hb,if_neg h1,if_neg h2,if_neg h3,if_neg h6,if_pos h7]; exact .inl ⟨rfl,rfl,hs⟩
 rw [if_neg (by simpa using h7)]
 by_cases h8:x.tag=8
 ·rw [if_pos (decide_eq_true h8),p_number _ hx,Option.bind_some]
  refine ⟨_,_,rfl,?_⟩
  unfold Fits fldF
  rw [if_neg (show ¬ x.tag=4 by omega),if_neg (show ¬ x.tag=5 by omega),if_neg (show ¬ x.tag=11 by omega)]
  by_cases hb:badN x.value=true
  ·rw [if_pos hb,if_pos hb]; exact .inr ⟨rfl,rfl⟩
  ·rw [if_neg hb,if_neg hb,if_neg h1,if_neg h2,if_neg h3,if_neg h6,if_neg h7,if_pos h8]; exact .inl ⟨rfl,rfl,hs⟩
 rw [if_neg (by simpa using h8)]
 by_cases h9:x.tag=9
 ·rw [if_pos (decide_eq_true h9),p_number _ hx,Option.bind_some]
  refine ⟨_,_,rfl,?_⟩
  unfold Fits fldF
  rw [if_neg (show ¬ x.tag=4 by omega),if_neg (show ¬ x.tag=5 by omega),if_neg (show ¬ x.tag=11 by omega)]
  by_cases hb:badN x.value=true
  ·rw [if_pos hb,if_pos hb]; exact .inr ⟨rfl,rfl⟩
  ·rw [if_neg hb,if_neg hb,if_neg h1,if_neg h2,if_neg h3,if_neg h6,if_neg h7,if_neg h8,if_pos h9]; exact .inl ⟨rfl,rfl,hs⟩
 rw [if_neg (by simpa using h9)]
 by_cases h10:x.tag=10
 ·rw [if_pos (decide_eq_true h10),p_number _ hx,Option.bind_some]
  refine ⟨_,_,rfl,?_⟩
  unfold Fits fldF
  rw [if_neg (show ¬ x.tag=4 by omega),if_neg (show ¬ x.tag=5 by omega),if_neg (show ¬ x.tag=11 by omega)]
  by_cases hb:badN x.value=true
  ·rw [if_pos hb,if_pos hb]; exact .inr ⟨rfl,rfl⟩
  ·rw [if_neg hb,if_neg hb,if_neg h1,if_neg h2,if_neg h3,if_neg h6,if_neg h7,if_neg h8,if_neg h9,if_pos h10]; exact .inl ⟨rfl,rfl,hs⟩
 rw [if_neg (by simpa using h10)]
 have hj:=p_tfield_j1 r x hx hs ⟨h1,h2,h3,h6,h7,h8,h9,h10⟩
 by_cases h4:x.tag=4
 ·rw [if_pos (by simpa using h4)]
  have e:(x.tag==4 || x.tag==5)=(x.tag==4):=by simp [h4]
  rw [e] at hj; exact hj
 ·rw [if_neg (by simpa using h4)]
  have e:(x.tag==4 || x.tag==5)=(x.tag==5):=by simp [h4]
  rw [e] at hj; exact hj
theorem p_tsize (b:List UInt8) (hb:b.length≤100000):f_tagged_size b=some (if b.length < 2∨b.length-2 < headN b then (0,2) else (((2+headN b:Nat):Int),0)):=by
 have hx:=(nth b 0).toNat_lt
 have hy:=(nth b 1).toNat_lt
 unfold f_tagged_size headN
 simp only [show Int.toNat 0=0 from rfl,show Int.toNat 1=1 from rfl,show (2:Int) ^ Int.toNat 8=256 from rfl]
 by_cases h1:b.length < 2
 ·rw [if_pos (by simp; omega),if_pos (.inl h1)]
 ·rw [if_neg (by simp; omega),ck_pos (by omega),ck_pos (by refine ⟨by omega,by omega,?_,?_⟩ <;> omega),ck_pos (by omega),ck_pos (by omega),ck_pos (by omega)]
  by_cases h2:b.length-2 < (nth b 0).toNat*256+(nth b 1).toNat
  ·rw [if_pos (by simp; omega),if_pos (.inr h2)]
  ·rw [if_neg (by simp; omega),if_neg (by omega)]
   congr 2
   omega
theorem p_tDloop (y:List Element×Int) (hl:y.1.length≤1000000) (hm:∀ x,x∈y.1→1≤x.tag∧x.value.length≤255) :
  loop (fun s=>f_tagged_Decode_l1 y s.1 s.2.1 s.2.2.1 s.2.2.2.1 s.2.2.2.2.1 s.2.2.2.2.2.1 s.2.2.2.2.2.2.1 s.2.2.2.2.2.2.2.1 s.2.2.2.2.2.2.2.2.1 s.2.2.2.2.2.2.2.2.2.1 s.2.2.2.2.2.2.2.2.2.2.1 s.2.2.2.2.2.2.2.2.2.2.2.1 s.2.2.2.2.2.2.2.2.2.2.2.2) (0,0,0,0,([]:List UInt8),([]:List UInt8),0,0,0,0,false,0,false)=some (finD true Z y.1):=by
 have:=loop_spec (step:=fun s:Int×Int×Int×Int×List UInt8×List UInt8×Int×Int×Int×Int×Bool×Int×Bool=>f_tagged_Decode_l1 y s.1 s.2.1 s.2.2.1 s.2.2.2.1 s.2.2.2.2.1 s.2.2.2.2.2.1 s.2.2.2.2.2.2.1 s.2.2.2.2.2.2.2.1 s.2.2.2.2.2.2.2.2.1 s.2.2.2.2.2.2.2.2.2.1 s.2.2.2.2.2.2.2.2.2.2.1 s.2.2.2.2.2.2.2.2.2.2.2.1 s.2.2.2.2.2.2.2.2.2.2.2.2)
  (fun s=>some (finD true (mkR s.2) (y.1.drop s.1.toNat))) (fun s=>0≤s.1∧s.1≤(y.1.length:Int)∧SmallAB (mkR s.2)) (fun s=>((y.1.length:Int) - s.1).toNat) (fun s hI=>by
   obtain ⟨i,s⟩:=s
   obtain ⟨i0,i1,i2⟩:=hI
   simp only at i0 i1 i2 ⊢
   unfold f_tagged_Decode_l1
   have hr:(⟨s.1,s.2.1,s.2.2.1,s.2.2.2.1,s.2.2.2.2.1,s.2.2.2.2.2.1,s.2.2.2.2.2.2.1,s.2.2.2.2.2.2.2.1,s.2.2.2.2.2.2.2.2.1,s.2.2.2.2.2.2.2.2.2.1,s.2.2.2.2.2.2.2.2.2.2.1,s.2.2.2.2.2.2.2.2.2.2.2⟩:Record)=mkR s:=rfl
   rw [hr]
   by_cases hi:i < (y.1.length:Int)
   ·have hx:=hm (nth y.1 i.toNat) (by rw [nth_eq (show i.toNat < y.1.length by omega)]; exact List.getElem_mem _)
    obtain ⟨okx,r',e1,e2⟩:=p_tfield (mkR s) (nth y.1 i.toNat) (by omega) i2
    rw [if_pos (by simpa using hi),ck_pos (by omega),e1,Option.bind_some,drop_nth (show i.toNat < y.1.length by omega)]
    rcases e2 with ⟨o1,o2,o3⟩ | ⟨o1,o2⟩
    ·subst o1
     rw [if_neg (by simp),ck_pos (by omega)]
     refine .inr ⟨_,rfl,⟨by simp only; omega,by simp only; omega,o3⟩,by simp only; omega,?_⟩
     simp only
     rw [show (i+1).toNat=i.toNat+1 by omega]
     have hm':mkR (r'.source,r'.serial,r'.kind,r'.a,r'.b,r'.start,r'.units,r'.call,r'.part,r'.last,r'.trunk,r'.inbound)=r':=rfl
     rw [hm',finD_some o2]
    ·subst o1
     rw [if_pos (by simp),finD_none o2]
     exact .inl ⟨_,rfl,rfl⟩
   ·rw [if_neg (by simpa using hi),List.drop_of_length_le (by omega)]
    unfold f_tagged_Decode_j2
    rw [hr,p_Encode (mkR s) (by have:=i2.1; omega) (by have:=i2.2; omega),Option.bind_some,finD_nil]
    unfold endF
    by_cases he:errF (mkR s)≠0
    ·rw [if_pos (by simpa using he),if_pos he]; exact .inl ⟨_,rfl,rfl⟩
    ·rw [if_neg (by simpa using he),if_neg he]; exact .inl ⟨_,rfl,rfl⟩) (s:=(0,0,0,0,[],[],0,0,0,0,false,0,false)) ⟨by simp,by simp,by simp [SmallAB,mkR]⟩ (by simp only; omega)
 exact this
theorem p_tDecode (b:List UInt8) (hb:b.length≤100000):f_tagged_Decode b=some (decT b):=by
 have bad:∀ e:Int,e≠0→f_tagged_Decode_j1 b e=some (Z,e):=fun e he=>by
  unfold f_tagged_Decode_j1; rw [if_pos (by simpa using he)]; rfl
 unfold f_tagged_Decode decT
 rw [p_tsize b hb,Option.bind_some]
 by_cases h1:b.length < 2∨b.length-2 < headN b
 ·rw [if_pos h1,if_pos h1,if_neg (by simp)]
  exact bad 2 (by decide)
 ·rw [if_neg h1,if_neg h1]
  by_cases h2:b.length-2 > headN b
  ·rw [if_pos h2,if_pos (by simp; omega)]
   exact bad 3 (by decide)
  ·rw [if_neg h2,if_neg (by simp; omega)]
   unfold f_tagged_Decode_j1
   rw [if_neg (by simp),ck_pos (by omega),show Int.toNat 2=2 from rfl,p_Elements _ (by simp; omega),Option.bind_some]
   by_cases h3:(elmF 0 [] (b.drop 2)).2≠0
   ·rw [if_pos (by simpa using h3),if_pos h3]; rfl
   ·rw [if_neg (by simpa using h3),if_neg h3]
    exact p_tDloop _ (by have:=elm_len' (b.drop 2); rw [List.length_drop] at this; omega) (elm_mem (by simpa using h3))
def allT (i:Nat) (out:List Record) (no:List Reject) (b:List UInt8):List Record×List Reject×Int :=
 if b.length=0 then (out,no,0) else if i=4096 then ([],[],5) else if b.length < 2∨b.length-2 < headN b then ([],[],2)
 else if (decT (b.take (2+headN b))).2≠0 then allT (i+1) out (no++[⟨0,0,(i:Int),(decT (b.take (2+headN b))).2⟩]) (b.drop (2+headN b))
 else allT (i+1) (out++[(decT (b.take (2+headN b))).1]) no (b.drop (2+headN b))
termination_by b.length
decreasing_by all_goals (simp; omega)
theorem allT_len:∀ (n:Nat) (b:List UInt8) (i:Nat) (out:List Record) (no:List Reject),b.length≤n→(allT i out no b).1.length≤out.length+n∧(allT i out no b).2.1.length≤no.length+n:=by
 intro n
 induction n with
 | zero=>intro b i out no h; rw [allT,if_pos (by omega)]; simp
 | succ n ih =>
  intro b i out no h
  rw [allT]
  split
  ·simp
  ·split
   ·simp
   ·split
    ·simp
    ·rename_i h1 h2 h3
     have hd:(b.drop (2+headN b)).length≤n:=by simp; omega
     split
     ·have:=ih _ (i+1) out (no++[⟨0,0,(i:Int),(decT (b.take (2+headN b))).2⟩]) hd
      simp at this ⊢
      omega
     ·have:=ih _ (i+1) (out++[(decT (b.take (2+headN b))).1]) no hd
      simp at this ⊢
      omega
theorem p_tAll (b:List UInt8) (hb:b.length≤100000):f_tagged_All b=some (allT 0 [] [] b):=by
 unfold f_tagged_All
 have:=loop_spec (step:=fun s=>f_tagged_All_l1 s.1 s.2.1 s.2.2.1 s.2.2.2) (fun s:List UInt8×List Record×List Reject×Int=>some (allT s.2.2.2.toNat s.2.1 s.2.2.1 s.1))
  (fun s=>0≤s.2.2.2∧s.2.2.2≤4096∧(s.2.1.length:Int)≤s.2.2.2∧(s.2.2.1.length:Int)≤s.2.2.2∧s.1.length≤100000) (fun s=>s.1.length) (fun s hI=>by
   obtain ⟨b,out,no,i⟩:=s
   obtain ⟨i0,i1,i2,i3,i4⟩:=hI
   simp only at i0 i1 i2 i3 i4 ⊢
   unfold f_tagged_All_l1
   rw [allT]
   by_cases h0:b.length=0
   ·rw [if_neg (show ¬ decide ((b.length:Int) > 0)=true by simp only [decide_eq_true_eq]; omega),if_pos h0]
    exact .inl ⟨_,rfl,rfl⟩
   ·rw [if_pos (show decide ((b.length:Int) > 0)=true by simp only [decide_eq_true_eq]; omega),if_neg h0]
    by_cases h1:i=4096
    ·rw [if_pos (show (i==4096)=true by simpa using h1),if_pos (show i.toNat=4096 by omega)]
     exact .inl ⟨_,rfl,rfl⟩
    ·rw [if_neg (show ¬ (i==4096)=true by simpa using h1),if_neg (show ¬ i.toNat=4096 by omega),p_tsize b i4,Option.bind_some]
     by_cases h2:b.length < 2∨b.length-2 < headN b
     ·rw [if_pos h2,if_pos (by simp),if_pos h2]
      exact .inl ⟨_,rfl,rfl⟩
     ·rw [if_neg h2,if_neg (by simp),if_neg h2,ck_pos (by omega),show (((2+headN b:Nat):Int)).toNat=2+headN b from rfl,p_tDecode _ (by simp; omega),Option.bind_some]
      by_cases h3:(decT (b.take (2+headN b))).2≠0
      ·rw [if_pos (by simpa using h3),if_pos h3,ck_pos (by simp; omega)]
       unfold f_tagged_All_j2
       rw [ck_pos (by omega),ck_pos (by omega),show (((2+headN b:Nat):Int)).toNat=2+headN b from rfl]
       refine .inr ⟨_,rfl,⟨by simp only; omega,by simp only; omega,by simp only; omega,by simp; omega,by simp; omega⟩,by simp; omega,?_⟩
       simp only
       rw [show (i+1).toNat=i.toNat+1 by omega,show ((i.toNat:Nat):Int)=i by omega]
      ·rw [if_neg (by simpa using h3),if_neg h3,ck_pos (by simp; omega)]
       unfold f_tagged_All_j2
       rw [ck_pos (by omega),ck_pos (by omega),show (((2+headN b:Nat):Int)).toNat=2+headN b from rfl]
       refine .inr ⟨_,rfl,⟨by simp only; omega,by simp only; omega,by simp; omega,by simp only; omega,by simp; omega⟩,by simp; omega,?_⟩
       simp only
       rw [show (i+1).toNat=i.toNat+1 by omega]) (s:=(b,[],[],0)) ⟨by simp,by simp,by simp,by simp,hb⟩ (by simp only; omega)
 exact this
end Go.Proofs.YthoengcicaicoaaGreatDoor.C10
namespace Go.Proofs.YthoengcicaicoaaGreatDoor.C9
open Go.RowKit Go.Abs
def free (c:UInt8) (a:List UInt8):Prop:=∀ x,x∈a→x≠c
def cutL (c:UInt8):List UInt8→List (List UInt8)
 | []=>[[]]
 | x :: r=>if x=c then [] :: cutL c r else (x :: (cutL c r).headD []) :: (cutL c r).tail
theorem cutL_eta (c:UInt8) (s:List UInt8):cutL c s=(cutL c s).headD [] :: (cutL c s).tail:=by
 cases s with
 | nil=>rfl
 | cons x r=>unfold cutL; split <;> rfl
theorem cutL_ne (c:UInt8) (s:List UInt8):cutL c s≠[]:=by rw [cutL_eta]; simp
theorem cutL_hit {c:UInt8} {r:List UInt8}:cutL c (c :: r)=[] :: cutL c r:=by simp [cutL]
theorem cutL_step {c x:UInt8} {r:List UInt8} (h:x≠c):cutL c (x :: r)=(x :: (cutL c r).headD []) :: (cutL c r).tail:=by simp [cutL,h]
theorem cutL_free {c:UInt8}:∀ {a:List UInt8},free c a→∀ r,cutL c (a++r)=(a++(cutL c r).headD []) :: (cutL c r).tail
 | [],_,r=>cutL_eta c r
 | x :: a,h,r=>by
  rw [List.cons_append,cutL_step (h x (by simp)),cutL_free (fun y hy=>h y (by simp [hy])) r]
  rfl
theorem cutL_word {c:UInt8} {a:List UInt8} (h:free c a):cutL c a=[a]:=by
 have:=cutL_free h []
 simpa [cutL] using this
theorem cutL_more {c:UInt8} {a r:List UInt8} (h:free c a):cutL c (a++c :: r)=a :: cutL c r:=by
 rw [cutL_free h,cutL_hit]; simp
theorem cutL_len (c:UInt8):∀ s:List UInt8,(cutL c s).length≤s.length+1
 | []=>by simp [cutL]
 | x :: r=>by
  have:=cutL_len c r
  unfold cutL
  split
  ·simp; omega
  ·rw [cutL_eta c r] at this; simp at this ⊢; omega
theorem cutL_hd {c:UInt8} {r:List UInt8}:(cutL c r).headD []∈cutL c r:=by
 cases h:cutL c r with
 | nil=>exact absurd h (cutL_ne c r)
 | cons a b=>simp
theorem cutL_mem (c:UInt8):∀ (s w:List UInt8),w∈cutL c s→free c w∧w.length≤s.length
 | [],w,h=>by
  simp [cutL] at h
  subst h
  exact ⟨fun x hx=>(by simp at hx),Nat.le_refl _⟩
 | x :: r,w,h=>by
  by_cases hx:x=c
  ·subst hx
   rw [cutL_hit] at h
   rcases List.mem_cons.1 h with rfl | h
   ·exact ⟨fun y hy=>(by simp at hy),by simp⟩
   ·have:=cutL_mem x r w h
    exact ⟨this.1,by simp; omega⟩
  ·rw [cutL_step hx] at h
   rcases List.mem_cons.1 h with rfl | h
   ·have h0:=cutL_mem c r ((cutL c r).headD []) cutL_hd
    refine ⟨fun y hy=>?_,by simp only [List.length_cons]; omega⟩
    rcases List.mem_cons.1 hy with rfl | hy
    ·exact hx
    ·exact h0.1 y hy
   ·have h0:=cutL_mem c r w (by rw [cutL_eta c r]; simp [h])
    exact ⟨h0.1,by simp; omega⟩
theorem joinTail_cons (c:UInt8) (w:List UInt8) (ws:List (List UInt8)):Go.Lib.joinTail [c] (w :: ws)=c :: (w++Go.Lib.joinTail [c] ws):=by simp [Go.Lib.joinTail]
theorem cut_join {c:UInt8}:∀ (ws:List (List UInt8)),ws≠[]→(∀ w,w∈ws→free c w)→cutL c (Go.Lib.join ws [c])=ws
 | [],h,_=>absurd rfl h
 | [w],_,h=>by rw [Go.Lib.join_one]; exact cutL_word (h w (by simp))
 | w :: v :: ws,_,h=>by
  rw [Go.Lib.join_cons,joinTail_cons,←Go.Lib.join_cons,cutL_more (h w (by simp)),cut_join (v :: ws) (by simp) (fun u hu=>h u (by simp [hu]))]
theorem cutL_snoc {c:UInt8}:∀ t:List UInt8,cutL c (t++[c])=cutL c t++[[]]
 | []=>by simp [cutL]
 | x :: r=>by
  have ih:=cutL_snoc (c:=c) r
  by_cases hx:x=c
  ·subst hx
   rw [List.cons_append,cutL_hit,cutL_hit,ih]; rfl
  ·rw [List.cons_append,cutL_step hx,cutL_step hx,ih,cutL_eta c r]; rfl
theorem free_of_take {c:UInt8} {s:List UInt8} {i:Nat} (h:∀ j,j < i→s[j]?≠some c):free c (s.take i):=by
 intro x hx he
 subst he
 obtain ⟨j,hj,rfl⟩:=List.getElem_of_mem hx
 rw [List.length_take] at hj
 exact h j (by omega) (by rw [List.getElem_take,List.getElem?_eq_getElem (by omega)])
theorem occ_at {s:List UInt8} {c:UInt8} {j:Nat}:Go.Lib.occAt s [c] j=true↔s[j]?=some c:=by
 constructor
 ·exact Go.Lib.occAt_head rfl
 ·intro h
  obtain ⟨hj,he⟩:=List.getElem?_eq_some_iff.1 h
  unfold Go.Lib.occAt
  rw [List.drop_eq_getElem_cons hj,he]
  simp
theorem splitK_cut (c:UInt8):∀ (n:Nat) (s:List UInt8),s.length≤n→Go.Lib.splitK [c] 0 (Go.Lib.count s [c]) s=cutL c s:=by
 intro n
 induction n with
 | zero =>
  intro s hs
  have:s=[]:=by simpa using hs
  subst this
  rw [Go.Lib.count_miss (by rfl)]
  rfl
 | succ n ih =>
  intro s hs
  rcases Go.Lib.index_spec s [c] with ⟨h1,h2⟩ | ⟨i,h1,h2,h3,h4⟩
  ·rw [Go.Lib.count_miss h1]
   have hf:free c s:=by
    intro x hx he
    subst he
    obtain ⟨j,hj,he⟩:=List.getElem_of_mem hx
    have:=h2 j (by omega)
    rw [occ_at.2 (by rw [List.getElem?_eq_getElem hj,he])] at this
    cases this
   rw [cutL_word hf]
   rfl
  ·have hi:=occ_at.1 h3
   obtain ⟨hlt,he⟩:=List.getElem?_eq_some_iff.1 hi
   rw [Go.Lib.count_hit (by simp) h1,Nat.add_comm 1,Go.Lib.splitK,h1]
   have hm:¬ (((i:Int)==-1)=true):=by rw [beq_iff_eq]; omega
   rw [if_neg hm]
   simp only [Int.toNat_natCast,Nat.add_zero,List.length_singleton]
   rw [ih _ (by simp; omega)]
   have hs2:s=s.take i++c :: s.drop (i+1):=by
    have:=List.take_append_drop i s
    rw [List.drop_eq_getElem_cons hlt,he] at this
    exact this.symm
   have hf:free c (s.take i):=free_of_take (fun j hj h=>by
    have:=h4 j hj
    rw [occ_at.2 h] at this
    cases this)
   conv=>rhs; rw [hs2,cutL_more hf]
theorem split_cut (s:List UInt8) (c:UInt8):Go.Lib.split s [c]=cutL c s:=splitK_cut c _ s (Nat.le_refl _)
def isDg (c:UInt8):Bool:=decide (48≤c) && decide (c≤57)
def dgv (c:UInt8):Int:=(c.toNat:Int) - 48
theorem isDg_iff {c:UInt8}:isDg c=true↔48≤c.toNat∧c.toNat≤57:=by
 simp only [isDg,Bool.and_eq_true,decide_eq_true_eq]
 exact ⟨fun h=>⟨h.1,h.2⟩,fun h=>⟨h.1,h.2⟩⟩
def numF (n:Int):List UInt8→Int
 | []=>n
 | c :: r=>numF (n*10+dgv c) r
theorem numF_app:∀ (a b:List UInt8) (n:Int),numF n (a++b)=numF (numF n a) b
 | [],_,_=>rfl
 | c :: a,b,n=>numF_app a b _
def vOK (s:List UInt8):Bool:=s.all isDg && decide (1≤s.length) && decide (s.length≤15) && !(decide (s.headD 0=48) && decide (1 < s.length))
theorem dec_digs (u:Nat):(Go.Lib.decDigits u).all isDg=true:=by
 induction u using Nat.strongRecOn with
 | _ u ih =>
  rw [Go.Lib.decDigits]
  split
  ·have hb:(UInt8.ofNat (48+u)).toNat=48+u:=by simp; omega
   simp only [List.all_cons,List.all_nil,Bool.and_true]
   exact isDg_iff.2 (by omega)
  ·have hb:(UInt8.ofNat (48+u % 10)).toNat=48+u % 10:=by simp; omega
   rw [List.all_append,ih (u / 10) (by omega)]
   simp only [List.all_cons,List.all_nil,Bool.and_true,Bool.true_and]
   exact isDg_iff.2 (by omega)
theorem dec_val (u:Nat):numF 0 (Go.Lib.decDigits u)=u:=by
 induction u using Nat.strongRecOn with
 | _ u ih =>
  rw [Go.Lib.decDigits]
  split
  ·have hb:(UInt8.ofNat (48+u)).toNat=48+u:=by simp; omega
   simp only [numF,dgv,hb]; omega
  ·have hb:(UInt8.ofNat (48+u % 10)).toNat=48+u % 10:=by simp; omega
   rw [numF_app,ih (u / 10) (by omega)]
   simp only [numF,dgv,hb]; omega
theorem dec_head (u:Nat) (h:1≤u):(Go.Lib.decDigits u).headD 0≠48:=by
 induction u using Nat.strongRecOn with
 | _ u ih =>
  rw [Go.Lib.decDigits]
  split
  ·intro hh
   have hb:(UInt8.ofNat (48+u)).toNat=48+u:=by simp; omega
   simp only [List.headD_cons] at hh
   rw [hh] at hb
   have:(48:UInt8).toNat=48:=rfl
   omega
  ·have:=ih (u / 10) (by omega) (by omega)
   have hl:=Go.Lib.nDigits_pos (u / 10)
   have hl2:=Go.Lib.decDigits_length (u / 10)
   cases hd:Go.Lib.decDigits (u / 10) with
   | nil=>rw [hd] at hl2; simp at hl2; omega
   | cons a b=>rw [hd] at this; simpa using this
theorem dec_vOK (u:Nat) (h:u < 1000000000000000):vOK (Go.Lib.decDigits u)=true:=by
 have hp:=Go.Lib.nDigits_pos u
 have hl:=Go.Lib.decDigits_length u
 have h15:Go.Lib.nDigits u≤15:=by
  by_cases hz:Go.Lib.nDigits u≤15
  ·exact hz
  ·exfalso
   have h2:10 ^ 15≤10 ^ (Go.Lib.nDigits u-1):=Nat.pow_le_pow_right (by decide) (by omega)
   have key:∀ u,Go.Lib.nDigits u=1∨10 ^ (Go.Lib.nDigits u-1)≤u:=by
    intro u
    induction u using Nat.strongRecOn with
    | _ u ih =>
     by_cases hu:u < 10
     ·exact .inl (Go.Lib.nDigits_small hu)
     ·right
      rw [Go.Lib.nDigits_big hu,Nat.add_sub_cancel]
      rcases ih (u / 10) (by omega) with h | h
      ·rw [h]; omega
      ·have hp:=Go.Lib.nDigits_pos (u / 10)
       obtain ⟨k,hk⟩:∃ k,Go.Lib.nDigits (u / 10)=k+1:=⟨Go.Lib.nDigits (u / 10) - 1,by omega⟩
       rw [hk] at h ⊢
       rw [Nat.add_sub_cancel] at h
       rw [Nat.pow_succ]
       omega
   rcases key u with h | h
   ·omega
   ·have h3:(10:Nat) ^ 15=1000000000000000:=by decide
    omega
 simp only [vOK,Bool.and_eq_true,decide_eq_true_eq,dec_digs,true_and,hl,Bool.not_eq_true',Bool.and_eq_false_iff,decide_eq_false_iff_not]
 refine ⟨⟨hp,h15⟩,?_⟩
 by_cases hu:u < 10
 ·right; rw [Go.Lib.nDigits_small hu]; omega
 ·left; exact dec_head u (by omega)
theorem itoa_dec {n:Int} (h:0≤n):Go.Lib.itoa n=Go.Lib.decDigits n.toNat:=by unfold Go.Lib.itoa; rw [if_neg (by omega)]
theorem itoa_vOK {n:Int} (h:0≤n) (h1:n < 1000000000000000):vOK (Go.Lib.itoa n)=true:=by rw [itoa_dec h]; exact dec_vOK _ (by omega)
theorem itoa_val {n:Int} (h:0≤n):numF 0 (Go.Lib.itoa n)=n:=by rw [itoa_dec h,dec_val]; omega
theorem digs_free {s:List UInt8} (h:s.all isDg=true) {c:UInt8} (hc:isDg c=false):free c s:=by
 intro x hx he
 subst he
 have:=List.all_eq_true.1 h x hx
 rw [hc] at this
 cases this
theorem itoa_free {n:Int} (h:0≤n) {c:UInt8} (hc:isDg c=false):free c (Go.Lib.itoa n):=by rw [itoa_dec h]; exact digs_free (dec_digs _) hc
theorem Record.eq_refl (r:Record):eqVs r.vals r.vals=true:=by simp [Record.vals,eqVs,eqV]
theorem errF_last {r:Record} (h:errF r=0):(r.last=true→r.part≠0)∧(r.part=0↔r.call=0)∧(r.inbound=true→r.trunk≠0):=by
 unfold errF at h
 split at h; · cases h
 split at h; · cases h
 split at h; · cases h
 split at h; · cases h
 split at h; · cases h
 split at h; · cases h
 split at h; · cases h
 split at h; · cases h
 split at h; · cases h
 split at h; · cases h
 rename_i h8 h9 h10
 refine ⟨fun a b=>h8 (.inr ⟨a,b⟩),?_,fun a b=>h10 ⟨a,b⟩⟩
 by_cases hp:r.part=0↔r.call=0
 ·exact hp
 ·exact absurd (.inl hp) h8
def numeralF (s:List UInt8):Int×Bool:=if vOK s=true then (numF 0 s,true) else (0,false)
theorem isDg_no {c:UInt8} (h:isDg c=false):c.toNat < 48∨57 < c.toNat:=by
 have:¬ (48≤c.toNat∧c.toNat≤57):=fun hh=>by rw [isDg_iff.2 hh] at h; cases h
 omega
theorem pow15 {k:Nat} (h:k≤15):(10:Int) ^ k≤1000000000000000:=by
 have h2:(10:Int) ^ k≤10 ^ 15:=by exact_mod_cast Nat.pow_le_pow_right (by decide) h
 have h3:(10:Int) ^ 15=1000000000000000:=by decide
 omega
theorem vOK_eq {s:List UInt8}:vOK s=(s.all isDg && !((decide ((s.length:Int) < 1) || decide ((s.length:Int) > 15)) || (decide (s.headD 0=48) && decide ((s.length:Int) > 1)))):=by
 unfold vOK
 rw [Bool.eq_iff_iff]
 simp only [Bool.and_eq_true,decide_eq_true_eq,Bool.not_eq_true',Bool.or_eq_false_iff,Bool.and_eq_false_iff,decide_eq_false_iff_not]
 constructor
 ·rintro ⟨⟨⟨h1,h2⟩,h3⟩,h4⟩
  exact ⟨h1,⟨by omega,by omega⟩,by rcases h4 with h4 | h4; exact .inl h4; exact .inr (by omega)⟩
 ·rintro ⟨h1,⟨h2,h3⟩,h4⟩
  exact ⟨⟨⟨h1,by omega⟩,by omega⟩,by rcases h4 with h4 | h4; exact .inl h4; exact .inr (by omega)⟩
theorem nth_zero_headD {s:List UInt8}:nth s 0=s.headD 0:=by
 cases s with
 | nil=>rfl
 | cons a t=>rfl
theorem wrap_small {k:IntKind} {n:Int} (h0:0≤n) (h1:n≤100) (hk:k=.i32∨k=.i64):IntKind.wrap k n=n:=by
 rcases hk with rfl | rfl <;> (unfold IntKind.wrap; simp [IntKind.signed,IntKind.bits]; omega)
theorem p_numeral (s:List UInt8):f_textual_numeral s=some (numeralF s):=by
 unfold f_textual_numeral
 simp only [show Int.toNat 0=0 from rfl]
 have hlen0:s=[]↔(s.length:Int) < 1:=by
  cases s with
  | nil=>simp
  | cons a t=>simp; omega
 rw [ck_pos (fun h=>by
  simp only [Bool.not_eq_true',Bool.or_eq_false_iff,decide_eq_false_iff_not] at h
  refine ⟨by omega,?_⟩
  have:¬ s=[]:=by simpa using h.1
  rw [hlen0] at this
  omega)]
 rw [nth_zero_headD]
 unfold numeralF
 rw [vOK_eq]
 have hcc:(s==([]:List UInt8) || decide ((s.length:Int) > 15) || (s.headD 0==48 && s != ([48]:List UInt8)))=(decide ((s.length:Int) < 1) || decide ((s.length:Int) > 15) || (decide (s.headD 0=48) && decide ((s.length:Int) > 1))):=by
  cases s with
  | nil=>rfl
  | cons a t =>
   cases t with
   | nil =>
    by_cases ha:a=48
    ·subst ha; rfl
    ·have:(a==48)=false:=by simpa using ha
     simp [this,ha]
   | cons b t =>
    have e1:((a :: b :: t:List UInt8)==[])=false:=rfl
    have e2:((a :: b :: t:List UInt8) != [48])=true:=by simp
    have e3:decide (((a :: b :: t:List UInt8).length:Int) < 1)=false:=by simp only [List.length_cons,decide_eq_false_iff_not]; omega
    have e4:decide (((a :: b :: t:List UInt8).length:Int) > 1)=true:=by simp only [List.length_cons,decide_eq_true_eq]; omega
    rw [e1,e2,e3,e4]
    simp only [List.headD_cons,Bool.and_true]
    by_cases ha:a=48 <;> simp [ha]
 rw [hcc]
 by_cases hc:(decide ((s.length:Int) < 1) || decide ((s.length:Int) > 15) || (decide (s.headD 0=48) && decide ((s.length:Int) > 1)))=true
 ·rw [if_pos hc,if_neg (by rw [hc]; simp)]
 ·rw [if_neg hc]
  have hc':(decide ((s.length:Int) < 1) || decide ((s.length:Int) > 15) || (decide (s.headD 0=48) && decide ((s.length:Int) > 1)))=false:=by simpa using hc
  rw [hc']
  simp only [Bool.or_eq_false_iff,decide_eq_false_iff_not] at hc'
  have:=loop_spec (step:=fun st=>f_textual_numeral_l1 s st.1 st.2) (fun st:Int×Nat=>some (if (s.drop st.2).all isDg=true then (numF st.1 (s.drop st.2),true) else ((0:Int),false)))
   (fun st=>st.2≤s.length∧0≤st.1∧st.1 < 10 ^ st.2) (fun st=>s.length-st.2) (fun st hI=>by
    obtain ⟨n,p⟩:=st
    obtain ⟨i1,i2,i3⟩:=hI
    simp only at i1 i2 i3 ⊢
    have hp:=pow15 (k:=p) (by omega)
    unfold f_textual_numeral_l1
    by_cases hi:p < s.length
    ·rw [if_pos (by simpa using hi),ck_pos hi]
     rw [drop_nth hi]
     by_cases hhi:(nth s p).toNat < 128
     ·have hr:=runeAt_ascii hi hhi
      have hn:nextP s p=p+1:=by unfold nextP; rw [if_pos hi,hr]
      rw [hr,hn]
      simp only
      cases hd:isDg (nth s p) with
      | false =>
       have hh:=isDg_no hd
       rw [if_pos (by simp only [Bool.or_eq_true,decide_eq_true_eq]; omega)]
       exact .inl ⟨_,rfl,by simp [hd]⟩
      | true =>
       have hh:=isDg_iff.1 hd
       rw [if_neg (by simp only [Bool.or_eq_true,decide_eq_true_eq]; omega)]
       rw [wrap_small (k:=.i32) (by omega) (by omega) (.inl rfl),wrap_small (k:=.i64) (by omega) (by omega) (.inr rfl)]
       rw [ck_pos (by omega),ck_pos (by omega)]
       refine .inr ⟨_,rfl,⟨by simp only; omega,by simp only; omega,?_⟩,by simp only; omega,?_⟩
       ·simp only
        rw [Int.pow_succ]; omega
       ·simp only
        have e:10*n+(((nth s p).toNat:Int) - 48)=n*10+dgv (nth s p):=by unfold dgv; omega
        rw [e]
        simp [hd,numF]
     ·have hr:=runeAt_high hi (by omega)
      have hd:isDg (nth s p)=false:=by
       cases hd:isDg (nth s p) with
       | false=>rfl
       | true=>have:=isDg_iff.1 hd; omega
      rw [if_pos (by simp only [Bool.or_eq_true,decide_eq_true_eq]; omega)]
      exact .inl ⟨_,rfl,by simp [hd]⟩
    ·rw [if_neg (by simpa using hi)]
     refine .inl ⟨_,rfl,?_⟩
     rw [List.drop_of_length_le (by omega)]
     simp [numF]) (s:=(0,0)) ⟨by simp,by simp,by simp⟩ (by simp only; omega)
  rw [this]
  simp
def pre (a:List UInt8) (l:List (List UInt8)):List (List UInt8):=(a++l.headD []) :: l.tail
abbrev PART:List UInt8:=[112,97,114,116]
abbrev LAST:List UInt8:=[108,97,115,116]
abbrev INW:List UInt8:=[105,110]
abbrev OUTW:List UInt8:=[111,117,116]
def kindL (s:List UInt8):Int:=if s=[118] then 1 else if s=[116] then 2 else if s=[100] then 3 else if s=[99] then 4 else 0
def trunkP:List (List UInt8)→Option (Int×Bool)
 | []=>some (0,false)
 | [d,t]=>if (d=INW∨d=OUTW)∧vOK t=true then some (numF 0 t,decide (d=INW)) else none
 | _=>none
def lastP:List (List UInt8)→Option (Bool×Int×Bool)
 | []=>(trunkP []).map fun t=>(false,t.1,t.2)
 | l :: r=>if l=LAST then (trunkP r).map fun t=>(true,t.1,t.2) else (trunkP (l :: r)).map fun t=>(false,t.1,t.2)
def tailP:List (List UInt8)→Option (Int×Int×Bool×Int×Bool)
 | p :: c :: q :: r=>if p=PART then (if vOK c=true∧vOK q=true then (lastP r).map fun t=>(numF 0 c,numF 0 q,t.1,t.2.1,t.2.2) else none) else (trunkP (p :: c :: q :: r)).map fun t=>(0,0,false,t.1,t.2)
 | w=>(trunkP w).map fun t=>(0,0,false,t.1,t.2)
def bF (b:List UInt8):List UInt8:=if b=[45] then [] else b
def parseF:List (List UInt8)→Option Record
 | k :: s1 :: s2 :: a :: b :: t :: u :: rest =>
  if 0 < kindL k∧vOK s1=true∧vOK s2=true∧a≠[]∧b≠[]∧vOK t=true∧vOK u=true then
   (tailP rest).map fun x=>⟨numF 0 s1,numF 0 s2,kindL k,a,bF b,numF 0 t,numF 0 u,x.1,x.2.1,x.2.2.1,x.2.2.2.1,x.2.2.2.2⟩
  else none
 | _=>none
def Z:Record:=⟨0,0,0,[],[],0,0,0,0,false,0,false⟩
def fin (line:List UInt8) (x:Record):Record×Int:=if errF x≠0 then (Z,errF x) else if lineF x≠line then (Z,1) else (x,0)
def decF (line:List UInt8):Record×Int:=match parseF (cutL 32 line) with
 | none=>(Z,1)
 | some x=>fin line x
def wordF (r:TextualReader):List UInt8×TextualReader:=match r.words with
 | []=>([],⟨[],true⟩)
 | x :: t=>if x=[] then ([],⟨x :: t,true⟩) else (x,⟨t,r.bad⟩)
def numberR (r:TextualReader):Int×TextualReader:=((numeralF (wordF r).1).1,⟨(wordF r).2.words,(wordF r).2.bad || !(numeralF (wordF r).1).2⟩)
def nextR (s:List UInt8) (r:TextualReader):Bool×TextualReader:=match r.words with
 | []=>(false,r)
 | x :: t=>if x=s then (true,⟨t,r.bad⟩) else (false,r)
theorem p_word (r:TextualReader):g_textual_reader_word r=some (wordF r):=by
 obtain ⟨ws,b⟩:=r
 unfold g_textual_reader_word wordF
 cases ws with
 | nil=>rfl
 | cons x t =>
  simp only [show Int.toNat 0=0 from rfl,show Int.toNat 1=1 from rfl]
  rw [ck_pos (fun _=>by simp <;> omega)]
  have e:nth (x :: t) 0=x:=rfl
  rw [e]
  by_cases hx:x=[]
  ·rw [if_pos (by simp [hx]),if_pos hx]
  ·rw [if_neg (by simp [hx] <;> omega),if_neg hx,ck_pos (by simp <;> omega),ck_pos (by simp <;> omega)]
   rfl
theorem p_number (r:TextualReader):g_textual_reader_number r=some (numberR r):=by
 unfold g_textual_reader_number
 rw [p_word,Option.bind_some,p_numeral,Option.bind_some]
 rfl
theorem p_next (s:List UInt8) (r:TextualReader):g_textual_reader_next s r=some (nextR s r):=by
 obtain ⟨ws,b⟩:=r
 unfold g_textual_reader_next nextR
 cases ws with
 | nil=>rfl
 | cons x t =>
  simp only [show Int.toNat 0=0 from rfl,show Int.toNat 1=1 from rfl]
  rw [ck_pos (fun _=>by simp <;> omega)]
  have e:nth (x :: t) 0=x:=rfl
  rw [e]
  by_cases hx:x=s
  ·rw [if_neg (by simp [hx] <;> omega),if_pos hx,ck_pos (by simp <;> omega)]
   rfl
  ·rw [if_pos (by simp [hx]),if_neg hx]
theorem wordF_bad {r:TextualReader} (h:r.bad=true):(wordF r).2.bad=true:=by
 unfold wordF
 split
 ·rfl
 ·split
  ·rfl
  ·exact h
theorem numberR_bad {r:TextualReader} (h:r.bad=true):(numberR r).2.bad=true:=by
 unfold numberR
 simp [wordF_bad h]
theorem vOK_nil:vOK []=false:=rfl
theorem wordF_cons {x:List UInt8} {t:List (List UInt8)} {b:Bool} (hx:x≠[]):wordF ⟨x :: t,b⟩=(x,⟨t,b⟩):=by unfold wordF; simp [hx]
theorem numberR_cons {x:List UInt8} {t:List (List UInt8)} {b:Bool} (hx:x≠[]):numberR ⟨x :: t,b⟩=((numeralF x).1,⟨t,b || !vOK x⟩):=by
 unfold numberR
 rw [wordF_cons hx]
 unfold numeralF
 cases vOK x <;> rfl
theorem wordF_none {b:Bool}:(wordF ⟨[],b⟩).2.bad=true:=rfl
theorem wordF_empty {t:List (List UInt8)} {b:Bool}:(wordF ⟨[] :: t,b⟩).2.bad=true:=rfl
theorem numberR_none {b:Bool}:(numberR ⟨[],b⟩).2.bad=true:=rfl
theorem numberR_empty {t:List (List UInt8)} {b:Bool}:(numberR ⟨[] :: t,b⟩).2.bad=true:=rfl
theorem vOK_ne {x:List UInt8} (h:vOK x=true):x≠[]:=by rintro rfl; cases h
theorem numeralF_ok {x:List UInt8} (h:vOK x=true):(numeralF x).1=numF 0 x:=by unfold numeralF; rw [if_pos h]
section decode
variable {v0:List UInt8} {y2:List UInt8×TextualReader} {y3:Int} {y4 y5:Int×TextualReader} {y6:List UInt8×TextualReader} {y8 y9:Int×TextualReader} {b:List UInt8}
def KB (y2:List UInt8×TextualReader) (y3:Int):Bool:=((y2.1.length:Int) != 1) || ((1+y3)==0)
theorem p_j3 (ha:y6.1.length < 1000000000) (hb:b.length < 1000000000) {c p:Int} {l:Bool} {ws:List (List UInt8)} {bad:Bool} {tr:Int} {inb:Bool} :
  f_textual_Decode_j3 v0 y2 y3 y4 y5 y6 y8 y9 b c p l ws bad tr inb=some (if bad=true∨KB y2 y3=true∨ws≠[] then (Z,1) else fin v0 ⟨y4.1,y5.1,1+y3,y6.1,b,y8.1,y9.1,c,p,l,tr,inb⟩):=by
 unfold f_textual_Decode_j3
 have hw:(decide ((ws.length:Int) > 0))=true↔ws≠[]:=by
  cases ws with
  | nil=>simp
  | cons a t=>simp <;> omega
 by_cases h:bad=true∨KB y2 y3=true∨ws≠[]
 ·rw [if_pos h,if_pos]
  ·rfl
  ·simp only [KB,Bool.or_eq_true] at h ⊢
   rw [hw]
   rcases h with h | (h | h) | h <;> simp [h]
 ·rw [if_neg h,if_neg]
  ·rw [p_Encode _ ha hb]
   simp only [Option.bind_some]
   generalize hx:(⟨y4.1,y5.1,1+y3,y6.1,b,y8.1,y9.1,c,p,l,tr,inb⟩:Record)=x
   unfold f_textual_Decode_j4 fin
   by_cases he:errF x=0
   ·rw [if_pos he,he]
    by_cases hl:lineF x=v0
    ·rw [if_neg (by simp [hl]),if_neg (by simp),if_neg (by simp),if_neg (by simp [hl])]
     subst hx
     rfl
    ·rw [if_pos (by simp [hl]),if_pos (by simp),if_neg (by simp),if_pos hl]
     rfl
   ·rw [if_neg he,if_neg (by simp [he]),if_pos (by simpa using he),if_pos he]
    rfl
  ·simp only [not_or] at h
   obtain ⟨h1,h2,h3⟩:=h
   simp only [KB,Bool.or_eq_true,not_or] at h2 ⊢
   rw [hw]
   exact ⟨⟨⟨h1,h2.1⟩,h2.2⟩,h3⟩
def outT (bad:Bool) (k:Bool) (o:Option (Record)) (line:List UInt8):Record×Int:=if bad=true∨k=true then (Z,1) else match o with
 | none=>(Z,1)
 | some x=>fin line x
theorem p_j2 (ha:y6.1.length < 1000000000) (hb:b.length < 1000000000) {c p:Int} {l:Bool} {ws:List (List UInt8)} {bad:Bool} :
  f_textual_Decode_j2 v0 y2 y3 y4 y5 y6 y8 y9 b ws bad c p l=some (outT bad (KB y2 y3) ((trunkP ws).map fun t=>⟨y4.1,y5.1,1+y3,y6.1,b,y8.1,y9.1,c,p,l,t.1,t.2⟩) v0):=by
 unfold f_textual_Decode_j2
 simp only [p_next,p_number,Option.bind_some]
 have key:∀ (d:List UInt8) (t:List (List UInt8)) (inb:Bool),(d=INW∨d=OUTW)→inb=decide (d=INW) →
   f_textual_Decode_j3 v0 y2 y3 y4 y5 y6 y8 y9 b c p l (numberR ⟨t,bad⟩).2.words (numberR ⟨t,bad⟩).2.bad (numberR ⟨t,bad⟩).1 inb=some (outT bad (KB y2 y3) ((trunkP (d :: t)).map fun t=>⟨y4.1,y5.1,1+y3,y6.1,b,y8.1,y9.1,c,p,l,t.1,t.2⟩) v0):=by
  intro d t inb hd hinb
  rw [p_j3 ha hb]
  unfold outT
  cases t with
  | nil =>
   rw [if_pos (.inl numberR_none)]
   simp [trunkP]
  | cons n t2 =>
   by_cases hn:n=[]
   ·subst hn
    rw [if_pos (.inl numberR_empty)]
    cases t2 with
    | nil=>simp [trunkP,vOK_nil]
    | cons e t3=>simp [trunkP]
   ·rw [numberR_cons hn]
    simp only
    cases t2 with
    | cons e t3 =>
     rw [if_pos (.inr (.inr (by simp)))]
     simp [trunkP]
    | nil =>
     cases hv:vOK n with
     | false =>
      rw [if_pos (.inl (by simp))]
      simp [trunkP,hv]
     | true =>
      simp only [Bool.not_true,Bool.or_false,ne_eq,not_true_eq_false,or_false,trunkP,hd,hv,and_self,if_true,Option.map_some,numeralF_ok hv,hinb]
 cases ws with
 | nil =>
  simp only [nextR]
  simp only [Bool.false_eq_true,if_false]
  rw [p_j3 ha hb]
  simp [outT,trunkP]
 | cons x t =>
  by_cases h1:x=INW
  ·have e:nextR INW ⟨x :: t,bad⟩=(true,⟨t,bad⟩):=by simp [nextR,h1]
   rw [e]
   simp only [if_true]
   exact key x t true (.inl h1) (by simp [h1])
  ·have e:nextR INW ⟨x :: t,bad⟩=(false,⟨x :: t,bad⟩):=by simp [nextR,h1]
   rw [e]
   simp only [Bool.false_eq_true,if_false]
   by_cases h2:x=OUTW
   ·have e:nextR OUTW ⟨x :: t,bad⟩=(true,⟨t,bad⟩):=by simp [nextR,h2]
    rw [e]
    simp only [if_true]
    exact key x t false (.inr h2) (by simp [h1])
   ·have e:nextR OUTW ⟨x :: t,bad⟩=(false,⟨x :: t,bad⟩):=by simp [nextR,h2]
    rw [e]
    simp only [Bool.false_eq_true,if_false]
    rw [p_j3 ha hb,if_pos (.inr (.inr (by simp)))]
    have:trunkP (x :: t)=none:=by
     unfold trunkP
     split
     ·cases ‹_=([]:List (List UInt8))›
     ·rename_i heq
      cases heq
      simp [h1,h2]
     ·rfl
    rw [this]
    simp [outT]
end decode
theorem outT_bad {k:Bool} {o:Option Record} {line:List UInt8}:outT true k o line=(Z,1):=by unfold outT; rw [if_pos (.inl rfl)]
theorem outT_none {bad k:Bool} {line:List UInt8}:outT bad k none line=(Z,1):=by unfold outT; split <;> rfl
section decode
variable {v0:List UInt8} {y2:List UInt8×TextualReader} {y3:Int} {y4 y5:Int×TextualReader} {y6:List UInt8×TextualReader} {y8 y9:Int×TextualReader} {b:List UInt8}
theorem p_j1 (ha:y6.1.length < 1000000000) (hb:b.length < 1000000000) :
  f_textual_Decode_j1 v0 y2 y3 y4 y5 y6 y8 y9 b=some (outT y9.2.bad (KB y2 y3) ((tailP y9.2.words).map fun t=>⟨y4.1,y5.1,1+y3,y6.1,b,y8.1,y9.1,t.1,t.2.1,t.2.2.1,t.2.2.2.1,t.2.2.2.2⟩) v0):=by
 unfold f_textual_Decode_j1
 simp only [p_next,p_number,Option.bind_some]
 obtain ⟨u,⟨ws,bad⟩⟩:=y9
 simp only
 cases ws with
 | nil =>
  simp only [nextR,Bool.false_eq_true,if_false]
  rw [p_j2 ha hb]
  rfl
 | cons x t =>
  by_cases h1:x=PART
  ·have e:nextR PART ⟨x :: t,bad⟩=(true,⟨t,bad⟩):=by simp [nextR,h1]
   rw [e]
   simp only [if_true]
   rw [p_j2 ha hb]
   have hbadN:∀ (r:TextualReader),r.bad=true→(nextR LAST r).2.bad=true:=by
    rintro ⟨w,bb⟩ hr
    cases w with
    | nil=>exact hr
    | cons a w=>by_cases hh:a=LAST <;> simpa [nextR,hh] using hr
   cases t with
   | nil =>
    rw [hbadN _ (numberR_bad numberR_none),outT_bad]
    rw [show tailP [x]=none from by rw [h1]; rfl,Option.map_none,outT_none]
   | cons c t2 =>
    cases t2 with
    | nil =>
     have:(numberR (numberR ⟨[c],bad⟩).2).2.bad=true:=by
      by_cases hc:c=[]
      ·subst hc; exact numberR_bad numberR_empty
      ·rw [numberR_cons hc]; exact numberR_none
     rw [hbadN _ this,outT_bad]
     rw [show tailP [x,c]=none from by rw [h1]; simp [tailP,trunkP],Option.map_none,outT_none]
    | cons q r =>
     have ht:tailP (x :: c :: q :: r)=if vOK c=true∧vOK q=true then (lastP r).map fun t=>(numF 0 c,numF 0 q,t.1,t.2.1,t.2.2) else none:=by rw [tailP,if_pos h1]
     rw [ht]
     by_cases hc:c=[]
     ·subst hc
      rw [hbadN _ (numberR_bad numberR_empty),outT_bad,if_neg (by simp [vOK_nil]),Option.map_none,outT_none]
     ·rw [numberR_cons hc]
      by_cases hq:q=[]
      ·subst hq
       rw [hbadN _ numberR_empty,outT_bad,if_neg (by simp [vOK_nil]),Option.map_none,outT_none]
      ·simp only
       rw [numberR_cons hq]
       simp only
       by_cases hv:vOK c=true∧vOK q=true
       ·rw [if_pos hv,numeralF_ok hv.1,numeralF_ok hv.2]
        simp only [hv.1,hv.2,Bool.not_true,Bool.or_false]
        cases r with
        | nil =>
         simp only [nextR,lastP]
         cases trunkP [] <;> rfl
        | cons l r2 =>
         by_cases hl:l=LAST
         ·simp only [nextR,lastP,hl,if_true]
          cases trunkP r2 <;> rfl
         ·simp only [nextR,lastP,hl,if_false]
          cases trunkP (l :: r2) <;> rfl
       ·rw [if_neg hv,hbadN _ (by
         simp only
         cases h3:vOK c with
         | false=>simp
         | true =>
          cases h4:vOK q with
          | false=>simp
          | true=>exact absurd ⟨h3,h4⟩ hv),outT_bad,Option.map_none,outT_none]
  ·have e:nextR PART ⟨x :: t,bad⟩=(false,⟨x :: t,bad⟩):=by simp [nextR,h1]
   rw [e]
   simp only [Bool.false_eq_true,if_false]
   rw [p_j2 ha hb]
   have ht:tailP (x :: t)=(trunkP (x :: t)).map fun t=>(0,0,false,t.1,t.2):=by
    cases t with
    | nil=>rfl
    | cons c t2 =>
     cases t2 with
     | nil=>rfl
     | cons q r=>rw [tailP,if_neg h1]
   rw [ht,Option.map_map]
   rfl
end decode
theorem index_letter (c:UInt8):1+Go.Lib.index [118,116,100,99] [c]=kindL [c]:=by
 unfold kindL
 by_cases h1:c=118
 ·subst h1; rfl
 ·by_cases h2:c=116
  ·subst h2; rfl
  ·by_cases h3:c=100
   ·subst h3; rfl
   ·by_cases h4:c=99
    ·subst h4; rfl
    ·have e1:((c==118)=false):=by simpa using h1
     have e2:((c==116)=false):=by simpa using h2
     have e3:((c==100)=false):=by simpa using h3
     have e4:((c==99)=false):=by simpa using h4
     simp [Go.Lib.index,List.isPrefixOf,e1,e2,e3,e4,h1,h2,h3,h4]
theorem kind_KB {k:List UInt8} {y:TextualReader}:KB (k,y) (Go.Lib.index [118,116,100,99] k)=false↔0 < kindL k:=by
 unfold KB
 match k with
 | []=>simp [kindL]
 | [c] =>
  rw [index_letter]
  have:kindL [c]=0∨0 < kindL [c]:=by unfold kindL; split; simp; split; simp; split; simp; split <;> simp
  rcases this with h | h
  ·simp [h]
  ·have:(kindL [c]==0)=false:=by rw [beq_eq_false_iff_ne]; omega
   simp [this,h]
 | a :: b :: t =>
  simp [kindL]
  omega
theorem index_bd (k:List UInt8):-1≤Go.Lib.index [118,116,100,99] k∧Go.Lib.index [118,116,100,99] k≤4:=by
 refine ⟨Go.Lib.index_ge _ _,?_⟩
 rcases Go.Lib.index_spec [118,116,100,99] k with ⟨h,_⟩ | ⟨i,h,h2,_⟩
 ·omega
 ·simp at h2; omega
theorem parse_bad {w:List (List UInt8)} {i:Nat} (hi:i < 7) (h:w[i]?=none∨w[i]?=some []):parseF w=none:=by
 unfold parseF
 split
 ·rename_i k s1 s2 a b t u rest
  rw [if_neg]
  rintro ⟨c0,c1,c2,c3,c4,c5,c6⟩
  match i,hi with
  | 0,_=>simp at h; subst h; exact absurd c0 (by simp [kindL])
  | 1,_=>simp at h; exact vOK_ne c1 h
  | 2,_=>simp at h; exact vOK_ne c2 h
  | 3,_=>simp at h; exact c3 h
  | 4,_=>simp at h; exact c4 h
  | 5,_=>simp at h; exact vOK_ne c5 h
  | 6,_=>simp at h; exact vOK_ne c6 h
 ·rfl
theorem p_Decode (line:List UInt8) (hl:line.length≤100000):f_textual_Decode line=some (decF line):=by
 unfold f_textual_Decode x_Split x_Index
 rw [ck_pos (by simp; omega),split_cut]
 simp only [Option.bind_some,p_word,p_number]
 rw [ck_pos (by simp)]
 simp only [Option.bind_some]
 have hbd:=index_bd (wordF ⟨cutL 32 line,false⟩).1
 rw [ck_pos (by omega)]
 have hlen:∀ w,w∈cutL 32 line→w.length < 1000000000:=fun w hw=>by have:=(cutL_mem 32 line w hw).2; omega
 unfold decF
 generalize cutL 32 line=ws at hlen hbd ⊢
 have hbad:∀ (y2:List UInt8×TextualReader) (y3:Int) (y4 y5:Int×TextualReader) (y6 y7:List UInt8×TextualReader) (y8 y9:Int×TextualReader),y6.1.length < 1000000000→y7.1.length < 1000000000 →
   (if (y7.1==([45]:List UInt8))=true then f_textual_Decode_j1 line y2 y3 y4 y5 y6 y8 y9 [] else f_textual_Decode_j1 line y2 y3 y4 y5 y6 y8 y9 y7.1) =
   some (outT y9.2.bad (KB y2 y3) ((tailP y9.2.words).map fun t=>⟨y4.1,y5.1,1+y3,y6.1,bF y7.1,y8.1,y9.1,t.1,t.2.1,t.2.2.1,t.2.2.2.1,t.2.2.2.2⟩) line):=by
  intro y2 y3 y4 y5 y6 y7 y8 y9 h6 h7
  unfold bF
  by_cases h:y7.1=[45]
  ·rw [if_pos (by simpa using h),if_pos h,p_j1 h6 (by simp)]
  ·rw [if_neg (by simpa using h),if_neg h,p_j1 h6 h7]
 have hwl:∀ r:TextualReader,(∀ w,w∈r.words→w.length < 1000000000)→(wordF r).1.length < 1000000000∧∀ w,w∈(wordF r).2.words→w.length < 1000000000:=by
  rintro ⟨w,bb⟩ hr
  unfold wordF
  cases w with
  | nil=>exact ⟨by simp,hr⟩
  | cons x t =>
   simp only at hr ⊢
   split
   ·exact ⟨by simp,hr⟩
   ·exact ⟨hr x (by simp),fun w hw=>hr w (by simp [hw])⟩
 have hnl:∀ r:TextualReader,(∀ w,w∈r.words→w.length < 1000000000)→∀ w,w∈(numberR r).2.words→w.length < 1000000000:=fun r hr=>(hwl r hr).2
 have h2:=hwl ⟨ws,false⟩ hlen
 have h4:=hnl _ h2.2
 have h5:=hnl _ h4
 have h6:=hwl _ h5
 have h7:=hwl _ h6.2
 rw [hbad _ _ _ _ _ _ _ _ h6.1 h7.1]
 congr 1
 have bad1:∀ {r:TextualReader},r.bad=true→outT (numberR (numberR (wordF (wordF r).2).2).2).2.bad=outT true:=fun h=>by rw [numberR_bad (numberR_bad (wordF_bad (wordF_bad h)))]
 have fail:∀ (o:Option Record) (k:Bool) (w:List (List UInt8)) (i:Nat),i < 7→(w[i]?=none∨w[i]?=some [])→outT true k o line=(match parseF w with | none=>(Z,1) | some x=>fin line x):=by
  intro o k w i hi h
  rw [outT_bad,parse_bad hi h]
 cases ws with
 | nil=>rfl
 | cons k w1 =>
 by_cases hk:k=[]
 ·subst hk
  rw [bad1 (numberR_bad (numberR_bad wordF_empty))]
  exact fail _ _ _ 0 (by omega) (.inr rfl)
 rw [wordF_cons hk]
 simp only
 cases w1 with
 | nil =>
  rw [bad1 (numberR_bad numberR_none)]
  exact fail _ _ [k] 1 (by omega) (.inl rfl)
 | cons s1 w2 =>
 by_cases hs1:s1=[]
 ·subst hs1
  rw [bad1 (numberR_bad numberR_empty)]
  exact fail _ _ _ 1 (by omega) (.inr rfl)
 rw [numberR_cons hs1]
 simp only
 cases w2 with
 | nil =>
  rw [bad1 numberR_none]
  exact fail _ _ [k,s1] 2 (by omega) (.inl rfl)
 | cons s2 w3 =>
 by_cases hs2:s2=[]
 ·subst hs2
  rw [bad1 numberR_empty]
  exact fail _ _ _ 2 (by omega) (.inr rfl)
 rw [numberR_cons hs2]
 simp only
 cases w3 with
 | nil =>
  rw [numberR_bad (numberR_bad (wordF_bad wordF_none))]
  exact fail _ _ [k,s1,s2] 3 (by omega) (.inl rfl)
 | cons a w4 =>
 by_cases ha:a=[]
 ·subst ha
  rw [numberR_bad (numberR_bad (wordF_bad wordF_empty))]
  exact fail _ _ _ 3 (by omega) (.inr rfl)
 rw [wordF_cons ha]
 simp only
 cases w4 with
 | nil =>
  rw [numberR_bad (numberR_bad wordF_none)]
  exact fail _ _ [k,s1,s2,a] 4 (by omega) (.inl rfl)
 | cons b w5 =>
 by_cases hb:b=[]
 ·subst hb
  rw [numberR_bad (numberR_bad wordF_empty)]
  exact fail _ _ _ 4 (by omega) (.inr rfl)
 rw [wordF_cons hb]
 simp only
 cases w5 with
 | nil =>
  rw [numberR_bad numberR_none]
  exact fail _ _ [k,s1,s2,a,b] 5 (by omega) (.inl rfl)
 | cons t w6 =>
 by_cases ht:t=[]
 ·subst ht
  rw [numberR_bad numberR_empty]
  exact fail _ _ _ 5 (by omega) (.inr rfl)
 rw [numberR_cons ht]
 simp only
 cases w6 with
 | nil =>
  rw [numberR_none]
  exact fail _ _ [k,s1,s2,a,b,t] 6 (by omega) (.inl rfl)
 | cons u rest =>
 by_cases hu:u=[]
 ·subst hu
  rw [numberR_empty]
  exact fail _ _ _ 6 (by omega) (.inr rfl)
 rw [numberR_cons hu]
 simp only
 unfold parseF
 simp only
 by_cases hc:0 < kindL k∧vOK s1=true∧vOK s2=true∧a≠[]∧b≠[]∧vOK t=true∧vOK u=true
 ·rw [if_pos hc]
  obtain ⟨c0,c1,c2,c3,c4,c5,c6⟩:=hc
  rw [kind_KB.2 c0,numeralF_ok c1,numeralF_ok c2,numeralF_ok c5,numeralF_ok c6]
  have hkk:1+Go.Lib.index [118,116,100,99] k=kindL k:=by
   match k with
   | []=>exact absurd rfl hk
   | [c]=>exact index_letter c
   | x :: y :: z=>exact absurd c0 (by simp [kindL])
  rw [hkk]
  simp only [c1,c2,c5,c6,Bool.not_true,Bool.or_false]
  unfold outT
  rw [if_neg (by simp)]
 ·rw [if_neg hc]
  unfold outT
  rw [if_pos]
  by_cases c0:0 < kindL k
  ·left
   cases c1:vOK s1 with
   | false=>simp
   | true =>
   cases c2:vOK s2 with
   | false=>simp
   | true =>
   cases c5:vOK t with
   | false=>simp
   | true =>
   cases c6:vOK u with
   | false=>simp
   | true=>exact absurd ⟨c0,c1,c2,ha,hb,c5,c6⟩ hc
  ·right
   cases hkb:KB (k,⟨s1 :: s2 :: a :: b :: t :: u :: rest,false⟩) (Go.Lib.index [118,116,100,99] k) with
   | true=>rfl
   | false=>exact absurd (kind_KB.1 hkb) c0
theorem trunk_parse {r:Record} (g:Good r) (hin:r.inbound=true→r.trunk≠0):trunkP (trunkF r)=some (r.trunk,r.inbound):=by
 unfold trunkF
 by_cases h:r.trunk=0
 ·rw [if_pos h]
  cases hi:r.inbound with
  | true=>exact absurd h (hin hi)
  | false=>simp [trunkP,h]
 ·rw [if_neg h]
  have hv:vOK (Go.Lib.itoa r.trunk)=true:=itoa_vOK g.trunk.1 (by have:=g.trunk; omega)
  cases hi:r.inbound with
  | true=>simp [trunkP,hv,itoa_val g.trunk.1]
  | false=>simp [trunkP,hv,itoa_val g.trunk.1]
theorem trunkF_cases (r:Record):trunkF r=[]∨∃ d t,trunkF r=[d,t]∧d≠PART∧d≠LAST:=by
 unfold trunkF
 by_cases h:r.trunk=0
 ·rw [if_pos h]; exact .inl rfl
 ·rw [if_neg h]
  right
  cases hi:r.inbound with
  | true=>exact ⟨_,_,rfl,by simp,by simp⟩
  | false=>exact ⟨_,_,rfl,by simp,by simp⟩
theorem tail_parse {r:Record} (h:errF r=0):tailP (partF r++trunkF r)=some (r.call,r.part,r.last,r.trunk,r.inbound):=by
 have g:=errF_good h
 obtain ⟨hlast,hpc,hin⟩:=errF_last h
 have ht:=trunk_parse g hin
 unfold partF
 by_cases hp:r.part=0
 ·rw [if_pos hp,List.nil_append]
  have hl:r.last=false:=by
   cases hl:r.last with
   | true=>exact absurd hp (hlast hl)
   | false=>rfl
  have hw:tailP (trunkF r)=(trunkP (trunkF r)).map fun t=>(0,0,false,t.1,t.2):=by
   rcases trunkF_cases r with e | ⟨d,t,e,_,_⟩ <;> rw [e] <;> rfl
  rw [hw,ht,hp,hpc.1 hp,hl]
  rfl
 ·rw [if_neg hp]
  have v1:vOK (Go.Lib.itoa r.call)=true:=itoa_vOK g.call.1 (by have:=g.call; omega)
  have v2:vOK (Go.Lib.itoa r.part)=true:=itoa_vOK g.part.1 (by have:=g.part; omega)
  have n1:=itoa_val g.call.1
  have n2:=itoa_val g.part.1
  have hl:lastP ((if r.last=true then [LAST] else [])++trunkF r)=some (r.last,r.trunk,r.inbound):=by
   cases hl:r.last with
   | true =>
    simp only [if_true,List.cons_append,List.nil_append,lastP,ht,Option.map_some]
   | false =>
    simp only [Bool.false_eq_true,if_false,List.nil_append]
    rcases trunkF_cases r with e | ⟨d,t,e,h1,h2⟩
    ·rw [e] at ht ⊢
     rw [lastP,ht]
     rfl
    ·rw [e] at ht ⊢
     rw [lastP,if_neg h2,ht]
     rfl
  rw [List.append_assoc]
  show tailP (PART :: Go.Lib.itoa r.call :: Go.Lib.itoa r.part :: ((if r.last=true then [LAST] else [])++trunkF r))=_
  rw [tailP,if_pos rfl,if_pos ⟨v1,v2⟩,hl,n1,n2]
  rfl
theorem letter_kind {k:Int} (h1:1≤k) (h2:k≤4):kindL ((([118,116,100,99]:List UInt8).take k.toNat).drop (k-1).toNat)=k∧free 32 ((([118,116,100,99]:List UInt8).take k.toNat).drop (k-1).toNat):=by
 have:k=1∨k=2∨k=3∨k=4:=by omega
 rcases this with rfl | rfl | rfl | rfl
 ·exact ⟨rfl,fun x hx=>by simp at hx; subst hx; decide⟩
 ·exact ⟨rfl,fun x hx=>by simp at hx; subst hx; decide⟩
 ·exact ⟨rfl,fun x hx=>by simp at hx; subst hx; decide⟩
 ·exact ⟨rfl,fun x hx=>by simp at hx; subst hx; decide⟩
theorem validB_digs {s:List UInt8} (h:validB s=true):s.all isDg=true∧s≠[]:=by
 unfold validB at h
 simp only [Bool.and_eq_true,decide_eq_true_eq] at h
 refine ⟨h.1.1,?_⟩
 rintro rfl
 simp at h
theorem parse_words {r:Record} (h:errF r=0):parseF (wordsF r)=some r:=by
 have g:=errF_good h
 have ha:=validB_digs g.a
 have hk:=letter_kind g.kind.1 g.kind.2
 have hb:(if r.b=[] then [45] else r.b)≠[]∧bF (if r.b=[] then [45] else r.b)=r.b:=by
  by_cases hb:r.b=[]
  ·rw [if_pos hb,hb]; exact ⟨by simp,rfl⟩
  ·rw [if_neg hb]
   refine ⟨hb,?_⟩
   unfold bF
   rw [if_neg]
   intro he
   rcases g.b with hv | hv
   ·have:=(validB_digs hv).1
    rw [he] at this
    revert this
    decide
   ·exact hb hv.2
 unfold wordsF headF
 rw [List.append_assoc]
 simp only [List.cons_append,List.nil_append,parseF]
 rw [if_pos ⟨by rw [hk.1]; have:=g.kind; omega,itoa_vOK (by have:=g.source; omega) (by have:=g.source; omega),itoa_vOK (by have:=g.serial; omega) (by have:=g.serial; omega),ha.2,hb.1,itoa_vOK g.start.1 (by have:=g.start; omega),itoa_vOK g.units.1 (by have:=g.units; omega)⟩]
 rw [tail_parse h,hk.1,hb.2,itoa_val (by have:=g.source; omega),itoa_val (by have:=g.serial; omega),itoa_val g.start.1,itoa_val g.units.1]
 rfl
theorem words_free {r:Record} (h:errF r=0) {c:UInt8} (hc:c=32∨c=10):∀ w,w∈wordsF r→free c w:=by
 have g:=errF_good h
 have hd:isDg c=false:=by rcases hc with rfl | rfl <;> decide
 have ni:∀ {n:Int},0≤n→free c (Go.Lib.itoa n):=fun h0=>itoa_free h0 hd
 have lit:∀ (l:List UInt8),l.all (fun x=>x != 32 && x != 10)=true→free c l:=by
  intro l hl x hx he
  have:=List.all_eq_true.1 hl x hx
  subst he
  rcases hc with rfl | rfl <;> simp at this
 intro w hw
 unfold wordsF at hw
 rcases List.mem_append.1 hw with hw | hw
 ·rcases List.mem_append.1 hw with hw | hw
  ·unfold headF at hw
   simp only [List.mem_cons,List.not_mem_nil,or_false] at hw
   rcases hw with rfl | rfl | rfl | rfl | rfl | rfl | rfl
   ·have:r.kind=1∨r.kind=2∨r.kind=3∨r.kind=4:=by have:=g.kind; omega
    rcases this with e | e | e | e <;> rw [e] <;> exact lit _ (by decide)
   ·exact ni (by have:=g.source; omega)
   ·exact ni (by have:=g.serial; omega)
   ·exact digs_free (validB_digs g.a).1 hd
   ·split
    ·exact lit _ (by decide)
    ·rcases g.b with hv | hv
     ·exact digs_free (validB_digs hv).1 hd
     ·rename_i hb; exact absurd hv.2 hb
   ·exact ni g.start.1
   ·exact ni g.units.1
  ·unfold partF at hw
   split at hw
   ·cases hw
   ·rcases List.mem_append.1 hw with hw | hw
    ·simp only [List.mem_cons,List.not_mem_nil,or_false] at hw
     rcases hw with rfl | rfl | rfl
     ·exact lit _ (by decide)
     ·exact ni g.call.1
     ·exact ni g.part.1
    ·split at hw
     ·simp only [List.mem_cons,List.not_mem_nil,or_false] at hw
      subst hw
      exact lit _ (by decide)
     ·cases hw
 ·unfold trunkF at hw
  split at hw
  ·cases hw
  ·simp only [List.mem_cons,List.not_mem_nil,or_false] at hw
   rcases hw with rfl | rfl
   ·split
    ·exact lit _ (by decide)
    ·exact lit _ (by decide)
   ·exact ni g.trunk.1
theorem cut_line {r:Record} (h:errF r=0):cutL 32 (lineF r)=wordsF r:=cut_join _ (by simp [wordsF,headF]) (words_free h (.inl rfl))
theorem dec_line {r:Record} (h:errF r=0):decF (lineF r)=(r,0):=by
 unfold decF
 rw [cut_line h,parse_words h]
 show fin (lineF r) r=_
 unfold fin
 rw [if_neg (by simp [h]),if_neg (by simp)]
theorem dec_ok {line:List UInt8} (h:(decF line).2=0):errF (decF line).1=0∧lineF (decF line).1=line:=by
 unfold decF at h ⊢
 cases hp:parseF (cutL 32 line) with
 | none=>rw [hp] at h; simp at h
 | some x =>
  rw [hp] at h
  simp only at h ⊢
  unfold fin at h ⊢
  by_cases he:errF x=0
  ·rw [if_neg (by simp [he])] at h ⊢
   by_cases hl:lineF x=line
   ·rw [if_neg (by simp [hl])]; exact ⟨he,hl⟩
   ·rw [if_pos hl] at h; simp at h
  ·rw [if_pos he] at h; exact absurd h he
def linesF (s:List UInt8):List (List UInt8)×Int:=if s≠[]∧nth s (s.length-1)≠10 then ([],1) else if 4096 < (cutL 10 s).length-1 then ([],5) else ((cutL 10 s).dropLast,0)
theorem snoc_of {s:List UInt8} (h:s≠[]):∃ t,s=t++[nth s (s.length-1)]:=by
 have hl:0 < s.length:=List.length_pos_iff.2 h
 refine ⟨s.take (s.length-1),?_⟩
 have:=take_nth (l:=s) (k:=s.length-1) (by omega)
 rw [←this,show s.length-1+1=s.length from by omega,List.take_length]
theorem suffix_snoc {t:List UInt8} {c:UInt8}:Go.Lib.hasSuffix (t++[c]) [10]=decide (c=10):=by
 unfold Go.Lib.hasSuffix
 rw [Bool.eq_iff_iff,List.isSuffixOf_iff_suffix,decide_eq_true_iff]
 constructor
 ·rintro ⟨u,hu⟩
  have:=congrArg List.getLast? hu
  simp at this
  exact this.symm
 ·rintro rfl; exact ⟨t,rfl⟩
theorem trim_snoc {t:List UInt8}:Go.Lib.trimSuffix (t++[10]) [10]=t:=by
 unfold Go.Lib.trimSuffix
 rw [suffix_snoc]
 simp
theorem p_Lines (s:List UInt8) (hl:s.length≤100000):f_textual_Lines s=some (linesF s):=by
 unfold f_textual_Lines linesF x_CutSuffix x_Split
 by_cases h0:s=[]
 ·subst h0
  rw [if_pos (by simp),if_neg (by simp),if_neg (by simp [cutL])]
  rfl
 ·rw [if_neg (by simpa using h0),ck_pos (by omega)]
  obtain ⟨t,ht⟩:=snoc_of h0
  simp only [Option.bind_some]
  generalize nth s (s.length-1)=c at ht ⊢
  subst ht
  rw [suffix_snoc]
  by_cases hc:c=10
  ·subst hc
   rw [if_neg (by simp),if_neg (by simp),trim_snoc,ck_pos (by simp at hl ⊢; omega),split_cut]
   simp only [Option.bind_some]
   rw [cutL_snoc]
   simp only [List.length_append,List.length_cons,List.length_nil,Nat.add_sub_cancel,List.dropLast_concat]
   by_cases h5:4096 < (cutL 10 t).length
   ·rw [if_pos (by simp; omega),if_pos (by omega)]
   ·rw [if_neg (by simp; omega),if_neg (by omega)]
  ·rw [if_pos (by simp [hc]),if_pos ⟨h0,hc⟩]
def okLs:List (List UInt8)→List Record
 | []=>[]
 | x :: r=>if (decF x).2=0 then (decF x).1 :: okLs r else okLs r
def noLs:Int→List (List UInt8)→List Reject
 | _,[]=>[]
 | i,x :: r=>if (decF x).2=0 then noLs (i+1) r else ⟨0,0,i,(decF x).2⟩ :: noLs (i+1) r
def allF (s:List UInt8):List Record×List Reject×Int:=if (linesF s).2≠0 then ([],[],(linesF s).2) else (okLs (linesF s).1,noLs 0 (linesF s).1,0)
theorem linesF_mem {s w:List UInt8} (h:w∈(linesF s).1):w.length≤s.length∧free 10 w:=by
 unfold linesF at h
 split at h
 ·simp at h
 ·split at h
  ·simp at h
  ·have:=cutL_mem 10 s w (List.dropLast_subset _ h)
   exact ⟨this.2,this.1⟩
theorem linesF_len (s:List UInt8):(linesF s).1.length≤s.length:=by
 unfold linesF
 split
 ·simp
 ·split
  ·simp
  ·have:=cutL_len 10 s
   simp; omega
theorem p_All (s:List UInt8) (hl:s.length≤100000):f_textual_All s=some (allF s):=by
 unfold f_textual_All allF
 rw [p_Lines s hl,Option.bind_some]
 by_cases he:(linesF s).2=0
 ·rw [if_neg (by simp [he]),if_neg (by simp [he])]
  have hm:∀ w,w∈(linesF s).1→w.length≤100000:=fun w hw=>by have:=(linesF_mem hw).1; omega
  have hll:=linesF_len s
  generalize linesF s=y at hm hll he ⊢
  have:=loop_spec (step:=fun st=>f_textual_All_l1 y st.1 st.2.1 st.2.2) (fun st:List Record×List Reject×Int=>some (st.1++okLs (y.1.drop st.2.2.toNat),st.2.1++noLs st.2.2 (y.1.drop st.2.2.toNat),(0:Int)))
   (fun st=>0≤st.2.2∧st.2.2≤(y.1.length:Int)∧(st.1.length:Int)≤st.2.2∧(st.2.1.length:Int)≤st.2.2) (fun st=>((y.1.length:Int) - st.2.2).toNat) (fun st hI=>by
    obtain ⟨out,no,i⟩:=st
    obtain ⟨i0,i1,i2,i3⟩:=hI
    simp only at i0 i1 i2 i3 ⊢
    unfold f_textual_All_l1
    by_cases hi:i < (y.1.length:Int)
    ·rw [if_pos (by simpa using hi),ck_pos (by omega),p_Decode _ (hm _ (by rw [nth_eq (show i.toNat < y.1.length by omega)]; exact List.getElem_mem _)),Option.bind_some]
     rw [drop_nth (show i.toNat < y.1.length by omega)]
     by_cases hd:(decF (nth y.1 i.toNat)).2=0
     ·rw [if_neg (by simp [hd]),ck_pos (by simp; omega),ck_pos (by omega)]
      refine .inr ⟨_,rfl,⟨by simp only; omega,by simp only; omega,by simp; omega,by simp only; omega⟩,by simp only; omega,?_⟩
      simp only
      rw [show (i+1).toNat=i.toNat+1 from by omega]
      simp [okLs,noLs,hd]
     ·rw [if_pos (by simpa using hd),ck_pos (by simp; omega),ck_pos (by omega)]
      refine .inr ⟨_,rfl,⟨by simp only; omega,by simp only; omega,by simp only; omega,by simp; omega⟩,by simp only; omega,?_⟩
      simp only
      rw [show (i+1).toNat=i.toNat+1 from by omega]
      simp [okLs,noLs,hd]
    ·rw [if_neg (by simpa using hi)]
     refine .inl ⟨_,rfl,?_⟩
     rw [List.drop_of_length_le (by omega)]
     simp [okLs,noLs]) (s:=([],[],0)) ⟨by simp,by simp,by simp,by simp⟩ (by simp only; omega)
  rw [this]
  simp
 ·rw [if_pos (by simpa using he),if_pos he]
theorem okLs_len:∀ l:List (List UInt8),(okLs l).length≤l.length
 | []=>by simp [okLs]
 | x :: r=>by
  have:=okLs_len r
  unfold okLs
  split
  ·simp; omega
  ·simp; omega
theorem noLs_len:∀ (l:List (List UInt8)) (i:Int),(noLs i l).length≤l.length
 | [],i=>by simp [noLs]
 | x :: r,i=>by
  have:=noLs_len r (i+1)
  unfold noLs
  split
  ·simp; omega
  ·simp; omega
theorem p_Same (a:List Record) (hl:a.length≤100000):f_r09_Same a a=some true:=by
 unfold f_r09_Same
 rw [if_neg (by simp),loop_all a (fun _=>true) true true (by omega) (fun i h0 h1=>?_) (fun i hi=>?_)]
 ·simp
 ·unfold f_r09_Same_l1
  rw [if_pos (by simpa using h1),ck_pos (by omega),ck_pos (by omega),if_neg (by rw [Record.eq_refl]; simp),ck_pos (by omega)]
  rfl
 ·unfold f_r09_Same_l1
  rw [if_neg (by simp; omega)]
theorem allF_len (s:List UInt8):(allF s).1.length≤s.length∧(allF s).2.1.length≤s.length:=by
 have h:=linesF_len s
 have h1:=okLs_len (linesF s).1
 have h2:=noLs_len (linesF s).1 0
 unfold allF
 split
 ·simp
 ·exact ⟨by simp only; omega,by simp only; omega⟩
end Go.Proofs.YthoengcicaicoaaGreatDoor.C9
namespace Go.Proofs.YthoengcicaicoaaGreatDoor
open Go.RowKit Go.Abs
def decAll (f:Int) (b:List UInt8):List Record×List Reject×Int:=if f=2 then C10.allT 0 [] [] b else if f=3 then C11.allF b else C9.allF b
theorem p_decode (f:Int) (b:List UInt8) (hb:b.length≤100000):f_batch_decode f b=some (decAll f b):=by
 unfold f_batch_decode decAll
 by_cases h2:f=2
 ·rw [if_pos (by simpa using h2),if_pos h2,C10.p_tAll b hb]; rfl
 ·rw [if_neg (by simpa using h2),if_neg h2]
  by_cases h3:f=3
  ·rw [if_pos (by simpa using h3),if_pos h3,C11.p_All11 b hb]; rfl
  ·rw [if_neg (by simpa using h3),if_neg h3,C9.p_All b hb]; rfl
theorem decAll_len (f:Int) (b:List UInt8):(decAll f b).1.length≤b.length∧(decAll f b).2.1.length≤b.length:=by
 unfold decAll
 split
 ·have:=C10.allT_len b.length b 0 [] [] (Nat.le_refl _)
  simpa using this
 ·split
  ·unfold C11.allF
   split
   ·simp
   ·split
    ·simp
    ·have h1:=C11.okRs_len b (b.length / 45) 0
     have h2:=C11.noRs_len b (b.length / 45) 0
     simp only; omega
  ·exact C9.allF_len b
def B0:Batch:=⟨0,0,0,[]⟩
def readF (b:List UInt8):Batch×List Reject×Int :=
 if (fstF b).2.2≠0 then (B0,[],(fstF b).2.2) else
 let u:=unwF (fstF b).2.1
 if u.2.2≠0 then (B0,[],u.2.2) else
 let d:=decAll (fstF b).1.format u.1
 if d.2.2≠0 then (B0,[],d.2.2) else
 let t:=trlF u.2.1
 if t.2≠0 then (B0,[],t.2) else
 if ((!(eqVs (Totals.vals t.1) (Totals.vals ⟨(d.1.length:Int),totT d.1⟩))) || ((fstF b).1.count != (d.1.length:Int)))=true then (B0,[],14) else
 if d.1.all (fun r=>r.source==(fstF b).1.source)=true then (⟨(fstF b).1.source,(fstF b).1.number,(fstF b).1.format,d.1⟩,d.2.1,0) else (B0,[],8)
theorem fstF_le (b:List UInt8):(fstF b).2.1.length≤b.length:=by
 have:=unwF_le b
 unfold fstF
 split
 ·simp
 ·split
  ·simp
  ·split
   ·simp
   ·simp only; omega
theorem fstF_ok {b:List UInt8} (h:(fstF b).2.2=0):hdE (fstF b).1=0:=by
 unfold fstF at h ⊢
 split at h
 ·rename_i h1; exact absurd h h1
 ·rename_i h1
  rw [if_neg h1]
  split at h
  ·rename_i h2; exact absurd h h2
  ·rename_i h2
   rw [if_neg h2]
   split at h
   ·rename_i h3; exact absurd h h3
   ·rename_i h3
    rw [if_neg h3]
    simpa using h3
theorem hdE_ok {h:Head} (e:hdE h=0):(1≤h.source∧h.source≤99)∧(1≤h.number∧h.number≤999999999)∧(1≤h.format∧h.format≤3)∧0≤h.count∧h.count≤4096:=by
 unfold hdE at e
 by_cases h1:(h.source < 1∨99 < h.source)∨(h.number < 1∨999999999 < h.number)
 ·have:hdF h.source h.number h.format=6:=if_pos h1
  rw [this,if_neg (by decide)] at e; cases e
 ·by_cases h2:h.format < 1∨3 < h.format
  ·have:hdF h.source h.number h.format=7:=by unfold hdF; rw [if_neg h1,if_pos h2]
   rw [this,if_neg (by decide)] at e; cases e
  ·have:hdF h.source h.number h.format=0:=by unfold hdF; rw [if_neg h1,if_neg h2]
   rw [if_pos this] at e
   by_cases h3:h.count < 0∨4096 < h.count
   ·rw [if_pos h3] at e; cases e
   ·omega
theorem p_readL (y1:Head×List UInt8×Int) (y3:List Record×List Reject×Int) (hl:y3.1.length≤100000):loop (fun s=>f_batch_Read_l1 y1 y3 s) 0=some (if y3.1.all (fun r=>r.source==y1.1.source)=true then ((⟨y1.1.source,y1.1.number,y1.1.format,y3.1⟩:Batch),y3.2.1,(0:Int)) else (B0,[],8)):=by
 refine loop_all y3.1 (fun r=>r.source==y1.1.source) _ _ (by omega) (fun i h0 hi=>?_) (fun i hi=>?_)
 ·unfold f_batch_Read_l1
  rw [if_pos (by simpa using hi),ck_pos ⟨h0,hi⟩]
  by_cases h:(nth y3.1 i.toNat).source=y1.1.source
  ·rw [if_neg (by simp [h]),ck_pos (by omega),if_pos (by simp [h])]
  ·rw [if_pos (by simpa using h),if_neg (by simpa using h)]; rfl
 ·subst hi
  unfold f_batch_Read_l1
  rw [if_neg (by simp)]; rfl
theorem p_Read (b:List UInt8) (hb:b.length≤100000):f_batch_Read b=some (readF b):=by
 unfold f_batch_Read readF
 have l1:=fstF_le b
 rw [p_first b hb]
 simp only [Option.bind_some]
 by_cases e1:(fstF b).2.2=0
 ·have l2:=unwF_le (fstF b).2.1
  simp only [e1,ne_eq,not_true_eq_false,if_false]
  rw [if_neg (by decide),p_Unwrap _ (by omega)]
  simp only [Option.bind_some]
  generalize unwF (fstF b).2.1=u at *
  by_cases e2:u.2.2=0
  ·have l3:=decAll_len (fstF b).1.format u.1
   simp only [e2,not_true_eq_false,if_false]
   rw [if_neg (by decide),p_decode _ _ (by omega)]
   simp only [Option.bind_some]
   generalize hd:decAll (fstF b).1.format u.1=d at *
   by_cases e3:d.2.2=0
   ·obtain ⟨t,g1,g2⟩:=p_trailer u.2.1 (by omega)
    simp only [e3,not_true_eq_false,if_false]
    rw [if_neg (by decide),g1]
    simp only [Option.bind_some]
    by_cases e4:(trlF u.2.1).2=0
    ·have g3:=g2 e4
     subst g3
     simp only [e4,not_true_eq_false,if_false]
     rw [if_neg (by decide),p_Totals _ (by omega)]
     simp only [Option.bind_some]
     rw [p_readL _ _ (by omega)]
     split <;> rfl
    ·simp only [e4,not_false_eq_true,if_true]
     rw [if_pos (by simpa using e4)]; rfl
   ·simp only [e3,not_false_eq_true,if_true]
    rw [if_pos (by simpa using e3)]; rfl
  ·simp only [e2,not_false_eq_true,if_true]
   rw [if_pos (by simpa using e2)]; rfl
 ·simp only [e1,ne_eq,not_false_eq_true,if_true]
  rw [if_pos (by simpa using e1)]; rfl
theorem p_bSame (b:Batch) (h:b.records.length≤100000):f_r12_Same b b=some true:=by
 unfold f_r12_Same
 rw [C9.p_Same _ h]
 simp [gcall]
end Go.Proofs.YthoengcicaicoaaGreatDoor
namespace Go.Proofs.YthoengcicaicoaaGreatDoor
open Go.RowKit Go.Abs
open C10 (bytesT enc_len p_Encode10 encL elsF)
open C11 (bytesF bodyF_len p_Encode11)
def recF (f:Int) (r:Record):List UInt8:=if f=2 then bytesT r else if f=3 then bytesF r else lineF r++[10]
def payF (f:Int) (l:List Record):List UInt8:=(l.map (recF f)).flatten
theorem lineF_le {r:Record} (h:errF r=0):(lineF r).length≤400:=by
 obtain ⟨h1,h2⟩:=words_le (errF_good h)
 have:=join_len [32] (wordsF r) 21 h2
 have h3:(wordsF r).length*(21+([32]:List UInt8).length)≤13*22:=Nat.mul_le_mul h1 (by simp)
 unfold lineF; omega
theorem recF_le {r:Record} (h:errF r=0) (ha:r.a.length < 1000000000) (hb:r.b.length < 1000000000) (f:Int):(recF f r).length≤401:=by
 unfold recF
 split
 ·have:=enc_len (errF_good h) ha hb
  simp [bytesT]; omega
 ·split
  ·simp [bytesF,bodyF_len]
  ·have:=lineF_le h
   simp; omega
def OkL (l:List Record):Prop:=∀ r,r∈l→errF r=0
theorem chkL_ok:∀ (src:Int) (l:List Record),chkL src l=0→OkL l
 | src,[],_=>by intro r hr; cases hr
 | src,r :: l,h=>by
  unfold chkL at h
  by_cases he:errF r=0
  ·rw [if_pos he] at h
   by_cases hs:r.source=src
   ·rw [if_pos hs] at h
    intro x hx
    rcases List.mem_cons.1 hx with rfl | hx
    ·exact he
    ·exact chkL_ok src l h x hx
   ·rw [if_neg hs] at h; cases h
  ·rw [if_neg he] at h; exact absurd h he
theorem p_payload (f:Int) (l:List Record) (hf:1≤f∧f≤3) (h:OkL l) (hs:SmL l) (hl:l.length≤2000):f_batch_payload f l=some (payF f l):=by
 unfold f_batch_payload
 by_cases h2:f=2
 ·subst h2
  rw [if_pos (by decide)]
  have:g_api_Record_byte l=some (payF 2 l):=by
   unfold g_api_Record_byte
   refine collect (step:=fun s:List UInt8×Int=>g_api_Record_byte_l1 l s.1 s.2) l (recF 2) some 401 (fun x hx=>recF_le (h x hx) (hs x hx).1 (hs x hx).2 2) (by omega) (by omega) (fun out i h0 hi ho=>?_) (fun out ho=>?_)
   ·have hm:=nth_mem' (l:=l) (k:=i.toNat) (by omega)
    have hr:=recF_le (h _ hm) (hs _ hm).1 (hs _ hm).2 2
    have e:recF 2 (nth l i.toNat)=bytesT (nth l i.toNat):=by unfold recF; rw [if_pos rfl]
    rw [e] at hr ⊢
    show g_api_Record_byte_l1 l out i=_
    unfold g_api_Record_byte_l1
    rw [if_pos (by simpa using hi),ck_pos ⟨h0,hi⟩,p_Encode10 _ (hs _ hm).1 (hs _ hm).2,if_pos (h _ hm)]
    simp only [Option.bind_some]
    rw [ck_pos (by omega),ck_pos (by omega)]
   ·show ∃ r,g_api_Record_byte_l1 l out (l.length:Int)=_∧_
    unfold g_api_Record_byte_l1
    rw [if_neg (by simp)]
    exact ⟨_,rfl,rfl⟩
  rw [this]; rfl
 ·rw [if_neg (by simpa using h2)]
  by_cases h3:f=3
  ·subst h3
   rw [if_pos (by decide)]
   have:g_api_Record_byte_v1 l=some (payF 3 l):=by
    unfold g_api_Record_byte_v1
    refine collect (step:=fun s:List UInt8×Int=>g_api_Record_byte_v1_l1 l s.1 s.2) l (recF 3) some 401 (fun x hx=>recF_le (h x hx) (hs x hx).1 (hs x hx).2 3) (by omega) (by omega) (fun out i h0 hi ho=>?_) (fun out ho=>?_)
    ·have hm:=nth_mem' (l:=l) (k:=i.toNat) (by omega)
     have hr:=recF_le (h _ hm) (hs _ hm).1 (hs _ hm).2 3
     have e:recF 3 (nth l i.toNat)=bytesF (nth l i.toNat):=by unfold recF; rw [if_neg (by decide),if_pos rfl]
     rw [e] at hr ⊢
     show g_api_Record_byte_v1_l1 l out i=_
     unfold g_api_Record_byte_v1_l1
     rw [if_pos (by simpa using hi),ck_pos ⟨h0,hi⟩,p_Encode11 _ (hs _ hm).1 (hs _ hm).2,if_pos (h _ hm)]
     simp only [Option.bind_some]
     rw [ck_pos (by omega),ck_pos (by omega)]
    ·show ∃ r,g_api_Record_byte_v1_l1 l out (l.length:Int)=_∧_
     unfold g_api_Record_byte_v1_l1
     rw [if_neg (by simp)]
     exact ⟨_,rfl,rfl⟩
   rw [this]; rfl
  ·rw [if_neg (by simpa using h3)]
   have:g_api_Record_string l=some (payF f l):=by
    unfold g_api_Record_string
    refine collect (step:=fun s:List UInt8×Int=>g_api_Record_string_l1 l s.1 s.2) l (recF f) some 401 (fun x hx=>recF_le (h x hx) (hs x hx).1 (hs x hx).2 f) (by omega) (by omega) (fun out i h0 hi ho=>?_) (fun out ho=>?_)
    ·have hm:=nth_mem' (l:=l) (k:=i.toNat) (by omega)
     have hr:=recF_le (h _ hm) (hs _ hm).1 (hs _ hm).2 f
     have e:recF f (nth l i.toNat)=lineF (nth l i.toNat)++[10]:=by unfold recF; rw [if_neg h2,if_neg h3]
     rw [e] at hr ⊢
     simp only [List.length_append] at hr
     show g_api_Record_string_l1 l out i=_
     unfold g_api_Record_string_l1 f_batch_line
     rw [if_pos (by simpa using hi),ck_pos ⟨h0,hi⟩,p_Encode _ (hs _ hm).1 (hs _ hm).2,if_pos (h _ hm)]
     simp only [Option.bind_some]
     rw [ck_pos (by simp at hr ⊢; omega)]
     simp only [Option.bind_some]
     rw [ck_pos (by simp at hr ⊢; omega),ck_pos (by omega)]
    ·show ∃ r,g_api_Record_string_l1 l out (l.length:Int)=_∧_
     unfold g_api_Record_string_l1
     rw [if_neg (by simp)]
     exact ⟨_,rfl,rfl⟩
   rw [this]; rfl
def headN (b:Batch):List Int:=[b.source,b.number,b.format,(b.records.length:Int)]
def trailN (b:Batch):List Int:=[(b.records.length:Int),sumT b.records 1,sumT b.records 2,sumT b.records 3,sumT b.records 4]
def paysF (b:Batch):List (List UInt8):=[numsF (headN b),payF b.format b.records,numsF (trailN b)]
def fileF (b:Batch):List UInt8:=joinW (paysF b)
theorem numsF_le (l:List Int) (h:NumL l):(numsF l).length≤l.length*10:=by
 induction l with
 | nil=>simp [numsF]
 | cons n l ih =>
  have h1:=vb_le (u:=2*n) (by have:=h n (by simp); omega)
  have h2:=ih fun x hx=>h x (by simp [hx])
  unfold numsF at h2 ⊢
  simp only [List.map_cons,List.flatten_cons,List.length_append,List.length_cons]
  omega
theorem payF_le:∀ (l:List Record) (f:Int),OkL l→SmL l→(payF f l).length≤l.length*401
 | [],f,_,_=>by simp [payF]
 | r :: l,f,h,hs=>by
  have h1:=recF_le (h r (by simp)) (hs r (by simp)).1 (hs r (by simp)).2 f
  have h2:=payF_le l f (fun x hx=>h x (by simp [hx])) (fun x hx=>hs x (by simp [hx]))
  unfold payF at h2 ⊢
  simp only [List.map_cons,List.flatten_cons,List.length_append,List.length_cons]
  omega
theorem chk_parts {b:Batch} (h:chkF b=0):(1≤b.source∧b.source≤99)∧(1≤b.number∧b.number≤999999999)∧(1≤b.format∧b.format≤3)∧b.records.length≤4096∧OkL b.records:=by
 unfold chkF at h
 by_cases h1:hdF b.source b.number b.format=0
 ·rw [if_pos h1] at h
  by_cases h2:4096 < b.records.length
  ·rw [if_pos h2] at h; cases h
  ·rw [if_neg h2] at h
   unfold hdF at h1
   by_cases h3:(b.source < 1∨99 < b.source)∨(b.number < 1∨999999999 < b.number)
   ·rw [if_pos h3] at h1; cases h1
   ·rw [if_neg h3] at h1
    by_cases h4:b.format < 1∨3 < b.format
    ·rw [if_pos h4] at h1; cases h1
    ·exact ⟨by omega,by omega,by omega,by omega,chkL_ok _ _ h⟩
 ·rw [if_neg h1] at h; exact absurd h h1
theorem head_num {b:Batch} (h:chkF b=0):NumL (headN b):=by
 obtain ⟨h1,h2,h3,h4,_⟩:=chk_parts h
 intro n hn
 simp [headN] at hn
 omega
theorem trail_num {b:Batch} (h:chkF b=0):NumL (trailN b):=by
 obtain ⟨_,_,_,h4,_⟩:=chk_parts h
 have a1:=sumT_bd b.records 1
 have a2:=sumT_bd b.records 2
 have a3:=sumT_bd b.records 3
 have a4:=sumT_bd b.records 4
 intro n hn
 simp [trailN] at hn
 omega
theorem pays_le {b:Batch} (h:chkF b=0) (hs:SmL b.records) (hl:b.records.length≤2000):∀ x,x∈paysF b→x.length≤1048576:=by
 obtain ⟨_,_,_,_,h5⟩:=chk_parts h
 have a1:=numsF_le _ (head_num h)
 have a2:=numsF_le _ (trail_num h)
 have a3:=payF_le b.records b.format h5 hs
 intro x hx
 simp [paysF] at hx
 have b1:(headN b).length=4:=rfl
 have b2:(trailN b).length=5:=rfl
 rcases hx with rfl | rfl | rfl <;> omega
theorem p_Write (b:Batch) (hs:SmL b.records) (hl:b.records.length≤2000):f_batch_Write b=some (if chkF b=0 then fileF b else [],chkF b):=by
 unfold f_batch_Write
 rw [p_Check b hs]
 simp only [Option.bind_some]
 by_cases h:chkF b=0
 ·obtain ⟨h1,h2,h3,h4,h5⟩:=chk_parts h
  rw [if_neg (by simp [h]),if_pos h]
  unfold f_batch_headOf
  rw [p_Totals _ (by omega)]
  simp only [Option.bind_some,nth_totT b.records (k:=1) (by decide),nth_totT b.records (k:=2) (by decide),nth_totT b.records (k:=3) (by decide),nth_totT b.records (k:=4) (by decide)]
  rw [show ([b.source,b.number,b.format,(b.records.length:Int)]:List Int)=headN b from rfl,p_nums _ (head_num h) (by simp [headN]),p_payload _ _ h3 h5 hs hl]
  simp only [Option.bind_some]
  rw [ck_pos (by simp),show (([(b.records.length:Int)]:List Int)++[sumT b.records 1,sumT b.records 2,sumT b.records 3,sumT b.records 4])=trailN b from rfl,p_nums _ (trail_num h) (by simp [trailN])]
  simp only [Option.bind_some]
  rw [show [numsF (headN b),payF b.format b.records,numsF (trailN b)]=paysF b from rfl,p_Join _ (pays_le h hs hl) (by simp [paysF])]
  simp only [Option.bind_some,h]; rfl
 ·rw [if_pos (by simpa using h),if_neg h]
end Go.Proofs.YthoengcicaicoaaGreatDoor
namespace Go.Proofs.YthoengcicaicoaaGreatDoor
open Go.RowKit Go.Abs
theorem ofInt_toNat {n:Int} (h0:0≤n) (h1:n≤255):((UInt8.ofInt n).toNat:Int)=n:=by
 rw [ofInt_nat h0]; simp; omega
theorem numC_vb:∀ (k i:Nat) (u w:Int) (X:List UInt8),0≤u→u < 128 ^ k→1≤k→i+k≤9→(0 < i→u≠0)→numC i w (vb u++X)=(zz (w+u*128 ^ i),i+(vb u).length,0)
 | 0,i,u,w,X,_,_,h,_,_=>by omega
 | k+1,i,u,w,X,h0,h1,_,hk,hz=>by
  rw [Int.pow_succ] at h1
  by_cases hu:127 < u
  ·have hv:vb u=UInt8.ofInt (128+u % 128) :: vb (u / 128):=by rw [vb]; rw [if_pos hu]
   have hk1:1≤k:=by
    rcases Nat.eq_zero_or_pos k with h | h
    ·subst h; simp at h1; omega
    ·exact h
   have hx:((UInt8.ofInt (128+u % 128)).toNat:Int)=128+u % 128:=ofInt_toNat (by omega) (by omega)
   have ih:=numC_vb k (i+1) (u / 128) (w+u % 128*128 ^ i) X (by omega) (by generalize (128:Int) ^ k=p at *; omega) hk1 (by omega) (fun _=>by omega)
   rw [hv,List.cons_append]
   unfold numC
   rw [if_neg,if_neg (by omega)]
   ·have hm:(((UInt8.ofInt (128+u % 128)).toNat % 128:Nat):Int)=u % 128:=by omega
    rw [hm,ih]
    have e:w+u % 128*128 ^ i+u / 128*128 ^ (i+1)=w+u*128 ^ i:=by
     rw [Int.pow_succ]
     have:u*128 ^ i=(u % 128+128*(u / 128))*128 ^ i:=by rw [Int.emod_add_mul_ediv]
     rw [this,Int.add_mul]
     have e2:u / 128*(128 ^ i*128)=128*(u / 128)*128 ^ i:=by
      rw [Int.mul_comm (128 ^ i) 128,←Int.mul_assoc,Int.mul_comm (u / 128) 128]
     omega
    rw [e,List.length_cons]
    simp only [Prod.mk.injEq,true_and,and_true]
    omega
   ·rintro (⟨h,_⟩ | ⟨_,h⟩)
    ·omega
    ·rw [h] at hx
     have:(0:UInt8).toNat=0:=rfl
     omega
  ·have hv:vb u=[UInt8.ofInt u]:=by rw [vb]; rw [if_neg hu]
   have hx:((UInt8.ofInt u).toNat:Int)=u:=ofInt_toNat (by omega) (by omega)
   rw [hv,List.cons_append]
   unfold numC
   rw [if_neg,if_pos (by omega),hx]
   ·rfl
   ·rintro (⟨h,_⟩ | ⟨hi,h⟩)
    ·omega
    ·rw [h] at hx
     have:(0:UInt8).toNat=0:=rfl
     exact hz hi (by omega)
theorem zz_two {n:Int}:zz (2*n)=n:=by
 unfold zz
 rw [if_neg (by omega)]; omega
theorem numC_put {n:Int} (h0:0≤n) (h1:n≤4000000000000000) (X:List UInt8):numC 0 0 (vb (2*n)++X)=(n,(vb (2*n)).length,0):=by
 have:=numC_vb 9 0 (2*n) 0 X (by omega) (by rw [show (128:Int) ^ 9=9223372036854775808 from by decide]; omega) (by omega) (by omega) (by omega)
 rw [this]
 simp [zz_two]
theorem numN_put {n:Int} (h0:0≤n) (h1:n≤4000000000000000) (X:List UInt8):numN (vb (2*n)++X)=(n,X,0):=by
 rw [numN_of,numC_put h0 h1]
 simp
def SmN (l:List Int):Prop:=∀ n,n∈l→0≤n∧n≤4000000000000000
theorem takF_put:∀ l:List Int,SmN l→takF l.length (numsF l)=(l,0)
 | [],_=>rfl
 | n :: l,h=>by
  have hn:=h n (by simp)
  have ih:=takF_put l fun x hx=>h x (by simp [hx])
  have e:numsF (n :: l)=vb (2*n)++numsF l:=by simp [numsF]
  rw [List.length_cons,e]
  unfold takF
  rw [numN_put hn.1 hn.2]
  simp [ih]
theorem sum_bd (b:List UInt8) (hb:b.length≤1000000000):0≤sumW b∧sumW b < 4294967296:=by
 have hw:∀ n:Int,0≤IntKind.wrap .u32 n∧IntKind.wrap .u32 n < 4294967296:=fun n=>by simp [IntKind.wrap,IntKind.bits,IntKind.signed]; omega
 have:=p_Sum b hb
 unfold f_frame_Sum at this
 obtain ⟨r,h,hr⟩:=loop_post (step:=fun s:Int×Int=>f_frame_Sum_l1 b s.1 s.2) (fun r=>0≤r∧r < 4294967296) (fun s=>(0≤s.1∧s.1 < 4294967296)∧0≤s.2∧s.2≤(b.length:Int)) (fun s=>((b.length:Int) - s.2).toNat) (by
  rintro ⟨n,i⟩ ⟨hn,h0,h1⟩
  simp only at hn h0 h1 ⊢
  unfold f_frame_Sum_l1
  by_cases hi:i < (b.length:Int)
  ·rw [if_pos (by simpa using hi),ck_pos ⟨h0,hi⟩,ck_pos (by omega)]
   exact .inr ⟨_,rfl,⟨hw _,by simp only; omega,by simp only; omega⟩,by simp only; omega⟩
  ·rw [if_neg (by simpa using hi)]
   exact .inl ⟨_,rfl,hn⟩) (s:=(2166136261,0)) ⟨by simp,by simp,by simp⟩ (by simp only; omega)
 rw [h] at this
 cases this
 exact hr
def sum4 (b:List UInt8):List UInt8:=[UInt8.ofInt (Int.fdiv (sumW b) (2 ^ (min (Int.toNat (24)) 32))),UInt8.ofInt (Int.fdiv (sumW b) (2 ^ (min (Int.toNat (16)) 32))),UInt8.ofInt (Int.fdiv (sumW b) (2 ^ (min (Int.toNat (8)) 32))),UInt8.ofInt (sumW b)]
theorem wrapF_eq (b:List UInt8):wrapF b=vb (2*(b.length:Int))++(sum4 b++b):=by simp [wrapF,sum4]
theorem ofInt_mod {n:Int} (h:0≤n):((UInt8.ofInt n).toNat:Int)=n % 256:=by
 rw [ofInt_nat h]; simp; omega
theorem be4_sum {s:Int} (h0:0≤s) (h1:s < 4294967296):be4 (UInt8.ofInt (Int.fdiv s (2 ^ (min (Int.toNat (24)) 32)))) (UInt8.ofInt (Int.fdiv s (2 ^ (min (Int.toNat (16)) 32)))) (UInt8.ofInt (Int.fdiv s (2 ^ (min (Int.toNat (8)) 32)))) (UInt8.ofInt s)=s:=by
 have e1:(2:Int) ^ (min (Int.toNat (24)) 32)=16777216:=by decide
 have e2:(2:Int) ^ (min (Int.toNat (16)) 32)=65536:=by decide
 have e3:(2:Int) ^ (min (Int.toNat (8)) 32)=256:=by decide
 rw [e1,e2,e3,Int.fdiv_eq_ediv_of_nonneg _ (by decide),Int.fdiv_eq_ediv_of_nonneg _ (by decide),Int.fdiv_eq_ediv_of_nonneg _ (by decide)]
 unfold be4
 rw [ofInt_mod (by omega),ofInt_mod (by omega),ofInt_mod (by omega),ofInt_mod (by omega)]
 omega
theorem nth_app {α:Type} [Inhabited α] (a b:List α) (k:Nat):nth (a++b) (a.length+k)=nth b k:=by
 simp [nth,List.getElem?_append_right]
theorem unw_parts {n:Int} (h0:0≤n) (h1:n≤1048576) (s p rest:List UInt8) (hs:s.length=4) (hp:(p.length:Int)=n) :
  unwF (vb (2*n)++(s++(p++rest)))=if sumW p≠be4 (nth s 0) (nth s 1) (nth s 2) (nth s 3) then ([],[],4) else (p,rest,0):=by
 unfold unwF
 rw [numC_put h0 (by omega)]
 simp only [ne_eq,not_true_eq_false,if_false]
 have hn:n.toNat=p.length:=by omega
 generalize hv:vb (2*n)=v
 match s,hs with
 | [a,b,c,d],_ =>
  have d4:(v++([a,b,c,d]++(p++rest))).drop (v.length+4)=p++rest:=by
   rw [←List.drop_drop,List.drop_left]; rfl
  have d5:(v++([a,b,c,d]++(p++rest))).drop (v.length+4+p.length)=rest:=by
   rw [←List.drop_drop,d4,List.drop_left]
  rw [if_neg (by omega),if_neg (by omega),if_neg (by simp; omega),hn,d4,d5,List.take_left]
  have n0:=nth_app v ([a,b,c,d]++(p++rest)) 0
  have n1:=nth_app v ([a,b,c,d]++(p++rest)) 1
  have n2:=nth_app v ([a,b,c,d]++(p++rest)) 2
  have n3:=nth_app v ([a,b,c,d]++(p++rest)) 3
  rw [Nat.add_zero] at n0
  rw [n0,n1,n2,n3]
  rfl
theorem unw_wrap (p rest:List UInt8) (h:p.length≤1048576):unwF (wrapF p++rest)=(p,rest,0):=by
 have hb:=sum_bd p (by omega)
 rw [wrapF_eq,List.append_assoc,List.append_assoc,unw_parts (by omega) (by omega) (sum4 p) p rest rfl rfl,if_neg]
 have:=be4_sum hb.1 hb.2
 intro hne
 exact hne this.symm
theorem head_sm {b:Batch} (h:chkF b=0) (hl:b.records.length≤2000):SmN (headN b):=by
 obtain ⟨h1,h2,h3,h4,_⟩:=chk_parts h
 intro n hn
 simp [headN] at hn
 omega
theorem trail_sm {b:Batch} (h:chkF b=0) (hl:b.records.length≤1000):SmN (trailN b):=by
 have a1:=sumT_bd b.records 1
 have a2:=sumT_bd b.records 2
 have a3:=sumT_bd b.records 3
 have a4:=sumT_bd b.records 4
 intro n hn
 simp [trailN] at hn
 omega
theorem file_parts (b:Batch):fileF b=wrapF (numsF (headN b))++(wrapF (payF b.format b.records)++(wrapF (numsF (trailN b))++[])):=by
 simp [fileF,joinW,paysF]
theorem sumT_zero:∀ l:List Record,sumT l 0=0
 | []=>rfl
 | r :: l=>by
  have ih:=sumT_zero l
  have:conT r 0=0:=by
   unfold conT
   rw [if_neg]
   rintro ⟨h,h2⟩
   unfold okT at h
   have:=of_decide_eq_true h
   omega
  unfold sumT
  rw [this,ih]; rfl
theorem chkL_src:∀ (src:Int) (l:List Record),chkL src l=0→∀ r,r∈l→r.source=src
 | src,[],_=>by intro r hr; cases hr
 | src,q :: l,h=>by
  unfold chkL at h
  by_cases he:errF q=0
  ·rw [if_pos he] at h
   by_cases hs:q.source=src
   ·rw [if_pos hs] at h
    intro x hx
    rcases List.mem_cons.1 hx with rfl | hx
    ·exact hs
    ·exact chkL_src src l h x hx
   ·rw [if_neg hs] at h; cases h
  ·rw [if_neg he] at h; exact absurd h he
end Go.Proofs.YthoengcicaicoaaGreatDoor
namespace Go.Proofs.YthoengcicaicoaaGreatDoor.C9
open Go.RowKit Go.Abs
def catL (xs:List (List UInt8)):List UInt8:=(xs.map (·++[10])).flatten
theorem catL_snoc (xs:List (List UInt8)) (x:List UInt8):catL (xs++[x])=catL xs++x++[10]:=by simp [catL]
theorem cut_cat:∀ xs:List (List UInt8),(∀ x,x∈xs→free 10 x)→cutL 10 (catL xs)=xs++[[]]
 | [],_=>rfl
 | x :: r,h=>by
  have e:catL (x :: r)=x++10 :: catL r:=by simp [catL]
  rw [e,cutL_more (h x (by simp)),cut_cat r (fun y hy=>h y (by simp [hy]))]
  rfl
theorem catL_last (xs:List (List UInt8)):catL xs=[]∨∃ t,catL xs=t++[10]:=by
 rcases List.eq_nil_or_concat xs with rfl | ⟨ys,y,rfl⟩
 ·exact .inl rfl
 ·right
  rw [List.concat_eq_append,catL_snoc]
  exact ⟨_,rfl⟩
theorem lines_cat {xs:List (List UInt8)} (h:∀ x,x∈xs→free 10 x) (hl:xs.length≤4096):linesF (catL xs)=(xs,0):=by
 unfold linesF
 rw [if_neg]
 ·rw [cut_cat xs h,if_neg (by simp; omega)]
  simp
 ·rintro ⟨h1,h2⟩
  rcases catL_last xs with e | ⟨t,e⟩
  ·exact h1 e
  ·apply h2
   rw [e]
   simp [nth]
theorem good_lines:∀ (w:List Record) (i:Int),(∀ r,r∈w→errF r=0)→okLs (w.map lineF)=w∧noLs i (w.map lineF)=[]
 | [],_,_=>⟨rfl,rfl⟩
 | r :: w,i,h=>by
  have hr:=dec_line (h r (by simp))
  have ih:=good_lines w (i+1) (fun q hq=>h q (by simp [hq]))
  rw [List.map_cons,okLs,noLs,hr]
  simp [ih.1,ih.2]
end Go.Proofs.YthoengcicaicoaaGreatDoor.C9
namespace Go.Proofs.YthoengcicaicoaaGreatDoor
open Go.RowKit Go.Abs
theorem join_free {c:UInt8} (hc:c≠32):∀ ws:List (List UInt8),(∀ w,w∈ws→C9.free c w)→C9.free c (Go.Lib.join ws [32])
 | [],_=>by rw [Go.Lib.join_nil]; intro x hx; cases hx
 | w :: ws,h=>by
  rw [Go.Lib.join_cons]
  intro y hy
  rcases List.mem_append.1 hy with hy | hy
  ·exact h w (by simp) y hy
  ·unfold Go.Lib.joinTail at hy
   obtain ⟨l,hl,hy⟩:=List.mem_flatten.1 hy
   obtain ⟨v,hv,rfl⟩:=List.mem_map.1 hl
   rcases List.mem_append.1 hy with hy | hy
   ·simp only [List.mem_singleton] at hy
    subst hy
    exact Ne.symm hc
   ·exact h v (by simp [hv]) y hy
theorem line_free {r:Record} (h:errF r=0):C9.free 10 (lineF r):=join_free (by decide) _ (C9.words_free h (.inr rfl))
theorem all_text {l:List Record} (h:OkL l) (hl:l.length≤2000):C9.allF ((l.map fun r=>lineF r++[10]).flatten)=(l,[],0):=by
 have e:(l.map fun r=>lineF r++[10]).flatten=C9.catL (l.map lineF):=by simp [C9.catL,List.map_map,Function.comp_def]
 have hf:∀ x,x∈l.map lineF→C9.free 10 x:=by
  intro x hx
  obtain ⟨r,hr,rfl⟩:=List.mem_map.1 hx
  exact line_free (h r hr)
 have hc:=C9.lines_cat hf (by simp; omega)
 obtain ⟨g1,g2⟩:=C9.good_lines l 0 h
 unfold C9.allF
 rw [e,hc]
 simp [g1,g2]
theorem all_tag:∀ (l:List Record) (i:Nat) (out:List Record),OkL l→SmL l→i+l.length≤4096→C10.allT i out [] ((l.map C10.bytesT).flatten)=(out++l,[],0)
 | [],i,out,_,_,_=>by rw [C10.allT,if_pos (by simp)]; simp
 | r :: l,i,out,h,hs,hl=>by
  have hr:=h r (by simp)
  have sr:=hs r (by simp)
  have ih:=all_tag l (i+1) (out++[r]) (fun x hx=>h x (by simp [hx])) (fun x hx=>hs x (by simp [hx])) (by simp at hl; omega)
  have hen:=C10.enc_len (errF_good hr) sr.1 sr.2
  obtain ⟨p1,p2,p3⟩:=C10.bytesT_parts (r:=r) hen
  have hd:=C10.dec_back sr.1 sr.2 hr
  have e:((r :: l).map C10.bytesT).flatten=C10.bytesT r++(l.map C10.bytesT).flatten:=by simp
  have hh:C10.headN (C10.bytesT r++(l.map C10.bytesT).flatten)=(C10.encL (C10.elsF r)).length:=by
   rw [←p2]
   unfold C10.headN
   rw [C10.nth_app _ _ 0 (by omega),C10.nth_app _ _ 1 (by omega)]
  rw [e,C10.allT,if_neg (by simp [C10.bytesT]),if_neg (by simp at hl; omega),hh,if_neg (by simp; omega)]
  have ht:(C10.bytesT r++(l.map C10.bytesT).flatten).take (2+(C10.encL (C10.elsF r)).length)=C10.bytesT r:=by rw [←p1,List.take_left]
  have hdr:(C10.bytesT r++(l.map C10.bytesT).flatten).drop (2+(C10.encL (C10.elsF r)).length)=(l.map C10.bytesT).flatten:=by rw [←p1,List.drop_left]
  rw [ht,hdr,hd,if_neg (by simp),ih]
  simp
theorem flat45:∀ l:List Record,((l.map C11.bytesF).flatten).length=45*l.length
 | []=>rfl
 | r :: l=>by
  have:=flat45 l
  simp only [List.map_cons,List.flatten_cons,List.length_append,C11.bytes_len,List.length_cons,this]; omega
theorem cut45 (p:List UInt8) (X:List UInt8) (i k:Nat) (hp:p.length=45):C11.cut (p++X) ((i+1)*45) k=C11.cut X (i*45) k:=by
 unfold C11.cut
 rw [show (i+1)*45=p.length+i*45 from by omega,←List.drop_drop,List.drop_left]
theorem okRs_shift (p X:List UInt8) (hp:p.length=45):∀ n i:Nat,C11.okRs (p++X) (i+1) n=C11.okRs X i n∧(C11.noRs X i n=[]→C11.noRs (p++X) (i+1) n=[])
 | 0,i=>⟨rfl,fun _=>rfl⟩
 | n+1,i=>by
  obtain ⟨a,b⟩:=okRs_shift p X hp n (i+1)
  unfold C11.okRs C11.noRs
  rw [cut45 p X i 45 hp,a]
  refine ⟨rfl,?_⟩
  split
  ·exact b
  ·intro h; cases h
theorem okRs_all:∀ l:List Record,OkL l→C11.okRs ((l.map C11.bytesF).flatten) 0 l.length=l∧C11.noRs ((l.map C11.bytesF).flatten) 0 l.length=[]
 | [],_=>⟨rfl,rfl⟩
 | r :: l,h=>by
  obtain ⟨a,b⟩:=okRs_all l fun x hx=>h x (by simp [hx])
  have hr:=C11.read_back (h r (by simp))
  have e:((r :: l).map C11.bytesF).flatten=C11.bytesF r++(l.map C11.bytesF).flatten:=by simp
  have hc:C11.cut (C11.bytesF r++(l.map C11.bytesF).flatten) (0*45) 45=C11.bytesF r:=by
   unfold C11.cut
   rw [Nat.zero_mul,List.drop_zero,←C11.bytes_len r,List.take_left]
  obtain ⟨s1,s2⟩:=okRs_shift (C11.bytesF r) ((l.map C11.bytesF).flatten) (C11.bytes_len r) l.length 0
  rw [e,List.length_cons]
  unfold C11.okRs C11.noRs
  rw [hc,hr,if_pos rfl,if_pos rfl,s1,a]
  exact ⟨rfl,s2 b⟩
theorem all_pack {l:List Record} (h:OkL l) (hl:l.length≤2000):C11.allF ((l.map C11.bytesF).flatten)=(l,[],0):=by
 obtain ⟨a,b⟩:=okRs_all l h
 have hn:=flat45 l
 unfold C11.allF
 have e:((l.map C11.bytesF).flatten).length / 45=l.length:=by omega
 rw [if_neg (by omega),e,if_neg (by omega),a,b]
theorem decAll_pay {f:Int} {l:List Record} (h:OkL l) (hs:SmL l) (hl:l.length≤2000):decAll f (payF f l)=(l,[],0):=by
 unfold decAll payF
 by_cases h2:f=2
 ·have e:recF f=C10.bytesT:=by funext r; unfold recF; rw [if_pos h2]
  rw [if_pos h2,e,all_tag l 0 [] h hs (by omega)]; rfl
 ·by_cases h3:f=3
  ·have e:recF f=C11.bytesF:=by funext r; unfold recF; rw [if_neg h2,if_pos h3]
   rw [if_neg h2,if_pos h3,e,all_pack h hl]
  ·have e:recF f=fun r=>lineF r++[10]:=by funext r; unfold recF; rw [if_neg h2,if_neg h3]
   rw [if_neg h2,if_neg h3,e,all_text h hl]
def hdB (b:Batch):Head:=⟨b.source,b.number,b.format,(b.records.length:Int)⟩
theorem hdE_chk {b:Batch} (h:chkF b=0):hdE (hdB b)=0:=by
 obtain ⟨h1,h2,h3,h4,_⟩:=chk_parts h
 have e:hdF b.source b.number b.format=0:=by
  unfold hdF
  rw [if_neg (by omega),if_neg (by omega)]
 show (if hdF b.source b.number b.format=0 then (if (b.records.length:Int) < 0∨4096 < (b.records.length:Int) then 5 else 0) else hdF b.source b.number b.format)=0
 rw [if_pos e,if_neg (by omega)]
theorem fst_head {b:Batch} (h:chkF b=0) (hl:b.records.length≤1000) (X:List UInt8):fstF (wrapF (numsF (headN b))++X)=(hdB b,X,0):=by
 have h1:=numsF_le _ (head_num h)
 have hu:=unw_wrap (numsF (headN b)) X (by have:(headN b).length=4:=rfl; omega)
 have ht:takF 4 (numsF (headN b))=(headN b,0):=takF_put (headN b) (head_sm h (by omega))
 unfold fstF
 rw [hu]
 simp only [ne_eq,not_true_eq_false,if_false]
 rw [ht]
 have e:hdT (headN b)=hdB b:=rfl
 simp only [not_true_eq_false,if_false,e,hdE_chk h]
theorem trl_trail {b:Batch} (h:chkF b=0) (hl:b.records.length≤1000):trlF (wrapF (numsF (trailN b))++[])=(totL (trailN b),0):=by
 have h1:=numsF_le _ (trail_num h)
 have hu:=unw_wrap (numsF (trailN b)) [] (by have:(trailN b).length=5:=rfl; omega)
 have ht:takF 5 (numsF (trailN b))=(trailN b,0):=takF_put (trailN b) (trail_sm h hl)
 unfold trlF
 rw [hu]
 simp only [ne_eq,not_true_eq_false,if_false]
 rw [if_neg (by simp),ht]
 simp only [not_true_eq_false,if_false]
theorem tot_trail (b:Batch):eqVs (Totals.vals (totL (trailN b))) (Totals.vals ⟨(b.records.length:Int),totT b.records⟩)=true:=by
 have n0:=nth_totT b.records (k:=0) (by decide)
 have n1:=nth_totT b.records (k:=1) (by decide)
 have n2:=nth_totT b.records (k:=2) (by decide)
 have n3:=nth_totT b.records (k:=3) (by decide)
 have n4:=nth_totT b.records (k:=4) (by decide)
 rw [sumT_zero] at n0
 unfold Totals.vals
 simp only [n0,n1,n2,n3,n4]
 simp [totL,trailN,nth,eqVs,eqV]
theorem read_file {b:Batch} (h:chkF b=0) (hs:SmL b.records) (hl:b.records.length≤1000):readF (fileF b)=(b,[],0):=by
 obtain ⟨h1,h2,h3,h4,h5⟩:=chk_parts h
 have hp:=payF_le b.records b.format h5 hs
 have hsrc:=chkL_src b.source b.records (by
  unfold chkF at h
  split at h
  ·split at h
   ·cases h
   ·exact h
  ·rename_i hne; exact absurd h hne)
 rw [file_parts]
 unfold readF
 rw [fst_head h hl]
 simp only [ne_eq,not_true_eq_false,if_false]
 rw [unw_wrap _ _ (by omega)]
 simp only [not_true_eq_false,if_false]
 have e:(hdB b).format=b.format:=rfl
 rw [e,decAll_pay h5 hs (by omega)]
 simp only [not_true_eq_false,if_false]
 rw [trl_trail h hl]
 simp only [not_true_eq_false,if_false]
 rw [tot_trail,if_neg (by simp [hdB]),if_pos]
 ·rfl
 ·simp only [List.all_eq_true,beq_iff_eq]
  exact fun r hr=>hsrc r hr
theorem be4_inj {a b c d a' b' c' d':UInt8} (h:be4 a b c d=be4 a' b' c' d'):a=a'∧b=b'∧c=c'∧d=d':=by
 unfold be4 at h
 have h1:=a.toNat_lt; have h2:=b.toNat_lt; have h3:=c.toNat_lt; have h4:=d.toNat_lt
 have k1:=a'.toNat_lt; have k2:=b'.toNat_lt; have k3:=c'.toNat_lt; have k4:=d'.toNat_lt
 refine ⟨UInt8.toNat_inj.1 (by omega),UInt8.toNat_inj.1 (by omega),UInt8.toNat_inj.1 (by omega),UInt8.toNat_inj.1 (by omega)⟩
theorem be4_sum4 (p:List UInt8) (hp:p.length≤1000000000):be4 (nth (sum4 p) 0) (nth (sum4 p) 1) (nth (sum4 p) 2) (nth (sum4 p) 3)=sumW p:=be4_sum (sum_bd p hp).1 (sum_bd p hp).2
theorem vb_one (x:UInt8) (h:x.toNat < 128):vb (x.toNat:Int)=[x]:=by
 rw [vb,if_neg (by omega)]
 congr 1
 apply UInt8.toNat_inj.1
 have:=ofInt_toNat (n:=(x.toNat:Int)) (by omega) (by omega)
 omega
theorem vb_more (x:UInt8) (u:Int) (h:¬ x.toNat < 128) (hu:0 < u):vb (((x.toNat % 128:Nat):Int)+128*u)=x :: vb u:=by
 have hx:=x.toNat_lt
 rw [vb,if_pos (by omega),show (((x.toNat % 128:Nat):Int)+128*u) / 128=u from by omega]
 congr 1
 apply UInt8.toNat_inj.1
 have:=ofInt_toNat (n:=128+(((x.toNat % 128:Nat):Int)+128*u) % 128) (by omega) (by omega)
 omega
theorem numC_inv:∀ (b:List UInt8) (i:Nat) (w:Int),(numC i w b).2.2=0→∃ u:Int,0≤u∧(0 < i→u≠0)∧(numC i w b).1=zz (w+u*128 ^ i)∧(numC i w b).2.1=i+(vb u).length∧∃ X,b=vb u++X
 | [],i,w,h=>by unfold numC at h; simp at h
 | x :: t,i,w,h=>by
  unfold numC at h ⊢
  by_cases hx:(i=9∧x≠1)∨(0 < i∧x=0)
  ·rw [if_pos hx] at h; simp at h
  rw [if_neg hx] at h ⊢
  by_cases hl:x.toNat < 128
  ·rw [if_pos hl]
   refine ⟨(x.toNat:Int),by omega,fun hi e=>hx (.inr ⟨hi,UInt8.toNat_inj.1 (by
    have:(0:UInt8).toNat=0:=rfl
    omega)⟩),rfl,by rw [vb_one x hl]; rfl,t,by rw [vb_one x hl]; rfl⟩
  ·rw [if_neg hl] at h ⊢
   obtain ⟨u,h0,hz,h1,h2,X,h3⟩:=numC_inv t (i+1) _ h
   have hu:=hz (by omega)
   have hv:=vb_more x u hl (by omega)
   refine ⟨((x.toNat % 128:Nat):Int)+128*u,by omega,fun _=>by omega,?_,?_,X,?_⟩
   ·rw [h1]
    congr 1
    rw [Int.pow_succ,Int.add_mul,Int.mul_comm (128 ^ i) 128,←Int.mul_assoc,Int.mul_comm u 128,Int.add_assoc]
   ·rw [h2,hv,List.length_cons]; omega
   ·rw [hv,List.cons_append,←h3]
theorem zz_nn {u:Int} (h0:0≤u) (h:0≤zz u):u=2*zz u:=by
 unfold zz at h ⊢
 split at h
 ·omega
 ·rename_i hc
  rw [if_neg hc]; omega
theorem numC_nn {b:List UInt8} (h:(numC 0 0 b).2.2=0) (hn:0≤(numC 0 0 b).1):(numC 0 0 b).2.1=(vb (2*(numC 0 0 b).1)).length∧∃ X,b=vb (2*(numC 0 0 b).1)++X:=by
 obtain ⟨u,h0,_,h1,h2,X,h3⟩:=numC_inv b 0 0 h
 have e:(0:Int)+u*128 ^ 0=u:=by simp
 rw [e] at h1
 rw [h1] at hn ⊢
 rw [←zz_nn h0 hn]
 exact ⟨by omega,X,h3⟩
theorem numN_inv {b:List UInt8} (h:(numN b).2.2=0) (hn:0≤(numN b).1):b=vb (2*(numN b).1)++(numN b).2.1:=by
 unfold numN at h hn ⊢
 by_cases hc:(numC 0 0 b).2.2=0
 ·rw [if_pos hc] at hn ⊢
  simp only at hn ⊢
  obtain ⟨h2,X,h3⟩:=numC_nn hc hn
  rw [h2]
  generalize vb (2*(numC 0 0 b).1)=v at *
  subst h3
  rw [List.drop_left]
 ·rw [if_neg hc] at h
  exact absurd h hc
theorem takF_inv:∀ (k:Nat) (b:List UInt8),(takF k b).2=0→(∀ n,n∈(takF k b).1→0≤n)→numsF (takF k b).1=b
 | 0,b,h,_=>by
  unfold takF at h ⊢
  simp only at h ⊢
  split at h
  ·cases h
  ·have:b.length=0:=by omega
   rw [List.length_eq_zero_iff.1 this]; rfl
 | k+1,b,h,hn=>by
  unfold takF at h hn ⊢
  by_cases hc:(numN b).2.2=0
  ·rw [if_neg (by simp [hc])] at h hn ⊢
   simp only at h hn ⊢
   have ih:=takF_inv k _ h fun n hm=>hn n (by simp [hm])
   have e:=numN_inv hc (hn _ (by simp))
   have e2:numsF ((numN b).1 :: (takF k (numN b).2.1).1)=vb (2*(numN b).1)++numsF (takF k (numN b).2.1).1:=by simp [numsF]
   rw [e2,ih,←e]
  ·rw [if_pos hc] at h; exact absurd h hc
theorem be4_bytes {X:List UInt8} (h:4≤X.length):X.take 4=[nth X 0,nth X 1,nth X 2,nth X 3]:=by
 match X,h with
 | a :: b :: c :: d :: r,_=>rfl
theorem sum4_of {p:List UInt8} {a b c d:UInt8} (hp:p.length≤1000000000) (h:sumW p=be4 a b c d):sum4 p=[a,b,c,d]:=by
 have hs:=be4_sum4 p hp
 rw [h] at hs
 obtain ⟨h0,h1,h2,h3⟩:=be4_inj hs
 have e:sum4 p=[nth (sum4 p) 0,nth (sum4 p) 1,nth (sum4 p) 2,nth (sum4 p) 3]:=rfl
 rw [e,h0,h1,h2,h3]
theorem unw_inv {b:List UInt8} (h:(unwF b).2.2=0):b=wrapF (unwF b).1++(unwF b).2.1∧(unwF b).1.length≤1048576:=by
 unfold unwF at h ⊢
 simp only at h ⊢
 by_cases c1:(numC 0 0 b).2.2=0
 rotate_left
 ·rw [if_pos c1] at h; exact absurd h c1
 rw [if_neg (by simp [c1])] at h ⊢
 by_cases c2:(numC 0 0 b).1 < 0
 ·rw [if_pos c2] at h; cases h
 rw [if_neg c2] at h ⊢
 by_cases c3:1048576 < (numC 0 0 b).1
 ·rw [if_pos c3] at h; cases h
 rw [if_neg c3] at h ⊢
 obtain ⟨h2,X,h3⟩:=numC_nn c1 (by omega)
 rw [h2] at h ⊢
 generalize (numC 0 0 b).1=n at *
 generalize hv:vb (2*n)=v at *
 subst h3
 by_cases c4:(v++X).length < v.length+4+n.toNat
 ·rw [if_pos c4] at h; cases h
 rw [if_neg c4] at h ⊢
 have e0:(v++X).drop (v.length+4)=X.drop 4:=by rw [←List.drop_drop,List.drop_left]
 have e1:(v++X).drop (v.length+4+n.toNat)=(X.drop 4).drop n.toNat:=by rw [←List.drop_drop,e0]
 rw [e0,e1] at h ⊢
 have n0:=nth_app v X 0
 have n1:=nth_app v X 1
 have n2:=nth_app v X 2
 have n3:=nth_app v X 3
 rw [Nat.add_zero] at n0
 rw [n0,n1,n2,n3] at h ⊢
 by_cases c5:sumW ((X.drop 4).take n.toNat)=be4 (nth X 0) (nth X 1) (nth X 2) (nth X 3)
 rotate_left
 ·rw [if_pos c5] at h; cases h
 rw [if_neg (by simp [c5])]
 simp only [List.length_append] at c4
 have hl:((X.drop 4).take n.toNat).length=n.toNat:=by simp; omega
 have hs:=sum4_of (by omega) c5
 refine ⟨?_,by simp only; omega⟩
 simp only
 rw [wrapF_eq,hs,hl,show ((n.toNat:Nat):Int)=n from by omega,hv,←be4_bytes (by omega),List.append_assoc,List.append_assoc,List.take_append_drop,List.take_append_drop]
theorem cut_end10:∀ t:List UInt8,C9.cutL 10 (t++[10])=C9.cutL 10 t++[[]]∧C9.catL (C9.cutL 10 t)=t++[10]
 | []=>⟨rfl,rfl⟩
 | x :: t=>by
  obtain ⟨h1,h2⟩:=cut_end10 t
  by_cases hx:x=10
  ·subst hx
   rw [List.cons_append,C9.cutL_hit,C9.cutL_hit,h1]
   refine ⟨rfl,?_⟩
   have:C9.catL ([] :: C9.cutL 10 t)=10 :: C9.catL (C9.cutL 10 t):=by simp [C9.catL]
   rw [this,h2]
  ·rw [List.cons_append,C9.cutL_step hx,C9.cutL_step hx,h1]
   have e:=C9.cutL_eta 10 t
   generalize C9.cutL 10 t=l at *
   cases l with
   | nil=>cases e
   | cons a r =>
    refine ⟨rfl,?_⟩
    have e1:C9.catL ((x :: a) :: r)=x :: C9.catL (a :: r):=by simp [C9.catL]
    simp only [List.headD_cons,List.tail_cons]
    rw [e1,h2]
theorem lines_inv {s:List UInt8} (h:(C9.linesF s).2=0):C9.catL (C9.linesF s).1=s:=by
 unfold C9.linesF at h ⊢
 by_cases c1:s≠[]∧nth s (s.length-1)≠10
 ·rw [if_pos c1] at h; cases h
 rw [if_neg c1] at h ⊢
 by_cases c2:4096 < (C9.cutL 10 s).length-1
 ·rw [if_pos c2] at h; cases h
 rw [if_neg c2]
 by_cases hs:s=[]
 ·subst hs; rfl
 ·obtain ⟨t,ht⟩:=C9.snoc_of hs
  have h10:nth s (s.length-1)=10:=Decidable.byContradiction fun hc=>c1 ⟨hs,hc⟩
  rw [h10] at ht
  obtain ⟨g1,g2⟩:=cut_end10 t
  simp only
  rw [ht,g1,List.dropLast_concat,g2]
theorem lineF_ge (r:Record):6≤(lineF r).length:=by
 unfold lineF wordsF headF
 simp only [List.cons_append,List.nil_append,Go.Lib.join_cons,Go.Lib.joinTail,List.map_cons,List.flatten_cons,List.length_append,List.length_cons,List.length_nil]
 omega
theorem okL_sm {l:List Record} (h:OkL l):SmL l:=fun r hr=>by
 have g:=errF_good (h r hr)
 have ha:=validB_len g.a
 refine ⟨by omega,?_⟩
 rcases g.b with hb | ⟨_,hb⟩
 ·have:=validB_len hb; omega
 ·rw [hb]; simp
theorem catL_cons (x:List UInt8) (l:List (List UInt8)):C9.catL (x :: l)=x++10 :: C9.catL l:=by simp [C9.catL]
theorem okLs_inv:∀ (ws:List (List UInt8)) (i:Int),OkL (C9.okLs ws)∧(C9.catL ((C9.okLs ws).map lineF)).length≤(C9.catL ws).length∧(C9.noLs i ws=[]→(C9.okLs ws).map lineF=ws)
 | [],i=>⟨(fun r hr=>by cases hr),by simp [C9.okLs],fun _=>rfl⟩
 | w :: ws,i=>by
  obtain ⟨h1,h2,h3⟩:=okLs_inv ws (i+1)
  unfold C9.okLs C9.noLs
  by_cases hd:(C9.decF w).2=0
  ·obtain ⟨d1,d2⟩:=C9.dec_ok hd
   rw [if_pos hd,if_pos hd]
   refine ⟨fun r hr=>?_,?_,fun hn=>?_⟩
   ·rcases List.mem_cons.1 hr with rfl | hr
    ·exact d1
    ·exact h1 r hr
   ·rw [List.map_cons,catL_cons,catL_cons,d2]
    simp only [List.length_append,List.length_cons]; omega
   ·rw [List.map_cons,d2,h3 hn]
  ·rw [if_neg hd,if_neg hd]
   refine ⟨h1,?_,fun hn=>by cases hn⟩
   rw [catL_cons]
   simp only [List.length_append,List.length_cons]; omega
def Inv (f:Int) (b:List UInt8) (r:List Record×List Reject×Int):Prop:=OkL r.1∧(payF f r.1).length≤b.length∧3*r.1.length≤b.length∧(r.2.1=[]→payF f r.1=b)
theorem pay_text {f:Int} (h2:f≠2) (h3:f≠3) (l:List Record):payF f l=C9.catL (l.map lineF):=by
 have e:recF f=fun r=>lineF r++[10]:=by funext r; unfold recF; rw [if_neg h2,if_neg h3]
 unfold payF
 rw [e]
 simp [C9.catL,List.map_map,Function.comp_def]
theorem catL_ge:∀ l:List Record,7*l.length≤(C9.catL (l.map lineF)).length
 | []=>by simp
 | r :: l=>by
  have:=catL_ge l
  have h:=lineF_ge r
  rw [List.map_cons,catL_cons]
  simp only [List.length_append,List.length_cons]; omega
theorem text_inv {f:Int} (h2:f≠2) (h3:f≠3) {b:List UInt8} (h:(C9.allF b).2.2=0):Inv f b (C9.allF b):=by
 unfold C9.allF at h ⊢
 by_cases c:(C9.linesF b).2=0
 rotate_left
 ·rw [if_pos c] at h; exact absurd h c
 rw [if_neg (by simp [c])]
 obtain ⟨g1,g2,g3⟩:=okLs_inv (C9.linesF b).1 0
 have e:=lines_inv c
 rw [e] at g2
 have hg:=catL_ge (C9.okLs (C9.linesF b).1)
 refine ⟨g1,?_,by simp only; omega,fun hn=>?_⟩
 ·rw [pay_text h2 h3]; exact g2
 ·rw [pay_text h2 h3,g3 hn,e]
theorem pay_pack (l:List Record):payF 3 l=(l.map C11.bytesF).flatten:=by
 have e:recF 3=C11.bytesF:=by funext r; unfold recF; rw [if_neg (by decide),if_pos rfl]
 unfold payF
 rw [e]
theorem okRs_inv (b:List UInt8):∀ n i:Nat,(i+n)*45≤b.length→OkL (C11.okRs b i n)∧(C11.noRs b i n=[]→((C11.okRs b i n).map C11.bytesF).flatten=C11.cut b (i*45) (n*45))
 | 0,i,_=>⟨(fun r hr=>by cases hr),fun _=>by simp [C11.okRs,C11.cut]⟩
 | n+1,i,hl=>by
  obtain ⟨h1,h2⟩:=okRs_inv b n (i+1) (by omega)
  unfold C11.okRs C11.noRs
  by_cases hd:(C11.unpackF (C11.cut b (i*45) 45)).2=0
  ·obtain ⟨d1,d2⟩:=C11.bytes_back hd
   rw [if_pos hd,if_pos hd]
   refine ⟨fun r hr=>?_,fun hn=>?_⟩
   ·rcases List.mem_cons.1 hr with rfl | hr
    ·exact d2
    ·exact h1 r hr
   ·rw [List.map_cons,List.flatten_cons,d1,h2 hn,show (i+1)*45=i*45+45 from by omega,C11.cut_join,show 45+n*45=(n+1)*45 from by omega]
  ·rw [if_neg hd,if_neg hd]
   exact ⟨h1,fun hn=>by cases hn⟩
theorem pack_inv {b:List UInt8} (h:(C11.allF b).2.2=0):Inv 3 b (C11.allF b):=by
 unfold C11.allF at h ⊢
 by_cases c:b.length % 45=0
 rotate_left
 ·rw [if_pos c] at h; cases h
 rw [if_neg (by simp [c])] at h ⊢
 by_cases c2:b.length / 45 > 4096
 ·rw [if_pos c2] at h; cases h
 rw [if_neg c2]
 obtain ⟨g1,g2⟩:=okRs_inv b (b.length / 45) 0 (by omega)
 have gl:=C11.okRs_len b (b.length / 45) 0
 refine ⟨g1,?_,by simp only; omega,fun hn=>?_⟩
 ·rw [pay_pack,flat45]
  simp only; omega
 ·rw [pay_pack,g2 hn,show b.length / 45*45=b.length from by omega]
  exact C11.cut_all b
theorem pay_tag (l:List Record):payF 2 l=(l.map C10.bytesT).flatten:=by
 have e:recF 2=C10.bytesT:=by funext r; unfold recF; rw [if_pos rfl]
 unfold payF
 rw [e]
theorem dec_three {b:List UInt8} (h:(C10.decT b).2=0):3≤b.length:=by
 unfold C10.decT at h
 by_cases h1:b.length < 2∨b.length-2 < C10.headN b
 ·rw [if_pos h1] at h; cases h
 rw [if_neg h1] at h
 by_cases h2:b.length-2 > C10.headN b
 ·rw [if_pos h2] at h; cases h
 rw [if_neg h2] at h
 by_cases h3:b.length=2
 ·have e:b.drop 2=[]:=by rw [List.drop_eq_nil_iff]; omega
  have e2:C10.elmF 0 [] ([]:List UInt8)=([],0):=by rw [C10.elmF,if_pos (by simp)]
  rw [e,e2,if_neg (by simp)] at h
  exact absurd h (by decide)
 ·omega
theorem allT_inv:∀ (n:Nat) (b:List UInt8) (i:Nat) (out:List Record) (no:List Reject),b.length≤n→(C10.allT i out no b).2.2=0 →
  ∃ l m,(C10.allT i out no b).1=out++l∧(C10.allT i out no b).2.1=no++m∧OkL l∧((l.map C10.bytesT).flatten).length≤b.length∧3*l.length≤b.length∧(m=[]→(l.map C10.bytesT).flatten=b):=by
 intro n
 induction n with
 | zero =>
  intro b i out no h _
  rw [C10.allT,if_pos (by omega)]
  refine ⟨[],[],by simp,by simp,(fun r hr=>by cases hr),by simp,by simp,fun _=>?_⟩
  rw [List.length_eq_zero_iff.1 (show b.length=0 by omega)]; rfl
 | succ n ih =>
  intro b i out no h he
  rw [C10.allT] at he ⊢
  by_cases c1:b.length=0
  ·rw [if_pos c1]
   refine ⟨[],[],by simp,by simp,(fun r hr=>by cases hr),by simp,by simp,fun _=>?_⟩
   rw [List.length_eq_zero_iff.1 c1]; rfl
  rw [if_neg c1] at he ⊢
  by_cases c2:i=4096
  ·rw [if_pos c2] at he; cases he
  rw [if_neg c2] at he ⊢
  by_cases c3:b.length < 2∨b.length-2 < C10.headN b
  ·rw [if_pos c3] at he; cases he
  rw [if_neg c3] at he ⊢
  have hd:(b.drop (2+C10.headN b)).length=b.length-(2+C10.headN b):=by simp
  by_cases c4:(C10.decT (b.take (2+C10.headN b))).2≠0
  ·rw [if_pos c4] at he ⊢
   obtain ⟨l,m,a1,a2,a3,a4,a5,a6⟩:=ih _ (i+1) out _ (by omega) he
   refine ⟨l,[_]++m,a1,by rw [a2,List.append_assoc],a3,by omega,by omega,fun hm=>by cases hm⟩
  ·rw [if_neg c4] at he ⊢
   have c5:(C10.decT (b.take (2+C10.headN b))).2=0:=by simpa using c4
   obtain ⟨l,m,a1,a2,a3,a4,a5,a6⟩:=ih _ (i+1) _ no (by omega) he
   obtain ⟨d1,d2⟩:=C10.dec_same c5
   have d3:=dec_three c5
   have hlt:(b.take (2+C10.headN b)).length=2+C10.headN b:=by simp; omega
   refine ⟨(C10.decT (b.take (2+C10.headN b))).1 :: l,m,by rw [a1,List.append_assoc]; rfl,a2,fun r hr=>?_,?_,?_,fun hm=>?_⟩
   ·rcases List.mem_cons.1 hr with rfl | hr
    ·exact d2
    ·exact a3 r hr
   ·rw [List.map_cons,List.flatten_cons,d1,List.length_append]; omega
   ·rw [List.length_cons]; omega
   ·rw [List.map_cons,List.flatten_cons,d1,a6 hm,List.take_append_drop]
theorem tag_inv {b:List UInt8} (h:(C10.allT 0 [] [] b).2.2=0):Inv 2 b (C10.allT 0 [] [] b):=by
 obtain ⟨l,m,a1,a2,a3,a4,a5,a6⟩:=allT_inv b.length b 0 [] [] (Nat.le_refl _) h
 rw [List.nil_append] at a1 a2
 unfold Inv
 rw [a1,a2,pay_tag]
 exact ⟨a3,a4,a5,a6⟩
theorem dec_inv {f:Int} {b:List UInt8} (h:(decAll f b).2.2=0):Inv f b (decAll f b):=by
 unfold decAll at h ⊢
 by_cases h2:f=2
 ·subst h2
  rw [if_pos rfl] at h ⊢
  exact tag_inv h
 ·rw [if_neg h2] at h ⊢
  by_cases h3:f=3
  ·subst h3
   rw [if_pos rfl] at h ⊢
   exact pack_inv h
  ·rw [if_neg h3] at h ⊢
   exact text_inv h2 h3 h
theorem len4 {l:List Int} (h:l.length=4):l=[nth l 0,nth l 1,nth l 2,nth l 3]:=by
 match l,h with
 | [a,b,c,d],_=>rfl
theorem len5 {l:List Int} (h:l.length=5):l=[nth l 0,nth l 1,nth l 2,nth l 3,nth l 4]:=by
 match l,h with
 | [a,b,c,d,e],_=>rfl
theorem fst_inv {b:List UInt8} (h:(fstF b).2.2=0):b=wrapF (numsF [(fstF b).1.source,(fstF b).1.number,(fstF b).1.format,(fstF b).1.count])++(fstF b).2.1∧hdE (fstF b).1=0:=by
 refine ⟨?_,fstF_ok h⟩
 unfold fstF at h ⊢
 by_cases e1:(unwF b).2.2=0
 rotate_left
 ·rw [if_pos e1] at h; exact absurd h e1
 rw [if_neg (by simp [e1])] at h ⊢
 by_cases e2:(takF 4 (unwF b).1).2=0
 rotate_left
 ·rw [if_pos e2] at h; exact absurd h e2
 rw [if_neg (by simp [e2])] at h ⊢
 by_cases e3:hdE (hdT (takF 4 (unwF b).1).1)=0
 rotate_left
 ·rw [if_pos e3] at h; exact absurd h e3
 rw [if_neg (by simp [e3])]
 obtain ⟨g1,g2,g3,g4,_⟩:=hdE_ok e3
 have hl:=len4 (takF_len 4 _ e2)
 have hn:=takF_inv 4 _ e2 (by
  rw [hl]
  simp only [hdT] at g1 g2 g3 g4
  intro n hn
  simp only [List.mem_cons,List.not_mem_nil,or_false] at hn
  rcases hn with rfl | rfl | rfl | rfl <;> omega)
 have hu:=(unw_inv e1).1
 simp only [hdT]
 rw [←hl,hn]
 exact hu
theorem tot_inv {l:List Int} {rs:List Record} (h:eqVs (Totals.vals (totL l)) (Totals.vals ⟨(rs.length:Int),totT rs⟩)=true) :
  nth l 0=(rs.length:Int)∧nth l 1=sumT rs 1∧nth l 2=sumT rs 2∧nth l 3=sumT rs 3∧nth l 4=sumT rs 4:=by
 have n1:=nth_totT rs (k:=1) (by decide)
 have n2:=nth_totT rs (k:=2) (by decide)
 have n3:=nth_totT rs (k:=3) (by decide)
 have n4:=nth_totT rs (k:=4) (by decide)
 unfold Totals.vals at h
 simp [n1,n2,n3,n4,totL,eqVs,eqV] at h
 simp [nth] at h ⊢
 grind
theorem trl_inv {b:List UInt8} {a:Batch} (h:(trlF b).2=0) (ht:eqVs (Totals.vals (trlF b).1) (Totals.vals ⟨(a.records.length:Int),totT a.records⟩)=true):b=wrapF (numsF (trailN a))++[]:=by
 unfold trlF at h ht
 by_cases e1:(unwF b).2.2=0
 rotate_left
 ·rw [if_pos e1] at h; exact absurd h e1
 rw [if_neg (by simp [e1])] at h ht
 by_cases e2:(unwF b).2.1.length > 0
 ·rw [if_pos e2] at h; cases h
 rw [if_neg e2] at h ht
 by_cases e3:(takF 5 (unwF b).1).2=0
 rotate_left
 ·rw [if_pos e3] at h; exact absurd h e3
 rw [if_neg (by simp [e3])] at ht
 obtain ⟨t0,t1,t2,t3,t4⟩:=tot_inv ht
 have hl:=len5 (takF_len 5 _ e3)
 rw [t0,t1,t2,t3,t4] at hl
 have hn:=takF_inv 5 _ e3 (by
  have a1:=sumT_bd a.records 1
  have a2:=sumT_bd a.records 2
  have a3:=sumT_bd a.records 3
  have a4:=sumT_bd a.records 4
  rw [hl]
  intro n hn
  simp only [List.mem_cons,List.not_mem_nil,or_false] at hn
  rcases hn with rfl | rfl | rfl | rfl | rfl <;> omega)
 have hu:=(unw_inv e1).1
 have he:(unwF b).2.1=[]:=List.length_eq_zero_iff.1 (by omega)
 rw [he,←hn,hl] at hu
 exact hu
theorem chkL_zero:∀ (src:Int) (l:List Record),OkL l→(∀ r,r∈l→r.source=src)→chkL src l=0
 | src,[],_,_=>rfl
 | src,r :: l,h,hs=>by
  unfold chkL
  rw [if_pos (h r (by simp)),if_pos (hs r (by simp))]
  exact chkL_zero src l (fun x hx=>h x (by simp [hx])) fun x hx=>hs x (by simp [hx])
theorem readF_err {b:List UInt8} (h:(readF b).2.2≠0):(readF b).1=B0∧(readF b).2.1=[]:=by
 unfold readF at h ⊢
 simp only at h ⊢
 by_cases c1:(fstF b).2.2≠0
 ·rw [if_pos c1]; exact ⟨rfl,rfl⟩
 rw [if_neg c1] at h ⊢
 by_cases c2:(unwF (fstF b).2.1).2.2≠0
 ·rw [if_pos c2]; exact ⟨rfl,rfl⟩
 rw [if_neg c2] at h ⊢
 by_cases c3:(decAll (fstF b).1.format (unwF (fstF b).2.1).1).2.2≠0
 ·rw [if_pos c3]; exact ⟨rfl,rfl⟩
 rw [if_neg c3] at h ⊢
 by_cases c4:(trlF (unwF (fstF b).2.1).2.1).2≠0
 ·rw [if_pos c4]; exact ⟨rfl,rfl⟩
 rw [if_neg c4] at h ⊢
 split
 ·exact ⟨rfl,rfl⟩
 ·rename_i c5
  rw [if_neg c5] at h
  split
  ·rename_i c6
   rw [if_pos c6] at h
   exact absurd rfl h
  ·exact ⟨rfl,rfl⟩
theorem readF_ok {b:List UInt8} (hb:b.length≤3000) (h:(readF b).2.2=0):chkF (readF b).1=0∧SmL (readF b).1.records∧(readF b).1.records.length≤1000 ∧
  (payF (readF b).1.format (readF b).1.records).length≤3000∧((readF b).2.1=[]→fileF (readF b).1=b):=by
 unfold readF at h ⊢
 simp only at h ⊢
 by_cases c1:(fstF b).2.2=0
 rotate_left
 ·rw [if_pos c1] at h; exact absurd h c1
 rw [if_neg (by simp [c1])] at h ⊢
 by_cases c2:(unwF (fstF b).2.1).2.2=0
 rotate_left
 ·rw [if_pos c2] at h; exact absurd h c2
 rw [if_neg (by simp [c2])] at h ⊢
 by_cases c3:(decAll (fstF b).1.format (unwF (fstF b).2.1).1).2.2=0
 rotate_left
 ·rw [if_pos c3] at h; exact absurd h c3
 rw [if_neg (by simp [c3])] at h ⊢
 by_cases c4:(trlF (unwF (fstF b).2.1).2.1).2=0
 rotate_left
 ·rw [if_pos c4] at h; exact absurd h c4
 rw [if_neg (by simp [c4])] at h ⊢
 split at h
 ·cases h
 rename_i c5
 rw [if_neg c5]
 split at h
 rotate_left
 ·cases h
 rename_i c6
 rw [if_pos c6]
 obtain ⟨f1,f2⟩:=fst_inv c1
 obtain ⟨u1,u2⟩:=unw_inv c2
 obtain ⟨d1,d2,d3,d4⟩:=dec_inv c3
 have l1:=fstF_le b
 have l2:=unwF_le (fstF b).2.1
 simp only [Bool.or_eq_true,Bool.not_eq_true',bne_iff_ne,ne_eq,not_or,Bool.not_eq_false,Decidable.not_not] at c5
 obtain ⟨c5,c7⟩:=c5
 obtain ⟨g1,g2,g3,g4,g5⟩:=hdE_ok f2
 simp only [List.all_eq_true,beq_iff_eq] at c6
 have ht:=trl_inv (a:=⟨(fstF b).1.source,(fstF b).1.number,(fstF b).1.format,(decAll (fstF b).1.format (unwF (fstF b).2.1).1).1⟩) c4 c5
 refine ⟨?_,okL_sm d1,by simp only; omega,by simp only; omega,fun hn=>?_⟩
 ·have hh:hdF (fstF b).1.source (fstF b).1.number (fstF b).1.format=0:=by
   unfold hdF
   rw [if_neg (by omega),if_neg (by omega)]
  unfold chkF
  simp only
  rw [if_pos hh,if_neg (by omega)]
  exact chkL_zero _ _ d1 c6
 ·rw [file_parts]
  simp only at hn ⊢
  rw [←ht,d4 hn,←u1]
  unfold headN
  simp only
  rw [←c7,←f1]
theorem file_len' {a:Batch} (h:chkF a=0) (hp:(payF a.format a.records).length≤3000):(fileF a).length≤100000:=by
 have q1:=numsF_le _ (head_num h)
 have q3:=numsF_le _ (trail_num h)
 have e1:(headN a).length=4:=rfl
 have e3:(trailN a).length=5:=rfl
 have w1:=wrapF_len (numsF (headN a)) (by omega)
 have w2:=wrapF_len (payF a.format a.records) (by omega)
 have w3:=wrapF_len (numsF (trailN a)) (by omega)
 rw [file_parts]
 simp only [List.length_append,List.length_nil]; omega
theorem awake_true:f_w12_awake=some true:=by kernel_rfl
theorem valid_true (b:List UInt8):f_w12_BatchValid b=some true:=by
 unfold f_w12_BatchValid
 by_cases h:(b.length:Int) > 3000
 ·rw [if_pos (by simpa using h),awake_true]; rfl
 ·rw [if_neg (by simpa using h),p_Read b (by omega)]
  simp only [Option.bind_some]
  by_cases he:(readF b).2.2=0
  ·obtain ⟨c1,c2,c3,c4,c5⟩:=readF_ok (by omega) he
   have hw:=p_Write _ c2 (by omega)
   have hl:=file_len' c1 c4
   have hr:=p_Read _ hl
   have hc:=p_Check _ c2
   have hs:=p_bSame (readF b).1 (by omega)
   rw [if_pos c1,c1] at hw
   rw [read_file c1 c2 (by omega)] at hr
   rw [c1] at hc
   rw [if_neg (by simp [he]),hw]
   simp only [Option.bind_some]
   rw [hr]
   simp only [Option.bind_some]
   rw [hc]
   simp only [Option.bind_some]
   have e1:(((((0:Int)==0) && ((0:Int)==0)) && ((0:Int)==0)) && ((([]:List Reject).length:Int)==0))=true:=rfl
   rw [e1]
   simp only [gcall,if_true,hs,Option.bind_some]
   have e2:((decide (((readF b).2.1.length:Int) > 0)) || (fileF (readF b).1==b))=true:=by
    by_cases hn:(readF b).2.1=[]
    ·rw [c5 hn]; simp
    ·have:=List.length_pos_iff.2 hn
     simp only [Bool.or_eq_true,decide_eq_true_eq]
     left; omega
   rw [e2]
   simp [awake_true]
  ·obtain ⟨c1,c2⟩:=readF_err he
   rw [if_pos (by simpa using he),c1,c2]
   simp [B0,gcall,awake_true]
theorem hMix:Tryz.prog.follows .mixedOrders=true:=by kernel_rfl
theorem sz_3:(Tryz.prog.info? 3).map (·.size)=some 1:=by kernel_rfl
theorem in_3:∃ i,Tryz.prog.info? 3=some i∧i.zero=some (.int .i64 0)∧i.size=1∧i.bytes=8:=info_parts (by kernel_rfl)
theorem sz_4:(Tryz.prog.info? 4).map (·.size)=some 1:=by kernel_rfl
theorem sz_5:(Tryz.prog.info? 5).map (·.size)=some 1:=by kernel_rfl
theorem in_5:∃ i,Tryz.prog.info? 5=some i∧i.zero=some (.int .u8 0)∧i.size=1∧i.bytes=1:=info_parts (by kernel_rfl)
theorem in_9:∃ i,Tryz.prog.info? 9=some i∧i.zero=some (.string ⟨#[]⟩)∧i.size=1∧i.bytes=16:=info_parts (by kernel_rfl)
theorem in_22:∃ i,Tryz.prog.info? 22=some i∧i.zero=some (.slice none 0 0)∧i.size=1∧i.bytes=24:=info_parts (by kernel_rfl)
theorem in_25:∃ i,Tryz.prog.info? 25=some i∧i.zero=some (.agg #[.int .i64 0,.int .i64 0,.int .i64 0,.int .i64 0])∧i.size=4∧i.bytes=32:=info_parts (by kernel_rfl)
theorem sz_31:(Tryz.prog.info? 31).map (·.size)=some 4:=by kernel_rfl
theorem in_31:∃ i,Tryz.prog.info? 31=some i∧i.zero=some (.agg #[.int .i64 0,.int .i64 0,.int .i64 0,.slice none 0 0])∧i.size=4∧i.bytes=48:=info_parts (by kernel_rfl)
theorem in_49:∃ i,Tryz.prog.info? 49=some i∧i.zero=some (.agg #[.int .i64 0,.int .i64 0,.int .i64 0,.string ⟨#[]⟩,.string ⟨#[]⟩,.int .i64 0,.int .i64 0,.int .i64 0,.int .i64 0,.bool false,.int .i64 0,.bool false])∧i.size=12∧i.bytes=112:=info_parts (by kernel_rfl)
theorem in_52:∃ i,Tryz.prog.info? 52=some i∧i.zero=some (.agg #[.int .i64 0,.int .i64 0,.int .i64 0,.int .i64 0,.int .i64 0,.int .i64 0])∧i.size=6∧i.bytes=48:=info_parts (by kernel_rfl)
theorem in_64:∃ i,Tryz.prog.info? 64=some i∧i.zero=some (.agg #[.int .i64 0,.int .i64 0,.int .i64 0,.int .i64 0])∧i.size=4∧i.bytes=32:=info_parts (by kernel_rfl)
theorem in_79:∃ i,Tryz.prog.info? 79=some i∧i.zero=some (.pointer none)∧i.size=1∧i.bytes=8:=info_parts (by kernel_rfl)
theorem in_104:∃ i,Tryz.prog.info? 104=some i∧i.zero=some (.agg #[.int .i64 0,.slice none 0 0])∧i.size=2∧i.bytes=32:=info_parts (by kernel_rfl)
theorem in_118:∃ i,Tryz.prog.info? 118=some i∧i.zero=some (.agg #[.slice none 0 0,.bool false])∧i.size=2∧i.bytes=32:=info_parts (by kernel_rfl)
theorem in_149:∃ i,Tryz.prog.info? 149=some i∧i.zero=some (.agg #[.slice none 0 0,.bool false])∧i.size=2∧i.bytes=32:=info_parts (by kernel_rfl)
theorem fo_25_0:fieldOff Tryz.prog 25 0=some 0:=by kernel_rfl
theorem fo_25_1:fieldOff Tryz.prog 25 1=some 1:=by kernel_rfl
theorem fo_25_2:fieldOff Tryz.prog 25 2=some 2:=by kernel_rfl
theorem fo_25_3:fieldOff Tryz.prog 25 3=some 3:=by kernel_rfl
theorem fo_31_2:fieldOff Tryz.prog 31 2=some 2:=by kernel_rfl
theorem fo_31_3:fieldOff Tryz.prog 31 3=some 3:=by kernel_rfl
theorem fo_49_0:fieldOff Tryz.prog 49 0=some 0:=by kernel_rfl
theorem fo_49_1:fieldOff Tryz.prog 49 1=some 1:=by kernel_rfl
theorem fo_49_2:fieldOff Tryz.prog 49 2=some 2:=by kernel_rfl
theorem fo_49_5:fieldOff Tryz.prog 49 5=some 5:=by kernel_rfl
theorem fo_49_6:fieldOff Tryz.prog 49 6=some 6:=by kernel_rfl
theorem fo_49_7:fieldOff Tryz.prog 49 7=some 7:=by kernel_rfl
theorem fo_49_8:fieldOff Tryz.prog 49 8=some 8:=by kernel_rfl
theorem fo_49_9:fieldOff Tryz.prog 49 9=some 9:=by kernel_rfl
theorem fo_49_10:fieldOff Tryz.prog 49 10=some 10:=by kernel_rfl
theorem fo_52_0:fieldOff Tryz.prog 52 0=some 0:=by kernel_rfl
theorem fo_52_1:fieldOff Tryz.prog 52 1=some 1:=by kernel_rfl
theorem fo_104_1:fieldOff Tryz.prog 104 1=some 1:=by kernel_rfl
theorem one_3:(Tryz.prog.underlying 3).map oneB=some true:=by kernel_rfl
theorem one_5:(Tryz.prog.underlying 5).map oneB=some true:=by kernel_rfl
theorem one_22:(Tryz.prog.underlying 22).map oneB=some true:=by kernel_rfl
theorem one_29:(Tryz.prog.underlying 29).map oneB=some true:=by kernel_rfl
theorem one_31:(Tryz.prog.underlying 31).map oneB=some false:=by kernel_rfl
theorem pl_25:placesOf Tryz.prog 25=some [(0,1),(1,1),(2,1),(3,1)]:=by kernel_rfl
theorem pl_31:placesOf Tryz.prog 31=some [(0,1),(1,1),(2,1),(3,1)]:=by kernel_rfl
theorem pl_49:placesOf Tryz.prog 49=some [(0,1),(1,1),(2,1),(3,1),(4,1),(5,1),(6,1),(7,1),(8,1),(9,1),(10,1),(11,1)]:=by kernel_rfl
theorem pl_52:placesOf Tryz.prog 52=some [(0,1),(1,5)]:=by kernel_rfl
theorem pl_64:placesOf Tryz.prog 64=some [(0,1),(1,1),(2,1),(3,1)]:=by kernel_rfl
theorem pl_104:placesOf Tryz.prog 104=some [(0,1),(1,1)]:=by kernel_rfl
theorem pl_118:placesOf Tryz.prog 118=some [(0,1),(1,1)]:=by kernel_rfl
theorem pl_149:placesOf Tryz.prog 149=some [(0,1),(1,1)]:=by kernel_rfl
theorem zr_22:(Tryz.prog.info? 22).bind (·.zero)=some (.slice none 0 0):=by kernel_rfl
theorem zr_25:(Tryz.prog.info? 25).bind (·.zero)=some (.agg #[.int .i64 0,.int .i64 0,.int .i64 0,.int .i64 0]):=by kernel_rfl
theorem zr_31:(Tryz.prog.info? 31).bind (·.zero)=some (.agg #[.int .i64 0,.int .i64 0,.int .i64 0,.slice none 0 0]):=by kernel_rfl
theorem zr_49:(Tryz.prog.info? 49).bind (·.zero)=some (.agg #[.int .i64 0,.int .i64 0,.int .i64 0,.string ⟨#[]⟩,.string ⟨#[]⟩,.int .i64 0,.int .i64 0,.int .i64 0,.int .i64 0,.bool false,.int .i64 0,.bool false]):=by kernel_rfl
theorem zr_52:(Tryz.prog.info? 52).bind (·.zero)=some (.agg #[.int .i64 0,.int .i64 0,.int .i64 0,.int .i64 0,.int .i64 0,.int .i64 0]):=by kernel_rfl
theorem zr_104:(Tryz.prog.info? 104).bind (·.zero)=some (.agg #[.int .i64 0,.slice none 0 0]):=by kernel_rfl
theorem zr_158:(Tryz.prog.info? 158).bind (·.zero)=some (.agg #[.int .u8 0,.int .u8 0,.int .u8 0,.int .u8 0,.int .u8 0,.int .u8 0,.int .u8 0,.int .u8 0]):=by kernel_rfl
theorem fk_25:flatKinds Tryz.prog 25=some [.i .i64,.i .i64,.i .i64,.i .i64]:=by kernel_rfl
theorem fk_49:flatKinds Tryz.prog 49=some [.i .i64,.i .i64,.i .i64,.s,.s,.i .i64,.i .i64,.i .i64,.i .i64,.b,.i .i64,.b]:=by kernel_rfl
theorem fg_52:flatG Tryz.prog 52=some [.i .i64,.i .i64,.i .i64,.i .i64,.i .i64,.i .i64]:=by kernel_rfl
def ens:List Nat:=[41,128,103,104,72,73,74,39,29,40,127,89,88,56,92,93,90,91,94,96,95,97,98,99,58,59,61,57,60,76,55,32,17,18,31,33,30,132,109,110,75,45,46,21,42,19,7,14,83,50,51,24,43,44,20,133,134,77,111,112,78,80,135,136,113,114,79,115,116,117,140,118,119,120,81,82,47,48,49,22,23,142,141,101,102,63,64,121,122,35,84,85,143,144,123,124,86,71,126,125,87,52,53,54,25,26,27,28,6,12,11,10,9,8,65,66,67,68,69,70,100,62,38,36,37,34,13,15,16]
theorem en (i:Nat) {f:Nat} (h:ens[i]?=some f):Go.Abs.Enters Tryz.prog f:=Go.Abs.enters_of (by kernel_rfl) h
def FTc:FT:=⟨[3,4,5,9,22,29,79,109],[(25,4),(31,4),(49,12),(52,6),(64,4),(104,2)],[(3,1),(4,1),(9,1),(22,1),(25,4),(31,4),(49,12),(52,6),(104,2),(109,1)],[(25,[(0,0),(1,1),(2,2),(3,3)]),(31,[(0,0),(1,1),(2,2),(3,3)]),(39,[(0,0),(1,1)]),(49,[(0,0),(1,1),(2,2),(3,3),(4,4),(5,5),(6,6),(7,7),(8,8),(9,9),(10,10),(11,11)]),(52,[(0,0),(1,1)]),(104,[(0,0),(1,1)]),(118,[(0,0),(1,1)]),(149,[(0,0),(1,1)])],[(22,[nilD]),(25,[cI 0,cI 0,cI 0,cI 0]),(31,[cI 0,cI 0,cI 0,nilD]),(49,[cI 0,cI 0,cI 0,cS ([]:List UInt8),cS ([]:List UInt8),cI 0,cI 0,cI 0,cI 0,cB false,cI 0,cB false]),(52,[cI 0,cI 0,cI 0,cI 0,cI 0,cI 0]),(104,[cI 0,nilD])]⟩
theorem ftok:FTc.Ok Tryz.prog:=FT.ok_of (by kernel_rfl) ⟨⟨_,zr_22,rfl⟩,⟨_,zr_25,rfl⟩,⟨_,zr_31,rfl⟩,⟨_,zr_49,rfl⟩,⟨_,zr_52,rfl⟩,⟨_,zr_104,rfl⟩,trivial⟩
theorem s22:SlT Tryz.prog 22 5 1:=.of Tryz.underlying22 in_5 rfl rfl
theorem s29:SlT Tryz.prog 29 49 12:=.of Tryz.underlying29 in_49 rfl rfl
theorem s32:SlT Tryz.prog 32 64 4:=.of Tryz.underlying32 in_64 rfl rfl
theorem s44:SlT Tryz.prog 44 22 1:=.of Tryz.underlying44 in_22 rfl rfl
theorem s68:SlT Tryz.prog 68 3 1:=.of Tryz.underlying68 in_3 rfl rfl
theorem s102:SlT Tryz.prog 102 104 2:=.of Tryz.underlying102 in_104 rfl rfl
theorem s109:SlT Tryz.prog 109 9 1:=.of Tryz.underlying109 in_9 rfl rfl
end Go.Proofs.YthoengcicaicoaaGreatDoor
namespace Go.Abs
open Go.Proofs Go.Proofs.YthoengcicaicoaaGreatDoor
section
variable {f N p p':Nat} {S:Start} {Q:EV→St→Prop} {k k':List Item} {l o l' o':List Oper} {env env':Env} {st st':St} {ps:List Prop}
theorem ARun.A (n:Nat) (hs:List Hint) (h:goF Tryz.prog S.base FTc N n (.run k) env st hs=some ⟨.run k',env',st',ps⟩) (hp:AllP ps) (hk:ARun Tryz.prog f N S Q k' env' st'):ARun Tryz.prog f N S Q k env st:=goF_sound ftok hMix h hp hk
theorem ARun.B (n:Nat) (hs:List Hint) (h:goF Tryz.prog S.base FTc N n (.run k) env st hs=some ⟨.ops l' o' k',env',st',ps⟩) (hp:AllP ps) (hk:AOps Tryz.prog f N S Q l' o' k' env' st'):ARun Tryz.prog f N S Q k env st:=goF_sound ftok hMix h hp hk
theorem ARun.C (n:Nat) (hs:List Hint) (h:goF Tryz.prog S.base FTc N n (.run k) env st hs=some ⟨.draw l' p' o' k',env',st',ps⟩) (hp:AllP ps) (hk:DOps Tryz.prog f N S Q l' p' o' k' env' st'):ARun Tryz.prog f N S Q k env st:=goF_sound ftok hMix h hp hk
theorem AOps.A (n:Nat) (hs:List Hint) (h:goF Tryz.prog S.base FTc N n (.ops l o k) env st hs=some ⟨.run k',env',st',ps⟩) (hp:AllP ps) (hk:ARun Tryz.prog f N S Q k' env' st'):AOps Tryz.prog f N S Q l o k env st:=goF_sound ftok hMix h hp hk
theorem AOps.B (n:Nat) (hs:List Hint) (h:goF Tryz.prog S.base FTc N n (.ops l o k) env st hs=some ⟨.ops l' o' k',env',st',ps⟩) (hp:AllP ps) (hk:AOps Tryz.prog f N S Q l' o' k' env' st'):AOps Tryz.prog f N S Q l o k env st:=goF_sound ftok hMix h hp hk
theorem AOps.C (n:Nat) (hs:List Hint) (h:goF Tryz.prog S.base FTc N n (.ops l o k) env st hs=some ⟨.draw l' p' o' k',env',st',ps⟩) (hp:AllP ps) (hk:DOps Tryz.prog f N S Q l' p' o' k' env' st'):AOps Tryz.prog f N S Q l o k env st:=goF_sound ftok hMix h hp hk
theorem DOps.C (n:Nat) (hs:List Hint) (h:goF Tryz.prog S.base FTc N n (.draw l p o k) env st hs=some ⟨.draw l' p' o' k',env',st',ps⟩) (hp:AllP ps) (hk:DOps Tryz.prog f N S Q l' p' o' k' env' st'):DOps Tryz.prog f N S Q l p o k env st:=goF_sound ftok hMix h hp hk
theorem ARun.R {fn:Func} {xs:List ResultVar} {es:List EV} (hf:Tryz.prog.funcs[f]?=some fn) (hr:fn.results=xs.toArray) (h:resV FTc env st xs=some es) (hQ:Q (retEV es) st):ARun Tryz.prog f N S Q (.code .ret :: k) env st:=.rc ftok hf hr h hQ
end
end Go.Abs
namespace Go.Proofs.YthoengcicaicoaaGreatDoor
end Go.Proofs.YthoengcicaicoaaGreatDoor
