/- Our own texts XF0 XG0 E1 Sh LX LW0 LW1 LW2 LW3 LW4 LW5 LW6 R1 JA KA KB KC KD KE KF KG C1 of this seat in one. -/
import Derived.Test.YtajciinoiacpmaaDoorYE1
import Derived.Sort.Grow
import Derived.Deep.Draws
import Derived.Shelf.Strings.Builder1
import Derived.Shelf.Strings.Builder2
import Derived.Shelf.Strings.OnBuilder
import Derived.Shelf.Strconv.Itoa0
import Derived.Shelf.Strconv.Itoa1
import Derived.Shelf.LaysM
import Derived.Shelf.Strconv.Itoa2
import Derived.Shelf.Strconv.Itoa3
import Derived.Test.YtajciinoiacpmaaDoorProg
import Derived.Lib.ItoaLen
import Derived.Deep.Slices
import Derived.ChangeArms
set_option linter.unusedSimpArgs false
set_option linter.unusedVariables false
set_option linter.unusedSectionVars false
set_option maxRecDepth 100000
set_option maxHeartbeats 4000000
namespace Go.Proofs.YtajciinoiacpmaaDoor
open Go.RowKit Go.Abs
theorem rep_midRecord (w:World) {base b n c i j m uc:Nat} {A:Option Addr} {xs ys:List Value} (hs:w.ownsRow base 32 12 (.slice (some ⟨b,0,none⟩) n c) n xs) (hu:Go.Abs.Src Tryd.prog w 12 (.slice A m uc) m ys) (hi:i < j) (hj:j < n) (hm:m≤j-i) (hb:n≤1000000000) (h1x:∀ x∈xs,x.oneCell'=true) :
  Calls Tryd.prog 55 #[.slice (some ⟨b,0,none⟩) n c,.int .i64 i,.int .i64 j,.slice A m uc] w fun e w'=>∃ v',e=.returned v'∧TurnedRecord base w (.slice (some ⟨b,0,none⟩) n c) (i+m+(n-j)) (xs.take (i*12)++ys++xs.drop (j*12)) v' w':=by
 have t3:=Tryd.underlying3; have t22:=Tryd.underlying22
 have u3:=run_underlying Tryd.underlying3; have u22:=run_underlying Tryd.underlying22
 obtain ⟨hbb,hnc,hcm,cur,hg,hcs,htk⟩:=own_cellsRecord hs
 obtain ⟨inf,hinf,hz,hsz,hby⟩:=in_32
 simp only [maxLen] at hcm
 have mixed:=hMix
 generalize hzv:(Value.agg _)=zv at hz
 have hzc:zv.cells.size=12:=by rw [←hzv]; rfl
 have hxl:=hs.1
 have hyl:=hu.size
 have hcl:cur.toList.length=c*12:=by simpa using hcs
 obtain ⟨T,hT⟩:∃ T,i+m+(n-j)=T:=⟨_,rfl⟩
 have hTi:(i:Int)+(m:Int)+((n-j:Nat):Int)=(T:Int):=by omega
 have hTn:T≤n:=by omega
 have hz1:∀ v∈(Builtin.zeroCells zv.cells (n-T)).toList,v.oneCell'=true:=zeroCells_one (by rw [hzc,←hzv]; decide)
 have hne1:¬ ((i:Int)=(j:Int)):=by omega
 have hne2:¬ ((j:Int)=(n:Int)):=by omega
 have hw1:IntKind.i64.wrap ((i:Int)+(m:Int))=(i:Int)+(m:Int):=by rw [IntKind.wrap_i64]; omega
 have hw2:IntKind.i64.wrap ((i:Int)+(m:Int)+((n-j:Nat):Int))=(T:Int):=by rw [IntKind.wrap_i64]; omega
 have htc:¬ ((c:Int) < (T:Int)):=by omega
 have hb1:(0:Int)≤(i:Int)+(m:Int):=by omega
 have htn:((i:Int)+(m:Int)).toNat=i+m:=by omega
 have hle1:(i:Int)+(m:Int)≤(j:Int):=by omega
 have hle2:(i:Int)+(m:Int)≤(T:Int):=by omega
 have hTc:T≤c:=by omega
 have hin:i≤n:=by omega
 have hin2:i≤c:=by omega
 have hiT:i≤T:=by omega
 have hjn:j≤n:=by omega
 have hij:i≤j:=by omega
 have hci:¬ (c=i):=by omega
 have hcj:¬ (c=j):=by omega
 have hcim:¬ (c=i+m):=by omega
 -- the first copy
 have hfit1:i*12+ys.length≤cur.toList.length:=by rw [hyl,hcl]; omega
 have hcp1:∀ ty dc,(Builtin.copy_ #[22,22] ty #[.slice (some ⟨b,i*12,none⟩) (T-i) dc,.slice A m uc]).run Tryd.prog w.drew=.ok (goInt m) (w.drew.setRow b (laid cur.toList (i*12) ys).toArray):=fun ty dc =>
  run_copyS w.drew Tryd.underlying22 hinf hsz hg (by omega) (hu.cells _ rfl) hu.one (by rw [←Array.length_toList]; exact hfit1)
 generalize hl1:laid cur.toList (i*12) ys=L1 at hcp1
 have hL1:L1.length=cur.toList.length:=by rw [←hl1]; exact laid_len hfit1
 have hg1:(w.drew.setRow b L1.toArray).heap[b]?=some (.cells L1.toArray 32 (0,0)):=setRow_heap w.drew b cur _ 32 (0,0) hg
 -- the second one
 have hdl:(xs.drop (j*12)).length=(n-j)*12:=by rw [List.length_drop,hxl]; omega
 have hcell:∀ k v,(xs.drop (j*12))[k]?=some v→(w.drew.setRow b L1.toArray).drew.cell? (Addr.add ⟨b,j*12,none⟩ k)=some v:=fun k v hk=>by
  have hkl:=(List.getElem?_eq_some_iff.1 hk).1
  rw [List.getElem?_drop] at hk
  rw [Addr.add_lit]
  have:(w.drew.setRow b L1.toArray).drew.cell? ⟨b,j*12+k,none⟩=L1[j*12+k]?:=by
   have:=cell_of_row (w.drew.setRow b L1.toArray) b (j*12+k) L1.toArray 32 (0,0) hg1
   simpa using this
  rw [this,←hl1,laid_get hfit1,if_neg (by rw [hyl]; omega),←hk,←htk,List.getElem?_take,if_pos (by omega)]
 have hmnB:Nat.min (n-j) (T-(i+m))=n-j:=nmin_eq (by omega)
 have hfit2:(i+m)*12+(xs.drop (j*12)).length≤L1.length:=by rw [hdl,hL1,hcl]; omega
 have hcp2:∀ ty dc sc,(Builtin.copy_ #[22,22] ty #[.slice (some ⟨b,(i+m)*12,none⟩) (T-(i+m)) dc,.slice (some ⟨b,j*12,none⟩) (n-j) sc]).run Tryd.prog (w.drew.setRow b L1.toArray).drew=.ok (goInt (Nat.min (n-j) (T-(i+m)))) ((w.drew.setRow b L1.toArray).drew.setRow b (laid L1 ((i+m)*12) (xs.drop (j*12))).toArray):=fun ty dc sc =>
  run_copyR (w.drew.setRow b L1.toArray).drew Tryd.underlying22 hinf hsz hg1 (by rw [hdl,hmnB]) hcell (fun v hv=>h1x v (List.mem_of_mem_drop hv)) (by rw [←Array.length_toList]; exact hfit2)
 generalize hl2:laid L1 ((i+m)*12) (xs.drop (j*12))=L2 at hcp2
 have hL2:L2.length=L1.length:=by rw [←hl2]; exact laid_len hfit2
 have hg2:((w.drew.setRow b L1.toArray).drew.setRow b L2.toArray).heap[b]?=some (.cells L2.toArray 32 (0,0)):=setRow_heap (w.drew.setRow b L1.toArray).drew b _ _ 32 (0,0) hg1
 have hT1:L1.take ((i+m)*12)=xs.take (i*12)++ys:=by
  have e1:(cur.toList.take ((i+m)*12)).drop (i*12+ys.length)=[]:=List.drop_eq_nil_of_le (by rw [List.length_take,hyl]; omega)
  rw [←hl1,take_laid hfit1 (by rw [hyl]; omega),e1,List.append_nil,←htk,List.take_take,show min (i*12) (n*12)=i*12 from by omega]
 have hT2:L2.take (T*12)=xs.take (i*12)++ys++xs.drop (j*12):=by
  have e1:(L1.take (T*12)).drop ((i+m)*12+(xs.drop (j*12)).length)=[]:=List.drop_eq_nil_of_le (by rw [List.length_take,hdl]; omega)
  rw [←hl2,take_laid hfit2 (by rw [hdl]; omega),e1,List.append_nil,hT1]
 have hlen:(xs.take (i*12)++ys++xs.drop (j*12)).length=T*12:=by simp only [List.length_append,List.length_take,List.length_drop]; omega
 rw [hT]
 have hos:∀ k,k < w.heap.size→some k≠Value.ownBlock (.slice (some ⟨b,0,none⟩) n c)→((w.drew.setRow b L1.toArray).drew.setRow b L2.toArray).heap[k]?=w.heap[k]?:=fun k hk hkb=>by
  rw [setRow_other _ b k _ (fun e=>hkb (by rw [e]; rfl))]
  show (w.drew.setRow b L1.toArray).heap[k]?=_
  rw [setRow_other _ b k _ (fun e=>hkb (by rw [e]; rfl))]; rfl
 by_cases hTe:T=n
 ·have hfin:TurnedRecord base w (.slice (some ⟨b,0,none⟩) n c) T (xs.take (i*12)++ys++xs.drop (j*12)) (.slice (some ⟨b,0,none⟩) T c) ((w.drew.setRow b L1.toArray).drew.setRow b L2.toArray) :=
   ⟨⟨hlen,.inr ⟨b,c,_,rfl,hbb,hg2,hTc,by simp only [maxLen]; omega,by rw [List.size_toArray,hL2,hL1,hcl],by rw [List.toList_toArray,hT2]⟩⟩,.inl ⟨rfl,by simp,⟨rfl,rfl,rfl,by simp,hos⟩⟩⟩
  have hclr:∀ (W:World) (A:Option Addr) ty dc,(Builtin.clear_ #[22] ty #[.slice A 0 dc]).run Tryd.prog W=.ok (.tuple #[]) W:=fun W A ty dc=>run_clear_none W Tryd.underlying22
  have hz0:n-T=0:=by omega
  clear hTe
  rw [List.append_assoc] at hfin ⊢
  rcases Decidable.em (c=T) with hcT | hcT
  ·subst hcT
   go_enter Tryd.func55,Tryd.ntmps55
   go_wp2
   go_region
   go_wp2_with (at_builtin; refine wpList_copy_r _ rfl _ _ 22 22 rfl _ _ rfl rfl (hcp1 _ _) ?_)
   go_region_law_o (refine step_copy_r rfl _ _ 22 22 rfl _ _ (by simp [Act.eval,Act.put]) (by simp [Act.eval,Act.put]) (hcp2 _ _ _) ?_)
   go_wp2_with (at_builtin; refine wpList_clear_r _ rfl _ 22 rfl _ rfl (hclr _ _ _ _) ?_)
   all_goals (go_ret; exact ⟨_,rfl,hfin⟩)
  ·go_enter Tryd.func55,Tryd.ntmps55
   go_wp2
   go_region
   go_wp2_with (at_builtin; refine wpList_copy_r _ rfl _ _ 22 22 rfl _ _ rfl rfl (hcp1 _ _) ?_)
   go_region_law_o (refine step_copy_r rfl _ _ 22 22 rfl _ _ (by simp [Act.eval,Act.put]) (by simp [Act.eval,Act.put]) (hcp2 _ _ _) ?_)
   go_wp2_with (at_builtin; refine wpList_clear_r _ rfl _ 22 rfl _ rfl (hclr _ _ _ _) ?_)
   all_goals (go_ret; exact ⟨_,rfl,hfin⟩)
 ·have hfitz:T*12+(Builtin.zeroCells zv.cells (n-T)).toList.length≤L2.length:=by rw [Array.length_toList,size_zeroCells,hzc,hL2,hL1,hcl]; omega
  have hclr:∀ ty dc,(Builtin.clear_ #[22] ty #[.slice (some ⟨b,T*12,none⟩) (n-T) dc]).run Tryd.prog ((w.drew.setRow b L1.toArray).drew.setRow b L2.toArray)=.ok (.tuple #[]) (((w.drew.setRow b L1.toArray).drew.setRow b L2.toArray).setRow b (laid L2 (T*12) (Builtin.zeroCells zv.cells (n-T)).toList).toArray):=fun ty dc=>by
   have:=run_clearR (P:=Tryd.prog) (ty:=ty) (c:=dc) ((w.drew.setRow b L1.toArray).drew.setRow b L2.toArray) (o:=T*12) (n:=n-T) Tryd.underlying22 hinf hz hzc hg2 (by omega) (by rw [List.size_toArray,hL2,hL1,hcl]; omega) hz1
   exact this
  generalize hl3:laid L2 (T*12) (Builtin.zeroCells zv.cells (n-T)).toList=L3 at hclr
  have hL3:L3.length=L2.length:=by rw [←hl3]; exact laid_len hfitz
  have hT3:L3.take (T*12)=xs.take (i*12)++ys++xs.drop (j*12):=by rw [←hl3,take_laid0 hfitz (Nat.le_refl _),hT2]
  have hcT:¬ (c=T):=by omega
  have hfin:TurnedRecord base w (.slice (some ⟨b,0,none⟩) n c) T (xs.take (i*12)++ys++xs.drop (j*12)) (.slice (some ⟨b,0,none⟩) T c) (((w.drew.setRow b L1.toArray).drew.setRow b L2.toArray).setRow b L3.toArray) :=
   ⟨⟨hlen,.inr ⟨b,c,_,rfl,hbb,setRow_heap _ b _ _ 32 (0,0) hg2,hTc,by simp only [maxLen]; omega,by rw [List.size_toArray,hL3,hL2,hL1,hcl],by rw [List.toList_toArray,hT3]⟩⟩,.inl ⟨rfl,by simp,⟨rfl,rfl,rfl,by simp,fun k hk hkb=>by rw [setRow_other _ b k _ (fun e=>hkb (by rw [e]; rfl))]; exact hos k hk hkb⟩⟩⟩
  rw [List.append_assoc] at hfin ⊢
  go_enter Tryd.func55,Tryd.ntmps55
  go_wp2
  go_region
  go_wp2_with (at_builtin; refine wpList_copy_r _ rfl _ _ 22 22 rfl _ _ rfl rfl (hcp1 _ _) ?_)
  go_region_law_o (refine step_copy_r rfl _ _ 22 22 rfl _ _ (by simp [Act.eval,Act.put]) (by simp [Act.eval,Act.put]) (hcp2 _ _ _) ?_)
  go_wp2_with (at_builtin; refine wpList_clear_r _ rfl _ 22 rfl _ rfl (hclr _ _) ?_)
  all_goals (go_ret; exact ⟨_,rfl,hfin⟩)
set_option maxRecDepth 100000
set_option maxHeartbeats 4000000
theorem c_x_ReplaceRecord {l l':List Record} {n0:Nat} {i j:Int} {r:List Record} (H:x_ReplaceRecord i j l' l=some r) :
  ACallS Tryd.prog 55 [.vc 0 n0,.d (cI i),.d (cI j),.d (slOf 12 Record.row l')] ⟨[],[⟨32,12,n0,some (l.map Record.row)⟩]⟩
   (QE (.vc 1 r.length) ⟨[],[⟨32,12,([]:List Record).length,none⟩,⟨32,12,r.length,some (r.map Record.row)⟩]⟩):=by
 obtain ⟨hk,H⟩:=ck_some H
 cases H
 intro g w base vs hinv ha
 obtain ⟨x,y,z,u,rfl,e1,e2,e3,e4⟩:=args4 rfl ha
 obtain ⟨k0,k1,k2,k3,k4⟩:=hk
 have e2':y=.int .i64 i:=e2.ex_inv
 have e3':z=.int .i64 j:=e3.ex_inv
 subst e2'; subst e3'
 obtain ⟨xs,s1,s2,s3⟩:=hinv.own 0 _ _ _ _ rfl
 have hn0:n0=l.length:=by have:=s3.len; simpa using this.symm
 have e4':DRep g.lim w (.sl 12 (l'.map Record.row)) u:=by cases e4 with | d _ _ h=>exact h
 obtain ⟨ys,hsr⟩:=srcRep_sl (P:=Tryd.prog) e4'
 obtain ⟨A,uc,hu⟩:=sl_form e4'
 have hsrc:=hsr.src
 rw [List.length_map] at hu hsrc
 subst hu
 have hx:x=g.tk 0:=by
  rcases vc_or hinv rfl e1 with h | ⟨_,h,_⟩
  ·exact h
  ·have:l=[]:=by simpa using h
   rw [this] at k2; simp at k2; omega
 subst hx
 obtain ⟨i',rfl⟩:∃ q:Nat,i=(q:Int):=⟨i.toNat,by omega⟩
 obtain ⟨j',rfl⟩:∃ q:Nat,j=(q:Int):=⟨j.toNat,by omega⟩
 have hys:RowsRep g.lim w 12 l'.length (l'.map Record.row) ys:=⟨by simp,hsr.rows,fun q c v hc hv=>hsr.rep q v c hv hc⟩
 have hrow:=s3.repl s1.1 hys hsrc.size (i:=i') (j:=j') (by omega) (by omega)
 have hrows:(l.map Record.row).take i'++l'.map Record.row++(l.map Record.row).drop j'=(l.take i'++l'++l.drop j').map Record.row:=by simp [List.map_take,List.map_drop]
 rw [hrows] at hrow
 have hlen:(l.take i'++l'++l.drop j').length=i'+l'.length+(n0-j'):=by simp; omega
 obtain ⟨b,c,hv⟩:=(own_form s1).2 (by omega)
 have h1x:=s3.one s1.1
 have fin:∀ e w',(∃ v',e=.returned v'∧TurnedRecord base w (g.tk 0) (i'+l'.length+(n0-j')) (xs.take (i'*12)++ys++xs.drop (j'*12)) v' w') →
   RPost ⟨g,w,⟨[],[⟨32,12,n0,some (l.map Record.row)⟩]⟩,base⟩ (QE (.vc 1 (l.take (i':Int).toNat++l'++l.drop (j':Int).toNat).length) ⟨[],[⟨32,12,([]:List Record).length,none⟩,⟨32,12,(l.take (i':Int).toNat++l'++l.drop (j':Int).toNat).length,some ((l.take (i':Int).toNat++l'++l.drop (j':Int).toNat).map Record.row)⟩]⟩) e w':=by
  rintro e w' ⟨v',rfl,ho,hc⟩
  rw [Int.toNat_natCast,Int.toNat_natCast,hlen]
  exact renew_post hinv (tk:=0) rfl rfl ho hc hrow
 refine Calls.mono ?_ fin
 have s1':=s1
 rw [hv] at s1' ⊢
 by_cases hjn:j'=n0
 ·subst hjn
  have:=rep_endRecord w s1' hsrc (i:=i') (by omega) (by omega) (by omega)
  rw [Nat.sub_self,Nat.add_zero,List.drop_eq_nil_of_le (by rw [s1.1]; exact Nat.le_refl _),List.append_nil]
  exact this
 ·exact rep_midRecord w s1' hsrc (by omega) (by omega) (by omega) (by omega) h1x
theorem c_x_CloneRecordV {l r:List Record} (H:x_CloneRecord l=some r):ACallS Tryd.prog 28 [.d (slOf 12 Record.row l)] ⟨[],[]⟩ (QE (.vc 0 r.length) ⟨[],[⟨32,12,r.length,some (r.map Record.row)⟩]⟩):=by
 obtain ⟨hk,H⟩:=ck_some H
 cases H
 obtain ⟨i32,hi32,hz32,hs32,hb32⟩:=in_32
 refine ACallS.keep ?_
 refine ACallS.enter Tryd.func28 rfl Tryd.ntmps28 rfl fun S hS=>?_
 refine .B 8 [] rfl trivial ?_
 refine .slNil Tryd.underlying22 rfl rfl fun b hb=>?_
 refine .A 1 [] rfl trivial ?_
 refine .cond rfl (fun hc=>?_) (fun hc=>?_)
 ·have hl:l=[]:=by simpa using hb hc
  subst hl
  refine .A 4 [] rfl trivial ?_
  refine .tokV (i:=2) (e:=32) (sz:=12) rfl ?_
  refine .R Tryd.func28 Tryd.results28 rfl ?_
  exact ⟨[],[0],rfl,rfl,rfl,rfl,rfl,rfl,rfl,rfl,.rfl' _⟩
 ·refine .B 3 [] rfl trivial ?_
  refine .v (x:=.vc 0 ([]:List Record).length) (v_build0V Record.row Tryd.underlying22 hi32 hs32) rfl ?_
  refine .withSt (st':=⟨[],[⟨32,12,([]:List Record).length,some (([]:List Record).map Record.row)⟩]⟩) rfl ?_
  refine .B 1 [] rfl trivial ?_
  refine .v (x:=.vc 0 (([]:List Record)++l).length) (v_appendV (l:=[]) (l':=l) (row:=Record.row) Tryd.underlying22 hi32 hz32 hs32 rfl (by rw [hb32]; decide) rfl rfl rfl rfl (by simpa using hk)) rfl ?_
  refine .withSt (st':=⟨[],[⟨32,12,(([]:List Record)++l).length,some ((([]:List Record)++l).map Record.row)⟩]⟩) rfl ?_
  refine .A 2 [] rfl trivial ?_
  refine .R Tryd.func28 Tryd.results28 rfl ?_
  exact ⟨[],[0],rfl,rfl,rfl,rfl,rfl,rfl,rfl,rfl,.rfl' _⟩
theorem c_x_CloneRecord {l r:List Record} (H:x_CloneRecord l=some r):ACall Tryd.prog 28 [slOf 12 Record.row l] (·=slOf 12 Record.row r):=.of (c_x_CloneRecordV H).letgo
end Go.Proofs.YtajciinoiacpmaaDoor
namespace Go.Abs
open Go.RowKit
theorem DArgs.one {lim:Nat→Nat} {w:World} {d:D} {vs:Array Value} (h:DArgs lim w [d] vs):∃ v,vs=#[v]∧DRep lim w d v:=by
 obtain ⟨h1,h2⟩:=h
 match vs,h1 with
 | ⟨[v]⟩,_=>exact ⟨v,rfl,h2 0 d v rfl rfl⟩
theorem DArgs.two {lim:Nat→Nat} {w:World} {d e:D} {vs:Array Value} (h:DArgs lim w [d,e] vs):∃ v u,vs=#[v,u]∧DRep lim w d v∧DRep lim w e u:=by
 obtain ⟨h1,h2⟩:=h
 match vs,h1 with
 | ⟨[v,u]⟩,_=>exact ⟨v,u,rfl,h2 0 d v rfl rfl,h2 1 e u rfl rfl⟩
theorem below_grow (w:World) (k:Nat) (os:Array Obj):Below w.heap.size w (Go.Sort.grow (w.drewN k) os) :=
 ⟨rfl,rfl,rfl,by simp [Go.Sort.grow],fun b hb=>by
  show ((w.drewN k).heap++os)[b]?=_
  rw [Array.getElem?_append_left (show b < (w.drewN k).heap.size from hb)]
  rfl⟩
theorem ACall.lib {P:Program} {f:FuncId} {args:List D} {u:Value}
  (h:∀ lim w vs,Globs w.heap.size w→DArgs lim w args vs→Calls P f vs w fun e w'=>e=.returned u∧Below w.heap.size w w'):ACall P f args (·=.ex u):=by
 intro lim w vs hg ha
 refine (h lim w vs hg ha).mono ?_
 rintro e w' ⟨rfl,hb⟩
 exact ⟨u,.ex u,lim,rfl,rfl,.ex u,⟨hb.size,fun _ _=>Nat.le_refl _,fun b off hb' _=>hb.cell (p:=⟨b,off,none⟩) hb'⟩,hb,fun _ _=>rfl⟩
theorem strs_cells {lim:Nat→Nat} {w:World} {xs:List (List UInt8)} {v:Value} (h:DRep lim w (.sl 1 (xs.map rS)) v) :
  (∃ A c,v=.slice A 0 c∧xs=[])∨∃ b off c,v=.slice (some ⟨b,off,none⟩) xs.length c∧xs.length≤c∧b < w.heap.size∧∀ (j:Nat) x,xs[j]?=some x→w.cell? ⟨b,off+j,none⟩=some (.string ⟨x.toArray⟩):=by
 generalize hr:xs.map rS=rows at h
 cases h with
 | nil _ A =>
  have:xs=[]:=by simpa using hr
  exact .inl ⟨A,0,rfl,this⟩
 | sl _ _ b off c hc hrow hx hcell =>
  subst hr
  rw [List.length_map] at *
  by_cases h0:xs=[]
  ·subst h0; exact .inl ⟨_,c,rfl,rfl⟩
  ·refine .inr ⟨b,off,c,rfl,hc,?_,fun j x hj=>?_⟩
   ·have hl:0 < xs.length:=List.length_pos_iff.2 h0
    obtain ⟨_,u,hu,_⟩:=hx 0 (by omega)
    exact World.block_lt_of_cell? w _ hu
   ·have hjl:=(List.getElem?_eq_some_iff.1 hj).1
    obtain ⟨_,u,hu,_⟩:=hx j (by omega)
    have:=hcell j 0 (rS x) (.ex (.string ⟨x.toArray⟩)) u (by rw [List.getElem?_map,hj]; rfl) rfl (by rw [Nat.mul_one,Nat.add_zero]; exact hu)
    rw [hu,drep_ex this]
end Go.Abs
namespace Go.Proofs.YtajciinoiacpmaaDoor
open Go.Shelf
def Tryd.lays156_ren:Go.Shelf.Ren:=⟨fun | 156=>70 | 165=>74 | 166=>75 | 169=>76 | 240=>79 | 241=>80 | 276=>85 | 277=>86 | n=>n,fun | 31=>88 | 9=>9 | 3=>3 | 4=>4 | 0=>0 | 20=>20 | 72=>93 | 76=>97 | 70=>90 | 37=>91 | 75=>96 | 127=>102 | 164=>109 | 5=>5 | 80=>99 | n=>n,fun | n=>n⟩
theorem Tryd.lays156:Go.Proofs.Lays.n156 Tryd.prog Tryd.lays156_ren:={
 mixed:=by kernel_rfl
 f156:=Tryd.func70.trans (congrArg some (by kernel_rfl))
 f165:=Tryd.func74.trans (congrArg some (by kernel_rfl))
 f166:=Tryd.func75.trans (congrArg some (by kernel_rfl))
 f169:=Tryd.func76.trans (congrArg some (by kernel_rfl))
 f240:=Tryd.func79.trans (congrArg some (by kernel_rfl))
 f241:=Tryd.func80.trans (congrArg some (by kernel_rfl))
 f276:=Tryd.func85.trans (congrArg some (by kernel_rfl))
 f277:=Tryd.func86.trans (congrArg some (by kernel_rfl))
 t0:=Tryd.underlying0
 a0:=Tryd.isAgg0
 z0:=Tryd.sizeOf0
 v0:=Tryd.zeroValue0
 t3:=Tryd.underlying3
 a3:=Tryd.isAgg3
 z3:=Tryd.sizeOf3
 v3:=Tryd.zeroValue3
 t4:=Tryd.underlying4
 a4:=Tryd.isAgg4
 z4:=Tryd.sizeOf4
 v4:=Tryd.zeroValue4
 t9:=Tryd.underlying9
 a9:=Tryd.isAgg9
 z9:=Tryd.sizeOf9
 v9:=Tryd.zeroValue9
 t20:=Tryd.underlying20
 a20:=Tryd.isAgg20
 z20:=Tryd.sizeOf20
 v20:=Tryd.zeroValue20
 t31:=Tryd.underlying88
 a31:=Tryd.isAgg88
 z31:=Tryd.sizeOf88
 v31:=Tryd.zeroValue88
 t37:=Tryd.underlying91
 a37:=Tryd.isAgg91
 z37:=Tryd.sizeOf91
 v37:=Tryd.zeroValue91
 t70:=Tryd.underlying90
 a70:=Tryd.isAgg90
 z70:=Tryd.sizeOf90
 v70:=Tryd.zeroValue90
 t72:=Tryd.underlying93
 a72:=Tryd.isAgg93
 z72:=Tryd.sizeOf93
 v72:=Tryd.zeroValue93
 t75:=Tryd.underlying96
 a75:=Tryd.isAgg96
 z75:=Tryd.sizeOf96
 v75:=Tryd.zeroValue96
 t76:=Tryd.underlying97
 a76:=Tryd.isAgg97
 z76:=Tryd.sizeOf97
 v76:=Tryd.zeroValue97
 t127:=Tryd.underlying102
 a127:=Tryd.isAgg102
 z127:=Tryd.sizeOf102
 v127:=Tryd.zeroValue102
 t164:=Tryd.underlying109
 a164:=Tryd.isAgg109
 z164:=Tryd.sizeOf109
 v164:=Tryd.zeroValue109 }
theorem Tryd.Builder_Extra_156:Builder.Extra Tryd.prog Tryd.lays156_ren:={
 sizeBuilder:=by kernel_rfl
 liesBuilder:=by kernel_rfl
 t5:=Tryd.underlying5
 a5:=Tryd.isAgg5
 z5:=Tryd.sizeOf5
 v5:=Tryd.zeroValue5
 infoByte:=by kernel_rfl
 cellsByte:=by kernel_rfl
 sizeByte:=by kernel_rfl
 neB5:=by decide }
open Go.RowKit in
theorem Tryd.strings_Join_none (a:Option Addr) (c:Nat) (sep:ByteArray) (w:World) :
  Calls Tryd.prog 70 #[.slice a 0 c,.string sep] w fun e w'=>e=.returned (.string ⟨#[]⟩)∧w'=w:=Any.strings_Join_none Tryd.lays156 Tryd.Builder_Extra_156 a c sep w
open Go.RowKit in
theorem Tryd.strings_Join (bk o c:Nat) (xs:List ByteArray) (sep:ByteArray) (w:World) (hcells:∀ (j:Nat) x,xs[j]?=some x→w.cell? ⟨bk,o+j,none⟩=some (.string x)) (hbk:bk < w.heap.size) (hN:xs.length≤140737488355328) (hcap:xs.length≤c) (hlen:(Lib.join (xs.map (·.data.toList)) sep.data.toList).length≤140737488355328) :
  Calls Tryd.prog 70 #[.slice (some ⟨bk,o,none⟩) xs.length c,.string sep] w fun e w'=>e=.returned (.string ⟨(Lib.join (xs.map (·.data.toList)) sep.data.toList).toArray⟩)∧Below w.heap.size w w':=Any.strings_Join Tryd.lays156 Tryd.Builder_Extra_156 bk o c xs sep w hcells hbk hN hcap hlen
def Tryd.laysM171_ren:Go.Shelf.Ren:=⟨fun | 171=>69 | 243=>73 | 246=>78 | 283=>81 | 284=>82 | 285=>83 | 286=>84 | 129=>88 | 317=>87 | 318=>89 | 319=>90 | 320=>91 | 337=>92 | 338=>93 | n=>n,fun | 3=>3 | 9=>9 | 2=>2 | 4=>4 | 171=>103 | 0=>0 | 53=>104 | 37=>91 | 5=>5 | 173=>107 | 212=>114 | 51=>115 | 20=>20 | 213=>116 | 46=>117 | 232=>120 | 233=>121 | n=>n,fun | 17=>0 | 18=>2 | 19=>3 | n=>n⟩
theorem Tryd.laysM171:Go.Proofs.LaysM.n171 Tryd.prog Tryd.laysM171_ren:={
 mixed:=by kernel_rfl
 f129:=Tryd.func88.trans (congrArg some (by kernel_rfl))
 f171:=Tryd.func69.trans (congrArg some (by kernel_rfl))
 f243:=Tryd.func73.trans (congrArg some (by kernel_rfl))
 f246:=Tryd.func78.trans (congrArg some (by kernel_rfl))
 f283:=Tryd.func81.trans (congrArg some (by kernel_rfl))
 f284:=Tryd.func82.trans (congrArg some (by kernel_rfl))
 f285:=Tryd.func83.trans (congrArg some (by kernel_rfl))
 f286:=Tryd.func84.trans (congrArg some (by kernel_rfl))
 f317:=Tryd.func87.trans (congrArg some (by kernel_rfl))
 f318:=Tryd.func89.trans (congrArg some (by kernel_rfl))
 f319:=Tryd.func90.trans (congrArg some (by kernel_rfl))
 f320:=Tryd.func91.trans (congrArg some (by kernel_rfl))
 f337:=Tryd.func92.trans (congrArg some (by kernel_rfl))
 f338:=Tryd.func93.trans (congrArg some (by kernel_rfl))
 t0:=Tryd.underlying0
 a0:=Tryd.isAgg0
 z0:=Tryd.sizeOf0
 v0:=Tryd.zeroValue0
 t2:=Tryd.underlying2
 a2:=Tryd.isAgg2
 z2:=Tryd.sizeOf2
 v2:=Tryd.zeroValue2
 t3:=Tryd.underlying3
 a3:=Tryd.isAgg3
 z3:=Tryd.sizeOf3
 v3:=Tryd.zeroValue3
 t4:=Tryd.underlying4
 a4:=Tryd.isAgg4
 z4:=Tryd.sizeOf4
 v4:=Tryd.zeroValue4
 t5:=Tryd.underlying5
 a5:=Tryd.isAgg5
 z5:=Tryd.sizeOf5
 v5:=Tryd.zeroValue5
 t9:=Tryd.underlying9
 a9:=Tryd.isAgg9
 z9:=Tryd.sizeOf9
 v9:=Tryd.zeroValue9
 t20:=Tryd.underlying20
 a20:=Tryd.isAgg20
 z20:=Tryd.sizeOf20
 v20:=Tryd.zeroValue20
 t37:=Tryd.underlying91
 a37:=Tryd.isAgg91
 z37:=Tryd.sizeOf91
 v37:=Tryd.zeroValue91
 t46:=Tryd.underlying117
 a46:=Tryd.isAgg117
 z46:=Tryd.sizeOf117
 v46:=Tryd.zeroValue117
 t51:=Tryd.underlying115
 a51:=Tryd.isAgg115
 z51:=Tryd.sizeOf115
 v51:=Tryd.zeroValue115
 t53:=Tryd.underlying104
 a53:=Tryd.isAgg104
 z53:=Tryd.sizeOf104
 v53:=Tryd.zeroValue104
 t171:=Tryd.underlying103
 a171:=Tryd.isAgg103
 z171:=Tryd.sizeOf103
 v171:=Tryd.zeroValue103
 t173:=Tryd.underlying107
 a173:=Tryd.isAgg107
 z173:=Tryd.sizeOf107
 v173:=Tryd.zeroValue107
 t212:=Tryd.underlying114
 a212:=Tryd.isAgg114
 z212:=Tryd.sizeOf114
 v212:=Tryd.zeroValue114
 t213:=Tryd.underlying116
 a213:=Tryd.isAgg116
 z213:=Tryd.sizeOf116
 t232:=Tryd.underlying120
 a232:=Tryd.isAgg120
 z232:=Tryd.sizeOf120
 v232:=Tryd.zeroValue120
 t233:=Tryd.underlying121
 a233:=Tryd.isAgg121
 z233:=Tryd.sizeOf121
 v233:=Tryd.zeroValue121
 g17:=by kernel_rfl
 g18:=by kernel_rfl
 g19:=by kernel_rfl
 i0:=by kernel_rfl
 i2:=by kernel_rfl
 i3:=by kernel_rfl
 i4:=by kernel_rfl
 i5:=by kernel_rfl
 i9:=by kernel_rfl
 i20:=by kernel_rfl
 i37:=by kernel_rfl
 i46:=by kernel_rfl
 i51:=by kernel_rfl
 i53:=by kernel_rfl
 i171:=by kernel_rfl
 i173:=by kernel_rfl
 i212:=by kernel_rfl
 i232:=by kernel_rfl
 i233:=by kernel_rfl
 m17:=by kernel_rfl
 m18:=by kernel_rfl
 m19:=by kernel_rfl }
open Go.RowKit Go.Sort Go.Lib in
theorem Tryd.strconv_Itoa (n:Int) (h0:-9223372036854775808≤n) (h1:n≤9223372036854775807) (w:World) (htab:Lib.TabIs Tryd.prog w "internal/strconv.uint64pow10" .u64 Lib.pow10Tab) :
  Calls Tryd.prog 69 #[.int .i64 n] w fun e w'=>e=.returned (.string ⟨(Lib.itoa n).toArray⟩)∧∃ k os,w'=grow (w.drewN k) os:=Any.strconv_Itoa Tryd.laysM171 n h0 h1 w htab
end Go.Proofs.YtajciinoiacpmaaDoor
namespace Go.Proofs.YtajciinoiacpmaaDoor
open Go.RowKit Go.Abs
theorem tab_is {w:World} (h:Globs w.heap.size w):Go.Lib.TabIs Tryd.prog w "internal/strconv.uint64pow10" .u64 Go.Lib.pow10Tab:=by
 obtain ⟨_,ty,fr,h2⟩:=h.1 (0,(Go.Lib.pow10Tab.map fun z=>Value.int .u64 z).toArray) (by simp [GL])
 have hn:Tryd.prog.globalNamed "internal/strconv.uint64pow10" = some 0:=by kernel_rfl
 unfold Go.Lib.TabIs World.var?
 rw [hn]
 simp only [Option.bind_some]
 simp only at h2
 rw [h2]
theorem c_x_Itoa {n:Int} {r:List UInt8} (H:x_Itoa n=some r):ACall Tryd.prog 69 [cI n] (·=cS r):=by
 obtain ⟨h,H⟩:=ck_some H; cases H
 refine ACall.lib fun lim w vs hg ha=>?_
 obtain ⟨v,rfl,hv⟩:=ha.one
 rw [drep_ex hv]
 refine (Tryd.strconv_Itoa n h.1 h.2 w (tab_is hg)).mono ?_
 rintro e w' ⟨rfl,k,os,rfl⟩
 exact ⟨rfl,below_grow w k os⟩
theorem c_x_Join {xs:List (List UInt8)} {sep r:List UInt8} (H:x_Join xs sep=some r):ACall Tryd.prog 70 [slOf 1 rS xs,cS sep] (·=cS r):=by
 obtain ⟨h,H⟩:=ck_some H; cases H
 refine ACall.lib fun lim w vs hg ha=>?_
 obtain ⟨v,u,rfl,hv,hu⟩:=ha.two
 rw [drep_ex hu]
 rcases strs_cells hv with ⟨A,c,rfl,rfl⟩ | ⟨b,off,c,rfl,hc,hb,hcell⟩
 ·exact (Tryd.strings_Join_none A c ⟨sep.toArray⟩ w).mono fun e w' ⟨he,hw⟩=>⟨he,hw▸Below.refl _ _⟩
 ·have hm:(xs.map fun x=>(⟨x.toArray⟩:ByteArray)).map (·.data.toList)=xs:=by simp [Function.comp_def]
  have:=Tryd.strings_Join b off c (xs.map fun x=>(⟨x.toArray⟩:ByteArray)) ⟨sep.toArray⟩ w (fun j x hj=>by
   rw [List.getElem?_map] at hj
   obtain ⟨y,hy,rfl⟩:=Option.map_eq_some_iff.1 hj
   exact hcell j y hy) hb (by simp; omega) (by simpa using hc) (by rw [hm]; simp; omega)
  rw [hm,List.length_map] at this
  exact this
end Go.Proofs.YtajciinoiacpmaaDoor
set_option maxRecDepth 100000
set_option maxHeartbeats 1000000
namespace Go.Proofs.YtajciinoiacpmaaDoor
open Go.RowKit Go.Abs Go.Proofs.Tryd
theorem c_f_w15_few {v0l:List Record} {v1most:Int} {r:Bool} (H:f_w15_few v0l v1most=some r):ACall prog 17 [slOf 12 Record.row v0l,cI v1most] (·=cB r):=by
 refine ACall.enter' func17 rfl ntmps17 rfl fun S hS=>?_
 unfold f_w15_few at H
 refine .A 9 [] rfl trivial ?_
 refine .blockJoin2 (ι:=Unit) (fun _=>[(0,.d (slOf 12 Record.row v0l)),(1,.d (cI v1most))]) (fun _=>⟨[],[]⟩) (fun s=>f_w15_few_j1 v0l v1most=some r) ?_ ?_
 ·rintro _ H
  replace H:f_w15_few_j1 v0l v1most=some r:=H
  unfold f_w15_few_j1 at H
  refine .A 8 [.i (v0l.length:Int)] rfl (s22.n rfl rfl) ?_
  refine .R func17 results17 rfl ?_
  cases H
  exact .m rfl (.rfl' _)
 ·intro hj1 hj1x
  obtain ⟨n1,H⟩:=loop_some H
  refine .loop (ι:=Nat×(Int)) (fun ⟨_,v5il1⟩=>[(0,.d (slOf 12 Record.row v0l)),(1,.d (cI v1most)),(5,.d (cI v5il1))]) (fun ⟨_,v5il1⟩=>⟨[],[]⟩) (fun p=>iter (fun s=>f_w15_few_l1 v0l v1most s) p.1 p.2=some r) (·.1) (n1,0) H (.cons rfl (.rfl' _) (.cons rfl (.rfl' _) (.cons rfl (.rfl' _) (.nil)))) rfl ?_
  rintro ⟨m1,v5il1⟩ HI ih1
  obtain ⟨n1,q1,hm1,H,HK1⟩:=iter_succ HI
  clear HI
  replace H:f_w15_few_l1 v0l v1most v5il1=some q1:=H
  unfold f_w15_few_l1 at H
  refine .A 13 [.i (v0l.length:Int)] rfl ⟨rfl,rfl,rfl,s22.n rfl rfl⟩ ?_
  refine .ite H rfl (fun H=>?_) (fun H=>?_)
  ·obtain ⟨hk1,H⟩:=ck_some H
   obtain ⟨hk2,H⟩:=ck_some H
   refine .A 22 [.d (.ro (Record.row (nth v0l v5il1.toNat))),.i (((nth v0l v5il1.toNat).a).length:Int),.d (.ro (Record.row (nth v0l v5il1.toNat))),.i (((nth v0l v5il1.toNat).b).length:Int)] rfl ⟨rfl,rfl,fun hg=>OpQ.g (q_lenS underlying9 rfl),rfl,rfl,rfl,fun hg=>s22.ix rfl rfl rfl (hk2 hg),rfl,rfl,OpQ.g (q_lenS underlying9 rfl),s22.ix rfl rfl rfl hk1⟩ ?_
   refine .ite H rfl (fun H=>?_) (fun H=>?_)
   ·refine .A 4 [] rfl trivial ?_
    refine .R func17 results17 rfl ?_
    cases H
    cases HK1
    exact .m rfl (.rfl' _)
   ·obtain ⟨hk3,H⟩:=ck_some H
    refine .A 7 [.i (v5il1+1)] rfl (g_addI rfl rfl hk3) ?_
    cases H
    exact .z (ih1 (n1,(v5il1+1)) HK1 hm1) rfl rfl
  ·refine .A 1 [] rfl trivial ?_
   obtain ⟨q0,H9,hq0⟩:=map_some' H; clear H; cases hq0
   cases HK1
   have H:=H9
   exact .z (hj1x () H) rfl rfl
theorem c_f_w15_part {v0serial:Int} {v1number:Int} {v2units:Int} {v3last:Bool} {r:Record} (H:f_w15_part v0serial v1number v2units v3last=some r):ACall prog 27 [cI v0serial,cI v1number,cI v2units,cB v3last] (·=.agg (Record.row r)):=by
 obtain ⟨i32,hi32,hz32,hs32,hb32⟩:=in_32
 refine ACall.enter' func27 rfl ntmps27 rfl fun S hS=>?_
 unfold f_w15_part at H
 refine .A 13 [.r 0,.d (.agg (Record.row (⟨1,v0serial,1,([49]:List UInt8),([50]:List UInt8),0,v2units,7,v1number,v3last,0,false⟩:Record)))] rfl (OpQ.g (q_buildP pl_32 hi32 hz32 rfl (by kernel_rfl))) ?_
 refine .R func27 results27 rfl ?_
 cases H
 exact .m rfl (.rfl' _)
theorem c_f_correlate_alone {v0r:Record} {r:Record} (H:f_correlate_alone v0r=some r):ACall prog 44 [.agg (Record.row v0r)] (·=.agg (Record.row r)):=by
 refine ACall.enter' func44 rfl ntmps44 rfl fun S hS=>?_
 unfold f_correlate_alone at H
 refine .A 19 [.r 0,.r 1] rfl trivial ?_
 refine .R func44 results44 rfl ?_
 cases H
 exact .m rfl (.rfl' _)
theorem c_f_textual_within {v0n:Int} {v1lo:Int} {v2hi:Int} {r:Bool} (H:f_textual_within v0n v1lo v2hi=some r):ACall prog 71 [cI v0n,cI v1lo,cI v2hi] (·=cB r):=by
 refine ACall.enter' func71 rfl ntmps71 rfl fun S hS=>?_
 unfold f_textual_within at H
 refine .A 16 [] rfl ⟨rfl,rfl,rfl⟩ ?_
 refine .R func71 results71 rfl ?_
 cases H
 exact .m rfl (.rfl' _)
theorem c_f_digits_digit {v0c:UInt8} {r:Bool} (H:f_digits_digit v0c=some r):ACall prog 77 [cU8 v0c] (·=cB r):=by
 refine ACall.enter' func77 rfl ntmps77 rfl fun S hS=>?_
 unfold f_digits_digit at H
 refine .A 14 [.b (decide (v0c≥48)),.b (decide (v0c≤57))] rfl ⟨rfl,fun hg=>OpQ.g (q8_leq (a:=v0c) (b:=57) rfl rfl),rfl,OpQ.g (q8_geq (a:=v0c) (b:=48) rfl rfl)⟩ ?_
 refine .R func77 results77 rfl ?_
 cases H
 exact .m rfl (.rfl' _)
theorem c_f_digits_Valid {v0s:List UInt8} {r:Bool} (H:f_digits_Valid v0s=some r):ACall prog 72 [cS v0s] (·=cB r):=by
 refine ACall.enter' func72 rfl ntmps72 rfl fun S hS=>?_
 unfold f_digits_Valid at H
 refine .A 11 [.i (v0s.length:Int)] rfl (OpQ.g (q_lenS underlying9 rfl)) ?_
 refine .blockJoin2 (ι:=Unit) (fun _=>[(0,.d (cS v0s))]) (fun _=>⟨[],[]⟩) (fun s=>f_digits_Valid_j1 v0s=some r) ?_ ?_
 ·rintro _ H
  replace H:f_digits_Valid_j1 v0s=some r:=H
  unfold f_digits_Valid_j1 at H
  refine .A 12 [.i (v0s.length:Int),.i (v0s.length:Int)] rfl ⟨rfl,rfl,fun hg=>OpQ.g (q_lenS underlying9 rfl),rfl,OpQ.g (q_lenS underlying9 rfl)⟩ ?_
  refine .R func72 results72 rfl ?_
  cases H
  exact .m rfl (.rfl' _)
 ·intro hj1 hj1x
  obtain ⟨n1,H⟩:=loop_some H
  refine .loop (ι:=Nat×(Int)) (fun ⟨_,v6l1⟩=>[(0,.d (cS v0s)),(5,.d (cI (v0s.length:Int))),(6,.d (cI v6l1))]) (fun ⟨_,v6l1⟩=>⟨[],[]⟩) (fun p=>iter (fun s=>f_digits_Valid_l1 v0s s) p.1 p.2=some r) (·.1) (n1,0) H (.cons rfl (.rfl' _) (.cons rfl (.rfl' _) (.cons rfl (.rfl' _) (.nil)))) rfl ?_
  rintro ⟨m1,v6l1⟩ HI ih1
  obtain ⟨n1,q1,hm1,H,HK1⟩:=iter_succ HI
  clear HI
  replace H:f_digits_Valid_l1 v0s v6l1=some q1:=H
  unfold f_digits_Valid_l1 at H
  refine .A 5 [] rfl trivial ?_
  refine .ite H rfl (fun H=>?_) (fun H=>?_)
  ·obtain ⟨hk1,H⟩:=ck_some H
   obtain ⟨y1,hy1,H⟩:=bind_some' H
   refine .A 16 [.c (nth v0s v6l1.toNat),.b y1] rfl ⟨g_call (en 0 rfl) rfl rfl (c_f_digits_digit (hy1)),OpQ.g (q_indexL (i:=v6l1) underlying9 rfl rfl hk1)⟩ ?_
   refine .ite H rfl (fun H=>?_) (fun H=>?_)
   ·refine .A 4 [] rfl trivial ?_
    refine .R func72 results72 rfl ?_
    cases H
    cases HK1
    exact .m rfl (.rfl' _)
   ·obtain ⟨hk2,H⟩:=ck_some H
    refine .A 6 [.i (v6l1+1)] rfl (g_addI rfl rfl hk2) ?_
    cases H
    exact .z (ih1 (n1,(v6l1+1)) HK1 hm1) rfl rfl
  ·refine .A 1 [] rfl trivial ?_
   obtain ⟨q0,H9,hq0⟩:=map_some' H; clear H; cases hq0
   cases HK1
   have H:=H9
   exact .z (hj1x () H) rfl rfl
theorem c_f_textual_check {v0:Record} {r:Int} (H:f_textual_check v0=some r):ACall prog 68 [.agg (Record.row v0)] (·=cI r):=by
 refine ACall.enter' func68 rfl ntmps68 rfl fun S hS=>?_
 unfold f_textual_check at H
 refine .A 21 [.r 0] rfl ⟨rfl,rfl,rfl⟩ ?_
 refine .seqJoin (ι:=Int) (fun v4j1=>[(1,.ref 0 0),(3,.d (cB ((v0.kind==3) || (v0.kind==4)))),(4,.d (cI v4j1))]) (fun v4j1=>⟨[.row 32 [.d (cI v0.source),.d (cI v0.serial),.d (cI v0.kind),.d (cS v0.a),.d (cS v0.b),.d (cI v0.start),.d (cI v0.units),.d (cI v0.call),.d (cI v0.part),.d (cB v0.last),.d (cI v0.trunk),.d (cB v0.inbound)]],[]⟩) (fun s=>f_textual_check_j1 v0 s=some r) ?_ ?_
 ·rintro v4j1 H
  replace H:f_textual_check_j1 v0 v4j1=some r:=H
  unfold f_textual_check_j1 at H
  obtain ⟨y1,hy1,H⟩:=bind_some' H
  obtain ⟨y2,hy2,H⟩:=bind_some' H
  refine .A 16 [.b y1,.b y2] rfl ⟨rfl,rfl,fun hg=>g_call (en 1 rfl) rfl rfl (c_f_textual_within (gcall_some hy2 hg)),rfl,rfl,g_call (en 1 rfl) rfl rfl (c_f_textual_within (hy1))⟩ ?_
  refine .ite H rfl (fun H=>?_) (fun H=>?_)
  ·refine .A 4 [] rfl trivial ?_
   refine .R func68 results68 rfl ?_
   cases H
   exact .m rfl (.rfl' _)
  ·obtain ⟨y3,hy3,H⟩:=bind_some' H
   refine .A 8 [.b y3] rfl (g_call (en 1 rfl) rfl rfl (c_f_textual_within (hy3))) ?_
   refine .ite H rfl (fun H=>?_) (fun H=>?_)
   ·refine .A 4 [] rfl trivial ?_
    refine .R func68 results68 rfl ?_
    cases H
    exact .m rfl (.rfl' _)
   ·obtain ⟨y4,hy4,H⟩:=bind_some' H
    obtain ⟨y5,hy5,H⟩:=bind_some' H
    refine .B 17 [.b y4,.b y5] rfl ⟨rfl,rfl,rfl,rfl,rfl,fun hg=>g_call (en 2 rfl) rfl rfl (c_f_digits_Valid (gcall_some hy5 hg)),rfl,rfl,g_call (en 2 rfl) rfl rfl (c_f_digits_Valid (hy4))⟩ ?_
    refine .guardG (env':=[(44,_),(47,_)]) rfl rfl rfl ⟨.inr (.inl rfl),⟨.inr (.inr ⟨_,_,rfl,rfl⟩),trivial⟩⟩ rfl (fun hg=>OpQ.g (q_pickAndB rfl rfl rfl)) ?_
    refine .B 1 [] rfl rfl ?_
    refine .guardG (env':=[(42,_),(49,_)]) rfl rfl rfl ⟨.inr (.inl rfl),⟨.inr (.inr ⟨_,_,rfl,rfl⟩),trivial⟩⟩ rfl (fun hg=>OpQ.g (q_pickAndB rfl rfl rfl)) ?_
    refine .A 3 [] rfl rfl ?_
    refine .ite H rfl (fun H=>?_) (fun H=>?_)
    ·refine .A 4 [] rfl trivial ?_
     refine .R func68 results68 rfl ?_
     cases H
     exact .m rfl (.rfl' _)
    ·obtain ⟨y6,hy6,H⟩:=bind_some' H
     refine .A 8 [.b y6] rfl (g_call (en 1 rfl) rfl rfl (c_f_textual_within (hy6))) ?_
     refine .ite H rfl (fun H=>?_) (fun H=>?_)
     ·refine .A 4 [] rfl trivial ?_
      refine .R func68 results68 rfl ?_
      cases H
      exact .m rfl (.rfl' _)
     ·obtain ⟨y7,hy7,H⟩:=bind_some' H
      refine .A 9 [.b y7] rfl (g_call (en 1 rfl) rfl rfl (c_f_textual_within (hy7))) ?_
      refine .ite H rfl (fun H=>?_) (fun H=>?_)
      ·refine .A 4 [] rfl trivial ?_
       refine .R func68 results68 rfl ?_
       cases H
       exact .m rfl (.rfl' _)
      ·obtain ⟨hk1,H⟩:=ck_some H
       refine .A 15 [.i (v0.start+v0.units)] rfl ⟨rfl,rfl,fun hg=>g_addI rfl rfl (hk1 hg),rfl,rfl,rfl,rfl⟩ ?_
       refine .ite H rfl (fun H=>?_) (fun H=>?_)
       ·refine .A 4 [] rfl trivial ?_
        refine .R func68 results68 rfl ?_
        cases H
        exact .m rfl (.rfl' _)
       ·obtain ⟨y8,hy8,H⟩:=bind_some' H
        obtain ⟨y9,hy9,H⟩:=bind_some' H
        refine .A 14 [.b y8,.b y9] rfl ⟨rfl,rfl,fun hg=>g_call (en 1 rfl) rfl rfl (c_f_textual_within (gcall_some hy9 hg)),rfl,rfl,g_call (en 1 rfl) rfl rfl (c_f_textual_within (hy8))⟩ ?_
        refine .ite H rfl (fun H=>?_) (fun H=>?_)
        ·refine .A 4 [] rfl trivial ?_
         refine .R func68 results68 rfl ?_
         cases H
         exact .m rfl (.rfl' _)
        ·refine .B 16 [.b ((v0.part==0) != (v0.call==0))] rfl ⟨rfl,rfl,rfl,rfl,OpQ.g (q_bneq rfl underlying4 rfl)⟩ ?_
         refine .guardG (env':=[(97,_),(100,_)]) rfl rfl rfl ⟨.inr (.inl rfl),⟨.inr (.inr ⟨_,_,rfl,rfl⟩),trivial⟩⟩ rfl (fun hg=>OpQ.g (q_pickAndB rfl rfl rfl)) ?_
         refine .A 3 [] rfl rfl ?_
         refine .ite H rfl (fun H=>?_) (fun H=>?_)
         ·refine .A 4 [] rfl trivial ?_
          refine .R func68 results68 rfl ?_
          cases H
          exact .m rfl (.rfl' _)
         ·obtain ⟨y10,hy10,H⟩:=bind_some' H
          refine .A 8 [.b y10] rfl (g_call (en 1 rfl) rfl rfl (c_f_textual_within (hy10))) ?_
          refine .ite H rfl (fun H=>?_) (fun H=>?_)
          ·refine .A 4 [] rfl trivial ?_
           refine .R func68 results68 rfl ?_
           cases H
           exact .m rfl (.rfl' _)
          ·refine .A 11 [] rfl ⟨rfl,rfl,rfl⟩ ?_
           refine .ite H rfl (fun H=>?_) (fun H=>?_)
           ·refine .A 4 [] rfl trivial ?_
            refine .R func68 results68 rfl ?_
            cases H
            exact .m rfl (.rfl' _)
           ·refine .A 6 [] rfl trivial ?_
            refine .R func68 results68 rfl ?_
            cases H
            exact .m rfl (.rfl' _)
 ·intro hj1
  refine .A 6 [] rfl trivial ?_
  refine .ite H rfl (fun H=>?_) (fun H=>?_)
  ·refine .A 3 [] rfl trivial ?_
   exact .z (hj1 604800 H) rfl rfl
  ·refine .A 1 [] rfl trivial ?_
   exact .z (hj1 1099511627776 H) rfl rfl
theorem c_f_textual_Encode {v0:Record} {r:(List UInt8)×Int} (H:f_textual_Encode v0=some r):ACall prog 66 [.agg (Record.row v0)] (·=.tup [cS r.1,cI r.2]):=by
 obtain ⟨i9,hi9,hz9,hs9,hb9⟩:=in_9
 refine ACall.enter' func66 rfl ntmps66 rfl fun S hS=>?_
 unfold f_textual_Encode at H
 obtain ⟨y1,hy1,H⟩:=bind_some' H
 refine .A 18 [.r 0,.i y1] rfl (g_call (en 3 rfl) rfl rfl (c_f_textual_check (hy1))) ?_
 refine .ite H rfl (fun H=>?_) (fun H=>?_)
 ·refine .A 6 [] rfl trivial ?_
  refine .R func66 results66 rfl ?_
  cases H
  exact .m rfl (.tupD rfl)
 ·refine .A 11 [] rfl trivial ?_
  refine .seqJoin (ι:=List UInt8) (fun v6j1=>[(1,.ref 0 0),(5,.d (.ex (.func (.func 69) #[] #[]))),(6,.d (cS v6j1))]) (fun v6j1=>⟨[.row 32 [.d (cI v0.source),.d (cI v0.serial),.d (cI v0.kind),.d (cS v0.a),.d (cS v0.b),.d (cI v0.start),.d (cI v0.units),.d (cI v0.call),.d (cI v0.part),.d (cB v0.last),.d (cI v0.trunk),.d (cB v0.inbound)]],[]⟩) (fun s=>f_textual_Encode_j1 v0 s=some r) ?_ ?_
  ·rintro v6j1 H
   replace H:f_textual_Encode_j1 v0 v6j1=some r:=H
   unfold f_textual_Encode_j1 at H
   obtain ⟨hk1,H⟩:=ck_some H
   obtain ⟨hk2,H⟩:=ck_some H
   obtain ⟨y2,hy2,H⟩:=bind_some' H
   obtain ⟨y3,hy3,H⟩:=bind_some' H
   obtain ⟨y4,hy4,H⟩:=bind_some' H
   obtain ⟨y5,hy5,H⟩:=bind_some' H
   refine .A 31 [.p 25,.i (v0.kind-1),.s ((([118,116,100,99]:List UInt8).take v0.kind.toNat).drop (v0.kind-1).toNat),.s y2,.s y3,.s y4,.s y5,.n (.tsl 1 (([(([118,116,100,99]:List UInt8).take v0.kind.toNat).drop (v0.kind-1).toNat,y2,y3,v0.a,v6j1,y4,y5]:List (List UInt8)).map rS) 0) ⟨9,1,([(([118,116,100,99]:List UInt8).take v0.kind.toNat).drop (v0.kind-1).toNat,y2,y3,v0.a,v6j1,y4,y5]:List (List UInt8)).length,none⟩] rfl ⟨.e (v_buildSliceT (n:=7) underlying88 hi9 hs9 hz9 rfl rfl rfl rfl rfl) rfl,g_callF (en 4 rfl) rfl rfl rfl (c_x_Itoa (hy5)),g_callF (en 4 rfl) rfl rfl rfl (c_x_Itoa (hy4)),g_callF (en 4 rfl) rfl rfl rfl (c_x_Itoa (hy3)),g_callF (en 4 rfl) rfl rfl rfl (c_x_Itoa (hy2)),OpQ.g (q_strLHL underlying9 rfl rfl rfl hk2),g_subI rfl rfl hk1,(show drawB _ _=true by kernel_rfl)⟩ ?_
   refine .seqJoin (ι:=List (List UInt8)) (fun v7j2=>[(1,.ref 0 0),(5,.d (.ex (.func (.func 69) #[] #[]))),(7,.tsl 1 (v7j2.map rS) 0)]) (fun v7j2=>⟨[.row 32 [.d (cI v0.source),.d (cI v0.serial),.d (cI v0.kind),.d (cS v0.a),.d (cS v0.b),.d (cI v0.start),.d (cI v0.units),.d (cI v0.call),.d (cI v0.part),.d (cB v0.last),.d (cI v0.trunk),.d (cB v0.inbound)]],[⟨9,1,v7j2.length,none⟩]⟩) (fun s=>f_textual_Encode_j2 v0 s=some r) ?_ ?_
   ·rintro v7j2 H
    replace H:f_textual_Encode_j2 v0 v7j2=some r:=H
    unfold f_textual_Encode_j2 at H
    refine .seqJoin (ι:=List (List UInt8)) (fun v7j3=>[(7,.tsl 1 (v7j3.map rS) 0)]) (fun v7j3=>⟨[.row 32 [.d (cI v0.source),.d (cI v0.serial),.d (cI v0.kind),.d (cS v0.a),.d (cS v0.b),.d (cI v0.start),.d (cI v0.units),.d (cI v0.call),.d (cI v0.part),.d (cB v0.last),.d (cI v0.trunk),.d (cB v0.inbound)]],[⟨9,1,v7j3.length,none⟩]⟩) (fun s=>f_textual_Encode_j3 s=some r) ?_ ?_
    ·rintro v7j3 H
     replace H:f_textual_Encode_j3 v7j3=some r:=H
     unfold f_textual_Encode_j3 at H
     obtain ⟨y6,hy6,H⟩:=bind_some' H
     refine .A 7 [.s y6] rfl (g_call (en 5 rfl) rfl rfl (c_x_Join (hy6))) ?_
     refine .R func66 results66 rfl ?_
     cases H
     exact .m rfl (.tupD rfl)
    ·intro hj3
     refine .A 6 [] rfl trivial ?_
     refine .ite H rfl (fun H=>?_) (fun H=>?_)
     ·refine .A 4 [] rfl trivial ?_
      refine .seqJoin (ι:=List UInt8) (fun v8j4=>[(1,.ref 0 0),(5,.d (.ex (.func (.func 69) #[] #[]))),(7,.tsl 1 (v7j2.map rS) 0),(8,.d (cS v8j4))]) (fun v8j4=>⟨[.row 32 [.d (cI v0.source),.d (cI v0.serial),.d (cI v0.kind),.d (cS v0.a),.d (cS v0.b),.d (cI v0.start),.d (cI v0.units),.d (cI v0.call),.d (cI v0.part),.d (cB v0.last),.d (cI v0.trunk),.d (cB v0.inbound)]],[⟨9,1,v7j2.length,none⟩]⟩) (fun s=>f_textual_Encode_j4 v0 v7j2 s=some r) ?_ ?_
      ·rintro v8j4 H
       replace H:f_textual_Encode_j4 v0 v7j2 v8j4=some r:=H
       unfold f_textual_Encode_j4 at H
       obtain ⟨y7,hy7,H⟩:=bind_some' H
       obtain ⟨hk3,H⟩:=ck_some H
       refine .A 11 [.s y7,.d (slOf 1 rS ([v8j4,y7]:List (List UInt8))),.a 0 9 1 rS (v7j2++([v8j4,y7]:List (List UInt8)))] rfl ⟨s88.a rfl rfl rfl rfl hk3,g_buildSliceN (n:=2) (rows:=([v8j4,y7]:List (List UInt8)).map rS) underlying88 hi9 hs9 hz9 rfl rfl rfl rfl rfl,g_callF (en 4 rfl) rfl rfl rfl (c_x_Itoa (hy7))⟩ ?_
       exact .z (hj3 (v7j2++([v8j4,y7]:List (List UInt8))) H) rfl rfl
      ·intro hj4
       refine .A 5 [] rfl trivial ?_
       refine .ite H rfl (fun H=>?_) (fun H=>?_)
       ·refine .A 3 [] rfl trivial ?_
        exact .z (hj4 ([105,110]:List UInt8) H) rfl rfl
       ·refine .A 1 [] rfl trivial ?_
        exact .z (hj4 ([111,117,116]:List UInt8) H) rfl rfl
     ·refine .A 1 [] rfl trivial ?_
      exact .z (hj3 v7j2 H) rfl rfl
   ·intro hj2
    refine .A 6 [] rfl trivial ?_
    refine .ite H rfl (fun H=>?_) (fun H=>?_)
    ·obtain ⟨y8,hy8,H⟩:=bind_some' H
     obtain ⟨y9,hy9,H⟩:=bind_some' H
     obtain ⟨hk4,H⟩:=ck_some H
     refine .A 21 [.p 10,.s y8,.s y9,.d (slOf 1 rS ([([112,97,114,116]:List UInt8),y8,y9]:List (List UInt8))),.a 0 9 1 rS (([(([118,116,100,99]:List UInt8).take v0.kind.toNat).drop (v0.kind-1).toNat,y2,y3,v0.a,v6j1,y4,y5]:List (List UInt8))++([([112,97,114,116]:List UInt8),y8,y9]:List (List UInt8)))] rfl ⟨s88.a rfl rfl rfl rfl hk4,g_buildSliceN (n:=3) (rows:=([([112,97,114,116]:List UInt8),y8,y9]:List (List UInt8)).map rS) underlying88 hi9 hs9 hz9 rfl rfl rfl rfl rfl,g_callF (en 4 rfl) rfl rfl rfl (c_x_Itoa (hy9)),g_callF (en 4 rfl) rfl rfl rfl (c_x_Itoa (hy8)),(show drawB _ _=true by kernel_rfl)⟩ ?_
     refine .ite H rfl (fun H=>?_) (fun H=>?_)
     ·obtain ⟨hk5,H⟩:=ck_some H
      refine .A 6 [.d (slOf 1 rS ([([108,97,115,116]:List UInt8)]:List (List UInt8))),.a 0 9 1 rS ((([(([118,116,100,99]:List UInt8).take v0.kind.toNat).drop (v0.kind-1).toNat,y2,y3,v0.a,v6j1,y4,y5]:List (List UInt8))++([([112,97,114,116]:List UInt8),y8,y9]:List (List UInt8)))++([([108,97,115,116]:List UInt8)]:List (List UInt8)))] rfl ⟨s88.a rfl rfl rfl rfl hk5,g_buildSlice1 underlying88 hi9 hs9 hz9 rfl rfl rfl rfl rfl⟩ ?_
      exact .z (hj2 ((([(([118,116,100,99]:List UInt8).take v0.kind.toNat).drop (v0.kind-1).toNat,y2,y3,v0.a,v6j1,y4,y5]:List (List UInt8))++([([112,97,114,116]:List UInt8),y8,y9]:List (List UInt8)))++([([108,97,115,116]:List UInt8)]:List (List UInt8))) H) rfl rfl
     ·refine .A 1 [] rfl trivial ?_
      exact .z (hj2 (([(([118,116,100,99]:List UInt8).take v0.kind.toNat).drop (v0.kind-1).toNat,y2,y3,v0.a,v6j1,y4,y5]:List (List UInt8))++([([112,97,114,116]:List UInt8),y8,y9]:List (List UInt8))) H) rfl rfl
    ·refine .A 1 [] rfl trivial ?_
     exact .z (hj2 ([(([118,116,100,99]:List UInt8).take v0.kind.toNat).drop (v0.kind-1).toNat,y2,y3,v0.a,v6j1,y4,y5]:List (List UInt8)) H) rfl rfl
  ·intro hj1
   refine .A 5 [] rfl trivial ?_
   refine .ite H rfl (fun H=>?_) (fun H=>?_)
   ·refine .A 3 [] rfl trivial ?_
    exact .z (hj1 ([45]:List UInt8) H) rfl rfl
   ·refine .A 1 [] rfl trivial ?_
    exact .z (hj1 v0.b H) rfl rfl
theorem c_f_validate_Check {v0r:Record} {r:Int} (H:f_validate_Check v0r=some r):ACall prog 58 [.agg (Record.row v0r)] (·=cI r):=by
 refine ACall.enter' func58 rfl ntmps58 rfl fun S hS=>?_
 unfold f_validate_Check at H
 obtain ⟨y1,hy1,H⟩:=bind_some' H
 refine .A 20 [.r 0,.d (.tup [cS y1.1,cI y1.2])] rfl (g_call (en 6 rfl) rfl rfl (c_f_textual_Encode (hy1))) ?_
 refine .R func58 results58 rfl ?_
 cases H
 exact .m rfl (.rfl' _)
theorem c_f_correlate_callOf {v0r:Record} {r:CorrelateCall} (H:f_correlate_callOf v0r=some r):ACall prog 32 [.agg (Record.row v0r)] (·=.agg (CorrelateCall.row r)):=by
 obtain ⟨i51,hi51,hz51,hs51,hb51⟩:=in_51
 refine ACall.enter' func32 rfl ntmps32 rfl fun S hS=>?_
 unfold f_correlate_callOf at H
 refine .A 14 [.r 0,.r 1,.d (.agg (CorrelateCall.row (⟨v0r.source,v0r.call⟩:CorrelateCall)))] rfl (OpQ.g (q_buildP pl_51 hi51 hz51 rfl rfl)) ?_
 refine .R func32 results32 rfl ?_
 cases H
 exact .m rfl (.rfl' _)
set_option maxRecDepth 100000
set_option maxHeartbeats 1000000
theorem c_f_correlate_commonOf {v0r:Record} {r:CorrelateCommon} (H:f_correlate_commonOf v0r=some r):ACall prog 59 [.agg (Record.row v0r)] (·=.agg (CorrelateCommon.row r)):=by
 obtain ⟨i75,hi75,hz75,hs75,hb75⟩:=in_75
 refine ACall.enter' func59 rfl ntmps59 rfl fun S hS=>?_
 unfold f_correlate_commonOf at H
 obtain ⟨y1,hy1,H⟩:=bind_some' H
 refine .A 23 [.r 0,.r 1,.p 13,.d (.agg (CorrelateCall.row y1)),.d (.agg (CorrelateCommon.row (⟨y1,v0r.kind,v0r.a,v0r.b,v0r.trunk,v0r.inbound⟩:CorrelateCommon)))] rfl ⟨OpQ.g (q_buildP pl_75 hi75 hz75 rfl rfl),g_call (en 7 rfl) rfl rfl (c_f_correlate_callOf (hy1)),(show drawB _ _=true by kernel_rfl)⟩ ?_
 refine .R func59 results59 rfl ?_
 cases H
 exact .m rfl (.rfl' _)
theorem c_f_correlate_whole {v0parts:List Record} {r:Record×Bool} (H:f_correlate_whole v0parts=some r):ACall prog 43 [slOf 12 Record.row v0parts] (·=.tup [.agg (Record.row r.1),cB r.2]):=by
 obtain ⟨i32,hi32,hz32,hs32,hb32⟩:=in_32
 refine ACall.enter' func43 rfl ntmps43 rfl fun S hS=>?_
 unfold f_correlate_whole at H
 refine .A 12 [.r 0,.i (v0parts.length:Int)] rfl (s22.n rfl rfl) ?_
 refine .ite H rfl (fun H=>?_) (fun H=>?_)
 ·refine .A 6 [.d (.agg (Record.row (⟨0,0,0,([]:List UInt8),([]:List UInt8),0,0,0,0,false,0,false⟩:Record)))] rfl (OpQ.g (q_buildP pl_32 hi32 hz32 rfl rfl)) ?_
  refine .R func43 results43 rfl ?_
  cases H
  exact .m rfl (.tupD rfl)
 ·obtain ⟨hk1,H⟩:=ck_some H
  obtain ⟨y1,hy1,H⟩:=bind_some' H
  refine .A 22 [.d (.ro (Record.row (nth v0parts (Int.toNat (0))))),.d (.agg (Record.row y1)),.r 1,.i (v0parts.length:Int)] rfl ⟨s22.n rfl rfl,g_call (en 8 rfl) rfl rfl (c_f_correlate_alone (hy1)),s22.ix rfl rfl rfl hk1⟩ ?_
  refine .blockJoin2 (ι:=Int) (fun o1c6j1=>[(2,.ref 0 0),(4,.ref 1 0)]) (fun o1c6j1=>⟨[.row 32 [.d (cI 0),.d (cI 0),.d (cI 0),.d (cS ([]:List UInt8)),.d (cS ([]:List UInt8)),.d (cI 0),.d (cI 0),.d (cI 0),.d (cI 0),.d (cB false),.d (cI 0),.d (cB false)],.row 32 [.d (cI y1.source),.d (cI y1.serial),.d (cI y1.kind),.d (cS y1.a),.d (cS y1.b),.d (cI y1.start),.d (cI o1c6j1),.d (cI y1.call),.d (cI y1.part),.d (cB y1.last),.d (cI y1.trunk),.d (cB y1.inbound)]],[]⟩) (fun s=>f_correlate_whole_j1 y1 s=some r) ?_ ?_
  ·rintro o1c6j1 H
   replace H:f_correlate_whole_j1 y1 o1c6j1=some r:=H
   unfold f_correlate_whole_j1 at H
   obtain ⟨y2,hy2,H⟩:=bind_some' H
   refine .A 7 [.i y2] rfl (g_call (en 9 rfl) rfl rfl (c_f_validate_Check (hy2))) ?_
   refine .ite H rfl (fun H=>?_) (fun H=>?_)
   ·refine .A 6 [.d (.agg (Record.row (⟨0,0,0,([]:List UInt8),([]:List UInt8),0,0,0,0,false,0,false⟩:Record)))] rfl (OpQ.g (q_buildP pl_32 hi32 hz32 rfl rfl)) ?_
    refine .R func43 results43 rfl ?_
    cases H
    exact .m rfl (.tupD rfl)
   ·refine .A 7 [] rfl trivial ?_
    refine .R func43 results43 rfl ?_
    cases H
    exact .m rfl (.tupD rfl)
  ·intro hj1 hj1x
   obtain ⟨n1,H⟩:=loop_some H
   refine .loop (ι:=Nat×(Int×Int)) (fun ⟨_,v18l1,o1c6l1⟩=>[(0,.d (slOf 12 Record.row v0parts)),(2,.ref 0 0),(4,.ref 1 0),(16,.d (slOf 12 Record.row v0parts)),(17,.d (cI (v0parts.length:Int))),(18,.d (cI v18l1))]) (fun ⟨_,v18l1,o1c6l1⟩=>⟨[.row 32 [.d (cI 0),.d (cI 0),.d (cI 0),.d (cS ([]:List UInt8)),.d (cS ([]:List UInt8)),.d (cI 0),.d (cI 0),.d (cI 0),.d (cI 0),.d (cB false),.d (cI 0),.d (cB false)],.row 32 [.d (cI y1.source),.d (cI y1.serial),.d (cI y1.kind),.d (cS y1.a),.d (cS y1.b),.d (cI y1.start),.d (cI o1c6l1),.d (cI y1.call),.d (cI y1.part),.d (cB y1.last),.d (cI y1.trunk),.d (cB y1.inbound)]],[]⟩) (fun p=>iter (fun s=>f_correlate_whole_l1 v0parts y1 s.1 s.2) p.1 p.2=some r) (·.1) (n1,(0,0)) H (.cons rfl (.rfl' _) (.cons rfl (.rfl' _) (.cons rfl (.rfl' _) (.cons rfl (.rfl' _) (.cons rfl (.rfl' _) (.cons rfl (.rfl' _) (.nil))))))) rfl ?_
   rintro ⟨m1,v18l1,o1c6l1⟩ HI ih1
   obtain ⟨n1,q1,hm1,H,HK1⟩:=iter_succ HI
   clear HI
   replace H:f_correlate_whole_l1 v0parts y1 v18l1 o1c6l1=some q1:=H
   unfold f_correlate_whole_l1 at H
   refine .A 5 [] rfl trivial ?_
   refine .ite H rfl (fun H=>?_) (fun H=>?_)
   ·obtain ⟨hk2,H⟩:=ck_some H
    obtain ⟨y3,hy3,H⟩:=bind_some' H
    obtain ⟨y4,hy4,H⟩:=bind_some' H
    obtain ⟨hk3,H⟩:=ck_some H
    obtain ⟨y5,hy5,H⟩:=bind_some' H
    obtain ⟨hk4,H⟩:=ck_some H
    refine .A 40 [.d (.ro (Record.row (nth v0parts v18l1.toNat))),.r 2,.p 25,.i y3,.d (.agg (CorrelateCommon.row y4)),.d (.ro (Record.row (nth v0parts (Int.toNat (0))))),.d (.agg (CorrelateCommon.row y5)),.b (!(eqVs (CorrelateCommon.vals y4) (CorrelateCommon.vals y5))),.i (1099511627776-o1c6l1)] rfl ⟨rfl,rfl,rfl,fun hg=>g_subI rfl rfl (hk4 hg),rfl,rfl,rfl,rfl,fun hg=>OpQ.g (q_gtneq fg_75 rfl rfl (xs:=CorrelateCommon.vals y4) (ys:=CorrelateCommon.vals y5) rfl rfl rfl rfl),rfl,rfl,fun hg=>g_call (en 10 rfl) rfl rfl (c_f_correlate_commonOf (gcall_some hy5 hg)),rfl,rfl,fun hg=>s22.ix rfl rfl rfl (hk3 hg),rfl,fun hg=>g_call (en 10 rfl) rfl rfl (c_f_correlate_commonOf (gcall_some hy4 hg)),rfl,rfl,rfl,fun hg=>g_call (en 9 rfl) rfl rfl (c_f_validate_Check (gcall_some hy3 hg)),rfl,(show drawB _ _=true by kernel_rfl),s22.ix rfl rfl rfl hk2⟩ ?_
    refine .ite H rfl (fun H=>?_) (fun H=>?_)
    ·refine .A 6 [.d (.agg (Record.row (⟨0,0,0,([]:List UInt8),([]:List UInt8),0,0,0,0,false,0,false⟩:Record)))] rfl (OpQ.g (q_buildP pl_32 hi32 hz32 rfl rfl)) ?_
     refine .R func43 results43 rfl ?_
     cases H
     cases HK1
     exact .m rfl (.tupD rfl)
    ·obtain ⟨hk5,H⟩:=ck_some H
     obtain ⟨hk6,H⟩:=ck_some H
     refine .A 15 [.i (o1c6l1+((nth v0parts v18l1.toNat).units)),.i (v18l1+1)] rfl ⟨g_addI rfl rfl hk6,g_addI rfl rfl hk5⟩ ?_
     cases H
     exact .t 2 0 (ih1 (n1,(v18l1+1,o1c6l1+((nth v0parts v18l1.toNat).units))) HK1 hm1) rfl rfl rfl rfl rfl hS rfl
   ·refine .A 1 [] rfl trivial ?_
    obtain ⟨q0,H9,hq0⟩:=map_some' H; clear H; cases hq0
    cases HK1
    have H:=H9
    exact .z (hj1x o1c6l1 H) rfl rfl
theorem c_f_correlate_Complete {v0parts:List Record} {r:Record×Bool} (H:f_correlate_Complete v0parts=some r):ACall prog 18 [slOf 12 Record.row v0parts] (·=.tup [.agg (Record.row r.1),cB r.2]):=by
 obtain ⟨i32,hi32,hz32,hs32,hb32⟩:=in_32
 refine ACall.enter' func18 rfl ntmps18 rfl fun S hS=>?_
 unfold f_correlate_Complete at H
 refine .A 12 [.r 0,.i (v0parts.length:Int)] rfl (s22.n rfl rfl) ?_
 refine .blockJoin2 (ι:=Unit) (fun _=>[(0,.d (slOf 12 Record.row v0parts)),(2,.ref 0 0)]) (fun _=>⟨[.row 32 [.d (cI 0),.d (cI 0),.d (cI 0),.d (cS ([]:List UInt8)),.d (cS ([]:List UInt8)),.d (cI 0),.d (cI 0),.d (cI 0),.d (cI 0),.d (cB false),.d (cI 0),.d (cB false)]],[]⟩) (fun s=>f_correlate_Complete_j1 v0parts=some r) ?_ ?_
 ·rintro _ H
  replace H:f_correlate_Complete_j1 v0parts=some r:=H
  unfold f_correlate_Complete_j1 at H
  obtain ⟨y1,hy1,H⟩:=bind_some' H
  refine .A 9 [.d (.tup [.agg (Record.row y1.1),cB y1.2])] rfl (g_call (en 11 rfl) rfl rfl (c_f_correlate_whole (hy1))) ?_
  refine .R func18 results18 rfl ?_
  cases H
  exact .m rfl (.tupD rfl)
 ·intro hj1 hj1x
  obtain ⟨n1,H⟩:=loop_some H
  refine .loop (ι:=Nat×(Int)) (fun ⟨_,v8l1⟩=>[(0,.d (slOf 12 Record.row v0parts)),(2,.ref 0 0),(6,.d (slOf 12 Record.row v0parts)),(7,.d (cI (v0parts.length:Int))),(8,.d (cI v8l1))]) (fun ⟨_,v8l1⟩=>⟨[.row 32 [.d (cI 0),.d (cI 0),.d (cI 0),.d (cS ([]:List UInt8)),.d (cS ([]:List UInt8)),.d (cI 0),.d (cI 0),.d (cI 0),.d (cI 0),.d (cB false),.d (cI 0),.d (cB false)]],[]⟩) (fun p=>iter (fun s=>f_correlate_Complete_l1 v0parts s) p.1 p.2=some r) (·.1) (n1,0) H (.cons rfl (.rfl' _) (.cons rfl (.rfl' _) (.cons rfl (.rfl' _) (.cons rfl (.rfl' _) (.cons rfl (.rfl' _) (.nil)))))) rfl ?_
  rintro ⟨m1,v8l1⟩ HI ih1
  obtain ⟨n1,q1,hm1,H,HK1⟩:=iter_succ HI
  clear HI
  replace H:f_correlate_Complete_l1 v0parts v8l1=some q1:=H
  unfold f_correlate_Complete_l1 at H
  refine .A 5 [] rfl trivial ?_
  refine .ite H rfl (fun H=>?_) (fun H=>?_)
  ·obtain ⟨hk1,H⟩:=ck_some H
   obtain ⟨hk2,H⟩:=ck_some H
   obtain ⟨hk3,H⟩:=ck_some H
   refine .A 30 [.d (.ro (Record.row (nth v0parts v8l1.toNat))),.r 1,.i (v8l1+1),.i (v0parts.length:Int),.i ((v0parts.length:Int) - 1),.b (((nth v0parts v8l1.toNat).last) != (v8l1==((v0parts.length:Int) - 1)))] rfl ⟨rfl,fun hg=>OpQ.g (q_bneq rfl underlying4 rfl),rfl,rfl,rfl,rfl,fun hg=>g_subI rfl rfl (hk3 hg),rfl,fun hg=>s22.n rfl rfl,rfl,rfl,g_addI rfl rfl hk2,s22.ix rfl rfl rfl hk1⟩ ?_
   refine .ite H rfl (fun H=>?_) (fun H=>?_)
   ·refine .A 6 [.d (.agg (Record.row (⟨0,0,0,([]:List UInt8),([]:List UInt8),0,0,0,0,false,0,false⟩:Record)))] rfl (OpQ.g (q_buildP pl_32 hi32 hz32 rfl rfl)) ?_
    refine .R func18 results18 rfl ?_
    cases H
    cases HK1
    exact .m rfl (.tupD rfl)
   ·obtain ⟨hk4,H⟩:=ck_some H
    refine .A 6 [.i (v8l1+1)] rfl (g_addI rfl rfl hk4) ?_
    cases H
    exact .t 1 0 (ih1 (n1,(v8l1+1)) HK1 hm1) rfl rfl rfl rfl rfl hS rfl
  ·refine .A 1 [] rfl trivial ?_
   obtain ⟨q0,H9,hq0⟩:=map_some' H; clear H; cases hq0
   cases HK1
   have H:=H9
   exact .z (hj1x () H) rfl rfl
theorem c_f_cmp_isNaN_int {v0x:Int} {r:Bool} (H:f_cmp_isNaN_int v0x=some r):ACall prog 63 [cI v0x] (·=cB r):=by
 refine ACall.enter' func63 rfl ntmps63 rfl fun S hS=>?_
 unfold f_cmp_isNaN_int at H
 refine .A 11 [] rfl trivial ?_
 refine .R func63 results63 rfl ?_
 cases H
 exact .m rfl (.rfl' _)
theorem c_f_cmp_Compare_int {v0x:Int} {v1y:Int} {r:Int} (H:f_cmp_Compare_int v0x v1y=some r):ACall prog 51 [cI v0x,cI v1y] (·=cI r):=by
 refine ACall.enter' func51 rfl ntmps51 rfl fun S hS=>?_
 unfold f_cmp_Compare_int at H
 obtain ⟨y1,hy1,H⟩:=bind_some' H
 obtain ⟨y2,hy2,H⟩:=bind_some' H
 refine .A 21 [.b y1,.b y2] rfl ⟨g_call (en 12 rfl) rfl rfl (c_f_cmp_isNaN_int (hy2)),g_call (en 12 rfl) rfl rfl (c_f_cmp_isNaN_int (hy1))⟩ ?_
 refine .ite H rfl (fun H=>?_) (fun H=>?_)
 ·refine .A 5 [] rfl trivial ?_
  refine .ite H rfl (fun H=>?_) (fun H=>?_)
  ·refine .A 4 [] rfl trivial ?_
   refine .R func51 results51 rfl ?_
   cases H
   exact .m rfl (.rfl' _)
  ·refine .A 5 [] rfl trivial ?_
   refine .R func51 results51 rfl ?_
   cases H
   exact .m rfl (.rfl' _)
 ·refine .A 6 [] rfl trivial ?_
  refine .ite H rfl (fun H=>?_) (fun H=>?_)
  ·refine .A 4 [] rfl trivial ?_
   refine .R func51 results51 rfl ?_
   cases H
   exact .m rfl (.rfl' _)
  ·refine .A 8 [] rfl trivial ?_
   refine .ite H rfl (fun H=>?_) (fun H=>?_)
   ·refine .A 4 [] rfl trivial ?_
    refine .R func51 results51 rfl ?_
    cases H
    exact .m rfl (.rfl' _)
   ·refine .A 8 [] rfl trivial ?_
    refine .ite H rfl (fun H=>?_) (fun H=>?_)
    ·refine .A 4 [] rfl trivial ?_
     refine .R func51 results51 rfl ?_
     cases H
     exact .m rfl (.rfl' _)
    ·refine .A 5 [] rfl trivial ?_
     refine .R func51 results51 rfl ?_
     cases H
     exact .m rfl (.rfl' _)
theorem c_f_cmp_Or_int {v0vals:List Int} {r:Int} (H:f_cmp_Or_int v0vals=some r):ACall prog 50 [slOf 1 rI v0vals] (·=cI r):=by
 refine ACall.enter' func50 rfl ntmps50 rfl fun S hS=>?_
 unfold f_cmp_Or_int at H
 refine .A 16 [.i (v0vals.length:Int)] rfl (s37.n rfl rfl) ?_
 obtain ⟨n1,H⟩:=loop_some H
 refine .loop (ι:=Nat×(Int)) (fun ⟨_,v8l1⟩=>[(3,.d (cI 0)),(6,.d (slOf 1 rI v0vals)),(7,.d (cI (v0vals.length:Int))),(8,.d (cI v8l1))]) (fun ⟨_,v8l1⟩=>⟨[],[]⟩) (fun p=>iter (fun s=>f_cmp_Or_int_l1 v0vals s) p.1 p.2=some r) (·.1) (n1,0) H (.cons rfl (.rfl' _) (.cons rfl (.rfl' _) (.cons rfl (.rfl' _) (.cons rfl (.rfl' _) (.nil))))) rfl ?_
 rintro ⟨m1,v8l1⟩ HI ih1
 obtain ⟨n1,q1,hm1,H,HK1⟩:=iter_succ HI
 clear HI
 replace H:f_cmp_Or_int_l1 v0vals v8l1=some q1:=H
 unfold f_cmp_Or_int_l1 at H
 refine .A 5 [] rfl trivial ?_
 refine .ite H rfl (fun H=>?_) (fun H=>?_)
 ·obtain ⟨hk1,H⟩:=ck_some H
  refine .A 15 [.d (.ro (rI (nth v0vals v8l1.toNat)))] rfl (s37.ix rfl rfl rfl hk1) ?_
  refine .ite H rfl (fun H=>?_) (fun H=>?_)
  ·refine .A 5 [] rfl trivial ?_
   refine .R func50 results50 rfl ?_
   cases H
   cases HK1
   exact .m rfl (.rfl' _)
  ·obtain ⟨hk2,H⟩:=ck_some H
   refine .A 6 [.i (v8l1+1)] rfl (g_addI rfl rfl hk2) ?_
   cases H
   exact .z (ih1 (n1,(v8l1+1)) HK1 hm1) rfl rfl
 ·refine .A 6 [] rfl trivial ?_
  refine .R func50 results50 rfl ?_
  cases H
  cases HK1
  exact .m rfl (.rfl' _)
theorem c_f_correlate_before {v0a:Record} {v1b:Record} {r:Int} (H:f_correlate_before v0a v1b=some r):ACall prog 29 [.agg (Record.row v0a),.agg (Record.row v1b)] (·=cI r):=by
 obtain ⟨i3,hi3,hz3,hs3,hb3⟩:=in_3
 refine ACall.enter' func29 rfl ntmps29 rfl fun S hS=>?_
 unfold f_correlate_before at H
 obtain ⟨y1,hy1,H⟩:=bind_some' H
 obtain ⟨y2,hy2,H⟩:=bind_some' H
 obtain ⟨y3,hy3,H⟩:=bind_some' H
 obtain ⟨y4,hy4,H⟩:=bind_some' H
 refine .A 28 [.r 0,.r 1,.p 18,.i y1,.i y2,.i y3,.d (slOf 1 rI ([y1,y2,y3]:List Int)),.i y4] rfl ⟨g_call (en 13 rfl) rfl rfl (c_f_cmp_Or_int (hy4)),g_buildSliceN (n:=3) (rows:=([y1,y2,y3]:List Int).map rI) underlying37 hi3 hs3 hz3 rfl rfl rfl rfl rfl,g_call (en 14 rfl) rfl rfl (c_f_cmp_Compare_int (hy3)),g_call (en 14 rfl) rfl rfl (c_f_cmp_Compare_int (hy2)),g_call (en 14 rfl) rfl rfl (c_f_cmp_Compare_int (hy1)),(show drawB _ _=true by kernel_rfl)⟩ ?_
 refine .R func29 results29 rfl ?_
 cases H
 exact .m rfl (.rfl' _)
theorem c_g_correlate_span_1 {v0r:Record} {o0c0p:CorrelateCall} {r:Bool} (H:g_correlate_span_1 v0r o0c0p=some r):ACallS prog 57 [.d (.agg (Record.row v0r)),.ref 0 0] ⟨[.row 51 [.d (cI o0c0p.source),.d (cI o0c0p.number)]],[]⟩ (QE (.d (cB r)) ⟨[.row 51 [.d (cI o0c0p.source),.d (cI o0c0p.number)]],[]⟩):=by
 refine ACallS.keep ?_
 refine ACallS.enter func57 rfl ntmps57 rfl fun S hS=>?_
 unfold g_correlate_span_1 at H
 obtain ⟨y1,hy1,H⟩:=bind_some' H
 refine .A 14 [.r 1,.p 5,.d (.agg (CorrelateCall.row y1)),.b (eqVs (CorrelateCall.vals y1) (CorrelateCall.vals o0c0p))] rfl ⟨OpQ.g (q_steql fk_51 rfl rfl (xs:=CorrelateCall.vals y1) (ys:=CorrelateCall.vals o0c0p) rfl rfl rfl rfl),g_call (en 7 rfl) rfl rfl (c_f_correlate_callOf (hy1)),(show drawB _ _=true by kernel_rfl)⟩ ?_
 refine .R func57 results57 rfl ?_
 cases H
 exact ⟨[0],[],rfl,rfl,rfl,rfl,rfl,rfl,rfl,rfl,.rfl' _⟩
theorem c_g_api_Record {v0s:List Record} {o0c0p:CorrelateCall} {r:Int} (H:g_api_Record v0s o0c0p=some r):ACallS prog 56 [.d (slOf 12 Record.row v0s),.clo 57 [.ref 0 0]] ⟨[.row 51 [.d (cI o0c0p.source),.d (cI o0c0p.number)]],[]⟩ (QE (.d (cI r)) ⟨[.row 51 [.d (cI o0c0p.source),.d (cI o0c0p.number)]],[]⟩):=by
 refine ACallS.keep ?_
 refine ACallS.enter func56 rfl ntmps56 rfl fun S hS=>?_
 unfold g_api_Record at H
 refine .A 12 [.i (v0s.length:Int)] rfl (s22.n rfl rfl) ?_
 obtain ⟨n1,H⟩:=loop_some H
 refine .loop (ι:=Nat×(Int)) (fun ⟨_,v8l1⟩=>[(0,.d (slOf 12 Record.row v0s)),(1,.clo 57 [.ref 0 0]),(7,.d (cI (v0s.length:Int))),(8,.d (cI v8l1))]) (fun ⟨_,v8l1⟩=>⟨[.row 51 [.d (cI o0c0p.source),.d (cI o0c0p.number)]],[]⟩) (fun p=>iter (fun s=>g_api_Record_l1 v0s o0c0p s) p.1 p.2=some r) (·.1) (n1,0) H (.cons rfl (.rfl' _) (.cons rfl (.rfl' _) (.cons rfl (.rfl' _) (.cons rfl (.rfl' _) (.nil))))) rfl ?_
 rintro ⟨m1,v8l1⟩ HI ih1
 obtain ⟨n1,q1,hm1,H,HK1⟩:=iter_succ HI
 clear HI
 replace H:g_api_Record_l1 v0s o0c0p v8l1=some q1:=H
 unfold g_api_Record_l1 at H
 refine .A 5 [] rfl trivial ?_
 refine .ite H rfl (fun H=>?_) (fun H=>?_)
 ·obtain ⟨hk1,H⟩:=ck_some H
  obtain ⟨y1,hy1,H⟩:=bind_some' H
  refine .B 15 [.d (.ro (Record.row (nth v0s v8l1.toNat)))] rfl (s22.ix rfl rfl rfl hk1) ?_
  refine .callFC (en 15 rfl) rfl rfl [0] [] (x:=.d (cB y1)) (st':=⟨[.row 51 [.d (cI o0c0p.source),.d (cI o0c0p.number)]],[]⟩) rfl (c_g_correlate_span_1 (hy1)) ⟨.rfl' _,.rfl' _,trivial⟩ rfl rfl rfl rfl rfl rfl ?_
  refine .A 1 [] rfl trivial ?_
  refine .ite H rfl (fun H=>?_) (fun H=>?_)
  ·refine .A 5 [] rfl trivial ?_
   refine .R func56 results56 rfl ?_
   cases H
   cases HK1
   exact ⟨[0],[],rfl,rfl,rfl,rfl,rfl,rfl,rfl,rfl,.rfl' _⟩
  ·obtain ⟨hk2,H⟩:=ck_some H
   refine .A 6 [.i (v8l1+1)] rfl (g_addI rfl rfl hk2) ?_
   cases H
   exact .z (ih1 (n1,(v8l1+1)) HK1 hm1) rfl rfl
 ·refine .A 5 [] rfl trivial ?_
  refine .R func56 results56 rfl ?_
  cases H
  cases HK1
  exact ⟨[0],[],rfl,rfl,rfl,rfl,rfl,rfl,rfl,rfl,.rfl' _⟩
theorem c_f_correlate_span {v0open:List Record} {v1c:CorrelateCall} {r:Int×Int} (H:f_correlate_span v0open v1c=some r):ACall prog 38 [slOf 12 Record.row v0open,.agg (CorrelateCall.row v1c)] (·=.tup [cI r.1,cI r.2]):=by
 refine ACall.enter' func38 rfl ntmps38 rfl fun S hS=>?_
 unfold f_correlate_span at H
 obtain ⟨y1,hy1,H⟩:=bind_some' H
 refine .B 10 [.r 0,.g (.clo 57 [.ref 0 0])] rfl (OpQ.g (q_makeFunc rfl)) ?_
 refine .callF (en 16 rfl) rfl [0] [] (x:=.d (cI y1)) (st':=⟨[.row 51 [.d (cI v1c.source),.d (cI v1c.number)]],[]⟩) rfl (c_g_api_Record (hy1)) ⟨.rfl' _,.rfl' _,trivial⟩ rfl rfl rfl rfl rfl rfl ?_
 refine .A 8 [] rfl trivial ?_
 refine .ite H rfl (fun H=>?_) (fun H=>?_)
 ·refine .A 5 [] rfl trivial ?_
  refine .R func38 results38 rfl ?_
  cases H
  exact .m rfl (.tupD rfl)
 ·refine .A 8 [] rfl trivial ?_
  obtain ⟨n1,H⟩:=loop_some H
  refine .loop (ι:=Nat×(Int)) (fun ⟨_,v5tol1⟩=>[(0,.d (slOf 12 Record.row v0open)),(3,.ref 0 0),(4,.d (cI y1)),(5,.d (cI v5tol1))]) (fun ⟨_,v5tol1⟩=>⟨[.row 51 [.d (cI v1c.source),.d (cI v1c.number)]],[]⟩) (fun p=>iter (fun s=>f_correlate_span_l1 v0open v1c y1 s) p.1 p.2=some r) (·.1) (n1,y1) H (.cons rfl (.rfl' _) (.cons rfl (.rfl' _) (.cons rfl (.rfl' _) (.cons rfl (.rfl' _) (.nil))))) rfl ?_
  rintro ⟨m1,v5tol1⟩ HI ih1
  obtain ⟨n1,q1,hm1,H,HK1⟩:=iter_succ HI
  clear HI
  replace H:f_correlate_span_l1 v0open v1c y1 v5tol1=some q1:=H
  unfold f_correlate_span_l1 at H
  obtain ⟨hk1,H⟩:=ck_some H
  obtain ⟨y2,hy2,H⟩:=bind_some' H
  refine .A 18 [.p 13,.i (v0open.length:Int),.d (.ro (Record.row (nth v0open v5tol1.toNat))),.d (.agg (CorrelateCall.row y2)),.b (eqVs (CorrelateCall.vals y2) (CorrelateCall.vals v1c))] rfl ⟨rfl,fun hg=>OpQ.g (q_steql fk_51 rfl rfl (xs:=CorrelateCall.vals y2) (ys:=CorrelateCall.vals v1c) rfl rfl rfl rfl),rfl,rfl,fun hg=>g_call (en 7 rfl) rfl rfl (c_f_correlate_callOf (gcall_some hy2 hg)),rfl,rfl,fun hg=>s22.ix rfl rfl rfl (hk1 hg),rfl,rfl,s22.n rfl rfl,(show drawB _ _=true by kernel_rfl)⟩ ?_
  refine .ite H rfl (fun H=>?_) (fun H=>?_)
  ·obtain ⟨hk2,H⟩:=ck_some H
   refine .A 8 [.i (v5tol1+1)] rfl (g_addI rfl rfl hk2) ?_
   cases H
   exact .z (ih1 (n1,(v5tol1+1)) HK1 hm1) rfl rfl
  ·refine .A 8 [] rfl trivial ?_
   refine .R func38 results38 rfl ?_
   cases H
   cases HK1
   exact .m rfl (.tupD rfl)
set_option maxRecDepth 100000
set_option maxHeartbeats 1000000
theorem c_f_correlate_candidates {v0parts:List Record} {v1last:Bool} {r:(List Int)} (H:f_correlate_candidates v0parts v1last=some r):ACall prog 54 [slOf 12 Record.row v0parts,cB v1last] (·=slOf 1 rI r):=by
 obtain ⟨i3,hi3,hz3,hs3,hb3⟩:=in_3
 refine ACall.enter' func54 rfl ntmps54 rfl fun S hS=>?_
 unfold f_correlate_candidates at H
 refine .A 16 [.v (.mp 0) ⟨[.map (mEnc (fun n=>Value.int .i64 n) (fun x=>cI x) ([]:List (Int×Int)))],[]⟩,.i (v0parts.length:Int)] rfl ⟨s22.n rfl rfl,.e (v_makeMap) rfl⟩ ?_
 refine .blockJoin2 (ι:=(List (Int×Int))) (fun o0c0j1=>[(0,.d (slOf 12 Record.row v0parts)),(1,.d (cB v1last)),(5,.mp 0)]) (fun o0c0j1=>⟨[.map (mEnc (fun n=>Value.int .i64 n) (fun x=>cI x) o0c0j1)],[]⟩) (fun s=>f_correlate_candidates_j1 v0parts v1last s=some r) ?_ ?_
 ·rintro o0c0j1 H
  replace H:f_correlate_candidates_j1 v0parts v1last o0c0j1=some r:=H
  unfold f_correlate_candidates_j1 at H
  refine .A 9 [] rfl trivial ?_
  refine .tok (i:=10) (e:=3) (sz:=1) rfl ?_
  obtain ⟨n1,H⟩:=loop_some H
  refine .loop (ι:=Nat×(List Int×Int)) (fun ⟨_,v10outl1,v11kl1⟩=>[(0,.d (slOf 12 Record.row v0parts)),(1,.d (cB v1last)),(5,.mp 0),(10,.tsl 1 (v10outl1.map rI) 0),(11,.d (cI v11kl1))]) (fun ⟨_,v10outl1,v11kl1⟩=>⟨[.map (mEnc (fun n=>Value.int .i64 n) (fun x=>cI x) o0c0j1)],[⟨3,1,v10outl1.length,none⟩]⟩) (fun p=>iter (fun s=>f_correlate_candidates_l1 v0parts v1last o0c0j1 s.1 s.2) p.1 p.2=some r) (·.1) (n1,(([]:List Int),1)) H (.cons rfl (.rfl' _) (.cons rfl (.rfl' _) (.cons rfl (.rfl' _) (.cons rfl (.rfl' _) (.cons rfl (.rfl' _) (.nil)))))) rfl ?_
  rintro ⟨m1,v10outl1,v11kl1⟩ HI ih1
  obtain ⟨n1,q1,hm1,H,HK1⟩:=iter_succ HI
  clear HI
  replace H:f_correlate_candidates_l1 v0parts v1last o0c0j1 v10outl1 v11kl1=some q1:=H
  unfold f_correlate_candidates_l1 at H
  refine .A 19 [.d (.tup [cI ((alook o0c0j1 v11kl1).getD 0),cB ((alook o0c0j1 v11kl1).isSome)])] rfl (OpQ.g (q_lookupOkD (intKF underlying3) (l:=o0c0j1) (val:=(fun x=>cI x)) (k:=v11kl1) (a0:=0) underlying80 hi3 hz3 (show DLe (cI 0) (cI 0) from .rfl' _) rfl rfl rfl (fun _ _ _ h=>exKey h))) ?_
  refine .ite H rfl (fun H=>?_) (fun H=>?_)
  ·refine .A 5 [] rfl trivial ?_
   refine .R func54 results54 rfl ?_
   cases H
   cases HK1
   exact .m rfl (.tsl _ _ _)
  ·obtain ⟨hk1,H⟩:=ck_some H
   obtain ⟨hk2,H⟩:=ck_some H
   refine .A 20 [.d (slOf 1 rI ([(alook o0c0j1 v11kl1).getD 0]:List Int)),.a 0 3 1 rI (v10outl1++([(alook o0c0j1 v11kl1).getD 0]:List Int)),.d (.ro (Record.row (nth v0parts ((alook o0c0j1 v11kl1).getD 0).toNat)))] rfl ⟨rfl,rfl,rfl,fun hg=>s22.ix rfl rfl rfl (hk2 hg),rfl,rfl,s37.a rfl rfl rfl rfl hk1,g_buildSlice1 underlying37 hi3 hs3 hz3 rfl rfl rfl rfl rfl⟩ ?_
   refine .ite H rfl (fun H=>?_) (fun H=>?_)
   ·refine .A 5 [] rfl trivial ?_
    refine .R func54 results54 rfl ?_
    cases H
    cases HK1
    exact .m rfl (.tsl _ _ _)
   ·obtain ⟨hk3,H⟩:=ck_some H
    refine .A 7 [.i (v11kl1+1)] rfl (g_addI rfl rfl hk3) ?_
    cases H
    exact .z (ih1 (n1,(v10outl1++([(alook o0c0j1 v11kl1).getD 0]:List Int),v11kl1+1)) HK1 hm1) rfl rfl
 ·intro hj1 hj1x
  obtain ⟨n2,H⟩:=loop_some H
  refine .loop (ι:=Nat×(Int×(List (Int×Int)))) (fun ⟨_,v17l2,o0c0l2⟩=>[(0,.d (slOf 12 Record.row v0parts)),(1,.d (cB v1last)),(5,.mp 0),(15,.d (slOf 12 Record.row v0parts)),(16,.d (cI (v0parts.length:Int))),(17,.d (cI v17l2))]) (fun ⟨_,v17l2,o0c0l2⟩=>⟨[.map (mEnc (fun n=>Value.int .i64 n) (fun x=>cI x) o0c0l2)],[]⟩) (fun p=>iter (fun s=>f_correlate_candidates_l2 v0parts v1last s.1 s.2) p.1 p.2=some r) (·.1) (n2,(0,([]:List (Int×Int)))) H (.cons rfl (.rfl' _) (.cons rfl (.rfl' _) (.cons rfl (.rfl' _) (.cons rfl (.rfl' _) (.cons rfl (.rfl' _) (.cons rfl (.rfl' _) (.nil))))))) rfl ?_
  rintro ⟨m1,v17l2,o0c0l2⟩ HI ih1
  obtain ⟨n1,q1,hm1,H,HK1⟩:=iter_succ HI
  clear HI
  replace H:f_correlate_candidates_l2 v0parts v1last v17l2 o0c0l2=some q1:=H
  unfold f_correlate_candidates_l2 at H
  refine .A 5 [] rfl trivial ?_
  refine .ite H rfl (fun H=>?_) (fun H=>?_)
  ·obtain ⟨hk4,H⟩:=ck_some H
   refine .A 29 [.d (.ro (Record.row (nth v0parts v17l2.toNat))),.r 1,.d (.tup [cI ((alook o0c0l2 ((nth v0parts v17l2.toNat).part)).getD 0),cB ((alook o0c0l2 ((nth v0parts v17l2.toNat).part)).isSome)])] rfl ⟨OpQ.g (q_lookupOkD (intKF underlying3) (l:=o0c0l2) (val:=(fun x=>cI x)) (k:=(nth v0parts v17l2.toNat).part) (a0:=0) underlying80 hi3 hz3 (show DLe (cI 0) (cI 0) from .rfl' _) rfl rfl rfl (fun _ _ _ h=>exKey h)),s22.ix rfl rfl rfl hk4⟩ ?_
   refine .ite H rfl (fun H=>?_) (fun H=>?_)
   ·obtain ⟨hk5,H⟩:=ck_some H
    refine .A 12 [.u ⟨[.map (mEnc (fun n=>Value.int .i64 n) (fun x=>cI x) (aset o0c0l2 ((nth v0parts v17l2.toNat).part) v17l2)),.row 32 [.d (cI ((nth v0parts v17l2.toNat).source)),.d (cI ((nth v0parts v17l2.toNat).serial)),.d (cI ((nth v0parts v17l2.toNat).kind)),.d (cS ((nth v0parts v17l2.toNat).a)),.d (cS ((nth v0parts v17l2.toNat).b)),.d (cI ((nth v0parts v17l2.toNat).start)),.d (cI ((nth v0parts v17l2.toNat).units)),.d (cI ((nth v0parts v17l2.toNat).call)),.d (cI ((nth v0parts v17l2.toNat).part)),.d (cB ((nth v0parts v17l2.toNat).last)),.d (cI ((nth v0parts v17l2.toNat).trunk)),.d (cB ((nth v0parts v17l2.toNat).inbound))]],[]⟩,.i (v17l2+1)] rfl ⟨g_addI rfl rfl hk5,.e (u_mapUpdateD (intKF underlying3) (l:=o0c0l2) (val:=(fun x=>cI x)) (k:=(nth v0parts v17l2.toNat).part) (a:=v17l2) underlying80 rfl rfl rfl (fun _ _ _ h=>exKey h) rfl (.rfl' _)) rfl⟩ ?_
    cases H
    exact .t 1 0 (ih1 (n1,(v17l2+1,aset o0c0l2 ((nth v0parts v17l2.toNat).part) v17l2)) HK1 hm1) rfl rfl rfl rfl (okBoth rfl (okCons okMap rfl)) hS rfl
   ·obtain ⟨hk6,H⟩:=ck_some H
    refine .A 6 [.i (v17l2+1)] rfl (g_addI rfl rfl hk6) ?_
    cases H
    exact .t 1 0 (ih1 (n1,(v17l2+1,o0c0l2)) HK1 hm1) rfl rfl rfl rfl (okBoth rfl (okCons okMap rfl)) hS rfl
  ·refine .A 1 [] rfl trivial ?_
   obtain ⟨q0,H9,hq0⟩:=map_some' H; clear H; cases hq0
   cases HK1
   have H:=H9
   exact .z (hj1x o0c0l2 H) rfl rfl
theorem c_f_correlate_pick {v0parts:List Record} {v1at:List Int} {r:(List Record)×(List Record)} (H:f_correlate_pick v0parts v1at=some r):ACall prog 41 [slOf 12 Record.row v0parts,slOf 1 rI v1at] (·=.tup [slOf 12 Record.row r.1,slOf 12 Record.row r.2]):=by
 obtain ⟨i4,hi4,hz4,hs4,hb4⟩:=in_4
 obtain ⟨i32,hi32,hz32,hs32,hb32⟩:=in_32
 refine ACall.enter' func41 rfl ntmps41 rfl fun S hS=>?_
 unfold f_correlate_pick at H
 refine .A 17 [.v (.mp 0) ⟨[.map (mEnc (fun n=>Value.int .i64 n) (fun x=>cB x) ([]:List (Int×Bool)))],[]⟩,.i (v1at.length:Int)] rfl ⟨s37.n rfl rfl,.e (v_makeMap) rfl⟩ ?_
 refine .tok (i:=4) (e:=32) (sz:=12) rfl ?_
 refine .blockJoin2 (ι:=List Record×(List (Int×Bool))) (fun ⟨v4pickedj1,o0c0j1⟩=>[(0,.d (slOf 12 Record.row v0parts)),(4,.tsl 12 (v4pickedj1.map Record.row) 0),(5,.d (nilD)),(6,.mp 0)]) (fun ⟨v4pickedj1,o0c0j1⟩=>⟨[.map (mEnc (fun n=>Value.int .i64 n) (fun x=>cB x) o0c0j1)],[⟨32,12,v4pickedj1.length,none⟩]⟩) (fun s=>f_correlate_pick_j1 v0parts s.1 s.2=some r) ?_ ?_
 ·rintro ⟨v4pickedj1,o0c0j1⟩ H
  replace H:f_correlate_pick_j1 v0parts v4pickedj1 o0c0j1=some r:=H
  unfold f_correlate_pick_j1 at H
  refine .A 8 [.i (v0parts.length:Int)] rfl (s22.n rfl rfl) ?_
  refine .tok (i:=5) (e:=32) (sz:=12) rfl ?_
  obtain ⟨n1,H⟩:=loop_some H
  refine .loop (ι:=Nat×(List Record×Int)) (fun ⟨_,v5othersl1,v30l1⟩=>[(4,.tsl 12 (v4pickedj1.map Record.row) 0),(5,.tsl 12 (v5othersl1.map Record.row) 1),(6,.mp 0),(28,.d (slOf 12 Record.row v0parts)),(29,.d (cI (v0parts.length:Int))),(30,.d (cI v30l1))]) (fun ⟨_,v5othersl1,v30l1⟩=>⟨[.map (mEnc (fun n=>Value.int .i64 n) (fun x=>cB x) o0c0j1)],[⟨32,12,v4pickedj1.length,none⟩,⟨32,12,v5othersl1.length,none⟩]⟩) (fun p=>iter (fun s=>f_correlate_pick_l1 v0parts v4pickedj1 o0c0j1 s.1 s.2) p.1 p.2=some r) (·.1) (n1,(([]:List Record),0)) H (.cons rfl (.rfl' _) (.cons rfl (.rfl' _) (.cons rfl (.rfl' _) (.cons rfl (.rfl' _) (.cons rfl (.rfl' _) (.cons rfl (.rfl' _) (.nil))))))) rfl ?_
  rintro ⟨m1,v5othersl1,v30l1⟩ HI ih1
  obtain ⟨n1,q1,hm1,H,HK1⟩:=iter_succ HI
  clear HI
  replace H:f_correlate_pick_l1 v0parts v4pickedj1 o0c0j1 v5othersl1 v30l1=some q1:=H
  unfold f_correlate_pick_l1 at H
  refine .A 5 [] rfl trivial ?_
  refine .ite H rfl (fun H=>?_) (fun H=>?_)
  ·obtain ⟨hk1,H⟩:=ck_some H
   refine .A 19 [.d (.ro (Record.row (nth v0parts v30l1.toNat))),.r 1,.b ((alook o0c0j1 v30l1).getD false)] rfl ⟨OpQ.g (q_lookupD (intKF underlying3) (l:=o0c0j1) (val:=(fun x=>cB x)) (k:=v30l1) (a0:=false) underlying73 hi4 hz4 (show DLe (cB false) (cB false) from .rfl' _) rfl rfl rfl (fun _ _ _ h=>exKey h)),s22.ix rfl rfl rfl hk1⟩ ?_
   refine .ite H rfl (fun H=>?_) (fun H=>?_)
   ·obtain ⟨hk2,H⟩:=ck_some H
    obtain ⟨hk3,H⟩:=ck_some H
    refine .A 12 [.d (slOf 12 Record.row ([nth v0parts v30l1.toNat]:List Record)),.a 1 32 12 Record.row (v5othersl1++([nth v0parts v30l1.toNat]:List Record)),.i (v30l1+1)] rfl ⟨g_addI rfl rfl hk3,s22.a rfl rfl rfl rfl hk2,g_buildSlice1 underlying22 hi32 hs32 hz32 rfl rfl rfl rfl rfl⟩ ?_
    cases H
    exact .t 1 2 (ih1 (n1,(v5othersl1++([nth v0parts v30l1.toNat]:List Record),v30l1+1)) HK1 hm1) rfl rfl rfl rfl (okBoth rfl (okCons okMap rfl)) hS rfl
   ·obtain ⟨hk4,H⟩:=ck_some H
    refine .A 6 [.i (v30l1+1)] rfl (g_addI rfl rfl hk4) ?_
    cases H
    exact .t 1 2 (ih1 (n1,(v5othersl1,v30l1+1)) HK1 hm1) rfl rfl rfl rfl (okBoth rfl (okCons okMap rfl)) hS rfl
  ·refine .A 8 [] rfl trivial ?_
   refine .R func41 results41 rfl ?_
   cases H
   cases HK1
   exact .m rfl (.tupL ⟨.tsl _ _ _,.tsl _ _ _,trivial⟩)
 ·intro hj1 hj1x
  obtain ⟨n2,H⟩:=loop_some H
  refine .loop (ι:=Nat×(List Record×Int×(List (Int×Bool)))) (fun ⟨_,v4pickedl2,v14l2,o0c0l2⟩=>[(0,.d (slOf 12 Record.row v0parts)),(4,.tsl 12 (v4pickedl2.map Record.row) 0),(5,.d (nilD)),(6,.mp 0),(12,.d (slOf 1 rI v1at)),(13,.d (cI (v1at.length:Int))),(14,.d (cI v14l2))]) (fun ⟨_,v4pickedl2,v14l2,o0c0l2⟩=>⟨[.map (mEnc (fun n=>Value.int .i64 n) (fun x=>cB x) o0c0l2)],[⟨32,12,v4pickedl2.length,none⟩]⟩) (fun p=>iter (fun s=>f_correlate_pick_l2 v0parts v1at s.1 s.2.1 s.2.2) p.1 p.2=some r) (·.1) (n2,(([]:List Record),0,([]:List (Int×Bool)))) H (.cons rfl (.rfl' _) (.cons rfl (.rfl' _) (.cons rfl (.rfl' _) (.cons rfl (.rfl' _) (.cons rfl (.rfl' _) (.cons rfl (.rfl' _) (.cons rfl (.rfl' _) (.nil)))))))) rfl ?_
  rintro ⟨m1,v4pickedl2,v14l2,o0c0l2⟩ HI ih1
  obtain ⟨n1,q1,hm1,H,HK1⟩:=iter_succ HI
  clear HI
  replace H:f_correlate_pick_l2 v0parts v1at v4pickedl2 v14l2 o0c0l2=some q1:=H
  unfold f_correlate_pick_l2 at H
  refine .A 5 [] rfl trivial ?_
  refine .ite H rfl (fun H=>?_) (fun H=>?_)
  ·obtain ⟨hk5,H⟩:=ck_some H
   obtain ⟨hk6,H⟩:=ck_some H
   obtain ⟨hk7,H⟩:=ck_some H
   obtain ⟨hk8,H⟩:=ck_some H
   refine .A 30 [.d (.ro (rI (nth v1at v14l2.toNat))),.u ⟨[.map (mEnc (fun n=>Value.int .i64 n) (fun x=>cB x) (aset o0c0l2 (nth v1at v14l2.toNat) true))],[⟨32,12,v4pickedl2.length,none⟩]⟩,.d (.ro (Record.row (nth v0parts (nth v1at v14l2.toNat).toNat))),.d (slOf 12 Record.row ([nth v0parts (nth v1at v14l2.toNat).toNat]:List Record)),.a 0 32 12 Record.row (v4pickedl2++([nth v0parts (nth v1at v14l2.toNat).toNat]:List Record)),.i (v14l2+1)] rfl ⟨g_addI rfl rfl hk8,s22.a rfl rfl rfl rfl hk7,g_buildSlice1 underlying22 hi32 hs32 hz32 rfl rfl rfl rfl rfl,s22.ix rfl rfl rfl hk6,.e (u_mapUpdateD (intKF underlying3) (l:=o0c0l2) (val:=(fun x=>cB x)) (k:=nth v1at v14l2.toNat) (a:=true) underlying73 rfl rfl rfl (fun _ _ _ h=>exKey h) rfl (.rfl' _)) rfl,s37.ix rfl rfl rfl hk5⟩ ?_
   cases H
   exact .z (ih1 (n1,(v4pickedl2++([nth v0parts (nth v1at v14l2.toNat).toNat]:List Record),v14l2+1,aset o0c0l2 (nth v1at v14l2.toNat) true)) HK1 hm1) rfl rfl
  ·refine .A 1 [] rfl trivial ?_
   obtain ⟨q0,H9,hq0⟩:=map_some' H; clear H; cases hq0
   cases HK1
   have H:=H9
   exact .z (hj1x (v4pickedl2,o0c0l2) H) rfl rfl
theorem c_g_api_Record_v1 {o0c0p:CorrelateCall} {y0t0p:List Record} {n0p:Nat} {r:Int} (H:g_api_Record_v1 o0c0p y0t0p=some r):ACallS prog 56 [.vc 0 n0p,.clo 57 [.ref 0 0]] ⟨[.row 51 [.d (cI o0c0p.source),.d (cI o0c0p.number)]],[⟨32,12,n0p,some (y0t0p.map Record.row)⟩]⟩ (QE (.d (cI r)) ⟨[.row 51 [.d (cI o0c0p.source),.d (cI o0c0p.number)]],[⟨32,12,n0p,some (y0t0p.map Record.row)⟩]⟩):=by
 obtain ⟨i32,hi32,hz32,hs32,hb32⟩:=in_32
 refine ACallS.keep ?_
 refine ACallS.enter func56 rfl ntmps56 rfl fun S hS=>?_
 unfold g_api_Record_v1 at H
 refine .A 12 [.i (y0t0p.length:Int)] rfl (OpQ.g (q_lenV (l:=y0t0p) (row:=Record.row) underlying22 rfl rfl)) ?_
 obtain ⟨n1,H⟩:=loop_some H
 refine .loop (ι:=Nat×(Int)) (fun ⟨_,v8l1⟩=>[(0,.vc 0 n0p),(1,.clo 57 [.ref 0 0]),(7,.d (cI (y0t0p.length:Int))),(8,.d (cI v8l1))]) (fun ⟨_,v8l1⟩=>⟨[.row 51 [.d (cI o0c0p.source),.d (cI o0c0p.number)]],[⟨32,12,n0p,some (y0t0p.map Record.row)⟩]⟩) (fun p=>iter (fun s=>g_api_Record_v1_l1 o0c0p y0t0p s) p.1 p.2=some r) (·.1) (n1,0) H (.cons rfl (.rfl' _) (.cons rfl (.rfl' _) (.cons rfl (.rfl' _) (.cons rfl (.rfl' _) (.nil))))) rfl ?_
 rintro ⟨m1,v8l1⟩ HI ih1
 obtain ⟨n1,q1,hm1,H,HK1⟩:=iter_succ HI
 clear HI
 replace H:g_api_Record_v1_l1 o0c0p y0t0p v8l1=some q1:=H
 unfold g_api_Record_v1_l1 at H
 refine .A 5 [] rfl trivial ?_
 refine .ite H rfl (fun H=>?_) (fun H=>?_)
 ·obtain ⟨hk1,H⟩:=ck_some H
  obtain ⟨hk2,H⟩:=ck_some H
  obtain ⟨y1,hy1,H⟩:=bind_some' H
  refine .B 15 [.g (.vp 0 n0p v8l1.toNat 0),.f 1 (.d (.agg (Record.row (nth y0t0p v8l1.toNat))))] rfl ⟨OpQ.g (q_loadVpA (l:=y0t0p) (row:=Record.row) (cs:=(Record.row (nth y0t0p v8l1.toNat))) one_32 sz_32 rfl rfl hk2 (Nat.le_of_ble_eq_true rfl) rfl),OpQ.g (q_idxV (l:=y0t0p) (row:=Record.row) (i:=v8l1) underlying22 hi32 hs32 rfl rfl rfl hk1)⟩ ?_
  refine .callFC (en 15 rfl) rfl rfl [0] [] (x:=.d (cB y1)) (st':=⟨[.row 51 [.d (cI o0c0p.source),.d (cI o0c0p.number)]],[⟨32,12,n0p,some (y0t0p.map Record.row)⟩]⟩) rfl (c_g_correlate_span_1 (hy1)) ⟨.rfl' _,.rfl' _,trivial⟩ rfl rfl rfl rfl rfl rfl ?_
  refine .A 1 [] rfl trivial ?_
  refine .ite H rfl (fun H=>?_) (fun H=>?_)
  ·refine .A 5 [] rfl trivial ?_
   refine .R func56 results56 rfl ?_
   cases H
   cases HK1
   exact ⟨[0],[0],rfl,rfl,rfl,rfl,rfl,rfl,rfl,rfl,.rfl' _⟩
  ·obtain ⟨hk3,H⟩:=ck_some H
   refine .A 6 [.i (v8l1+1)] rfl (g_addI rfl rfl hk3) ?_
   cases H
   exact .z (ih1 (n1,(v8l1+1)) HK1 hm1) rfl rfl
 ·refine .A 5 [] rfl trivial ?_
  refine .R func56 results56 rfl ?_
  cases H
  cases HK1
  exact ⟨[0],[0],rfl,rfl,rfl,rfl,rfl,rfl,rfl,rfl,.rfl' _⟩
theorem c_g_correlate_span {v1c:CorrelateCall} {y0t0p:List Record} {n0p:Nat} {r:Int×Int} (H:g_correlate_span v1c y0t0p=some r):ACallS prog 38 [.vc 0 n0p,.d (.agg (CorrelateCall.row v1c))] ⟨[],[⟨32,12,n0p,some (y0t0p.map Record.row)⟩]⟩ (QE (.d (.tup [cI r.1,cI r.2])) ⟨[],[⟨32,12,n0p,some (y0t0p.map Record.row)⟩]⟩):=by
 obtain ⟨i32,hi32,hz32,hs32,hb32⟩:=in_32
 refine ACallS.keep ?_
 refine ACallS.enter func38 rfl ntmps38 rfl fun S hS=>?_
 unfold g_correlate_span at H
 obtain ⟨y1,hy1,H⟩:=bind_some' H
 refine .B 10 [.r 0,.g (.clo 57 [.ref 0 0])] rfl (OpQ.g (q_makeFunc rfl)) ?_
 refine .callF (en 16 rfl) rfl [0] [0] (x:=.d (cI y1)) (st':=⟨[.row 51 [.d (cI v1c.source),.d (cI v1c.number)]],[⟨32,12,n0p,some (y0t0p.map Record.row)⟩]⟩) rfl (c_g_api_Record_v1 (hy1)) ⟨.rfl' _,.rfl' _,trivial⟩ rfl rfl rfl rfl rfl rfl ?_
 refine .A 8 [] rfl trivial ?_
 refine .ite H rfl (fun H=>?_) (fun H=>?_)
 ·refine .A 5 [] rfl trivial ?_
  refine .R func38 results38 rfl ?_
  cases H
  exact ⟨[],[0],rfl,rfl,rfl,rfl,rfl,rfl,rfl,rfl,.tupL (ds:=[cI 0,cI 0]) ⟨.rfl' _,.rfl' _,trivial⟩⟩
 ·refine .A 8 [] rfl trivial ?_
  obtain ⟨n1,H⟩:=loop_some H
  refine .loop (ι:=Nat×(Int)) (fun ⟨_,v5tol1⟩=>[(0,.vc 0 n0p),(3,.ref 0 0),(4,.d (cI y1)),(5,.d (cI v5tol1))]) (fun ⟨_,v5tol1⟩=>⟨[.row 51 [.d (cI v1c.source),.d (cI v1c.number)]],[⟨32,12,n0p,some (y0t0p.map Record.row)⟩]⟩) (fun p=>iter (fun s=>g_correlate_span_l1 v1c y0t0p y1 s) p.1 p.2=some r) (·.1) (n1,y1) H (.cons rfl (.rfl' _) (.cons rfl (.rfl' _) (.cons rfl (.rfl' _) (.cons rfl (.rfl' _) (.nil))))) rfl ?_
  rintro ⟨m1,v5tol1⟩ HI ih1
  obtain ⟨n1,q1,hm1,H,HK1⟩:=iter_succ HI
  clear HI
  replace H:g_correlate_span_l1 v1c y0t0p y1 v5tol1=some q1:=H
  unfold g_correlate_span_l1 at H
  obtain ⟨hk1,H⟩:=ck_some H
  obtain ⟨hk2,H⟩:=ck_some H
  obtain ⟨y2,hy2,H⟩:=bind_some' H
  refine .A 18 [.p 13,.i (y0t0p.length:Int),.g (.vp 0 n0p v5tol1.toNat 0),.f 7 (.d (.agg (Record.row (nth y0t0p v5tol1.toNat)))),.d (.agg (CorrelateCall.row y2)),.b (eqVs (CorrelateCall.vals y2) (CorrelateCall.vals v1c))] rfl ⟨rfl,fun hg=>OpQ.g (q_steql fk_51 rfl rfl (xs:=CorrelateCall.vals y2) (ys:=CorrelateCall.vals v1c) rfl rfl rfl rfl),rfl,rfl,fun hg=>g_call (en 7 rfl) rfl rfl (c_f_correlate_callOf (gcall_some hy2 hg)),rfl,fun hg=>OpQ.g (q_loadVpA (l:=y0t0p) (row:=Record.row) (cs:=(Record.row (nth y0t0p v5tol1.toNat))) one_32 sz_32 rfl rfl (hk2 hg) (Nat.le_of_ble_eq_true rfl) rfl),rfl,fun hg=>OpQ.g (q_idxV (l:=y0t0p) (row:=Record.row) (i:=v5tol1) underlying22 hi32 hs32 rfl rfl rfl (hk1 hg)),rfl,rfl,OpQ.g (q_lenV (l:=y0t0p) (row:=Record.row) underlying22 rfl rfl),(show drawB _ _=true by kernel_rfl)⟩ ?_
  refine .ite H rfl (fun H=>?_) (fun H=>?_)
  ·obtain ⟨hk3,H⟩:=ck_some H
   refine .A 8 [.i (v5tol1+1)] rfl (g_addI rfl rfl hk3) ?_
   cases H
   exact .z (ih1 (n1,(v5tol1+1)) HK1 hm1) rfl rfl
  ·refine .A 8 [] rfl trivial ?_
   refine .R func38 results38 rfl ?_
   cases H
   cases HK1
   exact ⟨[],[0],rfl,rfl,rfl,rfl,rfl,rfl,rfl,rfl,.tupL (ds:=[cI y1,cI v5tol1]) ⟨.rfl' _,.rfl' _,trivial⟩⟩
theorem c_g_correlate_candidates {v0parts:List Record} {v1last:Bool} {n0p:Nat} {y0t0p:List Record} {lo_v0parts:Nat} (hw_v0parts:(y0t0p.drop lo_v0parts).take v0parts.length=v0parts) {r:(List Int)} (H:g_correlate_candidates v0parts v1last=some r):ACallS prog 54 [.vw 0 n0p lo_v0parts v0parts.length,.d (cB v1last)] ⟨[],[⟨32,12,n0p,some (y0t0p.map Record.row)⟩]⟩ (QE (.d (slOf 1 rI r)) ⟨[],[⟨32,12,n0p,some (y0t0p.map Record.row)⟩]⟩):=by
 obtain ⟨i3,hi3,hz3,hs3,hb3⟩:=in_3
 obtain ⟨i32,hi32,hz32,hs32,hb32⟩:=in_32
 refine ACallS.keep ?_
 refine ACallS.enter func54 rfl ntmps54 rfl fun S hS=>?_
 unfold g_correlate_candidates at H
 refine .A 16 [.v (.mp 0) ⟨[.map (mEnc (fun n=>Value.int .i64 n) (fun x=>cI x) ([]:List (Int×Int)))],[⟨32,12,n0p,some (y0t0p.map Record.row)⟩]⟩,.i (v0parts.length:Int)] rfl ⟨OpQ.g (q_lenW underlying22 rfl),.e (v_makeMap) rfl⟩ ?_
 refine .blockJoin2 (ι:=(List (Int×Int))) (fun o0c0j1=>[(0,.vw 0 n0p lo_v0parts v0parts.length),(1,.d (cB v1last)),(5,.mp 0)]) (fun o0c0j1=>⟨[.map (mEnc (fun n=>Value.int .i64 n) (fun x=>cI x) o0c0j1)],[⟨32,12,n0p,some (y0t0p.map Record.row)⟩]⟩) (fun s=>g_correlate_candidates_j1 v0parts v1last s=some r) ?_ ?_
 ·rintro o0c0j1 H
  replace H:g_correlate_candidates_j1 v0parts v1last o0c0j1=some r:=H
  unfold g_correlate_candidates_j1 at H
  refine .A 9 [] rfl trivial ?_
  refine .tok (i:=10) (e:=3) (sz:=1) rfl ?_
  obtain ⟨n1,H⟩:=loop_some H
  refine .loop (ι:=Nat×(List Int×Int)) (fun ⟨_,v10outl1,v11kl1⟩=>[(0,.vw 0 n0p lo_v0parts v0parts.length),(1,.d (cB v1last)),(5,.mp 0),(10,.tsl 1 (v10outl1.map rI) 1),(11,.d (cI v11kl1))]) (fun ⟨_,v10outl1,v11kl1⟩=>⟨[.map (mEnc (fun n=>Value.int .i64 n) (fun x=>cI x) o0c0j1)],[⟨32,12,n0p,some (y0t0p.map Record.row)⟩,⟨3,1,v10outl1.length,none⟩]⟩) (fun p=>iter (fun s=>g_correlate_candidates_l1 v0parts v1last o0c0j1 s.1 s.2) p.1 p.2=some r) (·.1) (n1,(([]:List Int),1)) H (.cons rfl (.rfl' _) (.cons rfl (.rfl' _) (.cons rfl (.rfl' _) (.cons rfl (.rfl' _) (.cons rfl (.rfl' _) (.nil)))))) rfl ?_
  rintro ⟨m1,v10outl1,v11kl1⟩ HI ih1
  obtain ⟨n1,q1,hm1,H,HK1⟩:=iter_succ HI
  clear HI
  replace H:g_correlate_candidates_l1 v0parts v1last o0c0j1 v10outl1 v11kl1=some q1:=H
  unfold g_correlate_candidates_l1 at H
  refine .A 19 [.d (.tup [cI ((alook o0c0j1 v11kl1).getD 0),cB ((alook o0c0j1 v11kl1).isSome)])] rfl (OpQ.g (q_lookupOkD (intKF underlying3) (l:=o0c0j1) (val:=(fun x=>cI x)) (k:=v11kl1) (a0:=0) underlying80 hi3 hz3 (show DLe (cI 0) (cI 0) from .rfl' _) rfl rfl rfl (fun _ _ _ h=>exKey h))) ?_
  refine .ite H rfl (fun H=>?_) (fun H=>?_)
  ·refine .A 5 [] rfl trivial ?_
   refine .R func54 results54 rfl ?_
   cases H
   cases HK1
   exact ⟨[],[0],rfl,rfl,(by first | rfl | (simp only [List.map_cons,List.map_nil,renMap,renArr,mergeSt]; rfl)),(by first | rfl | (simp only [List.map_cons,List.map_nil,renMap,renArr,mergeSt]; rfl)),(by first | rfl | (simp only [List.map_cons,List.map_nil,renMap,renArr,mergeSt]; rfl)),(by first | rfl | (simp only [List.map_cons,List.map_nil,renMap,renArr,mergeSt]; rfl)),(by first | rfl | (simp only [List.map_cons,List.map_nil,renMap,renArr,mergeSt]; rfl)),(by first | rfl | (simp only [List.map_cons,List.map_nil,renMap,renArr,mergeSt]; rfl)),.tsl _ _ _⟩
  ·obtain ⟨hk1,H⟩:=ck_some H
   obtain ⟨hk2,H⟩:=ck_some H
   obtain ⟨hk3,H⟩:=ck_some H
   refine .A 20 [.d (slOf 1 rI ([(alook o0c0j1 v11kl1).getD 0]:List Int)),.a 1 3 1 rI (v10outl1++([(alook o0c0j1 v11kl1).getD 0]:List Int)),.g (.vp 0 n0p (lo_v0parts+((alook o0c0j1 v11kl1).getD 0).toNat) 0),.f 3 (.d (cB ((nth v0parts ((alook o0c0j1 v11kl1).getD 0).toNat).last)))] rfl ⟨rfl,fun hg=>OpQ.g (q_loadVpW (l:=y0t0p) (a:=v0parts) (row:=Record.row) (lo:=lo_v0parts) (i:=((alook o0c0j1 v11kl1).getD 0).toNat) hw_v0parts one_4 rfl rfl (hk3 hg) rfl),rfl,rfl,fun hg=>OpQ.g (q_idxW (row:=Record.row) (l:=y0t0p) (i:=(alook o0c0j1 v11kl1).getD 0) underlying22 hi32 hs32 rfl rfl rfl (hk2 hg)),rfl,rfl,s37.a rfl rfl rfl rfl hk1,g_buildSlice1 underlying37 hi3 hs3 hz3 rfl rfl rfl rfl rfl⟩ ?_
   refine .ite H rfl (fun H=>?_) (fun H=>?_)
   ·refine .A 5 [] rfl trivial ?_
    refine .R func54 results54 rfl ?_
    cases H
    cases HK1
    exact ⟨[],[0],rfl,rfl,(by first | rfl | (simp only [List.map_cons,List.map_nil,renMap,renArr,mergeSt]; rfl)),(by first | rfl | (simp only [List.map_cons,List.map_nil,renMap,renArr,mergeSt]; rfl)),(by first | rfl | (simp only [List.map_cons,List.map_nil,renMap,renArr,mergeSt]; rfl)),(by first | rfl | (simp only [List.map_cons,List.map_nil,renMap,renArr,mergeSt]; rfl)),(by first | rfl | (simp only [List.map_cons,List.map_nil,renMap,renArr,mergeSt]; rfl)),(by first | rfl | (simp only [List.map_cons,List.map_nil,renMap,renArr,mergeSt]; rfl)),.tsl _ _ _⟩
   ·obtain ⟨hk4,H⟩:=ck_some H
    refine .A 7 [.i (v11kl1+1)] rfl (g_addI rfl rfl hk4) ?_
    cases H
    exact .z (ih1 (n1,(v10outl1++([(alook o0c0j1 v11kl1).getD 0]:List Int),v11kl1+1)) HK1 hm1) rfl rfl
 ·intro hj1 hj1x
  obtain ⟨n2,H⟩:=loop_some H
  refine .loop (ι:=Nat×(Int×(List (Int×Int)))) (fun ⟨_,v17l2,o0c0l2⟩=>[(0,.vw 0 n0p lo_v0parts v0parts.length),(1,.d (cB v1last)),(5,.mp 0),(15,.vw 0 n0p lo_v0parts v0parts.length),(16,.d (cI (v0parts.length:Int))),(17,.d (cI v17l2))]) (fun ⟨_,v17l2,o0c0l2⟩=>⟨[.map (mEnc (fun n=>Value.int .i64 n) (fun x=>cI x) o0c0l2)],[⟨32,12,n0p,some (y0t0p.map Record.row)⟩]⟩) (fun p=>iter (fun s=>g_correlate_candidates_l2 v0parts v1last s.1 s.2) p.1 p.2=some r) (·.1) (n2,(0,([]:List (Int×Int)))) H (.cons rfl (.rfl' _) (.cons rfl (.rfl' _) (.cons rfl (.rfl' _) (.cons rfl (.rfl' _) (.cons rfl (.rfl' _) (.cons rfl (.rfl' _) (.nil))))))) rfl ?_
  rintro ⟨m1,v17l2,o0c0l2⟩ HI ih1
  obtain ⟨n1,q1,hm1,H,HK1⟩:=iter_succ HI
  clear HI
  replace H:g_correlate_candidates_l2 v0parts v1last v17l2 o0c0l2=some q1:=H
  unfold g_correlate_candidates_l2 at H
  refine .A 5 [] rfl trivial ?_
  refine .ite H rfl (fun H=>?_) (fun H=>?_)
  ·obtain ⟨hk5,H⟩:=ck_some H
   obtain ⟨hk6,H⟩:=ck_some H
   refine .A 29 [.g (.vp 0 n0p (lo_v0parts+v17l2.toNat) 0),.f 22 (.d (.agg (Record.row (nth v0parts v17l2.toNat)))),.r 1,.d (.tup [cI ((alook o0c0l2 ((nth v0parts v17l2.toNat).part)).getD 0),cB ((alook o0c0l2 ((nth v0parts v17l2.toNat).part)).isSome)])] rfl ⟨OpQ.g (q_lookupOkD (intKF underlying3) (l:=o0c0l2) (val:=(fun x=>cI x)) (k:=(nth v0parts v17l2.toNat).part) (a0:=0) underlying80 hi3 hz3 (show DLe (cI 0) (cI 0) from .rfl' _) rfl rfl rfl (fun _ _ _ h=>exKey h)),OpQ.g (q_loadVpAW (l:=y0t0p) (a:=v0parts) (row:=Record.row) (lo:=lo_v0parts) (i:=v17l2.toNat) (cs:=(Record.row (nth v0parts v17l2.toNat))) hw_v0parts one_32 sz_32 rfl rfl hk6 (Nat.le_of_ble_eq_true rfl) rfl),OpQ.g (q_idxW (row:=Record.row) (l:=y0t0p) (i:=v17l2) underlying22 hi32 hs32 rfl rfl rfl hk5)⟩ ?_
   refine .ite H rfl (fun H=>?_) (fun H=>?_)
   ·obtain ⟨hk7,H⟩:=ck_some H
    refine .A 12 [.u ⟨[.map (mEnc (fun n=>Value.int .i64 n) (fun x=>cI x) (aset o0c0l2 ((nth v0parts v17l2.toNat).part) v17l2)),.row 32 [.d (cI ((nth v0parts v17l2.toNat).source)),.d (cI ((nth v0parts v17l2.toNat).serial)),.d (cI ((nth v0parts v17l2.toNat).kind)),.d (cS ((nth v0parts v17l2.toNat).a)),.d (cS ((nth v0parts v17l2.toNat).b)),.d (cI ((nth v0parts v17l2.toNat).start)),.d (cI ((nth v0parts v17l2.toNat).units)),.d (cI ((nth v0parts v17l2.toNat).call)),.d (cI ((nth v0parts v17l2.toNat).part)),.d (cB ((nth v0parts v17l2.toNat).last)),.d (cI ((nth v0parts v17l2.toNat).trunk)),.d (cB ((nth v0parts v17l2.toNat).inbound))]],[⟨32,12,n0p,some (y0t0p.map Record.row)⟩]⟩,.i (v17l2+1)] rfl ⟨g_addI rfl rfl hk7,.e (u_mapUpdateD (intKF underlying3) (l:=o0c0l2) (val:=(fun x=>cI x)) (k:=(nth v0parts v17l2.toNat).part) (a:=v17l2) underlying80 rfl rfl rfl (fun _ _ _ h=>exKey h) rfl (.rfl' _)) rfl⟩ ?_
    cases H
    exact .t 1 1 (ih1 (n1,(v17l2+1,aset o0c0l2 ((nth v0parts v17l2.toNat).part) v17l2)) HK1 hm1) rfl rfl rfl rfl (okBoth rfl (okCons okMap rfl)) hS rfl
   ·obtain ⟨hk8,H⟩:=ck_some H
    refine .A 6 [.i (v17l2+1)] rfl (g_addI rfl rfl hk8) ?_
    cases H
    exact .t 1 1 (ih1 (n1,(v17l2+1,o0c0l2)) HK1 hm1) rfl rfl rfl rfl (okBoth rfl (okCons okMap rfl)) hS rfl
  ·refine .A 1 [] rfl trivial ?_
   obtain ⟨q0,H9,hq0⟩:=map_some' H; clear H; cases hq0
   cases HK1
   have H:=H9
   exact .z (hj1x o0c0l2 H) rfl rfl
theorem c_g_correlate_pick {v0parts:List Record} {v1at:List Int} {n0p:Nat} {y0t0p:List Record} {lo_v0parts:Nat} (hw_v0parts:(y0t0p.drop lo_v0parts).take v0parts.length=v0parts) {r:(List Record)×(List Record)} (H:g_correlate_pick v0parts v1at=some r):ACallS prog 41 [.vw 0 n0p lo_v0parts v0parts.length,.d (slOf 1 rI v1at)] ⟨[],[⟨32,12,n0p,some (y0t0p.map Record.row)⟩]⟩ (QE (.d (.tup [slOf 12 Record.row r.1,slOf 12 Record.row r.2])) ⟨[],[⟨32,12,n0p,some (y0t0p.map Record.row)⟩]⟩):=by
 obtain ⟨i4,hi4,hz4,hs4,hb4⟩:=in_4
 obtain ⟨i32,hi32,hz32,hs32,hb32⟩:=in_32
 refine ACallS.keep ?_
 refine ACallS.enter func41 rfl ntmps41 rfl fun S hS=>?_
 unfold g_correlate_pick at H
 refine .A 17 [.v (.mp 0) ⟨[.map (mEnc (fun n=>Value.int .i64 n) (fun x=>cB x) ([]:List (Int×Bool)))],[⟨32,12,n0p,some (y0t0p.map Record.row)⟩]⟩,.i (v1at.length:Int)] rfl ⟨s37.n rfl rfl,.e (v_makeMap) rfl⟩ ?_
 refine .tok (i:=4) (e:=32) (sz:=12) rfl ?_
 refine .blockJoin2 (ι:=List Record×(List (Int×Bool))) (fun ⟨v4pickedj1,o0c0j1⟩=>[(0,.vw 0 n0p lo_v0parts v0parts.length),(4,.tsl 12 (v4pickedj1.map Record.row) 1),(5,.d (nilD)),(6,.mp 0)]) (fun ⟨v4pickedj1,o0c0j1⟩=>⟨[.map (mEnc (fun n=>Value.int .i64 n) (fun x=>cB x) o0c0j1)],[⟨32,12,n0p,some (y0t0p.map Record.row)⟩,⟨32,12,v4pickedj1.length,none⟩]⟩) (fun s=>g_correlate_pick_j1 v0parts s.1 s.2=some r) ?_ ?_
 ·rintro ⟨v4pickedj1,o0c0j1⟩ H
  replace H:g_correlate_pick_j1 v0parts v4pickedj1 o0c0j1=some r:=H
  unfold g_correlate_pick_j1 at H
  refine .A 8 [.i (v0parts.length:Int)] rfl (OpQ.g (q_lenW underlying22 rfl)) ?_
  refine .tok (i:=5) (e:=32) (sz:=12) rfl ?_
  obtain ⟨n1,H⟩:=loop_some H
  refine .loop (ι:=Nat×(List Record×Int)) (fun ⟨_,v5othersl1,v30l1⟩=>[(4,.tsl 12 (v4pickedj1.map Record.row) 1),(5,.tsl 12 (v5othersl1.map Record.row) 2),(6,.mp 0),(28,.vw 0 n0p lo_v0parts v0parts.length),(29,.d (cI (v0parts.length:Int))),(30,.d (cI v30l1))]) (fun ⟨_,v5othersl1,v30l1⟩=>⟨[.map (mEnc (fun n=>Value.int .i64 n) (fun x=>cB x) o0c0j1)],[⟨32,12,n0p,some (y0t0p.map Record.row)⟩,⟨32,12,v4pickedj1.length,none⟩,⟨32,12,v5othersl1.length,none⟩]⟩) (fun p=>iter (fun s=>g_correlate_pick_l1 v0parts v4pickedj1 o0c0j1 s.1 s.2) p.1 p.2=some r) (·.1) (n1,(([]:List Record),0)) H (.cons rfl (.rfl' _) (.cons rfl (.rfl' _) (.cons rfl (.rfl' _) (.cons rfl (.rfl' _) (.cons rfl (.rfl' _) (.cons rfl (.rfl' _) (.nil))))))) rfl ?_
  rintro ⟨m1,v5othersl1,v30l1⟩ HI ih1
  obtain ⟨n1,q1,hm1,H,HK1⟩:=iter_succ HI
  clear HI
  replace H:g_correlate_pick_l1 v0parts v4pickedj1 o0c0j1 v5othersl1 v30l1=some q1:=H
  unfold g_correlate_pick_l1 at H
  refine .A 5 [] rfl trivial ?_
  refine .ite H rfl (fun H=>?_) (fun H=>?_)
  ·obtain ⟨hk1,H⟩:=ck_some H
   obtain ⟨hk2,H⟩:=ck_some H
   refine .A 19 [.g (.vp 0 n0p (lo_v0parts+v30l1.toNat) 0),.f 12 (.d (.agg (Record.row (nth v0parts v30l1.toNat)))),.r 1,.b ((alook o0c0j1 v30l1).getD false)] rfl ⟨OpQ.g (q_lookupD (intKF underlying3) (l:=o0c0j1) (val:=(fun x=>cB x)) (k:=v30l1) (a0:=false) underlying73 hi4 hz4 (show DLe (cB false) (cB false) from .rfl' _) rfl rfl rfl (fun _ _ _ h=>exKey h)),OpQ.g (q_loadVpAW (l:=y0t0p) (a:=v0parts) (row:=Record.row) (lo:=lo_v0parts) (i:=v30l1.toNat) (cs:=(Record.row (nth v0parts v30l1.toNat))) hw_v0parts one_32 sz_32 rfl rfl hk2 (Nat.le_of_ble_eq_true rfl) rfl),OpQ.g (q_idxW (row:=Record.row) (l:=y0t0p) (i:=v30l1) underlying22 hi32 hs32 rfl rfl rfl hk1)⟩ ?_
   refine .ite H rfl (fun H=>?_) (fun H=>?_)
   ·obtain ⟨hk3,H⟩:=ck_some H
    obtain ⟨hk4,H⟩:=ck_some H
    refine .A 12 [.d (slOf 12 Record.row ([nth v0parts v30l1.toNat]:List Record)),.a 2 32 12 Record.row (v5othersl1++([nth v0parts v30l1.toNat]:List Record)),.i (v30l1+1)] rfl ⟨g_addI rfl rfl hk4,s22.a rfl rfl rfl rfl hk3,g_buildSlice1 underlying22 hi32 hs32 hz32 rfl rfl rfl rfl rfl⟩ ?_
    cases H
    exact .t 1 3 (ih1 (n1,(v5othersl1++([nth v0parts v30l1.toNat]:List Record),v30l1+1)) HK1 hm1) rfl rfl rfl rfl (okBoth rfl (okCons okMap rfl)) hS rfl
   ·obtain ⟨hk5,H⟩:=ck_some H
    refine .A 6 [.i (v30l1+1)] rfl (g_addI rfl rfl hk5) ?_
    cases H
    exact .t 1 3 (ih1 (n1,(v5othersl1,v30l1+1)) HK1 hm1) rfl rfl rfl rfl (okBoth rfl (okCons okMap rfl)) hS rfl
  ·refine .A 8 [] rfl trivial ?_
   refine .R func41 results41 rfl ?_
   cases H
   cases HK1
   exact ⟨[],[0],rfl,rfl,(by first | rfl | (simp only [List.map_cons,List.map_nil,renMap,renArr,mergeSt]; rfl)),(by first | rfl | (simp only [List.map_cons,List.map_nil,renMap,renArr,mergeSt]; rfl)),(by first | rfl | (simp only [List.map_cons,List.map_nil,renMap,renArr,mergeSt]; rfl)),(by first | rfl | (simp only [List.map_cons,List.map_nil,renMap,renArr,mergeSt]; rfl)),(by first | rfl | (simp only [List.map_cons,List.map_nil,renMap,renArr,mergeSt]; rfl)),(by first | rfl | (simp only [List.map_cons,List.map_nil,renMap,renArr,mergeSt]; rfl)),.tupL (ds:=[slOf 12 Record.row v4pickedj1,slOf 12 Record.row v5othersl1]) ⟨.tsl _ _ _,.tsl _ _ _,trivial⟩⟩
 ·intro hj1 hj1x
  obtain ⟨n2,H⟩:=loop_some H
  refine .loop (ι:=Nat×(List Record×Int×(List (Int×Bool)))) (fun ⟨_,v4pickedl2,v14l2,o0c0l2⟩=>[(0,.vw 0 n0p lo_v0parts v0parts.length),(4,.tsl 12 (v4pickedl2.map Record.row) 1),(5,.d (nilD)),(6,.mp 0),(12,.d (slOf 1 rI v1at)),(13,.d (cI (v1at.length:Int))),(14,.d (cI v14l2))]) (fun ⟨_,v4pickedl2,v14l2,o0c0l2⟩=>⟨[.map (mEnc (fun n=>Value.int .i64 n) (fun x=>cB x) o0c0l2)],[⟨32,12,n0p,some (y0t0p.map Record.row)⟩,⟨32,12,v4pickedl2.length,none⟩]⟩) (fun p=>iter (fun s=>g_correlate_pick_l2 v0parts v1at s.1 s.2.1 s.2.2) p.1 p.2=some r) (·.1) (n2,(([]:List Record),0,([]:List (Int×Bool)))) H (.cons rfl (.rfl' _) (.cons rfl (.rfl' _) (.cons rfl (.rfl' _) (.cons rfl (.rfl' _) (.cons rfl (.rfl' _) (.cons rfl (.rfl' _) (.cons rfl (.rfl' _) (.nil)))))))) rfl ?_
  rintro ⟨m1,v4pickedl2,v14l2,o0c0l2⟩ HI ih1
  obtain ⟨n1,q1,hm1,H,HK1⟩:=iter_succ HI
  clear HI
  replace H:g_correlate_pick_l2 v0parts v1at v4pickedl2 v14l2 o0c0l2=some q1:=H
  unfold g_correlate_pick_l2 at H
  refine .A 5 [] rfl trivial ?_
  refine .ite H rfl (fun H=>?_) (fun H=>?_)
  ·obtain ⟨hk6,H⟩:=ck_some H
   obtain ⟨hk7,H⟩:=ck_some H
   obtain ⟨hk8,H⟩:=ck_some H
   obtain ⟨hk9,H⟩:=ck_some H
   obtain ⟨hk10,H⟩:=ck_some H
   refine .A 30 [.d (.ro (rI (nth v1at v14l2.toNat))),.u ⟨[.map (mEnc (fun n=>Value.int .i64 n) (fun x=>cB x) (aset o0c0l2 (nth v1at v14l2.toNat) true))],[⟨32,12,n0p,some (y0t0p.map Record.row)⟩,⟨32,12,v4pickedl2.length,none⟩]⟩,.g (.vp 0 n0p (lo_v0parts+(nth v1at v14l2.toNat).toNat) 0),.f 10 (.d (.agg (Record.row (nth v0parts (nth v1at v14l2.toNat).toNat)))),.d (slOf 12 Record.row ([nth v0parts (nth v1at v14l2.toNat).toNat]:List Record)),.a 1 32 12 Record.row (v4pickedl2++([nth v0parts (nth v1at v14l2.toNat).toNat]:List Record)),.i (v14l2+1)] rfl ⟨g_addI rfl rfl hk10,s22.a rfl rfl rfl rfl hk9,g_buildSlice1 underlying22 hi32 hs32 hz32 rfl rfl rfl rfl rfl,OpQ.g (q_loadVpAW (l:=y0t0p) (a:=v0parts) (row:=Record.row) (lo:=lo_v0parts) (i:=(nth v1at v14l2.toNat).toNat) (cs:=(Record.row (nth v0parts (nth v1at v14l2.toNat).toNat))) hw_v0parts one_32 sz_32 rfl rfl hk8 (Nat.le_of_ble_eq_true rfl) rfl),OpQ.g (q_idxW (row:=Record.row) (l:=y0t0p) (i:=nth v1at v14l2.toNat) underlying22 hi32 hs32 rfl rfl rfl hk7),.e (u_mapUpdateD (intKF underlying3) (l:=o0c0l2) (val:=(fun x=>cB x)) (k:=nth v1at v14l2.toNat) (a:=true) underlying73 rfl rfl rfl (fun _ _ _ h=>exKey h) rfl (.rfl' _)) rfl,s37.ix rfl rfl rfl hk6⟩ ?_
   cases H
   exact .z (ih1 (n1,(v4pickedl2++([nth v0parts (nth v1at v14l2.toNat).toNat]:List Record),v14l2+1,aset o0c0l2 (nth v1at v14l2.toNat) true)) HK1 hm1) rfl rfl
  ·refine .A 1 [] rfl trivial ?_
   obtain ⟨q0,H9,hq0⟩:=map_some' H; clear H; cases hq0
   cases HK1
   have H:=H9
   exact .z (hj1x (v4pickedl2,o0c0l2) H) rfl rfl
theorem c_g_correlate_join_v1 {v2c:CorrelateCall} {y0t0p:List Record} {y1t0p:List Record} {n0p:Nat} {r:(List Record)×(List Record)} (H:g_correlate_join_v1 v2c y0t0p y1t0p=some r):ACallS prog 31 [.vc 0 n0p,.tsl 12 (y1t0p.map Record.row) 1,.d (.agg (CorrelateCall.row v2c))] ⟨[],[⟨32,12,n0p,some (y0t0p.map Record.row)⟩,⟨32,12,y1t0p.length,none⟩]⟩ (QE (.tup [.vc 2 r.1.length,.tsl 12 (r.2.map Record.row) 1]) ⟨[],[⟨32,12,([]:List Record).length,none⟩,⟨32,12,r.2.length,none⟩,⟨32,12,r.1.length,some (r.1.map Record.row)⟩]⟩):=by
 obtain ⟨i32,hi32,hz32,hs32,hb32⟩:=in_32
 refine ACallS.keep ?_
 refine ACallS.enter func31 rfl ntmps31 rfl fun S hS=>?_
 unfold g_correlate_join_v1 at H
 refine .A 7 [.r 0] rfl trivial ?_
 refine .move (i:=0) rfl rfl ?_
 obtain ⟨n1,H⟩:=loop_some H
 refine .normV (l:=y0t0p) (row:=Record.row) (tk:=2) (fun z=>[(0,.vc 2 z),(1,.tsl 12 (y1t0p.map Record.row) 1),(5,.ref 0 0)]) (fun z=>⟨[.row 51 [.d (cI v2c.source),.d (cI v2c.number)]],[⟨32,12,([]:List Record).length,none⟩,⟨32,12,y1t0p.length,none⟩,⟨32,12,z,some (y0t0p.map Record.row)⟩]⟩) rfl (.cons rfl (.rfl' _) (.cons rfl (.rfl' _) (.cons rfl (.rfl' _) (.nil)))) rfl ?_
 refine .loop (ι:=Nat×(List Record×List Record)) (fun ⟨_,y2tl1,v1outl1⟩=>[(0,.vc 2 y2tl1.length),(1,.tsl 12 (v1outl1.map Record.row) 1),(5,.ref 0 0)]) (fun ⟨_,y2tl1,v1outl1⟩=>⟨[.row 51 [.d (cI v2c.source),.d (cI v2c.number)]],[⟨32,12,([]:List Record).length,none⟩,⟨32,12,v1outl1.length,none⟩,⟨32,12,y2tl1.length,some (y2tl1.map Record.row)⟩]⟩) (fun p=>iter (fun s=>g_correlate_join_v1_l1 v2c s.1 s.2) p.1 p.2=some r) (·.1) (n1,(y0t0p,y1t0p)) H (.cons rfl (.rfl' _) (.cons rfl (.rfl' _) (.cons rfl (.rfl' _) (.nil)))) rfl ?_
 rintro ⟨m1,y2tl1,v1outl1⟩ HI ih1
 obtain ⟨n1,q1,hm1,H,HK1⟩:=iter_succ HI
 clear HI
 replace H:g_correlate_join_v1_l1 v2c y2tl1 v1outl1=some q1:=H
 unfold g_correlate_join_v1_l1 at H
 obtain ⟨y1,hy1,H⟩:=bind_some' H
 refine .B 5 [] rfl trivial ?_
 refine .callF (en 17 rfl) rfl [] [2] (x:=.d (.tup [cI y1.1,cI y1.2])) (st':=⟨[.row 51 [.d (cI v2c.source),.d (cI v2c.number)]],[⟨32,12,([]:List Record).length,none⟩,⟨32,12,v1outl1.length,none⟩,⟨32,12,y2tl1.length,some (y2tl1.map Record.row)⟩]⟩) rfl (c_g_correlate_span (hy1)) ⟨.rfl' _,.rfl' _,trivial⟩ rfl rfl rfl rfl rfl rfl ?_
 refine .A 7 [] rfl trivial ?_
 obtain ⟨hk1,H⟩:=ck_some H
 obtain ⟨hk2,H⟩:=ck_some H
 obtain ⟨y2,hy2,H⟩:=bind_some' H
 obtain ⟨y3,hy3,H⟩:=bind_some' H
 refine .orders2 14 8 9 [⟨[.row 51 [.d (cI v2c.source),.d (cI v2c.number)]],[⟨32,12,([]:List Record).length,none⟩,⟨32,12,v1outl1.length,none⟩,⟨32,12,y2tl1.length,some (y2tl1.map Record.row)⟩]⟩,⟨[.row 51 [.d (cI v2c.source),.d (cI v2c.number)]],[⟨32,12,([]:List Record).length,none⟩,⟨32,12,v1outl1.length,none⟩,⟨32,12,y2tl1.length,some (y2tl1.map Record.row)⟩]⟩,⟨[.row 51 [.d (cI v2c.source),.d (cI v2c.number)]],[⟨32,12,([]:List Record).length,none⟩,⟨32,12,v1outl1.length,none⟩,⟨32,12,y2tl1.length,some (y2tl1.map Record.row)⟩]⟩] hMix (by kernel_rfl) (by decide) (by decide) (by kernel_rfl) rfl ?_
 show XOps _ _ _ _ _ _ _ _ _ _ (_ :: _) _ _
 refine .g (x:=.vc 2 y2tl1.length) 0 1 ⟨OpQ.g (q_move rfl),OpQ.g (q_move rfl),trivial⟩ rfl (by kernel_rfl) rfl ?_
 refine .g (x:=.d (cI y1.1)) 0 1 ⟨OpQ.g (q_move rfl),OpQ.g (q_move rfl),trivial⟩ rfl (by kernel_rfl) rfl ?_
 refine .g (x:=.d (cI y1.2)) 0 1 ⟨OpQ.g (q_move rfl),OpQ.g (q_move rfl),trivial⟩ rfl (by kernel_rfl) rfl ?_
 refine .g (x:=.vw 2 y2tl1.length y1.1.toNat ((y2tl1.take y1.2.toNat).drop y1.1.toNat).length) 0 1 ⟨OpQ.g (q_slVW (l:=y2tl1) (row:=Record.row) (i:=y1.1) (j:=y1.2) underlying22 hi32 hs32 rfl rfl rfl rfl hk1),OpQ.g (q_slVW (l:=y2tl1) (row:=Record.row) (i:=y1.1) (j:=y1.2) underlying22 hi32 hs32 rfl rfl rfl rfl hk1),trivial⟩ rfl (by kernel_rfl) rfl ?_
 refine .g (x:=.vc 2 y2tl1.length) 0 0 ⟨OpQ.g (q_move rfl),trivial⟩ rfl (by kernel_rfl) rfl ?_
 refine .g (x:=.d (cI y1.1)) 0 0 ⟨OpQ.g (q_move rfl),trivial⟩ rfl (by kernel_rfl) rfl ?_
 refine .g (x:=.d (cI y1.2)) 0 0 ⟨OpQ.g (q_move rfl),trivial⟩ rfl (by kernel_rfl) rfl ?_
 refine .g (x:=.vw 2 y2tl1.length y1.1.toNat ((y2tl1.take y1.2.toNat).drop y1.1.toNat).length) 0 0 ⟨OpQ.g (q_slVW (l:=y2tl1) (row:=Record.row) (i:=y1.1) (j:=y1.2) underlying22 hi32 hs32 rfl rfl rfl rfl hk2),trivial⟩ rfl (by kernel_rfl) rfl ?_
 refine .c 0 (OpC.callF (en 18 rfl) [] [2] (x:=.d (slOf 1 rI y2)) (st':=⟨[.row 51 [.d (cI v2c.source),.d (cI v2c.number)]],[⟨32,12,([]:List Record).length,none⟩,⟨32,12,v1outl1.length,none⟩,⟨32,12,y2tl1.length,some (y2tl1.map Record.row)⟩]⟩) rfl (c_g_correlate_candidates (view_ok (by have h:=@H; omega)) (hy2)) ⟨.rfl' _,.rfl' _,trivial⟩ rfl rfl rfl rfl rfl rfl) rfl rfl rfl rfl ?_
 refine .c 1 (OpC.callF (en 19 rfl) [] [2] (x:=.d (.tup [slOf 12 Record.row y3.1,slOf 12 Record.row y3.2])) (st':=⟨[.row 51 [.d (cI v2c.source),.d (cI v2c.number)]],[⟨32,12,([]:List Record).length,none⟩,⟨32,12,v1outl1.length,none⟩,⟨32,12,y2tl1.length,some (y2tl1.map Record.row)⟩]⟩) rfl (c_g_correlate_pick (view_ok (by have h:=@H; omega)) (hy3)) ⟨.rfl' _,.rfl' _,trivial⟩ rfl rfl rfl rfl rfl rfl) rfl rfl rfl rfl ?_
 refine .g (x:=.d (.tup [slOf 12 Record.row y3.1,slOf 12 Record.row y3.2])) 2 2 ⟨OpQ.g (q_move rfl),trivial⟩ rfl (by kernel_rfl) rfl ?_
 refine .g (x:=.d (slOf 12 Record.row y3.1)) 2 2 ⟨OpQ.g (q_extract rfl rfl),trivial⟩ rfl (by kernel_rfl) rfl ?_
 refine .g (x:=.d (slOf 12 Record.row y3.2)) 2 2 ⟨OpQ.g (q_extract rfl rfl),trivial⟩ rfl (by kernel_rfl) rfl ?_
 refine .g (x:=.d (slOf 12 Record.row y3.1)) 2 2 ⟨OpQ.g (q_assign rfl),trivial⟩ rfl (by kernel_rfl) rfl ?_
 refine .nil rfl ?_
 show AOps _ _ _ _ _ _ (_ :: _) _ _ _
 obtain ⟨y4,hy4,H⟩:=bind_some' H
 refine .A 19 [.d (.tup [.agg (Record.row y4.1),cB y4.2]),.r 1] rfl (g_call (en 20 rfl) rfl rfl (c_f_correlate_Complete (hy4))) ?_
 refine .ite H rfl (fun H=>?_) (fun H=>?_)
 ·refine .A 7 [] rfl trivial ?_
  refine .R func31 results31 rfl ?_
  cases H
  cases HK1
  exact ⟨[],[0,1,2],rfl,rfl,rfl,rfl,rfl,rfl,rfl,rfl,.tupE ⟨.rfl' _,.rfl' _,trivial⟩⟩
 ·obtain ⟨y5,hy5,H⟩:=bind_some' H
  refine .B 7 [] rfl trivial ?_
  refine .callF (en 21 rfl) rfl [] [2] (x:=.vc 3 y5.length) (st':=⟨[.row 51 [.d (cI v2c.source),.d (cI v2c.number)],.row 32 [.d (cI y4.1.source),.d (cI y4.1.serial),.d (cI y4.1.kind),.d (cS y4.1.a),.d (cS y4.1.b),.d (cI y4.1.start),.d (cI y4.1.units),.d (cI y4.1.call),.d (cI y4.1.part),.d (cB y4.1.last),.d (cI y4.1.trunk),.d (cB y4.1.inbound)]],[⟨32,12,([]:List Record).length,none⟩,⟨32,12,v1outl1.length,none⟩,⟨32,12,([]:List Record).length,none⟩,⟨32,12,y5.length,some (y5.map Record.row)⟩]⟩) rfl (c_x_ReplaceRecord (hy5)) ⟨.rfl' _,.rfl' _,.rfl' _,.rfl' _,trivial⟩ rfl rfl rfl rfl rfl rfl ?_
  obtain ⟨hk3,H⟩:=ck_some H
  refine .A 10 [.d (slOf 12 Record.row ([y4.1]:List Record)),.a 1 32 12 Record.row (v1outl1++([y4.1]:List Record))] rfl ⟨s22.a rfl rfl rfl rfl hk3,g_buildSlice1 underlying22 hi32 hs32 hz32 rfl rfl rfl rfl rfl⟩ ?_
  cases H
  refine .reloc [0] [0,1,3] (env':=[(0,.vc 2 y5.length),(1,.tsl 12 ((v1outl1++([y4.1]:List Record)).map Record.row) 1),(5,.ref 0 0)]) (st':=⟨[.row 51 [.d (cI v2c.source),.d (cI v2c.number)]],[⟨32,12,([]:List Record).length,none⟩,⟨32,12,(v1outl1++([y4.1]:List Record)).length,none⟩,⟨32,12,y5.length,some (y5.map Record.row)⟩]⟩) hS rfl rfl rfl rfl rfl rfl rfl rfl (.cons rfl (.rfl' _) (.cons rfl (.rfl' _) (.cons rfl (.rfl' _) (.nil)))) ?_
  exact .z (ih1 (n1,(y5,v1outl1++([y4.1]:List Record))) HK1 hm1) rfl rfl
theorem c_f_correlate_Join {v0open:List Record} {v1list:List Record} {r:(List Record)×(List Record)} (H:f_correlate_Join v0open v1list=some r):ACall prog 11 [slOf 12 Record.row v0open,slOf 12 Record.row v1list] (·=.tup [slOf 12 Record.row r.1,slOf 12 Record.row r.2]):=by
 obtain ⟨i32,hi32,hz32,hs32,hb32⟩:=in_32
 refine ACall.enter' func11 rfl ntmps11 rfl fun S hS=>?_
 unfold f_correlate_Join at H
 obtain ⟨y1,hy1,H⟩:=bind_some' H
 refine .B 12 [] rfl trivial ?_
 refine .callF (en 22 rfl) rfl [] [] (x:=.vc 0 y1.length) (st':=⟨[],[⟨32,12,y1.length,some (y1.map Record.row)⟩]⟩) rfl (c_x_CloneRecordV (hy1)) ⟨.rfl' _,trivial⟩ rfl rfl rfl rfl rfl rfl ?_
 refine .A 10 [.i (v1list.length:Int)] rfl (s22.n rfl rfl) ?_
 refine .tok (i:=6) (e:=32) (sz:=12) rfl ?_
 obtain ⟨n1,H⟩:=loop_some H
 refine .loop (ι:=Nat×(List Record×List Record×Int)) (fun ⟨_,y0tl1,v6outl1,v15l1⟩=>[(6,.tsl 12 (v6outl1.map Record.row) 1),(7,.vc 0 y0tl1.length),(13,.d (slOf 12 Record.row v1list)),(14,.d (cI (v1list.length:Int))),(15,.d (cI v15l1))]) (fun ⟨_,y0tl1,v6outl1,v15l1⟩=>⟨[],[⟨32,12,y0tl1.length,some (y0tl1.map Record.row)⟩,⟨32,12,v6outl1.length,none⟩]⟩) (fun p=>iter (fun s=>f_correlate_Join_l1 v1list s.1 s.2.1 s.2.2) p.1 p.2=some r) (·.1) (n1,(y1,([]:List Record),0)) H (.cons rfl (.rfl' _) (.cons rfl (.rfl' _) (.cons rfl (.rfl' _) (.cons rfl (.rfl' _) (.cons rfl (.rfl' _) (.nil)))))) rfl ?_
 rintro ⟨m1,y0tl1,v6outl1,v15l1⟩ HI ih1
 obtain ⟨n1,q1,hm1,H,HK1⟩:=iter_succ HI
 clear HI
 replace H:f_correlate_Join_l1 v1list y0tl1 v6outl1 v15l1=some q1:=H
 unfold f_correlate_Join_l1 at H
 refine .A 5 [] rfl trivial ?_
 refine .ite H rfl (fun H=>?_) (fun H=>?_)
 ·obtain ⟨hk1,H⟩:=ck_some H
  refine .A 17 [.d (.ro (Record.row (nth v1list v15l1.toNat))),.r 0] rfl (s22.ix rfl rfl rfl hk1) ?_
  refine .ite H rfl (fun H=>?_) (fun H=>?_)
  ·obtain ⟨hk2,H⟩:=ck_some H
   obtain ⟨hk3,H⟩:=ck_some H
   refine .A 13 [.d (slOf 12 Record.row ([nth v1list v15l1.toNat]:List Record)),.a 1 32 12 Record.row (v6outl1++([nth v1list v15l1.toNat]:List Record)),.i (v15l1+1)] rfl ⟨g_addI rfl rfl hk3,s22.a rfl rfl rfl rfl hk2,g_buildSlice1 underlying22 hi32 hs32 hz32 rfl rfl rfl rfl rfl⟩ ?_
   cases H
   exact .t 0 2 (ih1 (n1,(y0tl1,v6outl1++([nth v1list v15l1.toNat]:List Record),v15l1+1)) HK1 hm1) rfl rfl rfl rfl rfl hS rfl
  ·refine .A 6 [] rfl trivial ?_
   refine .blockJoin2 (ι:=Int) (fun v10atj1=>[(6,.tsl 12 (v6outl1.map Record.row) 1),(7,.vc 0 y0tl1.length),(9,.ref 0 0),(10,.d (cI v10atj1)),(13,.d (slOf 12 Record.row v1list)),(14,.d (cI (v1list.length:Int))),(15,.d (cI v15l1))]) (fun v10atj1=>⟨[.row 32 [.d (cI ((nth v1list v15l1.toNat).source)),.d (cI ((nth v1list v15l1.toNat).serial)),.d (cI ((nth v1list v15l1.toNat).kind)),.d (cS ((nth v1list v15l1.toNat).a)),.d (cS ((nth v1list v15l1.toNat).b)),.d (cI ((nth v1list v15l1.toNat).start)),.d (cI ((nth v1list v15l1.toNat).units)),.d (cI ((nth v1list v15l1.toNat).call)),.d (cI ((nth v1list v15l1.toNat).part)),.d (cB ((nth v1list v15l1.toNat).last)),.d (cI ((nth v1list v15l1.toNat).trunk)),.d (cB ((nth v1list v15l1.toNat).inbound))]],[⟨32,12,y0tl1.length,some (y0tl1.map Record.row)⟩,⟨32,12,v6outl1.length,none⟩]⟩) (fun s=>f_correlate_Join_j1 v1list y0tl1 v6outl1 v15l1 s=some q1) ?_ ?_
   ·rintro v10atj1 H
    replace H:f_correlate_Join_j1 v1list y0tl1 v6outl1 v15l1 v10atj1=some q1:=H
    unfold f_correlate_Join_j1 at H
    obtain ⟨y2,hy2,H⟩:=bind_some' H
    refine .B 6 [.n (.vc 2 (([nth v1list v15l1.toNat]:List Record).length)) ⟨32,12,(([nth v1list v15l1.toNat]:List Record).length),some (([nth v1list v15l1.toNat]:List Record).map Record.row)⟩] rfl (.e (v_buildSliceV (n:=1) (l0:=([nth v1list v15l1.toNat]:List Record)) (row:=Record.row) underlying22 hi32 hs32 hz32 rfl rfl rfl rfl rfl) rfl) ?_
    refine .callF (en 23 rfl) rfl [] [0,2] (x:=.vc 3 y2.length) (st':=⟨[.row 32 [.d (cI ((nth v1list v15l1.toNat).source)),.d (cI ((nth v1list v15l1.toNat).serial)),.d (cI ((nth v1list v15l1.toNat).kind)),.d (cS ((nth v1list v15l1.toNat).a)),.d (cS ((nth v1list v15l1.toNat).b)),.d (cI ((nth v1list v15l1.toNat).start)),.d (cI ((nth v1list v15l1.toNat).units)),.d (cI ((nth v1list v15l1.toNat).call)),.d (cI ((nth v1list v15l1.toNat).part)),.d (cB ((nth v1list v15l1.toNat).last)),.d (cI ((nth v1list v15l1.toNat).trunk)),.d (cB ((nth v1list v15l1.toNat).inbound))]],[⟨32,12,([]:List Record).length,none⟩,⟨32,12,v6outl1.length,none⟩,⟨32,12,(([nth v1list v15l1.toNat]:List Record).length),some (([nth v1list v15l1.toNat]:List Record).map Record.row)⟩,⟨32,12,y2.length,some (y2.map Record.row)⟩]⟩) rfl (c_x_InsertRecord (hy2)) ⟨.rfl' _,.rfl' _,.rfl' _,trivial⟩ rfl rfl rfl rfl rfl rfl ?_
    obtain ⟨y3,hy3,H⟩:=bind_some' H
    obtain ⟨y4,hy4,H⟩:=bind_some' H
    refine .B 7 [.d (.agg (CorrelateCall.row y3))] rfl (g_call (en 7 rfl) rfl rfl (c_f_correlate_callOf (hy3))) ?_
    refine .callF (en 24 rfl) rfl [] [3,1] (x:=.tup [.vc 4 y4.1.length,.tsl 12 (y4.2.map Record.row) 1]) (st':=⟨[.row 32 [.d (cI ((nth v1list v15l1.toNat).source)),.d (cI ((nth v1list v15l1.toNat).serial)),.d (cI ((nth v1list v15l1.toNat).kind)),.d (cS ((nth v1list v15l1.toNat).a)),.d (cS ((nth v1list v15l1.toNat).b)),.d (cI ((nth v1list v15l1.toNat).start)),.d (cI ((nth v1list v15l1.toNat).units)),.d (cI ((nth v1list v15l1.toNat).call)),.d (cI ((nth v1list v15l1.toNat).part)),.d (cB ((nth v1list v15l1.toNat).last)),.d (cI ((nth v1list v15l1.toNat).trunk)),.d (cB ((nth v1list v15l1.toNat).inbound))]],[⟨32,12,([]:List Record).length,none⟩,⟨32,12,y4.2.length,none⟩,⟨32,12,(([nth v1list v15l1.toNat]:List Record).length),some (([nth v1list v15l1.toNat]:List Record).map Record.row)⟩,⟨32,12,([]:List Record).length,none⟩,⟨32,12,y4.1.length,some (y4.1.map Record.row)⟩]⟩) rfl (c_g_correlate_join_v1 (hy4)) ⟨.rfl' _,.rfl' _,.rfl' _,trivial⟩ rfl rfl rfl rfl rfl rfl ?_
    obtain ⟨hk4,H⟩:=ck_some H
    refine .A 11 [.i (v15l1+1)] rfl (g_addI rfl rfl hk4) ?_
    cases H
    refine .reloc [] [4,1] (env':=[(6,.tsl 12 (y4.2.map Record.row) 1),(7,.vc 0 y4.1.length),(13,.d (slOf 12 Record.row v1list)),(14,.d (cI (v1list.length:Int))),(15,.d (cI (v15l1+1)))]) (st':=⟨[],[⟨32,12,y4.1.length,some (y4.1.map Record.row)⟩,⟨32,12,y4.2.length,none⟩]⟩) hS rfl rfl rfl rfl rfl rfl rfl rfl (.cons rfl (.rfl' _) (.cons rfl (.rfl' _) (.cons rfl (.rfl' _) (.cons rfl (.rfl' _) (.cons rfl (.rfl' _) (.nil)))))) ?_
    exact .z (ih1 (n1,(y4.1,y4.2,v15l1+1)) HK1 hm1) rfl rfl
   ·intro hj1 hj1x
    obtain ⟨n2,H⟩:=loop_some H
    refine .loop (ι:=Nat×(Int)) (fun ⟨_,v10atl2⟩=>[(6,.tsl 12 (v6outl1.map Record.row) 1),(7,.vc 0 y0tl1.length),(9,.ref 0 0),(10,.d (cI v10atl2)),(13,.d (slOf 12 Record.row v1list)),(14,.d (cI (v1list.length:Int))),(15,.d (cI v15l1))]) (fun ⟨_,v10atl2⟩=>⟨[.row 32 [.d (cI ((nth v1list v15l1.toNat).source)),.d (cI ((nth v1list v15l1.toNat).serial)),.d (cI ((nth v1list v15l1.toNat).kind)),.d (cS ((nth v1list v15l1.toNat).a)),.d (cS ((nth v1list v15l1.toNat).b)),.d (cI ((nth v1list v15l1.toNat).start)),.d (cI ((nth v1list v15l1.toNat).units)),.d (cI ((nth v1list v15l1.toNat).call)),.d (cI ((nth v1list v15l1.toNat).part)),.d (cB ((nth v1list v15l1.toNat).last)),.d (cI ((nth v1list v15l1.toNat).trunk)),.d (cB ((nth v1list v15l1.toNat).inbound))]],[⟨32,12,y0tl1.length,some (y0tl1.map Record.row)⟩,⟨32,12,v6outl1.length,none⟩]⟩) (fun p=>iter (fun s=>f_correlate_Join_l2 v1list y0tl1 v6outl1 v15l1 s) p.1 p.2=some q1) (·.1) (n2,0) H (.cons rfl (.rfl' _) (.cons rfl (.rfl' _) (.cons rfl (.rfl' _) (.cons rfl (.rfl' _) (.cons rfl (.rfl' _) (.cons rfl (.rfl' _) (.cons rfl (.rfl' _) (.nil)))))))) rfl ?_
    rintro ⟨m2,v10atl2⟩ HI ih2
    obtain ⟨n2,q2,hm2,H,HK2⟩:=iter_succ HI
    clear HI
    replace H:f_correlate_Join_l2 v1list y0tl1 v6outl1 v15l1 v10atl2=some q2:=H
    unfold f_correlate_Join_l2 at H
    obtain ⟨hk5,H⟩:=ck_some H
    obtain ⟨hk6,H⟩:=ck_some H
    obtain ⟨y5,hy5,H⟩:=bind_some' H
    refine .A 18 [.p 13,.i (y0tl1.length:Int),.g (.vp 0 y0tl1.length v10atl2.toNat 0),.f 7 (.d (.agg (Record.row (nth y0tl1 v10atl2.toNat)))),.i y5] rfl ⟨rfl,rfl,fun hg=>g_call (en 25 rfl) rfl rfl (c_f_correlate_before (gcall_some hy5 hg)),rfl,rfl,fun hg=>OpQ.g (q_loadVpA (l:=y0tl1) (row:=Record.row) (cs:=(Record.row (nth y0tl1 v10atl2.toNat))) one_32 sz_32 rfl rfl (hk6 hg) (Nat.le_of_ble_eq_true rfl) rfl),rfl,fun hg=>OpQ.g (q_idxV (l:=y0tl1) (row:=Record.row) (i:=v10atl2) underlying22 hi32 hs32 rfl rfl rfl (hk5 hg)),rfl,rfl,OpQ.g (q_lenV (l:=y0tl1) (row:=Record.row) underlying22 rfl rfl),(show drawB _ _=true by kernel_rfl)⟩ ?_
    refine .ite H rfl (fun H=>?_) (fun H=>?_)
    ·obtain ⟨hk7,H⟩:=ck_some H
     refine .A 8 [.i (v10atl2+1)] rfl (g_addI rfl rfl hk7) ?_
     cases H
     exact .z (ih2 (n2,(v10atl2+1)) HK2 hm2) rfl rfl
    ·refine .A 1 [] rfl trivial ?_
     obtain ⟨q0,H9,hq0⟩:=map_some' H; clear H; cases hq0
     cases HK2
     have H:=H9
     exact .z (hj1x v10atl2 H) rfl rfl
 ·refine .A 8 [] rfl trivial ?_
  refine .freezeL (l:=y0tl1) (row:=Record.row) (i:=5) rfl rfl ?_
  refine .R func11 results11 rfl ?_
  cases H
  cases HK1
  exact .m rfl (.tupL ⟨.tsl _ _ _,.tsl _ _ _,trivial⟩)
theorem c_f_correlate_chain {v0parts:List Record} {r:(List Int)} (H:f_correlate_chain v0parts=some r):ACall prog 42 [slOf 12 Record.row v0parts] (·=slOf 1 rI r):=by
 obtain ⟨i3,hi3,hz3,hs3,hb3⟩:=in_3
 refine ACall.enter' func42 rfl ntmps42 rfl fun S hS=>?_
 unfold f_correlate_chain at H
 obtain ⟨y1,hy1,H⟩:=bind_some' H
 refine .A 12 [.d (slOf 1 rI y1)] rfl (g_call (en 18 rfl) rfl rfl (c_f_correlate_candidates (hy1))) ?_
 obtain ⟨n1,H⟩:=loop_some H
 refine .loop (ι:=Nat×(List Int)) (fun ⟨_,v3atl1⟩=>[(0,.d (slOf 12 Record.row v0parts)),(3,.d (slOf 1 rI v3atl1))]) (fun ⟨_,v3atl1⟩=>⟨[],[]⟩) (fun p=>iter (fun s=>f_correlate_chain_l1 v0parts s) p.1 p.2=some r) (·.1) (n1,y1) H (.cons rfl (.rfl' _) (.cons rfl (.rfl' _) (.nil))) rfl ?_
 rintro ⟨m1,v3atl1⟩ HI ih1
 obtain ⟨n1,q1,hm1,H,HK1⟩:=iter_succ HI
 clear HI
 replace H:f_correlate_chain_l1 v0parts v3atl1=some q1:=H
 unfold f_correlate_chain_l1 at H
 refine .A 7 [.i (v3atl1.length:Int)] rfl (s37.n rfl rfl) ?_
 refine .ite H rfl (fun H=>?_) (fun H=>?_)
 ·obtain ⟨y2,hy2,H⟩:=bind_some' H
  obtain ⟨y3,hy3,H⟩:=bind_some' H
  refine .A 29 [.d (.tup [slOf 12 Record.row y2.1,slOf 12 Record.row y2.2]),.d (.tup [.agg (Record.row y3.1),cB y3.2]),.r 0] rfl ⟨g_call (en 11 rfl) rfl rfl (c_f_correlate_whole (hy3)),g_call (en 19 rfl) rfl rfl (c_f_correlate_pick (hy2))⟩ ?_
  refine .ite H rfl (fun H=>?_) (fun H=>?_)
  ·refine .A 5 [] rfl trivial ?_
   refine .R func42 results42 rfl ?_
   cases H
   cases HK1
   exact .m rfl (.rfl' _)
  ·obtain ⟨hk1,H⟩:=ck_some H
   obtain ⟨hk2,H⟩:=ck_some H
   refine .A 10 [.i (v3atl1.length:Int),.i ((v3atl1.length:Int) - 1),.d (slOf 1 rI (v3atl1.take ((v3atl1.length:Int) - 1).toNat))] rfl ⟨OpQ.g (q_slHL (l:=v3atl1) (row:=rI) underlying37 hi3 hs3 rfl rfl rfl hk2),g_subI rfl rfl hk1,s37.n rfl rfl⟩ ?_
   cases H
   exact .t 0 0 (ih1 (n1,(v3atl1.take ((v3atl1.length:Int) - 1).toNat)) HK1 hm1) rfl rfl rfl rfl rfl hS rfl
 ·refine .A 5 [] rfl trivial ?_
  refine .R func42 results42 rfl ?_
  cases H
  cases HK1
  exact .m rfl (.nil 1)
set_option maxRecDepth 100000
set_option maxHeartbeats 1000000
theorem c_g_correlate_Expire_1 {v0r:Record} {o0c0p:Int} {r:Bool} (H:g_correlate_Expire_1 v0r o0c0p=some r):ACallS prog 40 [.d (.agg (Record.row v0r)),.ref 0 0] ⟨[.row 3 [.d (cI o0c0p)]],[]⟩ (QE (.d (cB r)) ⟨[.row 3 [.d (cI o0c0p)]],[]⟩):=by
 refine ACallS.keep ?_
 refine ACallS.enter func40 rfl ntmps40 rfl fun S hS=>?_
 unfold g_correlate_Expire_1 at H
 refine .A 13 [.r 1] rfl trivial ?_
 refine .R func40 results40 rfl ?_
 cases H
 exact ⟨[0],[],rfl,rfl,rfl,rfl,rfl,rfl,rfl,rfl,.rfl' _⟩
theorem c_g_api_Record_v2 {v0s:List Record} {o0c0p:Int} {r:Int} (H:g_api_Record_v2 v0s o0c0p=some r):ACallS prog 56 [.d (slOf 12 Record.row v0s),.clo 40 [.ref 0 0]] ⟨[.row 3 [.d (cI o0c0p)]],[]⟩ (QE (.d (cI r)) ⟨[.row 3 [.d (cI o0c0p)]],[]⟩):=by
 refine ACallS.keep ?_
 refine ACallS.enter func56 rfl ntmps56 rfl fun S hS=>?_
 unfold g_api_Record_v2 at H
 refine .A 12 [.i (v0s.length:Int)] rfl (s22.n rfl rfl) ?_
 obtain ⟨n1,H⟩:=loop_some H
 refine .loop (ι:=Nat×(Int)) (fun ⟨_,v8l1⟩=>[(0,.d (slOf 12 Record.row v0s)),(1,.clo 40 [.ref 0 0]),(7,.d (cI (v0s.length:Int))),(8,.d (cI v8l1))]) (fun ⟨_,v8l1⟩=>⟨[.row 3 [.d (cI o0c0p)]],[]⟩) (fun p=>iter (fun s=>g_api_Record_v2_l1 v0s o0c0p s) p.1 p.2=some r) (·.1) (n1,0) H (.cons rfl (.rfl' _) (.cons rfl (.rfl' _) (.cons rfl (.rfl' _) (.cons rfl (.rfl' _) (.nil))))) rfl ?_
 rintro ⟨m1,v8l1⟩ HI ih1
 obtain ⟨n1,q1,hm1,H,HK1⟩:=iter_succ HI
 clear HI
 replace H:g_api_Record_v2_l1 v0s o0c0p v8l1=some q1:=H
 unfold g_api_Record_v2_l1 at H
 refine .A 5 [] rfl trivial ?_
 refine .ite H rfl (fun H=>?_) (fun H=>?_)
 ·obtain ⟨hk1,H⟩:=ck_some H
  obtain ⟨y1,hy1,H⟩:=bind_some' H
  refine .B 15 [.d (.ro (Record.row (nth v0s v8l1.toNat)))] rfl (s22.ix rfl rfl rfl hk1) ?_
  refine .callFC (en 26 rfl) rfl rfl [0] [] (x:=.d (cB y1)) (st':=⟨[.row 3 [.d (cI o0c0p)]],[]⟩) rfl (c_g_correlate_Expire_1 (hy1)) ⟨.rfl' _,.rfl' _,trivial⟩ rfl rfl rfl rfl rfl rfl ?_
  refine .A 1 [] rfl trivial ?_
  refine .ite H rfl (fun H=>?_) (fun H=>?_)
  ·refine .A 5 [] rfl trivial ?_
   refine .R func56 results56 rfl ?_
   cases H
   cases HK1
   exact ⟨[0],[],rfl,rfl,rfl,rfl,rfl,rfl,rfl,rfl,.rfl' _⟩
  ·obtain ⟨hk2,H⟩:=ck_some H
   refine .A 6 [.i (v8l1+1)] rfl (g_addI rfl rfl hk2) ?_
   cases H
   exact .z (ih1 (n1,(v8l1+1)) HK1 hm1) rfl rfl
 ·refine .A 5 [] rfl trivial ?_
  refine .R func56 results56 rfl ?_
  cases H
  cases HK1
  exact ⟨[0],[],rfl,rfl,rfl,rfl,rfl,rfl,rfl,rfl,.rfl' _⟩
theorem c_g_api_Record_v3 {v0s:List Record} {o0c0p:Int} {r:Bool} (H:g_api_Record_v3 v0s o0c0p=some r):ACallS prog 39 [.d (slOf 12 Record.row v0s),.clo 40 [.ref 0 0]] ⟨[.row 3 [.d (cI o0c0p)]],[]⟩ (QE (.d (cB r)) ⟨[.row 3 [.d (cI o0c0p)]],[]⟩):=by
 refine ACallS.keep ?_
 refine ACallS.enter func39 rfl ntmps39 rfl fun S hS=>?_
 unfold g_api_Record_v3 at H
 obtain ⟨y1,hy1,H⟩:=bind_some' H
 refine .B 8 [] rfl trivial ?_
 refine .callF (en 16 rfl) rfl [0] [] (x:=.d (cI y1)) (st':=⟨[.row 3 [.d (cI o0c0p)]],[]⟩) rfl (c_g_api_Record_v2 (hy1)) ⟨.rfl' _,.rfl' _,trivial⟩ rfl rfl rfl rfl rfl rfl ?_
 refine .A 3 [] rfl trivial ?_
 refine .R func39 results39 rfl ?_
 cases H
 exact ⟨[0],[],rfl,rfl,rfl,rfl,rfl,rfl,rfl,rfl,.rfl' _⟩
theorem c_f_correlate_Expire {v0:List Record} {v1:Int} {r:(List Record)×(List Record)} (H:f_correlate_Expire v0 v1=some r):ACall prog 15 [slOf 12 Record.row v0,cI v1] (·=.tup [slOf 12 Record.row r.1,slOf 12 Record.row r.2]):=by
 obtain ⟨i32,hi32,hz32,hs32,hb32⟩:=in_32
 refine ACall.enter' func15 rfl ntmps15 rfl fun S hS=>?_
 unfold f_correlate_Expire at H
 obtain ⟨y1,hy1,H⟩:=bind_some' H
 refine .A 19 [.r 0,.d (slOf 12 Record.row y1)] rfl (g_call (en 22 rfl) rfl rfl (c_x_CloneRecord (hy1))) ?_
 refine .tok (i:=6) (e:=32) (sz:=12) rfl ?_
 refine .tok (i:=7) (e:=32) (sz:=12) rfl ?_
 obtain ⟨n1,H⟩:=loop_some H
 refine .loop (ι:=Nat×(List Record×List Record×List Record)) (fun ⟨_,v6l1,v7l1,v8l1⟩=>[(3,.ref 0 0),(6,.tsl 12 (v6l1.map Record.row) 0),(7,.tsl 12 (v7l1.map Record.row) 1),(8,.d (slOf 12 Record.row v8l1))]) (fun ⟨_,v6l1,v7l1,v8l1⟩=>⟨[.row 3 [.d (cI v1)]],[⟨32,12,v6l1.length,none⟩,⟨32,12,v7l1.length,none⟩]⟩) (fun p=>iter (fun s=>f_correlate_Expire_l1 v1 s.1 s.2.1 s.2.2) p.1 p.2=some r) (·.1) (n1,(([]:List Record),([]:List Record),y1)) H (.cons rfl (.rfl' _) (.cons rfl (.rfl' _) (.cons rfl (.rfl' _) (.cons rfl (.rfl' _) (.nil))))) rfl ?_
 rintro ⟨m1,v6l1,v7l1,v8l1⟩ HI ih1
 obtain ⟨n1,q1,hm1,H,HK1⟩:=iter_succ HI
 clear HI
 replace H:f_correlate_Expire_l1 v1 v6l1 v7l1 v8l1=some q1:=H
 unfold f_correlate_Expire_l1 at H
 refine .A 7 [.i (v8l1.length:Int)] rfl (s22.n rfl rfl) ?_
 refine .ite H rfl (fun H=>?_) (fun H=>?_)
 ·obtain ⟨hk1,H⟩:=ck_some H
  obtain ⟨y2,hy2,H⟩:=bind_some' H
  obtain ⟨y3,hy3,H⟩:=bind_some' H
  obtain ⟨hk2,H⟩:=ck_some H
  obtain ⟨hk3,H⟩:=ck_some H
  obtain ⟨y4,hy4,H⟩:=bind_some' H
  refine .B 35 [.d (.ro (Record.row (nth v8l1 (Int.toNat (0))))),.d (.agg (CorrelateCall.row y2)),.d (.tup [cI y3.1,cI y3.2]),.d (slOf 12 Record.row (v8l1.take y3.2.toNat)),.d (slOf 12 Record.row (v8l1.drop y3.2.toNat)),.g (.clo 40 [.ref 0 0])] rfl ⟨OpQ.g (q_makeFunc rfl),OpQ.g (q_slLL (l:=v8l1) (row:=Record.row) underlying22 hi32 hs32 rfl rfl rfl hk3),OpQ.g (q_slHL (l:=v8l1) (row:=Record.row) underlying22 hi32 hs32 rfl rfl rfl hk2),g_call (en 17 rfl) rfl rfl (c_f_correlate_span (hy3)),g_call (en 7 rfl) rfl rfl (c_f_correlate_callOf (hy2)),s22.ix rfl rfl rfl hk1⟩ ?_
  refine .callF (en 27 rfl) rfl [0] [] (x:=.d (cB y4)) (st':=⟨[.row 3 [.d (cI v1)]],[⟨32,12,v6l1.length,none⟩,⟨32,12,v7l1.length,none⟩]⟩) rfl (c_g_api_Record_v3 (hy4)) ⟨.rfl' _,.rfl' _,trivial⟩ rfl rfl rfl rfl rfl rfl ?_
  refine .A 1 [] rfl trivial ?_
  refine .ite H rfl (fun H=>?_) (fun H=>?_)
  ·obtain ⟨hk4,H⟩:=ck_some H
   refine .A 8 [.a 1 32 12 Record.row (v7l1++(v8l1.take y3.2.toNat))] rfl (s22.a rfl rfl rfl rfl hk4) ?_
   cases H
   exact .z (ih1 (n1,(v6l1,v7l1++(v8l1.take y3.2.toNat),v8l1.drop y3.2.toNat)) HK1 hm1) rfl rfl
  ·obtain ⟨y5,hy5,H⟩:=bind_some' H
   obtain ⟨y6,hy6,H⟩:=bind_some' H
   refine .A 13 [.d (slOf 1 rI y5),.d (.tup [slOf 12 Record.row y6.1,slOf 12 Record.row y6.2])] rfl ⟨g_call (en 19 rfl) rfl rfl (c_f_correlate_pick (hy6)),g_call (en 28 rfl) rfl rfl (c_f_correlate_chain (hy5))⟩ ?_
   refine .seqJoin (ι:=List Record×Int×Int×Int×List UInt8×List UInt8×Int×Int×Int×Int×Bool×Int×Bool) (fun ⟨v6j1,o1c0j1,o1c1j1,o1c2j1,o1c3j1,o1c4j1,o1c5j1,o1c6j1,o1c7j1,o1c8j1,o1c9j1,o1c10j1,o1c11j1⟩=>[(3,.ref 0 0),(6,.tsl 12 (v6j1.map Record.row) 0),(7,.tsl 12 (v7l1.map Record.row) 1),(8,.d (slOf 12 Record.row (v8l1.drop y3.2.toNat))),(13,.d (slOf 12 Record.row y6.2))]) (fun ⟨v6j1,o1c0j1,o1c1j1,o1c2j1,o1c3j1,o1c4j1,o1c5j1,o1c6j1,o1c7j1,o1c8j1,o1c9j1,o1c10j1,o1c11j1⟩=>⟨[.row 3 [.d (cI v1)],.row 32 [.d (cI o1c0j1),.d (cI o1c1j1),.d (cI o1c2j1),.d (cS o1c3j1),.d (cS o1c4j1),.d (cI o1c5j1),.d (cI o1c6j1),.d (cI o1c7j1),.d (cI o1c8j1),.d (cB o1c9j1),.d (cI o1c10j1),.d (cB o1c11j1)]],[⟨32,12,v6j1.length,none⟩,⟨32,12,v7l1.length,none⟩]⟩) (fun s=>f_correlate_Expire_j1 v7l1 v8l1 y3 y6 s.1 s.2.1 s.2.2.1 s.2.2.2.1 s.2.2.2.2.1 s.2.2.2.2.2.1 s.2.2.2.2.2.2.1 s.2.2.2.2.2.2.2.1 s.2.2.2.2.2.2.2.2.1 s.2.2.2.2.2.2.2.2.2.1 s.2.2.2.2.2.2.2.2.2.2.1 s.2.2.2.2.2.2.2.2.2.2.2.1 s.2.2.2.2.2.2.2.2.2.2.2.2=some q1) ?_ ?_
   ·rintro ⟨v6j1,o1c0j1,o1c1j1,o1c2j1,o1c3j1,o1c4j1,o1c5j1,o1c6j1,o1c7j1,o1c8j1,o1c9j1,o1c10j1,o1c11j1⟩ H
    replace H:f_correlate_Expire_j1 v7l1 v8l1 y3 y6 v6j1 o1c0j1 o1c1j1 o1c2j1 o1c3j1 o1c4j1 o1c5j1 o1c6j1 o1c7j1 o1c8j1 o1c9j1 o1c10j1 o1c11j1=some q1:=H
    unfold f_correlate_Expire_j1 at H
    refine .A 7 [.i (y6.2.length:Int)] rfl (s22.n rfl rfl) ?_
    obtain ⟨n2,H⟩:=loop_some H
    refine .loop (ι:=Nat×(List Record×Int)) (fun ⟨_,v6l2,v63l2⟩=>[(3,.ref 0 0),(6,.tsl 12 (v6l2.map Record.row) 0),(7,.tsl 12 (v7l1.map Record.row) 1),(8,.d (slOf 12 Record.row (v8l1.drop y3.2.toNat))),(61,.d (slOf 12 Record.row y6.2)),(62,.d (cI (y6.2.length:Int))),(63,.d (cI v63l2))]) (fun ⟨_,v6l2,v63l2⟩=>⟨[.row 3 [.d (cI v1)],.row 32 [.d (cI o1c0j1),.d (cI o1c1j1),.d (cI o1c2j1),.d (cS o1c3j1),.d (cS o1c4j1),.d (cI o1c5j1),.d (cI o1c6j1),.d (cI o1c7j1),.d (cI o1c8j1),.d (cB o1c9j1),.d (cI o1c10j1),.d (cB o1c11j1)]],[⟨32,12,v6l2.length,none⟩,⟨32,12,v7l1.length,none⟩]⟩) (fun p=>iter (fun s=>f_correlate_Expire_l2 v7l1 v8l1 y3 y6 s.1 s.2) p.1 p.2=some q1) (·.1) (n2,(v6j1,0)) H (.cons rfl (.rfl' _) (.cons rfl (.rfl' _) (.cons rfl (.rfl' _) (.cons rfl (.rfl' _) (.cons rfl (.rfl' _) (.cons rfl (.rfl' _) (.cons rfl (.rfl' _) (.nil)))))))) rfl ?_
    rintro ⟨m2,v6l2,v63l2⟩ HI ih2
    obtain ⟨n2,q2,hm2,H,HK2⟩:=iter_succ HI
    clear HI
    replace H:f_correlate_Expire_l2 v7l1 v8l1 y3 y6 v6l2 v63l2=some q2:=H
    unfold f_correlate_Expire_l2 at H
    refine .A 5 [] rfl trivial ?_
    refine .ite H rfl (fun H=>?_) (fun H=>?_)
    ·obtain ⟨hk5,H⟩:=ck_some H
     obtain ⟨y7,hy7,H⟩:=bind_some' H
     obtain ⟨hk6,H⟩:=ck_some H
     obtain ⟨hk7,H⟩:=ck_some H
     refine .A 23 [.d (.ro (Record.row (nth y6.2 v63l2.toNat))),.r 2,.d (.agg (Record.row y7)),.d (slOf 12 Record.row ([y7]:List Record)),.a 0 32 12 Record.row (v6l2++([y7]:List Record)),.i (v63l2+1)] rfl ⟨g_addI rfl rfl hk7,s22.a rfl rfl rfl rfl hk6,g_buildSlice1 underlying22 hi32 hs32 hz32 rfl rfl rfl rfl rfl,g_call (en 8 rfl) rfl rfl (c_f_correlate_alone (hy7)),s22.ix rfl rfl rfl hk5⟩ ?_
     cases H
     exact .t 2 2 (ih2 (n2,(v6l2++([y7]:List Record),v63l2+1)) HK2 hm2) rfl rfl rfl rfl rfl hS rfl
    ·refine .A 2 [] rfl trivial ?_
     cases H
     cases HK2
     exact .t 1 2 (ih1 (n1,(v6l2,v7l1,v8l1.drop y3.2.toNat)) HK1 hm1) rfl rfl rfl rfl rfl hS rfl
   ·intro hj1
    obtain ⟨y8,hy8,H⟩:=bind_some' H
    refine .A 15 [.d (.tup [.agg (Record.row y8.1),cB y8.2]),.r 1] rfl (g_call (en 11 rfl) rfl rfl (c_f_correlate_whole (hy8))) ?_
    refine .ite H rfl (fun H=>?_) (fun H=>?_)
    ·obtain ⟨hk8,H⟩:=ck_some H
     refine .A 7 [.d (slOf 12 Record.row ([y8.1]:List Record)),.a 0 32 12 Record.row (v6l1++([y8.1]:List Record))] rfl ⟨s22.a rfl rfl rfl rfl hk8,g_buildSlice1 underlying22 hi32 hs32 hz32 rfl rfl rfl rfl rfl⟩ ?_
     exact .z (hj1 (v6l1++([y8.1]:List Record),y8.1.source,y8.1.serial,y8.1.kind,y8.1.a,y8.1.b,y8.1.start,y8.1.units,y8.1.call,y8.1.part,y8.1.last,y8.1.trunk,y8.1.inbound) H) rfl rfl
    ·refine .A 1 [] rfl trivial ?_
     exact .z (hj1 (v6l1,y8.1.source,y8.1.serial,y8.1.kind,y8.1.a,y8.1.b,y8.1.start,y8.1.units,y8.1.call,y8.1.part,y8.1.last,y8.1.trunk,y8.1.inbound) H) rfl rfl
 ·refine .A 8 [] rfl trivial ?_
  refine .R func15 results15 rfl ?_
  cases H
  cases HK1
  exact .m rfl (.tupL ⟨.tsl _ _ _,.tsl _ _ _,trivial⟩)
theorem c_f_w15_awake {r:Bool} (H:f_w15_awake=some r):ACall prog 10 [] (·=cB r):=by
 obtain ⟨i32,hi32,hz32,hs32,hb32⟩:=in_32
 refine ACall.enter' func10 rfl ntmps10 rfl fun S hS=>?_
 unfold f_w15_awake at H
 obtain ⟨y1,hy1,H⟩:=bind_some' H
 obtain ⟨y2,hy2,H⟩:=bind_some' H
 obtain ⟨y3,hy3,H⟩:=bind_some' H
 obtain ⟨y4,hy4,H⟩:=bind_some' H
 obtain ⟨y5,hy5,H⟩:=bind_some' H
 obtain ⟨y6,hy6,H⟩:=bind_some' H
 refine .A 41 [.d (.agg (Record.row y1)),.d (.agg (Record.row y2)),.d (slOf 12 Record.row ([y1,y2]:List Record)),.d (.tup [.agg (Record.row y3.1),cB y3.2]),.r 0,.d (.agg (Record.row y4)),.d (.agg (Record.row y5)),.d (slOf 12 Record.row ([y4,y5]:List Record)),.d (.tup [slOf 12 Record.row y6.1,slOf 12 Record.row y6.2]),.i (y6.1.length:Int),.i (y6.2.length:Int)] rfl ⟨rfl,rfl,fun hg=>s22.n rfl rfl,rfl,s22.n rfl rfl,g_call (en 29 rfl) rfl rfl ((c_f_correlate_Join (hy6)).le ⟨.nil 12,.rfl' _,trivial⟩),g_buildSliceN (n:=2) (rows:=([y4,y5]:List Record).map Record.row) underlying22 hi32 hs32 hz32 rfl rfl rfl rfl rfl,g_call (en 30 rfl) rfl rfl (c_f_w15_part (hy5)),g_call (en 30 rfl) rfl rfl (c_f_w15_part (hy4)),g_call (en 20 rfl) rfl rfl (c_f_correlate_Complete (hy3)),g_buildSliceN (n:=2) (rows:=([y1,y2]:List Record).map Record.row) underlying22 hi32 hs32 hz32 rfl rfl rfl rfl rfl,g_call (en 30 rfl) rfl rfl (c_f_w15_part (hy2)),g_call (en 30 rfl) rfl rfl (c_f_w15_part (hy1))⟩ ?_
 refine .ite H rfl (fun H=>?_) (fun H=>?_)
 ·refine .A 4 [] rfl trivial ?_
  refine .R func10 results10 rfl ?_
  cases H
  exact .m rfl (.rfl' _)
 ·obtain ⟨y7,hy7,H⟩:=bind_some' H
  obtain ⟨y8,hy8,H⟩:=bind_some' H
  obtain ⟨y9,hy9,H⟩:=bind_some' H
  obtain ⟨y10,hy10,H⟩:=bind_some' H
  obtain ⟨y11,hy11,H⟩:=bind_some' H
  obtain ⟨y12,hy12,H⟩:=bind_some' H
  obtain ⟨y13,hy13,H⟩:=bind_some' H
  refine .A 49 [.d (.agg (Record.row y7)),.d (.agg (Record.row y8)),.d (slOf 12 Record.row ([y7,y8]:List Record)),.d (.tup [slOf 12 Record.row y9.1,slOf 12 Record.row y9.2]),.d (.agg (Record.row y10)),.d (.agg (Record.row y11)),.d (.agg (Record.row y12)),.d (slOf 12 Record.row ([y10,y11,y12]:List Record)),.d (.tup [slOf 12 Record.row y13.1,slOf 12 Record.row y13.2]),.i (y9.1.length:Int),.i (y9.2.length:Int),.i (y13.1.length:Int),.i (y13.2.length:Int)] rfl ⟨rfl,rfl,fun hg=>s22.n rfl rfl,rfl,rfl,rfl,fun hg=>s22.n rfl rfl,rfl,rfl,rfl,fun hg=>s22.n rfl rfl,rfl,s22.n rfl rfl,g_call (en 31 rfl) rfl rfl (c_f_correlate_Expire (hy13)),g_buildSliceN (n:=3) (rows:=([y10,y11,y12]:List Record).map Record.row) underlying22 hi32 hs32 hz32 rfl rfl rfl rfl rfl,g_call (en 30 rfl) rfl rfl (c_f_w15_part (hy12)),g_call (en 30 rfl) rfl rfl (c_f_w15_part (hy11)),g_call (en 30 rfl) rfl rfl (c_f_w15_part (hy10)),g_call (en 29 rfl) rfl rfl (c_f_correlate_Join (hy9)),g_buildSliceN (n:=2) (rows:=([y7,y8]:List Record).map Record.row) underlying22 hi32 hs32 hz32 rfl rfl rfl rfl rfl,g_call (en 30 rfl) rfl rfl (c_f_w15_part (hy8)),g_call (en 30 rfl) rfl rfl (c_f_w15_part (hy7))⟩ ?_
  refine .ite H rfl (fun H=>?_) (fun H=>?_)
  ·refine .A 4 [] rfl trivial ?_
   refine .R func10 results10 rfl ?_
   cases H
   exact .m rfl (.rfl' _)
  ·obtain ⟨hk1,H⟩:=ck_some H
   obtain ⟨hk2,H⟩:=ck_some H
   obtain ⟨hk3,H⟩:=ck_some H
   obtain ⟨hk4,H⟩:=ck_some H
   obtain ⟨hk5,H⟩:=ck_some H
   refine .A 53 [.d (.agg (Record.row (⟨1,1,1,([49]:List UInt8),([50]:List UInt8),0,15,0,0,false,0,false⟩:Record))),.r 1,.p 42,.b (eqVs (Record.vals y3.1) (Record.vals (⟨1,1,1,([49]:List UInt8),([50]:List UInt8),0,15,0,0,false,0,false⟩:Record))),.d (.ro (Record.row (nth y9.1 (Int.toNat (0))))),.d (.ro (Record.row (nth y9.2 (Int.toNat (0))))),.d (.ro (Record.row (nth y13.1 (Int.toNat (0))))),.b (eqVs (Record.vals (nth y13.1 (Int.toNat (0)))) (Record.vals (⟨1,1,1,([49]:List UInt8),([50]:List UInt8),0,15,0,0,false,0,false⟩:Record))),.d (.ro (Record.row (nth y13.1 (Int.toNat (1))))),.d (.ro (Record.row (nth y13.1 (Int.toNat (1)))))] rfl ⟨rfl,rfl,rfl,rfl,fun hg=>s22.ix rfl rfl rfl (hk5 hg),rfl,rfl,rfl,rfl,rfl,fun hg=>s22.ix rfl rfl rfl (hk4 hg),rfl,rfl,fun hg=>OpQ.g (q_steql fk_32 rfl rfl (xs:=Record.vals (nth y13.1 (Int.toNat (0)))) (ys:=Record.vals (⟨1,1,1,([49]:List UInt8),([50]:List UInt8),0,15,0,0,false,0,false⟩:Record)) rfl rfl rfl rfl),rfl,rfl,rfl,fun hg=>s22.ix rfl rfl rfl (hk3 hg),rfl,rfl,rfl,rfl,rfl,fun hg=>s22.ix rfl rfl rfl (hk2 hg),rfl,rfl,rfl,rfl,rfl,fun hg=>s22.ix rfl rfl rfl (hk1 hg),rfl,rfl,fun hg=>OpQ.g (q_steql fk_32 rfl rfl (xs:=Record.vals y3.1) (ys:=Record.vals (⟨1,1,1,([49]:List UInt8),([50]:List UInt8),0,15,0,0,false,0,false⟩:Record)) rfl rfl rfl rfl),rfl,rfl,(show drawB _ _=true by kernel_rfl),OpQ.g (q_buildP pl_32 hi32 hz32 rfl rfl)⟩ ?_
   refine .R func10 results10 rfl ?_
   cases H
   exact .m rfl (.rfl' _)
theorem c_f_r09_in {v0n:Int} {v1low:Int} {v2high:Int} {r:Bool} (H:f_r09_in v0n v1low v2high=some r):ACall prog 61 [cI v0n,cI v1low,cI v2high] (·=cB r):=by
 refine ACall.enter' func61 rfl ntmps61 rfl fun S hS=>?_
 unfold f_r09_in at H
 refine .A 16 [] rfl ⟨rfl,rfl,rfl⟩ ?_
 refine .R func61 results61 rfl ?_
 cases H
 exact .m rfl (.rfl' _)
theorem c_f_r02_Valid {v0s:List UInt8} {r:Bool} (H:f_r02_Valid v0s=some r):ACall prog 62 [cS v0s] (·=cB r):=by
 refine ACall.enter' func62 rfl ntmps62 rfl fun S hS=>?_
 unfold f_r02_Valid at H
 refine .A 9 [] rfl trivial ?_
 refine .blockJoin2 (ι:=Unit) (fun _=>[(0,.d (cS v0s))]) (fun _=>⟨[],[]⟩) (fun s=>f_r02_Valid_j1 v0s=some r) ?_ ?_
 ·rintro _ H
  replace H:f_r02_Valid_j1 v0s=some r:=H
  unfold f_r02_Valid_j1 at H
  refine .A 12 [.i (v0s.length:Int),.i (v0s.length:Int)] rfl ⟨rfl,rfl,fun hg=>OpQ.g (q_lenS underlying9 rfl),rfl,OpQ.g (q_lenS underlying9 rfl)⟩ ?_
  refine .R func62 results62 rfl ?_
  cases H
  exact .m rfl (.rfl' _)
 ·intro hj1 hj1x
  obtain ⟨n1,H⟩:=loop_some H
  refine .loop (ι:=Nat×(Int)) (fun ⟨_,v3il1⟩=>[(0,.d (cS v0s)),(3,.d (cI v3il1))]) (fun ⟨_,v3il1⟩=>⟨[],[]⟩) (fun p=>iter (fun s=>f_r02_Valid_l1 v0s s) p.1 p.2=some r) (·.1) (n1,0) H (.cons rfl (.rfl' _) (.cons rfl (.rfl' _) (.nil))) rfl ?_
  rintro ⟨m1,v3il1⟩ HI ih1
  obtain ⟨n1,q1,hm1,H,HK1⟩:=iter_succ HI
  clear HI
  replace H:f_r02_Valid_l1 v0s v3il1=some q1:=H
  unfold f_r02_Valid_l1 at H
  refine .A 8 [.i (v0s.length:Int)] rfl (OpQ.g (q_lenS underlying9 rfl)) ?_
  refine .ite H rfl (fun H=>?_) (fun H=>?_)
  ·obtain ⟨hk1,H⟩:=ck_some H
   obtain ⟨hk2,H⟩:=ck_some H
   refine .A 16 [.c (nth v0s v3il1.toNat),.b (decide ((nth v0s v3il1.toNat) < 48)),.c (nth v0s v3il1.toNat),.b (decide ((nth v0s v3il1.toNat) > 57))] rfl ⟨rfl,fun hg=>OpQ.g (q8_gtr (a:=nth v0s v3il1.toNat) (b:=57) rfl rfl),rfl,fun hg=>OpQ.g (q_indexL (i:=v3il1) underlying9 rfl rfl (hk2 hg)),rfl,rfl,OpQ.g (q8_lss (a:=nth v0s v3il1.toNat) (b:=48) rfl rfl),OpQ.g (q_indexL (i:=v3il1) underlying9 rfl rfl hk1)⟩ ?_
   refine .ite H rfl (fun H=>?_) (fun H=>?_)
   ·refine .A 4 [] rfl trivial ?_
    refine .R func62 results62 rfl ?_
    cases H
    cases HK1
    exact .m rfl (.rfl' _)
   ·obtain ⟨hk3,H⟩:=ck_some H
    refine .A 7 [.i (v3il1+1)] rfl (g_addI rfl rfl hk3) ?_
    cases H
    exact .z (ih1 (n1,(v3il1+1)) HK1 hm1) rfl rfl
  ·refine .A 1 [] rfl trivial ?_
   obtain ⟨q0,H9,hq0⟩:=map_some' H; clear H; cases hq0
   cases HK1
   have H:=H9
   exact .z (hj1x () H) rfl rfl
theorem c_f_r09_Error {v0:Record} {r:Int} (H:f_r09_Error v0=some r):ACall prog 49 [.agg (Record.row v0)] (·=cI r):=by
 refine ACall.enter' func49 rfl ntmps49 rfl fun S hS=>?_
 unfold f_r09_Error at H
 obtain ⟨y1,hy1,H⟩:=bind_some' H
 obtain ⟨y2,hy2,H⟩:=bind_some' H
 refine .A 21 [.r 0,.b y1,.b y2] rfl ⟨rfl,rfl,fun hg=>g_call (en 32 rfl) rfl rfl (c_f_r09_in (gcall_some hy2 hg)),rfl,rfl,g_call (en 32 rfl) rfl rfl (c_f_r09_in (hy1))⟩ ?_
 refine .ite H rfl (fun H=>?_) (fun H=>?_)
 ·refine .A 4 [] rfl trivial ?_
  refine .R func49 results49 rfl ?_
  cases H
  exact .m rfl (.rfl' _)
 ·obtain ⟨y3,hy3,H⟩:=bind_some' H
  refine .A 8 [.b y3] rfl (g_call (en 32 rfl) rfl rfl (c_f_r09_in (hy3))) ?_
  refine .ite H rfl (fun H=>?_) (fun H=>?_)
  ·refine .A 4 [] rfl trivial ?_
   refine .R func49 results49 rfl ?_
   cases H
   exact .m rfl (.rfl' _)
  ·obtain ⟨y4,hy4,H⟩:=bind_some' H
   refine .A 8 [.b y4] rfl (g_call (en 33 rfl) rfl rfl (c_f_r02_Valid (hy4))) ?_
   refine .ite H rfl (fun H=>?_) (fun H=>?_)
   ·refine .A 4 [] rfl trivial ?_
    refine .R func49 results49 rfl ?_
    cases H
    exact .m rfl (.rfl' _)
   ·obtain ⟨y5,hy5,H⟩:=bind_some' H
    refine .B 18 [.b y5] rfl ⟨rfl,rfl,rfl,rfl,rfl,rfl,rfl,rfl,g_call (en 33 rfl) rfl rfl (c_f_r02_Valid (hy5))⟩ ?_
    refine .guardG (env':=[(37,_),(40,_)]) rfl rfl rfl ⟨.inr (.inl rfl),⟨.inr (.inr ⟨_,_,rfl,rfl⟩),trivial⟩⟩ rfl (fun hg=>OpQ.g (q_pickAndB rfl rfl rfl)) ?_
    refine .guardG (env':=[(33,_),(41,_)]) rfl rfl rfl ⟨.inr (.inl rfl),⟨.inr (.inr ⟨_,_,rfl,rfl⟩),trivial⟩⟩ rfl (fun hg=>OpQ.g (q_pickOrB rfl rfl rfl)) ?_
    refine .A 3 [] rfl rfl ?_
    refine .ite H rfl (fun H=>?_) (fun H=>?_)
    ·refine .A 4 [] rfl trivial ?_
     refine .R func49 results49 rfl ?_
     cases H
     exact .m rfl (.rfl' _)
    ·obtain ⟨y6,hy6,H⟩:=bind_some' H
     refine .A 8 [.b y6] rfl (g_call (en 32 rfl) rfl rfl (c_f_r09_in (hy6))) ?_
     refine .ite H rfl (fun H=>?_) (fun H=>?_)
     ·refine .A 4 [] rfl trivial ?_
      refine .R func49 results49 rfl ?_
      cases H
      exact .m rfl (.rfl' _)
     ·obtain ⟨y7,hy7,H⟩:=bind_some' H
      refine .B 14 [.b y7] rfl ⟨rfl,rfl,rfl,rfl,rfl,g_call (en 32 rfl) rfl rfl (c_f_r09_in (hy7))⟩ ?_
      refine .guardG (env':=[(58,_),(61,_)]) rfl rfl rfl ⟨.inr (.inl rfl),⟨.inr (.inr ⟨_,_,rfl,rfl⟩),trivial⟩⟩ rfl (fun hg=>OpQ.g (q_pickAndB rfl rfl rfl)) ?_
      refine .A 3 [] rfl rfl ?_
      refine .ite H rfl (fun H=>?_) (fun H=>?_)
      ·refine .A 4 [] rfl trivial ?_
       refine .R func49 results49 rfl ?_
       cases H
       exact .m rfl (.rfl' _)
      ·obtain ⟨hk1,H⟩:=ck_some H
       refine .A 15 [.i (v0.start+v0.units)] rfl ⟨rfl,rfl,fun hg=>g_addI rfl rfl (hk1 hg),rfl,rfl,rfl,rfl⟩ ?_
       refine .ite H rfl (fun H=>?_) (fun H=>?_)
       ·refine .A 4 [] rfl trivial ?_
        refine .R func49 results49 rfl ?_
        cases H
        exact .m rfl (.rfl' _)
       ·obtain ⟨y8,hy8,H⟩:=bind_some' H
        obtain ⟨y9,hy9,H⟩:=bind_some' H
        refine .A 14 [.b y8,.b y9] rfl ⟨rfl,rfl,fun hg=>g_call (en 32 rfl) rfl rfl (c_f_r09_in (gcall_some hy9 hg)),rfl,rfl,g_call (en 32 rfl) rfl rfl (c_f_r09_in (hy8))⟩ ?_
        refine .ite H rfl (fun H=>?_) (fun H=>?_)
        ·refine .A 4 [] rfl trivial ?_
         refine .R func49 results49 rfl ?_
         cases H
         exact .m rfl (.rfl' _)
        ·refine .B 16 [.b ((v0.part==0) != (v0.call==0))] rfl ⟨rfl,rfl,rfl,rfl,OpQ.g (q_bneq rfl underlying4 rfl)⟩ ?_
         refine .guardG (env':=[(98,_),(101,_)]) rfl rfl rfl ⟨.inr (.inl rfl),⟨.inr (.inr ⟨_,_,rfl,rfl⟩),trivial⟩⟩ rfl (fun hg=>OpQ.g (q_pickAndB rfl rfl rfl)) ?_
         refine .A 3 [] rfl rfl ?_
         refine .ite H rfl (fun H=>?_) (fun H=>?_)
         ·refine .A 4 [] rfl trivial ?_
          refine .R func49 results49 rfl ?_
          cases H
          exact .m rfl (.rfl' _)
         ·obtain ⟨y10,hy10,H⟩:=bind_some' H
          refine .A 8 [.b y10] rfl (g_call (en 32 rfl) rfl rfl (c_f_r09_in (hy10))) ?_
          refine .ite H rfl (fun H=>?_) (fun H=>?_)
          ·refine .A 4 [] rfl trivial ?_
           refine .R func49 results49 rfl ?_
           cases H
           exact .m rfl (.rfl' _)
          ·refine .A 11 [] rfl ⟨rfl,rfl,rfl⟩ ?_
           refine .ite H rfl (fun H=>?_) (fun H=>?_)
           ·refine .A 4 [] rfl trivial ?_
            refine .R func49 results49 rfl ?_
            cases H
            exact .m rfl (.rfl' _)
           ·refine .A 6 [] rfl trivial ?_
            refine .R func49 results49 rfl ?_
            cases H
            exact .m rfl (.rfl' _)
theorem c_f_r13_Check {v0r:Record} {r:Int} (H:f_r13_Check v0r=some r):ACall prog 26 [.agg (Record.row v0r)] (·=cI r):=by
 refine ACall.enter' func26 rfl ntmps26 rfl fun S hS=>?_
 unfold f_r13_Check at H
 obtain ⟨y1,hy1,H⟩:=bind_some' H
 refine .A 11 [.r 0,.i y1] rfl (g_call (en 34 rfl) rfl rfl (c_f_r09_Error (hy1))) ?_
 refine .R func26 results26 rfl ?_
 cases H
 exact .m rfl (.rfl' _)
theorem c_f_r15_call {v0a:Record} {v1b:Record} {r:Bool} (H:f_r15_call v0a v1b=some r):ACall prog 45 [.agg (Record.row v0a),.agg (Record.row v1b)] (·=cB r):=by
 refine ACall.enter' func45 rfl ntmps45 rfl fun S hS=>?_
 unfold f_r15_call at H
 refine .A 22 [.r 0,.r 1] rfl ⟨rfl,rfl,rfl,rfl,rfl⟩ ?_
 refine .R func45 results45 rfl ?_
 cases H
 exact .m rfl (.rfl' _)
set_option maxRecDepth 100000
set_option maxHeartbeats 1000000
theorem c_f_r15_whole {v0:List Record} {r:Record×Bool} (H:f_r15_whole v0=some r):ACall prog 47 [slOf 12 Record.row v0] (·=.tup [.agg (Record.row r.1),cB r.2]):=by
 obtain ⟨i32,hi32,hz32,hs32,hb32⟩:=in_32
 refine ACall.enter' func47 rfl ntmps47 rfl fun S hS=>?_
 unfold f_r15_whole at H
 refine .A 14 [.r 0,.r 1] rfl trivial ?_
 refine .blockJoin2 (ι:=Int×Int×Int×List UInt8×List UInt8×Int×Int×Int×Bool) (fun ⟨o1c0j1,o1c1j1,o1c2j1,o1c3j1,o1c4j1,o1c5j1,o1c6j1,o1c10j1,o1c11j1⟩=>[(0,.d (slOf 12 Record.row v0)),(2,.ref 0 0),(4,.ref 1 0)]) (fun ⟨o1c0j1,o1c1j1,o1c2j1,o1c3j1,o1c4j1,o1c5j1,o1c6j1,o1c10j1,o1c11j1⟩=>⟨[.row 32 [.d (cI 0),.d (cI 0),.d (cI 0),.d (cS ([]:List UInt8)),.d (cS ([]:List UInt8)),.d (cI 0),.d (cI 0),.d (cI 0),.d (cI 0),.d (cB false),.d (cI 0),.d (cB false)],.row 32 [.d (cI o1c0j1),.d (cI o1c1j1),.d (cI o1c2j1),.d (cS o1c3j1),.d (cS o1c4j1),.d (cI o1c5j1),.d (cI o1c6j1),.d (cI 0),.d (cI 0),.d (cB false),.d (cI o1c10j1),.d (cB o1c11j1)]],[]⟩) (fun s=>f_r15_whole_j1 v0 s.1 s.2.1 s.2.2.1 s.2.2.2.1 s.2.2.2.2.1 s.2.2.2.2.2.1 s.2.2.2.2.2.2.1 s.2.2.2.2.2.2.2.1 s.2.2.2.2.2.2.2.2=some r) ?_ ?_
 ·rintro ⟨o1c0j1,o1c1j1,o1c2j1,o1c3j1,o1c4j1,o1c5j1,o1c6j1,o1c10j1,o1c11j1⟩ H
  replace H:f_r15_whole_j1 v0 o1c0j1 o1c1j1 o1c2j1 o1c3j1 o1c4j1 o1c5j1 o1c6j1 o1c10j1 o1c11j1=some r:=H
  unfold f_r15_whole_j1 at H
  refine .A 9 [.i (v0.length:Int)] rfl (s22.n rfl rfl) ?_
  refine .R func47 results47 rfl ?_
  cases H
  exact .m rfl (.tupD rfl)
 ·intro hj1 hj1x
  obtain ⟨n1,H⟩:=loop_some H
  refine .loop (ι:=Nat×(Int×Int×Int×Int×List UInt8×List UInt8×Int×Int×Int×Bool)) (fun ⟨_,v5l1,o1c0l1,o1c1l1,o1c2l1,o1c3l1,o1c4l1,o1c5l1,o1c6l1,o1c10l1,o1c11l1⟩=>[(0,.d (slOf 12 Record.row v0)),(2,.ref 0 0),(4,.ref 1 0),(5,.d (cI v5l1))]) (fun ⟨_,v5l1,o1c0l1,o1c1l1,o1c2l1,o1c3l1,o1c4l1,o1c5l1,o1c6l1,o1c10l1,o1c11l1⟩=>⟨[.row 32 [.d (cI 0),.d (cI 0),.d (cI 0),.d (cS ([]:List UInt8)),.d (cS ([]:List UInt8)),.d (cI 0),.d (cI 0),.d (cI 0),.d (cI 0),.d (cB false),.d (cI 0),.d (cB false)],.row 32 [.d (cI o1c0l1),.d (cI o1c1l1),.d (cI o1c2l1),.d (cS o1c3l1),.d (cS o1c4l1),.d (cI o1c5l1),.d (cI o1c6l1),.d (cI 0),.d (cI 0),.d (cB false),.d (cI o1c10l1),.d (cB o1c11l1)]],[]⟩) (fun p=>iter (fun s=>f_r15_whole_l1 v0 s.1 s.2.1 s.2.2.1 s.2.2.2.1 s.2.2.2.2.1 s.2.2.2.2.2.1 s.2.2.2.2.2.2.1 s.2.2.2.2.2.2.2.1 s.2.2.2.2.2.2.2.2.1 s.2.2.2.2.2.2.2.2.2) p.1 p.2=some r) (·.1) (n1,(0,0,0,0,([]:List UInt8),([]:List UInt8),0,0,0,false)) H (.cons rfl (.rfl' _) (.cons rfl (.rfl' _) (.cons rfl (.rfl' _) (.cons rfl (.rfl' _) (.nil))))) rfl ?_
  rintro ⟨m1,v5l1,o1c0l1,o1c1l1,o1c2l1,o1c3l1,o1c4l1,o1c5l1,o1c6l1,o1c10l1,o1c11l1⟩ HI ih1
  obtain ⟨n1,q1,hm1,H,HK1⟩:=iter_succ HI
  clear HI
  replace H:f_r15_whole_l1 v0 v5l1 o1c0l1 o1c1l1 o1c2l1 o1c3l1 o1c4l1 o1c5l1 o1c6l1 o1c10l1 o1c11l1=some q1:=H
  unfold f_r15_whole_l1 at H
  refine .A 8 [.i (v0.length:Int)] rfl (s22.n rfl rfl) ?_
  refine .ite H rfl (fun H=>?_) (fun H=>?_)
  ·obtain ⟨hk1,H⟩:=ck_some H
   obtain ⟨y1,hy1,H⟩:=bind_some' H
   refine .A 24 [.d (.ro (Record.row (nth v0 v5l1.toNat))),.r 2,.i y1] rfl ⟨rfl,rfl,fun hg=>g_call (en 35 rfl) rfl rfl (c_f_r13_Check (gcall_some hy1 hg)),rfl,s22.ix rfl rfl rfl hk1⟩ ?_
   refine .ite H rfl (fun H=>?_) (fun H=>?_)
   ·refine .A 6 [.d (.agg (Record.row (⟨0,0,0,([]:List UInt8),([]:List UInt8),0,0,0,0,false,0,false⟩:Record)))] rfl (OpQ.g (q_buildP pl_32 hi32 hz32 rfl rfl)) ?_
    refine .R func47 results47 rfl ?_
    cases H
    cases HK1
    exact .m rfl (.tupD rfl)
   ·obtain ⟨hk2,H⟩:=ck_some H
    obtain ⟨hk3,H⟩:=ck_some H
    obtain ⟨y2,hy2,H⟩:=bind_some' H
    refine .A 61 [.i (o1c6l1+((nth v0 v5l1.toNat).units)),.d (.ro (Record.row (nth v0 (Int.toNat (0))))),.r 3,.b y2,.b (((nth v0 v5l1.toNat).inbound) != ((nth v0 (Int.toNat (0))).inbound))] rfl ⟨rfl,fun hg=>OpQ.g (q_bneq rfl underlying4 rfl),rfl,rfl,rfl,rfl,rfl,rfl,rfl,rfl,rfl,rfl,rfl,rfl,rfl,rfl,rfl,rfl,rfl,rfl,rfl,rfl,rfl,rfl,rfl,rfl,g_call (en 36 rfl) rfl rfl (c_f_r15_call (hy2)),s22.ix rfl rfl rfl hk3,g_addI rfl rfl hk2⟩ ?_
    refine .ite H rfl (fun H=>?_) (fun H=>?_)
    ·refine .A 6 [.d (.agg (Record.row (⟨0,0,0,([]:List UInt8),([]:List UInt8),0,0,0,0,false,0,false⟩:Record)))] rfl (OpQ.g (q_buildP pl_32 hi32 hz32 rfl rfl)) ?_
     refine .R func47 results47 rfl ?_
     cases H
     cases HK1
     exact .m rfl (.tupD rfl)
    ·obtain ⟨y3,hy3,H⟩:=bind_some' H
     refine .A 33 [.i y3] rfl (g_call (en 35 rfl) rfl rfl (c_f_r13_Check (hy3))) ?_
     refine .ite H rfl (fun H=>?_) (fun H=>?_)
     ·refine .A 6 [.d (.agg (Record.row (⟨0,0,0,([]:List UInt8),([]:List UInt8),0,0,0,0,false,0,false⟩:Record)))] rfl (OpQ.g (q_buildP pl_32 hi32 hz32 rfl rfl)) ?_
      refine .R func47 results47 rfl ?_
      cases H
      cases HK1
      exact .m rfl (.tupD rfl)
     ·obtain ⟨hk4,H⟩:=ck_some H
      refine .A 7 [.i (v5l1+1)] rfl (g_addI rfl rfl hk4) ?_
      cases H
      exact .t 2 0 (ih1 (n1,(v5l1+1,(nth v0 (Int.toNat (0))).source,(nth v0 (Int.toNat (0))).serial,(nth v0 (Int.toNat (0))).kind,(nth v0 (Int.toNat (0))).a,(nth v0 (Int.toNat (0))).b,(nth v0 (Int.toNat (0))).start,o1c6l1+((nth v0 v5l1.toNat).units),(nth v0 (Int.toNat (0))).trunk,(nth v0 (Int.toNat (0))).inbound)) HK1 hm1) rfl rfl rfl rfl rfl hS rfl
  ·refine .A 1 [] rfl trivial ?_
   obtain ⟨q0,H9,hq0⟩:=map_some' H; clear H; cases hq0
   cases HK1
   have H:=H9
   exact .z (hj1x (o1c0l1,o1c1l1,o1c2l1,o1c3l1,o1c4l1,o1c5l1,o1c6l1,o1c10l1,o1c11l1) H) rfl rfl
theorem c_f_r15_Complete {v0parts:List Record} {r:Record×Bool} (H:f_r15_Complete v0parts=some r):ACall prog 19 [slOf 12 Record.row v0parts] (·=.tup [.agg (Record.row r.1),cB r.2]):=by
 obtain ⟨i32,hi32,hz32,hs32,hb32⟩:=in_32
 refine ACall.enter' func19 rfl ntmps19 rfl fun S hS=>?_
 unfold f_r15_Complete at H
 refine .A 10 [.r 0] rfl trivial ?_
 refine .blockJoin2 (ι:=Unit) (fun _=>[(0,.d (slOf 12 Record.row v0parts)),(2,.ref 0 0)]) (fun _=>⟨[.row 32 [.d (cI 0),.d (cI 0),.d (cI 0),.d (cS ([]:List UInt8)),.d (cS ([]:List UInt8)),.d (cI 0),.d (cI 0),.d (cI 0),.d (cI 0),.d (cB false),.d (cI 0),.d (cB false)]],[]⟩) (fun s=>f_r15_Complete_j1 v0parts=some r) ?_ ?_
 ·rintro _ H
  replace H:f_r15_Complete_j1 v0parts=some r:=H
  unfold f_r15_Complete_j1 at H
  obtain ⟨y1,hy1,H⟩:=bind_some' H
  refine .A 9 [.d (.tup [.agg (Record.row y1.1),cB y1.2])] rfl (g_call (en 37 rfl) rfl rfl (c_f_r15_whole (hy1))) ?_
  refine .R func19 results19 rfl ?_
  cases H
  exact .m rfl (.tupD rfl)
 ·intro hj1 hj1x
  obtain ⟨n1,H⟩:=loop_some H
  refine .loop (ι:=Nat×(Int)) (fun ⟨_,v4il1⟩=>[(0,.d (slOf 12 Record.row v0parts)),(2,.ref 0 0),(4,.d (cI v4il1))]) (fun ⟨_,v4il1⟩=>⟨[.row 32 [.d (cI 0),.d (cI 0),.d (cI 0),.d (cS ([]:List UInt8)),.d (cS ([]:List UInt8)),.d (cI 0),.d (cI 0),.d (cI 0),.d (cI 0),.d (cB false),.d (cI 0),.d (cB false)]],[]⟩) (fun p=>iter (fun s=>f_r15_Complete_l1 v0parts s) p.1 p.2=some r) (·.1) (n1,0) H (.cons rfl (.rfl' _) (.cons rfl (.rfl' _) (.cons rfl (.rfl' _) (.nil)))) rfl ?_
  rintro ⟨m1,v4il1⟩ HI ih1
  obtain ⟨n1,q1,hm1,H,HK1⟩:=iter_succ HI
  clear HI
  replace H:f_r15_Complete_l1 v0parts v4il1=some q1:=H
  unfold f_r15_Complete_l1 at H
  refine .A 8 [.i (v0parts.length:Int)] rfl (s22.n rfl rfl) ?_
  refine .ite H rfl (fun H=>?_) (fun H=>?_)
  ·obtain ⟨hk1,H⟩:=ck_some H
   obtain ⟨hk2,H⟩:=ck_some H
   obtain ⟨hk3,H⟩:=ck_some H
   obtain ⟨hk4,H⟩:=ck_some H
   refine .A 27 [.d (.ro (Record.row (nth v0parts v4il1.toNat))),.i (v4il1+1),.d (.ro (Record.row (nth v0parts v4il1.toNat))),.i (v4il1+1),.i (v0parts.length:Int),.b (((nth v0parts v4il1.toNat).last) != ((v4il1+1)==(v0parts.length:Int)))] rfl ⟨rfl,fun hg=>OpQ.g (q_bneq rfl underlying4 rfl),rfl,rfl,rfl,rfl,fun hg=>s22.n rfl rfl,rfl,fun hg=>g_addI rfl rfl (hk4 hg),rfl,rfl,rfl,fun hg=>s22.ix rfl rfl rfl (hk3 hg),rfl,rfl,g_addI rfl rfl hk2,s22.ix rfl rfl rfl hk1⟩ ?_
   refine .ite H rfl (fun H=>?_) (fun H=>?_)
   ·refine .A 6 [.d (.agg (Record.row (⟨0,0,0,([]:List UInt8),([]:List UInt8),0,0,0,0,false,0,false⟩:Record)))] rfl (OpQ.g (q_buildP pl_32 hi32 hz32 rfl rfl)) ?_
    refine .R func19 results19 rfl ?_
    cases H
    cases HK1
    exact .m rfl (.tupD rfl)
   ·obtain ⟨hk5,H⟩:=ck_some H
    refine .A 7 [.i (v4il1+1)] rfl (g_addI rfl rfl hk5) ?_
    cases H
    exact .z (ih1 (n1,(v4il1+1)) HK1 hm1) rfl rfl
  ·refine .A 1 [] rfl trivial ?_
   obtain ⟨q0,H9,hq0⟩:=map_some' H; clear H; cases hq0
   cases HK1
   have H:=H9
   exact .z (hj1x () H) rfl rfl
theorem c_f_r15_before {v0a:Record} {v1b:Record} {r:Bool} (H:f_r15_before v0a v1b=some r):ACall prog 37 [.agg (Record.row v0a),.agg (Record.row v1b)] (·=cB r):=by
 refine ACall.enter' func37 rfl ntmps37 rfl fun S hS=>?_
 unfold f_r15_before at H
 refine .A 15 [.r 0,.r 1] rfl trivial ?_
 refine .ite H rfl (fun H=>?_) (fun H=>?_)
 ·refine .A 9 [] rfl trivial ?_
  refine .R func37 results37 rfl ?_
  cases H
  exact .m rfl (.rfl' _)
 ·refine .A 10 [] rfl trivial ?_
  refine .ite H rfl (fun H=>?_) (fun H=>?_)
  ·refine .A 9 [] rfl trivial ?_
   refine .R func37 results37 rfl ?_
   cases H
   exact .m rfl (.rfl' _)
  ·refine .A 10 [] rfl trivial ?_
   refine .R func37 results37 rfl ?_
   cases H
   exact .m rfl (.rfl' _)
theorem c_f_r15_firsts {v0open:List Record} {v1x:Record} {v2last:Bool} {r:(List Int)} (H:f_r15_firsts v0open v1x v2last=some r):ACall prog 35 [slOf 12 Record.row v0open,.agg (Record.row v1x),cB v2last] (·=slOf 1 rI r):=by
 obtain ⟨i3,hi3,hz3,hs3,hb3⟩:=in_3
 refine ACall.enter' func35 rfl ntmps35 rfl fun S hS=>?_
 unfold f_r15_firsts at H
 refine .A 15 [.r 0] rfl trivial ?_
 refine .tok (i:=7) (e:=3) (sz:=1) rfl ?_
 obtain ⟨n1,H⟩:=loop_some H
 refine .loop (ι:=Nat×(List Int×Int)) (fun ⟨_,v7outl1,v8il1⟩=>[(0,.d (slOf 12 Record.row v0open)),(2,.d (cB v2last)),(4,.ref 0 0),(7,.tsl 1 (v7outl1.map rI) 0),(8,.d (cI v8il1))]) (fun ⟨_,v7outl1,v8il1⟩=>⟨[.row 32 [.d (cI v1x.source),.d (cI v1x.serial),.d (cI v1x.kind),.d (cS v1x.a),.d (cS v1x.b),.d (cI v1x.start),.d (cI v1x.units),.d (cI v1x.call),.d (cI v1x.part),.d (cB v1x.last),.d (cI v1x.trunk),.d (cB v1x.inbound)]],[⟨3,1,v7outl1.length,none⟩]⟩) (fun p=>iter (fun s=>f_r15_firsts_l1 v0open v1x v2last s.1 s.2) p.1 p.2=some r) (·.1) (n1,(([]:List Int),0)) H (.cons rfl (.rfl' _) (.cons rfl (.rfl' _) (.cons rfl (.rfl' _) (.cons rfl (.rfl' _) (.cons rfl (.rfl' _) (.nil)))))) rfl ?_
 rintro ⟨m1,v7outl1,v8il1⟩ HI ih1
 obtain ⟨n1,q1,hm1,H,HK1⟩:=iter_succ HI
 clear HI
 replace H:f_r15_firsts_l1 v0open v1x v2last v7outl1 v8il1=some q1:=H
 unfold f_r15_firsts_l1 at H
 refine .A 8 [.i (v0open.length:Int)] rfl (s22.n rfl rfl) ?_
 refine .ite H rfl (fun H=>?_) (fun H=>?_)
 ·obtain ⟨hk1,H⟩:=ck_some H
  obtain ⟨y1,hy1,H⟩:=bind_some' H
  obtain ⟨hk2,H⟩:=ck_some H
  obtain ⟨hk3,H⟩:=ck_some H
  refine .A 24 [.p 17,.d (.ro (Record.row (nth v0open v8il1.toNat))),.b y1,.d (.ro (Record.row (nth v0open v8il1.toNat))),.i (v7outl1.length:Int),.i ((v7outl1.length:Int)+1)] rfl ⟨rfl,rfl,rfl,fun hg=>g_addI rfl rfl (hk3 hg),rfl,fun hg=>s37.n rfl rfl,rfl,rfl,rfl,fun hg=>s22.ix rfl rfl rfl (hk2 hg),rfl,rfl,g_call (en 36 rfl) rfl rfl (c_f_r15_call (hy1)),s22.ix rfl rfl rfl hk1,(show drawB _ _=true by kernel_rfl)⟩ ?_
  refine .ite H rfl (fun H=>?_) (fun H=>?_)
  ·obtain ⟨hk4,H⟩:=ck_some H
   obtain ⟨hk5,H⟩:=ck_some H
   refine .A 19 [.d (slOf 1 rI ([v8il1]:List Int)),.a 0 3 1 rI (v7outl1++([v8il1]:List Int)),.d (.ro (Record.row (nth v0open v8il1.toNat)))] rfl ⟨rfl,rfl,rfl,fun hg=>s22.ix rfl rfl rfl (hk5 hg),rfl,rfl,s37.a rfl rfl rfl rfl hk4,g_buildSlice1 underlying37 hi3 hs3 hz3 rfl rfl rfl rfl rfl⟩ ?_
   refine .ite H rfl (fun H=>?_) (fun H=>?_)
   ·refine .A 6 [] rfl trivial ?_
    refine .R func35 results35 rfl ?_
    cases H
    cases HK1
    exact .m rfl (.tsl _ _ _)
   ·obtain ⟨hk6,H⟩:=ck_some H
    refine .A 7 [.i (v8il1+1)] rfl (g_addI rfl rfl hk6) ?_
    cases H
    exact .z (ih1 (n1,(v7outl1++([v8il1]:List Int),v8il1+1)) HK1 hm1) rfl rfl
  ·obtain ⟨hk7,H⟩:=ck_some H
   refine .A 7 [.i (v8il1+1)] rfl (g_addI rfl rfl hk7) ?_
   cases H
   exact .z (ih1 (n1,(v7outl1,v8il1+1)) HK1 hm1) rfl rfl
 ·refine .A 6 [] rfl trivial ?_
  refine .R func35 results35 rfl ?_
  cases H
  cases HK1
  exact .m rfl (.tsl _ _ _)
theorem c_f_r15_pick {v0list:List Record} {v1at:List Int} {r:(List Record)×(List Record)} (H:f_r15_pick v0list v1at=some r):ACall prog 34 [slOf 12 Record.row v0list,slOf 1 rI v1at] (·=.tup [slOf 12 Record.row r.1,slOf 12 Record.row r.2]):=by
 obtain ⟨i32,hi32,hz32,hs32,hb32⟩:=in_32
 refine ACall.enter' func34 rfl ntmps34 rfl fun S hS=>?_
 unfold f_r15_pick at H
 refine .A 20 [] rfl trivial ?_
 refine .tok (i:=6) (e:=32) (sz:=12) rfl ?_
 refine .tok (i:=7) (e:=32) (sz:=12) rfl ?_
 obtain ⟨n1,H⟩:=loop_some H
 refine .loop (ι:=Nat×(List Record×List Record×Int×Int)) (fun ⟨_,v6outl1,v7restl1,v8kl1,v9il1⟩=>[(0,.d (slOf 12 Record.row v0list)),(1,.d (slOf 1 rI v1at)),(6,.tsl 12 (v6outl1.map Record.row) 0),(7,.tsl 12 (v7restl1.map Record.row) 1),(8,.d (cI v8kl1)),(9,.d (cI v9il1))]) (fun ⟨_,v6outl1,v7restl1,v8kl1,v9il1⟩=>⟨[],[⟨32,12,v6outl1.length,none⟩,⟨32,12,v7restl1.length,none⟩]⟩) (fun p=>iter (fun s=>f_r15_pick_l1 v0list v1at s.1 s.2.1 s.2.2.1 s.2.2.2) p.1 p.2=some r) (·.1) (n1,(([]:List Record),([]:List Record),0,0)) H (.cons rfl (.rfl' _) (.cons rfl (.rfl' _) (.cons rfl (.rfl' _) (.cons rfl (.rfl' _) (.cons rfl (.rfl' _) (.cons rfl (.rfl' _) (.nil))))))) rfl ?_
 rintro ⟨m1,v6outl1,v7restl1,v8kl1,v9il1⟩ HI ih1
 obtain ⟨n1,q1,hm1,H,HK1⟩:=iter_succ HI
 clear HI
 replace H:f_r15_pick_l1 v0list v1at v6outl1 v7restl1 v8kl1 v9il1=some q1:=H
 unfold f_r15_pick_l1 at H
 refine .A 8 [.i (v0list.length:Int)] rfl (s22.n rfl rfl) ?_
 refine .ite H rfl (fun H=>?_) (fun H=>?_)
 ·obtain ⟨hk1,H⟩:=ck_some H
  refine .A 18 [.i (v1at.length:Int),.d (.ro (rI (nth v1at v8kl1.toNat)))] rfl ⟨rfl,rfl,rfl,rfl,fun hg=>s37.ix rfl rfl rfl (hk1 hg),rfl,rfl,s37.n rfl rfl⟩ ?_
  refine .ite H rfl (fun H=>?_) (fun H=>?_)
  ·obtain ⟨hk2,H⟩:=ck_some H
   obtain ⟨hk3,H⟩:=ck_some H
   obtain ⟨hk4,H⟩:=ck_some H
   obtain ⟨hk5,H⟩:=ck_some H
   refine .A 22 [.d (.ro (Record.row (nth v0list v9il1.toNat))),.d (slOf 12 Record.row ([nth v0list v9il1.toNat]:List Record)),.a 0 32 12 Record.row (v6outl1++([nth v0list v9il1.toNat]:List Record)),.i (v8kl1+1),.i (v9il1+1)] rfl ⟨g_addI rfl rfl hk5,g_addI rfl rfl hk4,s22.a rfl rfl rfl rfl hk3,g_buildSlice1 underlying22 hi32 hs32 hz32 rfl rfl rfl rfl rfl,s22.ix rfl rfl rfl hk2⟩ ?_
   cases H
   exact .z (ih1 (n1,(v6outl1++([nth v0list v9il1.toNat]:List Record),v7restl1,v8kl1+1,v9il1+1)) HK1 hm1) rfl rfl
  ·obtain ⟨hk6,H⟩:=ck_some H
   obtain ⟨hk7,H⟩:=ck_some H
   obtain ⟨hk8,H⟩:=ck_some H
   refine .A 16 [.d (.ro (Record.row (nth v0list v9il1.toNat))),.d (slOf 12 Record.row ([nth v0list v9il1.toNat]:List Record)),.a 1 32 12 Record.row (v7restl1++([nth v0list v9il1.toNat]:List Record)),.i (v9il1+1)] rfl ⟨g_addI rfl rfl hk8,s22.a rfl rfl rfl rfl hk7,g_buildSlice1 underlying22 hi32 hs32 hz32 rfl rfl rfl rfl rfl,s22.ix rfl rfl rfl hk6⟩ ?_
   cases H
   exact .z (ih1 (n1,(v6outl1,v7restl1++([nth v0list v9il1.toNat]:List Record),v8kl1,v9il1+1)) HK1 hm1) rfl rfl
 ·refine .A 8 [] rfl trivial ?_
  refine .R func34 results34 rfl ?_
  cases H
  cases HK1
  exact .m rfl (.tupL ⟨.tsl _ _ _,.tsl _ _ _,trivial⟩)
theorem c_f_r15_Open {v0:List Record} {r:Bool} (H:f_r15_Open v0=some r):ACall prog 14 [slOf 12 Record.row v0] (·=cB r):=by
 refine ACall.enter' func14 rfl ntmps14 rfl fun S hS=>?_
 unfold f_r15_Open at H
 refine .A 9 [] rfl trivial ?_
 refine .blockJoin2 (ι:=Unit) (fun _=>[(0,.d (slOf 12 Record.row v0))]) (fun _=>⟨[],[]⟩) (fun s=>f_r15_Open_j1 v0=some r) ?_ ?_
 ·rintro _ H
  replace H:f_r15_Open_j1 v0=some r:=H
  unfold f_r15_Open_j1 at H
  refine .A 6 [] rfl trivial ?_
  obtain ⟨n1,H⟩:=loop_some H
  refine .loop (ι:=Nat×(Int)) (fun ⟨_,v4l1⟩=>[(0,.d (slOf 12 Record.row v0)),(4,.d (cI v4l1))]) (fun ⟨_,v4l1⟩=>⟨[],[]⟩) (fun p=>iter (fun s=>f_r15_Open_l1 v0 s) p.1 p.2=some r) (·.1) (n1,0) H (.cons rfl (.rfl' _) (.cons rfl (.rfl' _) (.nil))) rfl ?_
  rintro ⟨m1,v4l1⟩ HI ih1
  obtain ⟨n1,q1,hm1,H,HK1⟩:=iter_succ HI
  clear HI
  replace H:f_r15_Open_l1 v0 v4l1=some q1:=H
  unfold f_r15_Open_l1 at H
  refine .A 8 [.i (v0.length:Int)] rfl (s22.n rfl rfl) ?_
  refine .ite H rfl (fun H=>?_) (fun H=>?_)
  ·obtain ⟨hk1,H⟩:=ck_some H
   obtain ⟨y1,hy1,H⟩:=bind_some' H
   obtain ⟨y2,hy2,H⟩:=bind_some' H
   obtain ⟨y3,hy3,H⟩:=bind_some' H
   refine .A 34 [.d (.ro (Record.row (nth v0 v4l1.toNat))),.d (slOf 1 rI y1),.d (.tup [slOf 12 Record.row y2.1,slOf 12 Record.row y2.2]),.d (.tup [.agg (Record.row y3.1),cB y3.2]),.r 0] rfl ⟨g_call (en 43 rfl) rfl rfl (c_f_r15_Complete (hy3)),g_call (en 44 rfl) rfl rfl (c_f_r15_pick (hy2)),g_call (en 45 rfl) rfl rfl (c_f_r15_firsts (hy1)),s22.ix rfl rfl rfl hk1⟩ ?_
   refine .ite H rfl (fun H=>?_) (fun H=>?_)
   ·refine .A 4 [] rfl trivial ?_
    refine .R func14 results14 rfl ?_
    cases H
    cases HK1
    exact .m rfl (.rfl' _)
   ·obtain ⟨hk2,H⟩:=ck_some H
    refine .A 7 [.i (v4l1+1)] rfl (g_addI rfl rfl hk2) ?_
    cases H
    exact .t 0 0 (ih1 (n1,(v4l1+1)) HK1 hm1) rfl rfl rfl rfl rfl hS rfl
  ·refine .A 5 [] rfl trivial ?_
   refine .R func14 results14 rfl ?_
   cases H
   cases HK1
   exact .m rfl (.rfl' _)
 ·intro hj1 hj1x
  obtain ⟨n2,H⟩:=loop_some H
  refine .loop (ι:=Nat×(Int)) (fun ⟨_,v3l2⟩=>[(0,.d (slOf 12 Record.row v0)),(3,.d (cI v3l2))]) (fun ⟨_,v3l2⟩=>⟨[],[]⟩) (fun p=>iter (fun s=>f_r15_Open_l2 v0 s) p.1 p.2=some r) (·.1) (n2,0) H (.cons rfl (.rfl' _) (.cons rfl (.rfl' _) (.nil))) rfl ?_
  rintro ⟨m1,v3l2⟩ HI ih1
  obtain ⟨n1,q1,hm1,H,HK1⟩:=iter_succ HI
  clear HI
  replace H:f_r15_Open_l2 v0 v3l2=some q1:=H
  unfold f_r15_Open_l2 at H
  refine .A 8 [.i (v0.length:Int)] rfl (s22.n rfl rfl) ?_
  refine .ite H rfl (fun H=>?_) (fun H=>?_)
  ·obtain ⟨hk3,H⟩:=ck_some H
   obtain ⟨hk4,H⟩:=ck_some H
   obtain ⟨y4,hy4,H⟩:=bind_some' H
   obtain ⟨hk5,H⟩:=ck_some H
   obtain ⟨hk6,H⟩:=ck_some H
   obtain ⟨hk7,H⟩:=ck_some H
   obtain ⟨y5,hy5,H⟩:=bind_some' H
   refine .C 33 [.p 30,.d (.ro (Record.row (nth v0 v3l2.toNat))),.d (.ro (Record.row (nth v0 v3l2.toNat))),.i y4,.d (.ro (Record.row (nth v0 v3l2.toNat))),.i (v3l2-1),.d (.ro (Record.row (nth v0 (v3l2-1).toNat))),.b y5] rfl ⟨fun hg=>g_call (en 46 rfl) rfl rfl (c_f_r15_before (gcall_some hy5 hg)),rfl,rfl,rfl,fun hg=>s22.ix rfl rfl rfl (hk7 hg),rfl,rfl,fun hg=>g_subI rfl rfl (hk6 hg),rfl,rfl,fun hg=>s22.ix rfl rfl rfl (hk5 hg),rfl,rfl,rfl,rfl,rfl,rfl,fun hg=>g_call (en 35 rfl) rfl rfl (c_f_r13_Check (gcall_some hy4 hg)),rfl,rfl,fun hg=>s22.ix rfl rfl rfl (hk4 hg),rfl,rfl,s22.ix rfl rfl rfl hk3,(show drawB _ _=true by kernel_rfl)⟩ ?_
   refine .guardG (env':=[(32,_),(42,_)]) rfl rfl rfl ⟨.inr (.inl rfl),⟨.inr (.inr ⟨_,_,rfl,rfl⟩),trivial⟩⟩ rfl (fun hg=>OpQ.g (q_pickAndB rfl rfl rfl)) ?_
   refine .A 3 [] rfl rfl ?_
   refine .ite H rfl (fun H=>?_) (fun H=>?_)
   ·refine .A 4 [] rfl trivial ?_
    refine .R func14 results14 rfl ?_
    cases H
    cases HK1
    exact .m rfl (.rfl' _)
   ·obtain ⟨hk8,H⟩:=ck_some H
    refine .A 7 [.i (v3l2+1)] rfl (g_addI rfl rfl hk8) ?_
    cases H
    exact .z (ih1 (n1,(v3l2+1)) HK1 hm1) rfl rfl
  ·refine .A 1 [] rfl trivial ?_
   obtain ⟨q0,H9,hq0⟩:=map_some' H; clear H; cases hq0
   cases HK1
   have H:=H9
   exact .z (hj1x () H) rfl rfl
set_option maxRecDepth 100000
set_option maxHeartbeats 1000000
theorem c_f_w15_light {v0open:List Record} {r:Bool} (H:f_w15_light v0open=some r):ACall prog 8 [slOf 12 Record.row v0open] (·=cB r):=by
 refine ACall.enter' func8 rfl ntmps8 rfl fun S hS=>?_
 unfold f_w15_light at H
 obtain ⟨y1,hy1,H⟩:=bind_some' H
 obtain ⟨y2,hy2,H⟩:=bind_some' H
 refine .A 14 [.b y1,.b y2] rfl ⟨rfl,fun hg=>g_call (en 47 rfl) rfl rfl (c_f_r15_Open (gcall_some hy2 hg)),rfl,g_call (en 39 rfl) rfl rfl (c_f_w15_few (hy1))⟩ ?_
 refine .R func8 results8 rfl ?_
 cases H
 exact .m rfl (.rfl' _)
theorem c_f_r15_alone {v0p:Record} {r:Record} (H:f_r15_alone v0p=some r):ACall prog 60 [.agg (Record.row v0p)] (·=.agg (Record.row r)):=by
 refine ACall.enter' func60 rfl ntmps60 rfl fun S hS=>?_
 unfold f_r15_alone at H
 refine .A 25 [.r 0,.r 1] rfl trivial ?_
 refine .R func60 results60 rfl ?_
 cases H
 exact .m rfl (.rfl' _)
theorem c_f_r15_end {v0:List Record} {r:(List Record)} (H:f_r15_end v0=some r):ACall prog 46 [slOf 12 Record.row v0] (·=slOf 12 Record.row r):=by
 obtain ⟨i3,hi3,hz3,hs3,hb3⟩:=in_3
 obtain ⟨i32,hi32,hz32,hs32,hb32⟩:=in_32
 refine ACall.enter' func46 rfl ntmps46 rfl fun S hS=>?_
 unfold f_r15_end at H
 obtain ⟨hk1,H⟩:=ck_some H
 obtain ⟨y1,hy1,H⟩:=bind_some' H
 refine .A 13 [.d (.ro (Record.row (nth v0 (Int.toNat (0))))),.d (slOf 1 rI y1)] rfl ⟨g_call (en 45 rfl) rfl rfl (c_f_r15_firsts (hy1)),s22.ix rfl rfl rfl hk1⟩ ?_
 refine .seqJoin (ι:=List Int) (fun v3j1=>[(0,.d (slOf 12 Record.row v0)),(3,.d (slOf 1 rI v3j1))]) (fun v3j1=>⟨[],[]⟩) (fun s=>f_r15_end_j1 v0 s=some r) ?_ ?_
 ·rintro v3j1 H
  replace H:f_r15_end_j1 v0 v3j1=some r:=H
  unfold f_r15_end_j1 at H
  obtain ⟨y2,hy2,H⟩:=bind_some' H
  refine .A 15 [.d (.tup [slOf 12 Record.row y2.1,slOf 12 Record.row y2.2])] rfl (g_call (en 44 rfl) rfl rfl (c_f_r15_pick (hy2))) ?_
  refine .tok (i:=10) (e:=32) (sz:=12) rfl ?_
  refine .seqJoin (ι:=List Record×Int×Int×Int×List UInt8×List UInt8×Int×Int×Int×Int×Bool×Int×Bool) (fun ⟨v10j2,o0c0j2,o0c1j2,o0c2j2,o0c3j2,o0c4j2,o0c5j2,o0c6j2,o0c7j2,o0c8j2,o0c9j2,o0c10j2,o0c11j2⟩=>[(9,.d (slOf 12 Record.row y2.2)),(10,.tsl 12 (v10j2.map Record.row) 0)]) (fun ⟨v10j2,o0c0j2,o0c1j2,o0c2j2,o0c3j2,o0c4j2,o0c5j2,o0c6j2,o0c7j2,o0c8j2,o0c9j2,o0c10j2,o0c11j2⟩=>⟨[.row 32 [.d (cI o0c0j2),.d (cI o0c1j2),.d (cI o0c2j2),.d (cS o0c3j2),.d (cS o0c4j2),.d (cI o0c5j2),.d (cI o0c6j2),.d (cI o0c7j2),.d (cI o0c8j2),.d (cB o0c9j2),.d (cI o0c10j2),.d (cB o0c11j2)]],[⟨32,12,v10j2.length,none⟩]⟩) (fun s=>f_r15_end_j2 y2 s.1 s.2.1 s.2.2.1 s.2.2.2.1 s.2.2.2.2.1 s.2.2.2.2.2.1 s.2.2.2.2.2.2.1 s.2.2.2.2.2.2.2.1 s.2.2.2.2.2.2.2.2.1 s.2.2.2.2.2.2.2.2.2.1 s.2.2.2.2.2.2.2.2.2.2.1 s.2.2.2.2.2.2.2.2.2.2.2.1 s.2.2.2.2.2.2.2.2.2.2.2.2=some r) ?_ ?_
  ·rintro ⟨v10j2,o0c0j2,o0c1j2,o0c2j2,o0c3j2,o0c4j2,o0c5j2,o0c6j2,o0c7j2,o0c8j2,o0c9j2,o0c10j2,o0c11j2⟩ H
   replace H:f_r15_end_j2 y2 v10j2 o0c0j2 o0c1j2 o0c2j2 o0c3j2 o0c4j2 o0c5j2 o0c6j2 o0c7j2 o0c8j2 o0c9j2 o0c10j2 o0c11j2=some r:=H
   unfold f_r15_end_j2 at H
   refine .A 6 [] rfl trivial ?_
   obtain ⟨n1,H⟩:=loop_some H
   refine .loop (ι:=Nat×(List Record×Int)) (fun ⟨_,v10l1,v13l1⟩=>[(9,.d (slOf 12 Record.row y2.2)),(10,.tsl 12 (v10l1.map Record.row) 0),(13,.d (cI v13l1))]) (fun ⟨_,v10l1,v13l1⟩=>⟨[.row 32 [.d (cI o0c0j2),.d (cI o0c1j2),.d (cI o0c2j2),.d (cS o0c3j2),.d (cS o0c4j2),.d (cI o0c5j2),.d (cI o0c6j2),.d (cI o0c7j2),.d (cI o0c8j2),.d (cB o0c9j2),.d (cI o0c10j2),.d (cB o0c11j2)]],[⟨32,12,v10l1.length,none⟩]⟩) (fun p=>iter (fun s=>f_r15_end_l1 y2 s.1 s.2) p.1 p.2=some r) (·.1) (n1,(v10j2,0)) H (.cons rfl (.rfl' _) (.cons rfl (.rfl' _) (.cons rfl (.rfl' _) (.nil)))) rfl ?_
   rintro ⟨m1,v10l1,v13l1⟩ HI ih1
   obtain ⟨n1,q1,hm1,H,HK1⟩:=iter_succ HI
   clear HI
   replace H:f_r15_end_l1 y2 v10l1 v13l1=some q1:=H
   unfold f_r15_end_l1 at H
   refine .A 8 [.i (y2.2.length:Int)] rfl (s22.n rfl rfl) ?_
   refine .ite H rfl (fun H=>?_) (fun H=>?_)
   ·obtain ⟨hk2,H⟩:=ck_some H
    obtain ⟨y3,hy3,H⟩:=bind_some' H
    obtain ⟨hk3,H⟩:=ck_some H
    obtain ⟨hk4,H⟩:=ck_some H
    refine .A 20 [.d (.ro (Record.row (nth y2.2 v13l1.toNat))),.d (.agg (Record.row y3)),.d (slOf 12 Record.row ([y3]:List Record)),.a 0 32 12 Record.row (v10l1++([y3]:List Record)),.i (v13l1+1)] rfl ⟨g_addI rfl rfl hk4,s22.a rfl rfl rfl rfl hk3,g_buildSlice1 underlying22 hi32 hs32 hz32 rfl rfl rfl rfl rfl,g_call (en 48 rfl) rfl rfl (c_f_r15_alone (hy3)),s22.ix rfl rfl rfl hk2⟩ ?_
    cases H
    exact .z (ih1 (n1,(v10l1++([y3]:List Record),v13l1+1)) HK1 hm1) rfl rfl
   ·refine .A 6 [] rfl trivial ?_
    refine .R func46 results46 rfl ?_
    cases H
    cases HK1
    exact .m rfl (.tsl _ _ _)
  ·intro hj2
   obtain ⟨y4,hy4,H⟩:=bind_some' H
   refine .A 15 [.d (.tup [.agg (Record.row y4.1),cB y4.2]),.r 0] rfl (g_call (en 37 rfl) rfl rfl (c_f_r15_whole (hy4))) ?_
   refine .ite H rfl (fun H=>?_) (fun H=>?_)
   ·obtain ⟨hk5,H⟩:=ck_some H
    refine .A 7 [.d (slOf 12 Record.row ([y4.1]:List Record)),.a 0 32 12 Record.row (([]:List Record)++([y4.1]:List Record))] rfl ⟨s22.a rfl rfl rfl rfl hk5,g_buildSlice1 underlying22 hi32 hs32 hz32 rfl rfl rfl rfl rfl⟩ ?_
    exact .z (hj2 (([]:List Record)++([y4.1]:List Record),y4.1.source,y4.1.serial,y4.1.kind,y4.1.a,y4.1.b,y4.1.start,y4.1.units,y4.1.call,y4.1.part,y4.1.last,y4.1.trunk,y4.1.inbound) H) rfl rfl
   ·refine .A 1 [] rfl trivial ?_
    exact .z (hj2 (([]:List Record),y4.1.source,y4.1.serial,y4.1.kind,y4.1.a,y4.1.b,y4.1.start,y4.1.units,y4.1.call,y4.1.part,y4.1.last,y4.1.trunk,y4.1.inbound) H) rfl rfl
 ·intro hj1
  refine .A 1 [] rfl trivial ?_
  obtain ⟨n2,H⟩:=loop_some H
  refine .loop (ι:=Nat×(List Int)) (fun ⟨_,v3l2⟩=>[(0,.d (slOf 12 Record.row v0)),(3,.d (slOf 1 rI v3l2))]) (fun ⟨_,v3l2⟩=>⟨[],[]⟩) (fun p=>iter (fun s=>f_r15_end_l2 v0 s) p.1 p.2=some r) (·.1) (n2,y1) H (.cons rfl (.rfl' _) (.cons rfl (.rfl' _) (.nil))) rfl ?_
  rintro ⟨m1,v3l2⟩ HI ih1
  obtain ⟨n1,q1,hm1,H,HK1⟩:=iter_succ HI
  clear HI
  replace H:f_r15_end_l2 v0 v3l2=some q1:=H
  unfold f_r15_end_l2 at H
  refine .A 7 [.i (v3l2.length:Int)] rfl (s37.n rfl rfl) ?_
  refine .ite H rfl (fun H=>?_) (fun H=>?_)
  ·obtain ⟨y5,hy5,H⟩:=bind_some' H
   obtain ⟨y6,hy6,H⟩:=bind_some' H
   refine .A 29 [.d (.tup [slOf 12 Record.row y5.1,slOf 12 Record.row y5.2]),.d (.tup [.agg (Record.row y6.1),cB y6.2]),.r 0] rfl ⟨g_call (en 37 rfl) rfl rfl (c_f_r15_whole (hy6)),g_call (en 44 rfl) rfl rfl (c_f_r15_pick (hy5))⟩ ?_
   refine .ite H rfl (fun H=>?_) (fun H=>?_)
   ·refine .A 1 [] rfl trivial ?_
    obtain ⟨q0,H9,hq0⟩:=map_some' H; clear H; cases hq0
    cases HK1
    have H:=H9
    exact .t 0 0 (hj1 v3l2 H) rfl rfl rfl rfl rfl hS rfl
   ·obtain ⟨hk6,H⟩:=ck_some H
    obtain ⟨hk7,H⟩:=ck_some H
    refine .A 10 [.i (v3l2.length:Int),.i ((v3l2.length:Int) - 1),.d (slOf 1 rI (v3l2.take ((v3l2.length:Int) - 1).toNat))] rfl ⟨OpQ.g (q_slHL (l:=v3l2) (row:=rI) underlying37 hi3 hs3 rfl rfl rfl hk7),g_subI rfl rfl hk6,s37.n rfl rfl⟩ ?_
    cases H
    exact .t 0 0 (ih1 (n1,(v3l2.take ((v3l2.length:Int) - 1).toNat)) HK1 hm1) rfl rfl rfl rfl rfl hS rfl
  ·refine .A 1 [] rfl trivial ?_
   obtain ⟨q0,H9,hq0⟩:=map_some' H; clear H; cases hq0
   cases HK1
   have H:=H9
   exact .z (hj1 v3l2 H) rfl rfl
theorem c_f_r15_Expire {v0open:List Record} {v1before:Int} {r:(List Record)×(List Record)} (H:f_r15_Expire v0open v1before=some r):ACall prog 16 [slOf 12 Record.row v0open,cI v1before] (·=.tup [slOf 12 Record.row r.1,slOf 12 Record.row r.2]):=by
 obtain ⟨i32,hi32,hz32,hs32,hb32⟩:=in_32
 refine ACall.enter' func16 rfl ntmps16 rfl fun S hS=>?_
 unfold f_r15_Expire at H
 refine .A 16 [] rfl trivial ?_
 refine .tok (i:=6) (e:=32) (sz:=12) rfl ?_
 refine .tok (i:=7) (e:=32) (sz:=12) rfl ?_
 obtain ⟨n1,H⟩:=loop_some H
 refine .loop (ι:=Nat×(List Record×List Record×Int)) (fun ⟨_,v6outl1,v7leftl1,v8il1⟩=>[(0,.d (slOf 12 Record.row v0open)),(1,.d (cI v1before)),(6,.tsl 12 (v6outl1.map Record.row) 0),(7,.tsl 12 (v7leftl1.map Record.row) 1),(8,.d (cI v8il1))]) (fun ⟨_,v6outl1,v7leftl1,v8il1⟩=>⟨[],[⟨32,12,v6outl1.length,none⟩,⟨32,12,v7leftl1.length,none⟩]⟩) (fun p=>iter (fun s=>f_r15_Expire_l1 v0open v1before s.1 s.2.1 s.2.2) p.1 p.2=some r) (·.1) (n1,(([]:List Record),([]:List Record),0)) H (.cons rfl (.rfl' _) (.cons rfl (.rfl' _) (.cons rfl (.rfl' _) (.cons rfl (.rfl' _) (.cons rfl (.rfl' _) (.nil)))))) rfl ?_
 rintro ⟨m1,v6outl1,v7leftl1,v8il1⟩ HI ih1
 obtain ⟨n1,q1,hm1,H,HK1⟩:=iter_succ HI
 clear HI
 replace H:f_r15_Expire_l1 v0open v1before v6outl1 v7leftl1 v8il1=some q1:=H
 unfold f_r15_Expire_l1 at H
 refine .A 8 [.i (v0open.length:Int)] rfl (s22.n rfl rfl) ?_
 refine .ite H rfl (fun H=>?_) (fun H=>?_)
 ·refine .A 9 [] rfl trivial ?_
  refine .blockJoin2 (ι:=Int×Bool) (fun ⟨v9kj1,v10latej1⟩=>[(0,.d (slOf 12 Record.row v0open)),(1,.d (cI v1before)),(6,.tsl 12 (v6outl1.map Record.row) 0),(7,.tsl 12 (v7leftl1.map Record.row) 1),(8,.d (cI v8il1)),(9,.d (cI v9kj1)),(10,.d (cB v10latej1))]) (fun ⟨v9kj1,v10latej1⟩=>⟨[],[⟨32,12,v6outl1.length,none⟩,⟨32,12,v7leftl1.length,none⟩]⟩) (fun s=>f_r15_Expire_j1 v0open v6outl1 v7leftl1 v8il1 s.1 s.2=some q1) ?_ ?_
  ·rintro ⟨v9kj1,v10latej1⟩ H
   replace H:f_r15_Expire_j1 v0open v6outl1 v7leftl1 v8il1 v9kj1 v10latej1=some q1:=H
   unfold f_r15_Expire_j1 at H
   refine .A 5 [] rfl trivial ?_
   refine .ite H rfl (fun H=>?_) (fun H=>?_)
   ·obtain ⟨hk1,H⟩:=ck_some H
    obtain ⟨hk2,H⟩:=ck_some H
    refine .A 14 [.d (slOf 12 Record.row ((v0open.take v9kj1.toNat).drop v8il1.toNat)),.a 1 32 12 Record.row (v7leftl1++((v0open.take v9kj1.toNat).drop v8il1.toNat))] rfl ⟨s22.a rfl rfl rfl rfl hk2,OpQ.g (q_slLHL (l:=v0open) (row:=Record.row) underlying22 hi32 hs32 rfl rfl rfl rfl hk1)⟩ ?_
    cases H
    exact .z (ih1 (n1,(v6outl1,v7leftl1++((v0open.take v9kj1.toNat).drop v8il1.toNat),v9kj1)) HK1 hm1) rfl rfl
   ·obtain ⟨hk3,H⟩:=ck_some H
    obtain ⟨y1,hy1,H⟩:=bind_some' H
    obtain ⟨hk4,H⟩:=ck_some H
    refine .A 15 [.d (slOf 12 Record.row ((v0open.take v9kj1.toNat).drop v8il1.toNat)),.d (slOf 12 Record.row y1),.a 0 32 12 Record.row (v6outl1++y1)] rfl ⟨s22.a rfl rfl rfl rfl hk4,g_call (en 49 rfl) rfl rfl (c_f_r15_end (hy1)),OpQ.g (q_slLHL (l:=v0open) (row:=Record.row) underlying22 hi32 hs32 rfl rfl rfl rfl hk3)⟩ ?_
    cases H
    exact .z (ih1 (n1,(v6outl1++y1,v7leftl1,v9kj1)) HK1 hm1) rfl rfl
  ·intro hj1 hj1x
   obtain ⟨n2,H⟩:=loop_some H
   refine .loop (ι:=Nat×(Int×Bool)) (fun ⟨_,v9kl2,v10latel2⟩=>[(0,.d (slOf 12 Record.row v0open)),(1,.d (cI v1before)),(6,.tsl 12 (v6outl1.map Record.row) 0),(7,.tsl 12 (v7leftl1.map Record.row) 1),(8,.d (cI v8il1)),(9,.d (cI v9kl2)),(10,.d (cB v10latel2))]) (fun ⟨_,v9kl2,v10latel2⟩=>⟨[],[⟨32,12,v6outl1.length,none⟩,⟨32,12,v7leftl1.length,none⟩]⟩) (fun p=>iter (fun s=>f_r15_Expire_l2 v0open v1before v6outl1 v7leftl1 v8il1 s.1 s.2) p.1 p.2=some q1) (·.1) (n2,(v8il1,false)) H (.cons rfl (.rfl' _) (.cons rfl (.rfl' _) (.cons rfl (.rfl' _) (.cons rfl (.rfl' _) (.cons rfl (.rfl' _) (.cons rfl (.rfl' _) (.cons rfl (.rfl' _) (.nil)))))))) rfl ?_
   rintro ⟨m2,v9kl2,v10latel2⟩ HI ih2
   obtain ⟨n2,q2,hm2,H,HK2⟩:=iter_succ HI
   clear HI
   replace H:f_r15_Expire_l2 v0open v1before v6outl1 v7leftl1 v8il1 v9kl2 v10latel2=some q2:=H
   unfold f_r15_Expire_l2 at H
   obtain ⟨hk5,H⟩:=ck_some H
   obtain ⟨hk6,H⟩:=ck_some H
   obtain ⟨y2,hy2,H⟩:=bind_some' H
   refine .A 20 [.p 15,.i (v0open.length:Int),.d (.ro (Record.row (nth v0open v9kl2.toNat))),.d (.ro (Record.row (nth v0open v8il1.toNat))),.b y2] rfl ⟨rfl,fun hg=>g_call (en 36 rfl) rfl rfl (c_f_r15_call (gcall_some hy2 hg)),rfl,rfl,rfl,fun hg=>s22.ix rfl rfl rfl (hk6 hg),rfl,rfl,rfl,fun hg=>s22.ix rfl rfl rfl (hk5 hg),rfl,rfl,s22.n rfl rfl,(show drawB _ _=true by kernel_rfl)⟩ ?_
   refine .ite H rfl (fun H=>?_) (fun H=>?_)
   ·obtain ⟨hk7,H⟩:=ck_some H
    obtain ⟨hk8,H⟩:=ck_some H
    refine .A 22 [.d (.ro (Record.row (nth v0open v9kl2.toNat))),.i (v9kl2+1)] rfl ⟨g_addI rfl rfl hk8,rfl,rfl,rfl,rfl,rfl,fun hg=>s22.ix rfl rfl rfl (hk7 hg),rfl,rfl⟩ ?_
    cases H
    exact .z (ih2 (n2,(v9kl2+1,(v10latel2 || (decide (((nth v0open v9kl2.toNat).start)≥v1before))))) HK2 hm2) rfl rfl
   ·refine .A 1 [] rfl trivial ?_
    obtain ⟨q0,H9,hq0⟩:=map_some' H; clear H; cases hq0
    cases HK2
    have H:=H9
    exact .z (hj1x (v9kl2,v10latel2) H) rfl rfl
 ·refine .A 8 [] rfl trivial ?_
  refine .R func16 results16 rfl ?_
  cases H
  cases HK1
  exact .m rfl (.tupL ⟨.tsl _ _ _,.tsl _ _ _,trivial⟩)
theorem c_f_r09_Same {v0a:List Record} {v1b:List Record} {r:Bool} (H:f_r09_Same v0a v1b=some r):ACall prog 36 [slOf 12 Record.row v0a,slOf 12 Record.row v1b] (·=cB r):=by
 refine ACall.enter' func36 rfl ntmps36 rfl fun S hS=>?_
 unfold f_r09_Same at H
 refine .A 13 [.i (v0a.length:Int),.i (v1b.length:Int)] rfl ⟨s22.n rfl rfl,s22.n rfl rfl⟩ ?_
 refine .ite H rfl (fun H=>?_) (fun H=>?_)
 ·refine .A 4 [] rfl trivial ?_
  refine .R func36 results36 rfl ?_
  cases H
  exact .m rfl (.rfl' _)
 ·refine .A 7 [] rfl trivial ?_
  obtain ⟨n1,H⟩:=loop_some H
  refine .loop (ι:=Nat×(Int)) (fun ⟨_,v5il1⟩=>[(0,.d (slOf 12 Record.row v0a)),(1,.d (slOf 12 Record.row v1b)),(5,.d (cI v5il1))]) (fun ⟨_,v5il1⟩=>⟨[],[]⟩) (fun p=>iter (fun s=>f_r09_Same_l1 v0a v1b s) p.1 p.2=some r) (·.1) (n1,0) H (.cons rfl (.rfl' _) (.cons rfl (.rfl' _) (.cons rfl (.rfl' _) (.nil)))) rfl ?_
  rintro ⟨m1,v5il1⟩ HI ih1
  obtain ⟨n1,q1,hm1,H,HK1⟩:=iter_succ HI
  clear HI
  replace H:f_r09_Same_l1 v0a v1b v5il1=some q1:=H
  unfold f_r09_Same_l1 at H
  refine .A 8 [.i (v0a.length:Int)] rfl (s22.n rfl rfl) ?_
  refine .ite H rfl (fun H=>?_) (fun H=>?_)
  ·obtain ⟨hk1,H⟩:=ck_some H
   obtain ⟨hk2,H⟩:=ck_some H
   refine .A 16 [.p 9,.d (.ro (Record.row (nth v0a v5il1.toNat))),.d (.ro (Record.row (nth v1b v5il1.toNat))),.b (!(eqVs (Record.vals (nth v0a v5il1.toNat)) (Record.vals (nth v1b v5il1.toNat))))] rfl ⟨OpQ.g (q_stneq fk_32 rfl rfl (xs:=Record.vals (nth v0a v5il1.toNat)) (ys:=Record.vals (nth v1b v5il1.toNat)) rfl rfl rfl rfl),s22.ix rfl rfl rfl hk2,s22.ix rfl rfl rfl hk1,(show drawB _ _=true by kernel_rfl)⟩ ?_
   refine .ite H rfl (fun H=>?_) (fun H=>?_)
   ·refine .A 4 [] rfl trivial ?_
    refine .R func36 results36 rfl ?_
    cases H
    cases HK1
    exact .m rfl (.rfl' _)
   ·obtain ⟨hk3,H⟩:=ck_some H
    refine .A 7 [.i (v5il1+1)] rfl (g_addI rfl rfl hk3) ?_
    cases H
    exact .z (ih1 (n1,(v5il1+1)) HK1 hm1) rfl rfl
  ·refine .A 5 [] rfl trivial ?_
   refine .R func36 results36 rfl ?_
   cases H
   cases HK1
   exact .m rfl (.rfl' _)
theorem c_f_r13_Same {v0a:List Record} {v1b:List Record} {r:Bool} (H:f_r13_Same v0a v1b=some r):ACall prog 13 [slOf 12 Record.row v0a,slOf 12 Record.row v1b] (·=cB r):=by
 refine ACall.enter' func13 rfl ntmps13 rfl fun S hS=>?_
 unfold f_r13_Same at H
 obtain ⟨y1,hy1,H⟩:=bind_some' H
 refine .A 11 [.b y1] rfl (g_call (en 50 rfl) rfl rfl (c_f_r09_Same (hy1))) ?_
 refine .R func13 results13 rfl ?_
 cases H
 exact .m rfl (.rfl' _)
theorem c_f_w15_CorrelateExpires {v0open:List Record} {v1before:Int} {r:Bool} (H:f_w15_CorrelateExpires v0open v1before=some r):ACall prog 4 [slOf 12 Record.row v0open,cI v1before] (·=cB r):=by
 refine ACall.enter' func4 rfl ntmps4 rfl fun S hS=>?_
 unfold f_w15_CorrelateExpires at H
 obtain ⟨y1,hy1,H⟩:=bind_some' H
 refine .A 11 [.b y1] rfl (g_call (en 51 rfl) rfl rfl (c_f_w15_light (hy1))) ?_
 refine .ite H rfl (fun H=>?_) (fun H=>?_)
 ·obtain ⟨y2,hy2,H⟩:=bind_some' H
  refine .A 5 [.b y2] rfl (g_call (en 40 rfl) rfl rfl (c_f_w15_awake (hy2))) ?_
  refine .R func4 results4 rfl ?_
  cases H
  exact .m rfl (.rfl' _)
 ·obtain ⟨y3,hy3,H⟩:=bind_some' H
  obtain ⟨y4,hy4,H⟩:=bind_some' H
  obtain ⟨y5,hy5,H⟩:=bind_some' H
  obtain ⟨y6,hy6,H⟩:=bind_some' H
  obtain ⟨y7,hy7,H⟩:=bind_some' H
  obtain ⟨y8,hy8,H⟩:=bind_some' H
  obtain ⟨y9,hy9,H⟩:=bind_some' H
  refine .A 57 [.d (.tup [slOf 12 Record.row y3.1,slOf 12 Record.row y3.2]),.d (.tup [slOf 12 Record.row y4.1,slOf 12 Record.row y4.2]),.d (.tup [slOf 12 Record.row y5.1,slOf 12 Record.row y5.2]),.b y6,.b y7,.b y8,.i (y5.2.length:Int),.b y9] rfl ⟨rfl,fun hg=>g_call (en 40 rfl) rfl rfl (c_f_w15_awake (gcall_some hy9 hg)),rfl,rfl,fun hg=>s22.n rfl rfl,rfl,rfl,fun hg=>g_call (en 47 rfl) rfl rfl (c_f_r15_Open (gcall_some hy8 hg)),rfl,rfl,fun hg=>g_call (en 52 rfl) rfl rfl (c_f_r13_Same (gcall_some hy7 hg)),rfl,rfl,g_call (en 52 rfl) rfl rfl (c_f_r13_Same (hy6)),g_call (en 31 rfl) rfl rfl (c_f_correlate_Expire (hy5)),g_call (en 53 rfl) rfl rfl (c_f_r15_Expire (hy4)),g_call (en 31 rfl) rfl rfl (c_f_correlate_Expire (hy3))⟩ ?_
  refine .R func4 results4 rfl ?_
  cases H
  exact .m rfl (.rfl' _)
set_option maxRecDepth 100000
set_option maxHeartbeats 1000000
end Go.Proofs.YtajciinoiacpmaaDoor
namespace Go.Proofs.YtajciinoiacpmaaDoor
open Go.RowKit Go.Abs
theorem gcall_mk {α:Type} [Inhabited α] {b:Bool} {x:α}:gcall b (some x)=some (if b=true then x else default):=by
 unfold gcall; split <;> rfl
theorem loop_all {α R:Type} [Inhabited α] {step:Int→Option (Int ⊕ R)} (l:List α) (p:α→Bool) (fin bad:R) (hl:l.length < 18446744073709551616)
  (h1:∀ i:Int,0≤i→i < (l.length:Int)→step i=some (if p (nth l i.toNat)=true then .inl (i+1) else .inr bad)) (h2:∀ i:Int,i=(l.length:Int)→step i=some (.inr fin)):loop step 0=some (if l.all p=true then fin else bad):=by
 have:=loop_spec (step:=step) (fun i:Int=>some (if (l.drop i.toNat).all p=true then fin else bad)) (fun i=>0≤i∧i≤(l.length:Int)) (fun i=>((l.length:Int) - i).toNat) (fun i hI=>by
  by_cases hi:i < (l.length:Int)
  ·have hd:=drop_nth (l:=l) (k:=i.toNat) (by omega)
   rw [h1 i hI.1 hi]
   by_cases hp:p (nth l i.toNat)=true
   ·rw [if_pos hp]
    refine .inr ⟨i+1,rfl,⟨by omega,by omega⟩,by omega,?_⟩
    rw [show (i+1).toNat=i.toNat+1 from by omega,hd]
    simp [hp]
   ·rw [if_neg hp]
    refine .inl ⟨bad,rfl,?_⟩
    rw [hd]
    simp [hp]
  ·have:i=(l.length:Int):=by omega
   refine .inl ⟨fin,h2 i this,?_⟩
   rw [List.drop_of_length_le (by omega)]
   simp) (s:=0) ⟨by omega,by omega⟩ (by omega)
 simpa using this
def isDig (c:UInt8):Bool:=decide (48≤c) && decide (c≤57)
def validB (s:List UInt8):Bool:=s.all isDig && decide (1≤s.length) && decide (s.length≤15)
theorem p_Valid (s:List UInt8) (hl:s.length < 1000000000):f_digits_Valid s=some (validB s):=by
 unfold f_digits_Valid
 rw [loop_all s isDig (decide ((s.length:Int)≥1) && decide ((s.length:Int)≤15)) false (by omega) (fun i h0 h1=>?_) (fun i hi=>?_)]
 ·unfold validB
  cases s.all isDig <;> simp
  rw [Bool.eq_iff_iff]; simp; omega
 ·unfold f_digits_Valid_l1 f_digits_digit
  rw [if_pos (by simpa using h1),ck_pos (by omega)]
  simp only [Option.bind_some]
  rw [ck_pos (by omega)]
  unfold isDig
  simp only [ge_iff_le]
  cases decide (48≤nth s i.toNat) <;> cases decide (nth s i.toNat≤57) <;> rfl
 ·unfold f_digits_Valid_l1 f_digits_Valid_j1
  rw [if_neg (by simp; omega)]
  rfl
theorem p_rValid (s:List UInt8) (hl:s.length < 1000000000):f_r02_Valid s=some (validB s):=by
 unfold f_r02_Valid
 rw [loop_all s isDig (decide ((s.length:Int)≥1) && decide ((s.length:Int)≤15)) false (by omega) (fun i h0 h1=>?_) (fun i hi=>?_)]
 ·unfold validB
  cases s.all isDig <;> simp
  rw [Bool.eq_iff_iff]; simp; omega
 ·unfold f_r02_Valid_l1
  rw [if_pos (by simpa using h1),ck_pos (by omega),ck_pos (by omega),ck_pos (by omega)]
  unfold isDig
  have e1:decide (nth s i.toNat < 48)=!decide (48≤nth s i.toNat):=by rw [←decide_not]; simp
  have e2:decide (nth s i.toNat > 57)=!decide (nth s i.toNat≤57):=by rw [←decide_not]; simp
  rw [e1,e2]
  cases decide (48≤nth s i.toNat) <;> cases decide (nth s i.toNat≤57) <;> rfl
 ·unfold f_r02_Valid_l1 f_r02_Valid_j1
  rw [if_neg (by simp; omega)]
  rfl
def errF (r:Record):Int :=
 if ¬(1≤r.source∧r.source≤99∧1≤r.serial∧r.serial≤999999999) then 6
 else if ¬(1≤r.kind∧r.kind≤4) then 7
 else if validB r.a=false∨(validB r.b=false∧¬((r.kind=3∨r.kind=4)∧r.b=[])) then 12
 else if ¬(0≤r.start∧r.start≤12622780799) then 15
 else if ¬(0≤r.units∧r.units≤1099511627776)∨(r.kind=1∧r.units > 604800) then 6
 else if r.kind=1∧r.start+r.units > 12622780800 then 15
 else if ¬(0≤r.call∧r.call≤999999999∧0≤r.part∧r.part≤99) then 6
 else if ¬(r.part=0↔r.call=0)∨(r.last=true∧r.part=0) then 8
 else if ¬(0≤r.trunk∧r.trunk≤999) then 6
 else if r.inbound=true∧r.trunk=0 then 8
 else 0
theorem ite_same {α:Type} {b:Bool} {p:Prop} [Decidable p] {x y x' y':α} (h:b=true↔p) (hx:p→x=x') (hy:¬p→y=y'):(if b=true then x else y)=if p then x' else y':=by
 by_cases hp:p
 ·rw [if_pos hp,if_pos (h.2 hp),hx hp]
 ·rw [if_neg hp,if_neg (fun hb=>hp (h.1 hb)),hy hp]
theorem ite_some {α:Type} {p:Prop} [Decidable p] {x y:α}:(if p then some x else some y)=some (if p then x else y):=by split <;> rfl
theorem p_check (r:Record) (ha:r.a.length < 1000000000) (hb:r.b.length < 1000000000):f_textual_check r=some (errF r):=by
 have key:∀ m,(m=1099511627776∧r.kind≠1)∨(m=604800∧r.kind=1)→f_textual_check_j1 r m=some (errF r):=by
  intro m hm
  unfold f_textual_check_j1 errF
  simp only [f_textual_within,p_Valid _ ha,p_Valid _ hb,Option.bind_some,gcall_mk]
  simp only [←ite_some]
  refine ite_same (by simp; grind) (fun _=>rfl) (fun h1=>?_)
  refine ite_same (by simp; grind) (fun _=>rfl) (fun h2=>?_)
  refine ite_same (by simp; grind) (fun _=>rfl) (fun h3=>?_)
  refine ite_same (by simp; grind) (fun _=>rfl) (fun h4=>?_)
  refine ite_same (by simp; grind) (fun _=>rfl) (fun h5=>?_)
  rw [ck_pos (by omega)]
  refine ite_same (by simp) (fun _=>rfl) (fun h6=>?_)
  refine ite_same (by simp; grind) (fun _=>rfl) (fun h7=>?_)
  refine ite_same (by simp; grind) (fun _=>rfl) (fun h8=>?_)
  refine ite_same (by simp; grind) (fun _=>rfl) (fun h9=>?_)
  refine ite_same (by simp) (fun _=>rfl) (fun h10=>rfl)
 unfold f_textual_check
 split
 ·rename_i h
  exact key _ (.inr ⟨rfl,by simpa using h⟩)
 ·rename_i h
  exact key _ (.inl ⟨rfl,by simpa using h⟩)
theorem p_rError (r:Record) (ha:r.a.length < 1000000000) (hb:r.b.length < 1000000000):f_r09_Error r=some (errF r):=by
 unfold f_r09_Error errF
 simp only [f_r09_in,p_rValid _ ha,p_rValid _ hb,Option.bind_some,gcall_mk]
 simp only [←ite_some]
 refine ite_same (by simp; grind) (fun _=>rfl) (fun h1=>?_)
 refine ite_same (by simp; grind) (fun _=>rfl) (fun h2=>?_)
 by_cases hva:validB r.a=true
 ·rw [if_neg (by simp [hva])]
  refine ite_same (by simp [hva]; grind) (fun _=>rfl) (fun h3=>?_)
  refine ite_same (by simp; grind) (fun _=>rfl) (fun h4=>?_)
  refine ite_same (by simp; grind) (fun _=>rfl) (fun h5=>?_)
  rw [ck_pos (by omega)]
  refine ite_same (by simp) (fun _=>rfl) (fun h6=>?_)
  refine ite_same (by simp; grind) (fun _=>rfl) (fun h7=>?_)
  refine ite_same (by simp; grind) (fun _=>rfl) (fun h8=>?_)
  refine ite_same (by simp; grind) (fun _=>rfl) (fun h9=>?_)
  refine ite_same (by simp) (fun _=>rfl) (fun h10=>rfl)
 ·rw [if_pos (by simp [hva]),if_pos (by simp [hva])]
structure Good (r:Record):Prop where
 source:1≤r.source∧r.source≤99
 serial:1≤r.serial∧r.serial≤999999999
 kind:1≤r.kind∧r.kind≤4
 a:validB r.a=true
 b:validB r.b=true∨(r.kind=3∨r.kind=4)∧r.b=[]
 start:0≤r.start∧r.start≤12622780799
 units:0≤r.units∧r.units≤1099511627776
 call:0≤r.call∧r.call≤999999999
 part:0≤r.part∧r.part≤99
 trunk:0≤r.trunk∧r.trunk≤999
theorem errF_good {r:Record} (h:errF r=0):Good r:=by
 unfold errF at h
 split at h; · cases h
 split at h; · cases h
 split at h; · cases h
 split at h; · cases h
 split at h; · cases h
 split at h; · cases h
 split at h; · cases h
 split at h; · cases h
 split at h; · cases h
 split at h; · cases h
 rename_i h1 h2 h3 h4 h5 h6 h7 h8 h9 h10
 refine ⟨by omega,by omega,by omega,?_,?_,by omega,by omega,by omega,by omega,by omega⟩
 ·cases hv:validB r.a with
  | true=>rfl
  | false=>exact absurd (.inl hv) h3
 ·cases hv:validB r.b with
  | true=>exact .inl rfl
  | false =>
   right
   by_cases hh:(r.kind=3∨r.kind=4)∧r.b=[]
   ·exact hh
   ·exact absurd (.inr ⟨hv,hh⟩) h3
theorem validB_len {s:List UInt8} (h:validB s=true):s.length≤15:=by
 unfold validB at h
 simp at h
 exact h.2
def headF (r:Record):List (List UInt8):=[(([118,116,100,99]:List UInt8).take r.kind.toNat).drop (r.kind-1).toNat,Go.Lib.itoa r.source,Go.Lib.itoa r.serial,r.a,if r.b=[] then [45] else r.b,Go.Lib.itoa r.start,Go.Lib.itoa r.units]
def partF (r:Record):List (List UInt8):=if r.part=0 then [] else [[112,97,114,116],Go.Lib.itoa r.call,Go.Lib.itoa r.part]++if r.last=true then [[108,97,115,116]] else []
def trunkF (r:Record):List (List UInt8):=if r.trunk=0 then [] else [if r.inbound=true then [105,110] else [111,117,116],Go.Lib.itoa r.trunk]
def wordsF (r:Record):List (List UInt8):=headF r++partF r++trunkF r
def lineF (r:Record):List UInt8:=Go.Lib.join (wordsF r) [32]
theorem join_len (sep:List UInt8) (xs:List (List UInt8)) (m:Nat) (h:∀ x,x∈xs→x.length≤m):(Go.Lib.join xs sep).length≤xs.length*(m+sep.length):=by
 cases xs with
 | nil=>simp [Go.Lib.join]
 | cons x r =>
  rw [Go.Lib.join_cons]
  have h1:∀ (r:List (List UInt8)),(∀ x,x∈r→x.length≤m)→(Go.Lib.joinTail sep r).length≤r.length*(m+sep.length):=by
   intro r
   induction r with
   | nil=>simp [Go.Lib.joinTail]
   | cons y r ih =>
    intro hr
    have:=ih fun z hz=>hr z (List.mem_cons_of_mem _ hz)
    have h2:=hr y List.mem_cons_self
    simp only [Go.Lib.joinTail,List.map_cons,List.flatten_cons,List.length_append,List.length_cons,Nat.add_mul] at *
    omega
  have h3:=h1 r fun z hz=>h z (List.mem_cons_of_mem _ hz)
  have h4:=h x List.mem_cons_self
  simp only [List.length_append,List.length_cons,Nat.add_mul] at *
  omega
theorem itoa_le {n:Int} (h0:0≤n) (h1:n≤9223372036854775807):(Go.Lib.itoa n).length≤21:=Go.Lib.itoa_length_le n (by omega) h1
theorem words_le {r:Record} (g:Good r):(wordsF r).length≤13∧∀ x,x∈wordsF r→x.length≤21:=by
 have ha:=validB_len g.a
 have hb:r.b.length≤15:=by
  rcases g.b with h | h
  ·exact validB_len h
  ·rw [h.2]; simp
 obtain ⟨gs,ge,gk,_,_,gst,gu,gc,gp,gt⟩:=g
 refine ⟨?_,fun x hx=>?_⟩
 ·have h1:(partF r).length≤4:=by unfold partF; split; simp; split <;> simp
  have h2:(trunkF r).length≤2:=by unfold trunkF; split <;> simp
  have h3:(headF r).length=7:=rfl
  simp only [wordsF,List.length_append]; omega
 ·unfold wordsF at hx
  rcases List.mem_append.1 hx with hx | hx
  ·rcases List.mem_append.1 hx with hx | hx
   ·unfold headF at hx
    simp only [List.mem_cons,List.not_mem_nil,or_false] at hx
    rcases hx with rfl | rfl | rfl | rfl | rfl | rfl | rfl
    ·simp; omega
    ·exact itoa_le (by omega) (by omega)
    ·exact itoa_le (by omega) (by omega)
    ·omega
    ·split
     ·simp
     ·omega
    ·exact itoa_le (by omega) (by omega)
    ·exact itoa_le (by omega) (by omega)
   ·unfold partF at hx
    split at hx
    ·cases hx
    ·rcases List.mem_append.1 hx with hx | hx
     ·simp only [List.mem_cons,List.not_mem_nil,or_false] at hx
      rcases hx with rfl | rfl | rfl
      ·simp
      ·exact itoa_le (by omega) (by omega)
      ·exact itoa_le (by omega) (by omega)
     ·split at hx
      ·simp only [List.mem_cons,List.not_mem_nil,or_false] at hx
       subst hx; simp
      ·cases hx
  ·unfold trunkF at hx
   split at hx
   ·cases hx
   ·simp only [List.mem_cons,List.not_mem_nil,or_false] at hx
    rcases hx with rfl | rfl
    ·split <;> simp
    ·exact itoa_le (by omega) (by omega)
theorem p_Itoa {n:Int} (h0:0≤n) (h1:n≤9223372036854775807):x_Itoa n=some (Go.Lib.itoa n):=by
 unfold x_Itoa; rw [ck_pos (by omega)]
theorem p_Encode_ok (r:Record) (h:errF r=0):f_textual_Encode r=some (lineF r,0):=by
 have g:=errF_good h
 have ha:=validB_len g.a
 have hb:r.b.length≤15:=by
  rcases g.b with h | h
  ·exact validB_len h
  ·rw [h.2]; simp
 have hj3:∀ ws,ws=wordsF r→f_textual_Encode_j3 ws=some (lineF r,0):=by
  rintro ws rfl
  unfold f_textual_Encode_j3 x_Join
  obtain ⟨w1,w2⟩:=words_le g
  have:=join_len [32] (wordsF r) 21 w2
  simp only [List.length_cons,List.length_nil] at this
  have h3:(wordsF r).length*22≤13*22:=Nat.mul_le_mul_right _ w1
  rw [ck_pos ⟨by omega,by omega⟩]
  rfl
 have hj2:∀ ws,ws=headF r++partF r→ws.length≤11→f_textual_Encode_j2 r ws=some (lineF r,0):=by
  intro ws hw hl
  unfold f_textual_Encode_j2
  by_cases ht:r.trunk=0
  ·rw [if_neg (by simp [ht])]
   exact hj3 _ (by rw [hw,wordsF,trunkF,if_pos ht]; simp)
  ·rw [if_pos (by simp [ht])]
   unfold f_textual_Encode_j4
   rw [p_Itoa g.trunk.1 (by have:=g.trunk.2; omega)]
   simp only [Option.bind_some]
   split
   ·rename_i hi
    rw [ck_pos (by simp; omega)]
    exact hj3 _ (by rw [hw,wordsF,trunkF,if_neg ht,if_pos hi])
   ·rename_i hi
    rw [ck_pos (by simp; omega)]
    exact hj3 _ (by rw [hw,wordsF,trunkF,if_neg ht,if_neg hi])
 have hj1:∀ b,b=(if r.b=[] then [45] else r.b)→f_textual_Encode_j1 r b=some (lineF r,0):=by
  rintro b rfl
  unfold f_textual_Encode_j1
  have gk:=g.kind
  rw [ck_pos (by omega),ck_pos (by simp; omega),p_Itoa (by have:=g.source; omega) (by have:=g.source; omega),p_Itoa (by have:=g.serial; omega) (by have:=g.serial; omega),p_Itoa g.start.1 (by have:=g.start; omega),p_Itoa g.units.1 (by have:=g.units; omega)]
  simp only [Option.bind_some]
  by_cases hp:r.part=0
  ·rw [if_neg (by simp [hp])]
   exact hj2 _ (by rw [partF,if_pos hp]; simp [headF]) (by simp)
  ·rw [if_pos (by simp [hp]),p_Itoa g.call.1 (by have:=g.call; omega),p_Itoa g.part.1 (by have:=g.part; omega)]
   simp only [Option.bind_some]
   rw [ck_pos (by simp)]
   split
   ·rename_i hl
    rw [ck_pos (by simp)]
    exact hj2 _ (by rw [partF,if_neg hp,if_pos hl]; simp [headF]) (by simp)
   ·rename_i hl
    exact hj2 _ (by rw [partF,if_neg hp,if_neg hl]; simp [headF]) (by simp)
 unfold f_textual_Encode
 rw [p_check r (by omega) (by omega),h]
 simp only [Option.bind_some]
 rw [if_neg (by simp)]
 split
 ·rename_i hb0
  exact hj1 _ (by rw [if_pos (by simpa using hb0)])
 ·rename_i hb0
  exact hj1 _ (by rw [if_neg (by simpa using hb0)])
theorem p_Encode (r:Record) (ha:r.a.length < 1000000000) (hb:r.b.length < 1000000000):f_textual_Encode r=some (if errF r=0 then lineF r else [],errF r):=by
 by_cases h:errF r=0
 ·rw [p_Encode_ok r h,if_pos h,h]
 ·unfold f_textual_Encode
  rw [p_check r ha hb,if_neg h]
  simp only [Option.bind_some]
  rw [if_pos (by simpa using h)]
def callB (a b:Record):Bool:=decide (a.source=b.source) && decide (a.call=b.call)
theorem callB_iff {a b:Record}:callB a b=true↔a.source=b.source∧a.call=b.call:=by simp [callB]
theorem callB_symm {a b:Record} (h:callB a b=true):callB b a=true:=by rw [callB_iff] at *; exact ⟨h.1.symm,h.2.symm⟩
theorem callB_tr {a b c:Record} (h:callB a b=true) (h':callB b c=true):callB a c=true:=by rw [callB_iff] at *; exact ⟨h.1.trans h'.1,h.2.trans h'.2⟩
theorem callB_eq {a x y:Record} (h:callB x y=true):callB a x=callB a y:=by
 rw [callB_iff] at h
 simp [callB,h.1,h.2]
def Lt (a b:Record):Prop:=a.source < b.source∨(a.source=b.source∧(a.call < b.call∨(a.call=b.call∧a.part < b.part)))
instance (a b:Record):Decidable (Lt a b):=by unfold Lt; infer_instance
def Le (a b:Record):Prop:=¬ Lt b a
instance (a b:Record):Decidable (Le a b):=by unfold Le; infer_instance
theorem Le_iff {a b:Record}:Le a b↔a.source < b.source∨(a.source=b.source∧(a.call < b.call∨(a.call=b.call∧a.part≤b.part))):=by
 unfold Le Lt; omega
theorem Le_trans {a b c:Record} (h:Le a b) (h':Le b c):Le a c:=by rw [Le_iff] at *; omega
theorem Le_of_Lt {a b:Record} (h:Lt a b):Le a b:=by rw [Le_iff]; unfold Lt at h; omega
theorem Le_part {a b:Record} (h:Le a b) (hc:callB a b=true):a.part≤b.part:=by rw [Le_iff] at h; rw [callB_iff] at hc; omega
abbrev Srt (l:List Record):Prop:=l.Pairwise Le
def insP:List Record→Record→List Record
 | [],p=>[p]
 | r :: l,p=>if Lt p r then p :: r :: l else r :: insP l p
theorem insP_perm:∀ (l:List Record) (p:Record),(insP l p).Perm (p :: l)
 | [],p=>.refl _
 | r :: l,p=>by
  unfold insP
  split
  ·exact .refl _
  ·exact ((insP_perm l p).cons r).trans (.swap _ _ _)
theorem insP_mem {l:List Record} {p x:Record}:x∈insP l p↔x=p∨x∈l:=by rw [(insP_perm l p).mem_iff,List.mem_cons]
theorem insP_srt:∀ {l:List Record} {p:Record},Srt l→Srt (insP l p)
 | [],p,_=>by simp [insP,Srt]
 | r :: l,p,h=>by
  unfold insP
  have h2:=List.pairwise_cons.1 h
  split
  ·rename_i hp
   refine List.pairwise_cons.2 ⟨fun x hx=>?_,h⟩
   rcases List.mem_cons.1 hx with e | hx
   ·rw [e]; exact Le_of_Lt hp
   ·exact Le_trans (Le_of_Lt hp) (h2.1 x hx)
  ·rename_i hp
   refine List.pairwise_cons.2 ⟨fun x hx=>?_,insP_srt h2.2⟩
   rcases insP_mem.1 hx with e | hx
   ·rw [e]; exact hp
   ·exact h2.1 x hx
def chn (last:Bool) (x:Record):Int→List Record→List Record×List Record
 | _,[]=>([],[])
 | n,r :: l=>if callB r x=true∧r.part=n then (if last=true∧r.last=true then ([r],l) else (r :: (chn last x (n+1) l).1,(chn last x (n+1) l).2)) else ((chn last x n l).1,r :: (chn last x n l).2)
theorem chn_perm (last:Bool) (x:Record):∀ (n:Int) (l:List Record),((chn last x n l).1++(chn last x n l).2).Perm l
 | _,[]=>.refl _
 | n,r :: l=>by
  unfold chn
  split
  ·split
   ·exact .refl _
   ·exact (chn_perm last x (n+1) l).cons r
  ·exact (List.perm_middle).trans ((chn_perm last x n l).cons r)
theorem chn_filter_l (last:Bool) (x:Record) (q:Record→Bool) (hq:∀ r,callB r x=true→q r=true):∀ (n:Int) (l:List Record),(chn last x n (l.filter q)).1=(chn last x n l).1
 | _,[]=>rfl
 | n,r :: l=>by
  by_cases h:q r=true
  ·rw [List.filter_cons_of_pos h]
   unfold chn
   simp only [chn_filter_l last x q hq (n+1) l,chn_filter_l last x q hq n l]
   split
   ·split <;> rfl
   ·rfl
  ·rw [List.filter_cons_of_neg h,chn_filter_l last x q hq n l]
   conv=>rhs; unfold chn
   rw [if_neg (fun hc=>h (hq r hc.1))]
theorem chn_eqx (last:Bool) {x y:Record} (h:callB x y=true):∀ (n:Int) (l:List Record),chn last x n l=chn last y n l
 | _,[]=>rfl
 | n,r :: l=>by
  unfold chn
  rw [callB_eq (a:=r) h,chn_eqx last h (n+1) l,chn_eqx last h n l]
theorem chn_none (last:Bool) {x:Record}:∀ {n:Int} {l:List Record},(∀ r,r∈l→¬(callB r x=true∧r.part=n))→chn last x n l=([],l)
 | _,[],_=>rfl
 | n,r :: l,h=>by
  unfold chn
  rw [if_neg (h r (List.mem_cons_self ..)),chn_none last (fun y hy=>h y (List.mem_cons_of_mem _ hy))]
def sumU:List Record→Int
 | []=>0
 | r :: l=>r.units+sumU l
def whR (q:Record) (u:Int):Record:=⟨q.source,q.serial,q.kind,q.a,q.b,q.start,u,0,0,false,q.trunk,q.inbound⟩
def aloneF (q:Record):Record:=whR q q.units
def Comm (p q:Record):Prop:=p.source=q.source∧p.call=q.call∧p.kind=q.kind∧p.a=q.a∧p.b=q.b∧p.trunk=q.trunk∧p.inbound=q.inbound
instance (a b:Record):Decidable (Comm a b):=by unfold Comm; infer_instance
def wholeF:List Record→Option Record
 | []=>none
 | q :: l=>if ((q :: l).all fun p=>decide (p.part≠0∧errF p=0∧Comm p q))=true∧errF (whR q (sumU (q :: l)))=0 then some (whR q (sumU (q :: l))) else none
def numB:Int→List Record→Bool
 | _,[]=>true
 | n,r :: l=>decide (r.part=n) && decide (r.last=l.isEmpty) && numB (n+1) l
def complF (l:List Record):Option Record:=if numB 1 l=true then wholeF l else none
theorem complF_nil:complF []=none:=rfl
structure Opn (l:List Record):Prop where
 srt:Srt l
 ok:∀ r,r∈l→errF r=0∧r.part≠0
 nc:∀ x,complF (chn true x 1 l).1=none
theorem chn_len {last:Bool} {x:Record} {n:Int} {l:List Record}:(chn last x n l).1.length+(chn last x n l).2.length=l.length:=by
 have:=(chn_perm last x n l).length_eq
 rwa [List.length_append] at this
theorem compl_pos {l:List Record} {w:Record} (h:complF l=some w):l≠[]:=by intro e; rw [e,complF_nil] at h; cases h
abbrev Dist (l:List Record):Prop:=l.Pairwise fun a b=>¬(callB a b=true∧a.part=b.part)
def fnd (T:List Record) (x:Record) (n:Int):Option Record:=T.find? (fun r=>callB r x && decide (r.part=n))
def chS (T:List Record) (x:Record):Nat→Int→List Record
 | 0,_=>[]
 | m+1,n=>match fnd T x n with
  | none=>[]
  | some r=>r :: if r.last=true then [] else chS T x m (n+1)
abbrev chT (T:List Record) (x:Record):List Record:=chS T x 99 1
def Red (T:List Record) (w:Record) (U:List Record):Prop:=Dist T∧∃ x,complF (chT T x)=some w∧T.Perm (chT T x++U)
theorem Red.len {T:List Record} {w:Record} {U:List Record} (h:Red T w U):U.length < T.length:=by
 obtain ⟨h1,x,h2,h3⟩:=h
 have:=h3.length_eq
 have h4:0 < (chT T x).length:=List.length_pos_iff.2 (compl_pos h2)
 rw [List.length_append] at this
 omega
inductive Reds:List Record→List Record→List Record→Prop where
 | nil {T U:List Record}:T.Perm U→Reds T [] U
 | cons {T U V:List Record} {w:Record} {o:List Record}:Red T w U→Reds U o V→Reds T (w :: o) V
def NF (T:List Record):Prop:=∀ w U,¬ Red T w U
theorem Reds.ex:∀ (n:Nat) (T:List Record),T.length≤n→∃ o U,Reds T o U∧NF U
 | n,T,hn=>by
  by_cases h:NF T
  ·exact ⟨[],T,.nil (.refl _),h⟩
  ·simp only [NF,Classical.not_forall,Classical.not_not] at h
   obtain ⟨w,U,h⟩:=h
   have hl:=h.len
   match n,hn with
   | 0,hn=>omega
   | n+1,hn =>
    obtain ⟨o,V,h1,h2⟩:=Reds.ex n U (by omega)
    exact ⟨w :: o,V,.cons h h1,h2⟩
def pickA:Int→List Int→List Record→List Record×List Record
 | _,_,[]=>([],[])
 | _,[],r :: l=>([],r :: l)
 | i,a :: at',r :: l=>if a=i then (r :: (pickA (i+1) at' l).1,(pickA (i+1) at' l).2) else ((pickA (i+1) (a :: at') l).1,r :: (pickA (i+1) (a :: at') l).2)
def posF (last:Bool) (x:Record):Int→Int→List Record→List Int
 | _,_,[]=>[]
 | n,i,r :: l=>if callB r x=true∧r.part=n then (if last=true∧r.last=true then [i] else i :: posF last x (n+1) (i+1) l) else posF last x n (i+1) l
theorem pickA_nil (i:Int) (l:List Record):pickA i [] l=([],l):=by cases l <;> rfl
theorem posF_ge (last:Bool) (x:Record):∀ (n i:Int) (l:List Record),∀ a,a∈posF last x n i l→i≤a∧a < i+l.length
 | _,_,[]=>by simp [posF]
 | n,i,r :: l=>by
  intro a h
  unfold posF at h
  simp only [List.length_cons]
  split at h
  ·split at h
   ·simp at h; omega
   ·rcases List.mem_cons.1 h with e | h
    ·omega
    ·have:=posF_ge last x (n+1) (i+1) l a h; omega
  ·have:=posF_ge last x n (i+1) l a h; omega
theorem posF_asc (last:Bool) (x:Record):∀ (n i:Int) (l:List Record),(posF last x n i l).Pairwise (· < ·)
 | _,_,[]=>.nil
 | n,i,r :: l=>by
  unfold posF
  split
  ·split
   ·simp
   ·refine List.pairwise_cons.2 ⟨fun a ha=>?_,posF_asc last x (n+1) (i+1) l⟩
    have:=posF_ge last x (n+1) (i+1) l a ha; omega
  ·exact posF_asc last x n (i+1) l
theorem pickA_skip {i:Int} {at':List Int} {r:Record} {l:List Record} (h:∀ a,a∈at'→i+1≤a):pickA i at' (r :: l)=((pickA (i+1) at' l).1,r :: (pickA (i+1) at' l).2):=by
 cases at' with
 | nil=>rw [pickA_nil,pickA_nil]
 | cons a at' =>
  conv=>lhs; unfold pickA
  rw [if_neg (by have:=h a (List.mem_cons_self ..); omega)]
theorem pickA_posF (last:Bool) (x:Record):∀ (n i:Int) (l:List Record),pickA i (posF last x n i l) l=chn last x n l
 | _,_,[]=>by simp [posF,pickA,chn]
 | n,i,r :: l=>by
  unfold posF chn
  split
  ·split
   ·unfold pickA
    rw [if_pos rfl,pickA_nil]
   ·unfold pickA
    rw [if_pos rfl,pickA_posF last x (n+1) (i+1) l]
  ·rw [pickA_skip (fun a ha=>(posF_ge _ _ _ _ _ a ha).1),pickA_posF last x n (i+1) l]
theorem pickA_perm:∀ (i:Int) (at':List Int) (l:List Record),((pickA i at' l).1++(pickA i at' l).2).Perm l
 | _,_,[]=>by simp [pickA]
 | _,[],r :: l=>.refl _
 | i,a :: at',r :: l=>by
  unfold pickA
  split
  ·exact (pickA_perm (i+1) at' l).cons r
  ·exact (List.perm_middle).trans ((pickA_perm (i+1) (a :: at') l).cons r)
def shrF (l:List Record) (at':List Int):Nat→List Int
 | 0=>[]
 | m+1=>if (wholeF (pickA 0 (at'.take (m+1)) l).1).isSome=true then at'.take (m+1) else shrF l at' m
def endF:List Record→List Record
 | []=>[]
 | x :: l=>(wholeF (pickA 0 (shrF (x :: l) (posF false x 1 0 (x :: l)) (posF false x 1 0 (x :: l)).length) (x :: l)).1).toList++(pickA 0 (shrF (x :: l) (posF false x 1 0 (x :: l)) (posF false x 1 0 (x :: l)).length) (x :: l)).2.map aloneF
def runF (x:Record) (l:List Record):List Record:=l.takeWhile (fun r=>callB r x)
def restF (x:Record) (l:List Record):List Record:=l.dropWhile (fun r=>callB r x)
def expF (b:Int):Nat→List Record→List Record×List Record
 | 0,_=>([],[])
 | _+1,[]=>([],[])
 | m+1,x :: l=>if (runF x (x :: l)).any (fun r=>decide (b≤r.start))=true then ((expF b m (restF x (x :: l))).1,runF x (x :: l)++(expF b m (restF x (x :: l))).2)
  else (endF (runF x (x :: l))++(expF b m (restF x (x :: l))).1,(expF b m (restF x (x :: l))).2)
theorem callB_refl (x:Record):callB x x=true:=by simp [callB]
theorem run_rest (x:Record) (l:List Record):runF x l++restF x l=l:=List.takeWhile_append_dropWhile
theorem run_call {x:Record} {l:List Record}:∀ r,r∈runF x l→callB r x=true:=fun r h=>by
 have:=List.all_takeWhile (p:=fun r=>callB r x) (l:=l)
 rw [List.all_eq_true] at this
 exact this r h
theorem rest_len (x:Record) (l:List Record):(restF x (x :: l)).length≤l.length:=by
 unfold restF
 rw [List.dropWhile_cons_of_pos (p:=fun r=>callB r x) (callB_refl x)]
 exact List.Sublist.length_le (List.dropWhile_sublist _)
theorem rest_call {x:Record} {l:List Record} (h:Srt (x :: l)):∀ r,r∈restF x (x :: l)→callB r x=false:=by
 intro r hr
 unfold restF at hr
 rw [List.dropWhile_cons_of_pos (p:=fun r=>callB r x) (callB_refl x)] at hr
 have h2:=List.pairwise_cons.1 h
 have hs:(l.dropWhile (fun r=>callB r x)).Sublist l:=List.dropWhile_sublist _
 have h3:=h2.2.sublist hs
 cases hd:l.dropWhile (fun r=>callB r x) with
 | nil=>rw [hd] at hr; cases hr
 | cons y t =>
  have hy:callB y x=false:=by
   have:=List.head?_dropWhile_not (fun r=>callB r x) l
   rw [hd] at this
   simpa using this
  rw [hd] at hr h3
  rcases List.mem_cons.1 hr with e | hr
  ·rw [e]; exact hy
  ·have k1:=h2.1 y (hs.subset (by rw [hd]; exact List.mem_cons_self ..))
   have k2:=(List.pairwise_cons.1 h3).1 r hr
   cases hc:callB r x with
   | false=>rfl
   | true =>
    exfalso
    rw [Le_iff] at k1 k2
    rw [callB_iff] at hc
    have:¬ callB y x=true:=by rw [hy]; simp
    rw [callB_iff] at this
    omega
theorem expF_sub (b:Int):∀ (m:Nat) (l:List Record),(expF b m l).2.Sublist l
 | 0,l=>List.nil_sublist _
 | m+1,[]=>List.nil_sublist _
 | m+1,x :: l=>by
  unfold expF
  have ih:=expF_sub b m (restF x (x :: l))
  split
  ·have:=(List.Sublist.refl (runF x (x :: l))).append ih
   rwa [run_rest] at this
  ·have:=(List.nil_sublist (runF x (x :: l))).append ih
   rwa [run_rest] at this
theorem expF_filter (b:Int) (q:Record):∀ (m:Nat) (l:List Record),Srt l→l.length≤m→(expF b m l).2.filter (fun r=>callB r q)=l.filter (fun r=>callB r q)∨(expF b m l).2.filter (fun r=>callB r q)=[]
 | 0,[],_,_=>.inl rfl
 | m+1,[],_,_=>.inl rfl
 | m+1,x :: l,hs,hm=>by
  have hl:=rest_len x l
  have hsr:Srt (restF x (x :: l)):=hs.sublist (List.dropWhile_sublist _)
  have ih:=expF_filter b q m (restF x (x :: l)) hsr (by simp only [List.length_cons] at hm; omega)
  have hrun:=run_call (x:=x) (l:=x :: l)
  have hrest:=rest_call hs
  have hdec:(x :: l).filter (fun r=>callB r q)=(runF x (x :: l)).filter (fun r=>callB r q)++(restF x (x :: l)).filter (fun r=>callB r q):=by rw [←List.filter_append,run_rest]
  rw [hdec]
  by_cases hc:callB x q=true
  ·have hz:(restF x (x :: l)).filter (fun r=>callB r q)=[]:=by
    refine List.filter_eq_nil_iff.2 (fun r hr hq=>?_)
    have:=hrest r hr
    rw [callB_eq hc,hq] at this
    cases this
   have he:(expF b m (restF x (x :: l))).2.filter (fun r=>callB r q)=[]:=by
    rw [hz] at ih
    rcases ih with h | h <;> exact h
   unfold expF
   split
   ·left; rw [List.filter_append,he,hz]
   ·right; exact he
  ·have hz:(runF x (x :: l)).filter (fun r=>callB r q)=[]:=List.filter_eq_nil_iff.2 (fun r hr hq=>hc (callB_tr (callB_symm (hrun r hr)) hq))
   rw [hz,List.nil_append]
   unfold expF
   split
   ·rw [List.filter_append,hz,List.nil_append]; exact ih
   ·exact ih
theorem expF_opn {l:List Record} (h:Opn l) (b:Int) {m:Nat} (hm:l.length≤m):Opn (expF b m l).2:=by
 refine ⟨h.srt.sublist (expF_sub b m l),fun r hr=>h.ok r ((expF_sub b m l).subset hr),fun x=>?_⟩
 rw [←chn_filter_l true x (fun y=>callB y x) (fun _ h=>h)]
 rcases expF_filter b x m l h.srt hm with e | e
 ·rw [e,chn_filter_l true x _ (fun _ h=>h)]; exact h.nc x
 ·rw [e]; rfl
theorem expF_none {b:Int}:∀ (m:Nat) (l:List Record),(∀ r,r∈l→r.start < b)→(expF b m l).2=[]
 | 0,l,_=>rfl
 | m+1,[],_=>rfl
 | m+1,x :: l,h=>by
  unfold expF
  have e:(runF x (x :: l)).any (fun r=>decide (b≤r.start))=false:=by
   rw [List.any_eq_false]
   intro r hr
   have:r∈x :: l:=(List.takeWhile_sublist _).subset hr
   have:=h r this
   simp; omega
  rw [e]
  exact expF_none m _ (fun r hr=>h r ((List.dropWhile_sublist _).subset hr))
theorem loop_rec {S R α:Type} [Inhabited α] {step:S→Option (S ⊕ R)} (l:List α) (idx:S→Int) (F:S→List α→Option R) (I:S→List α→Prop) (hl:l.length < 1000000000)
  (h0:∀ s,I s []→idx s=(l.length:Int)→∃ r,step s=some (.inr r)∧F s []=some r)
  (h1:∀ s a t,I s (a :: t)→0≤idx s→idx s < (l.length:Int)→nth l (idx s).toNat=a→idx s+1+(t.length:Int)=(l.length:Int) →
   (∃ r,step s=some (.inr r)∧F s (a :: t)=some r)∨∃ s',step s=some (.inl s')∧I s' t∧idx s'=idx s+1∧F s' t=F s (a :: t))
  {s:S} (hi:0≤idx s∧idx s≤(l.length:Int)) (hI:I s (l.drop (idx s).toNat)):loop step s=F s (l.drop (idx s).toNat):=by
 refine loop_spec (step:=step) (fun s=>F s (l.drop (idx s).toNat)) (fun s=>(0≤idx s∧idx s≤(l.length:Int))∧I s (l.drop (idx s).toNat)) (fun s=>((l.length:Int) - idx s).toNat) (fun s hs=>?_) ⟨hi,hI⟩ (by omega)
 obtain ⟨⟨b0,b1⟩,hs⟩:=hs
 by_cases hlt:idx s < (l.length:Int)
 ·have hd:=drop_nth (l:=l) (k:=(idx s).toNat) (by omega)
  rw [hd] at hs ⊢
  rcases h1 s _ _ hs b0 hlt rfl (by rw [List.length_drop]; omega) with ⟨r,e1,e2⟩ | ⟨s',e1,e2,e3,e4⟩
  ·exact .inl ⟨r,e1,e2⟩
  ·refine .inr ⟨s',e1,⟨by omega,?_⟩,by omega,?_⟩
   ·rw [e3,show (idx s+1).toNat=(idx s).toNat+1 from by omega]; exact e2
   ·rw [e3,show (idx s+1).toNat=(idx s).toNat+1 from by omega]; exact e4
 ·have he:idx s=(l.length:Int):=by omega
  rw [List.drop_of_length_le (by omega)] at hs ⊢
  exact .inl (h0 s hs he)
theorem loop_rec0 {S R α:Type} [Inhabited α] {step:S→Option (S ⊕ R)} (l:List α) (idx:S→Int) (F:S→List α→Option R) (I:S→List α→Prop) (hl:l.length < 1000000000)
  (h0:∀ s,I s []→idx s=(l.length:Int)→∃ r,step s=some (.inr r)∧F s []=some r)
  (h1:∀ s a t,I s (a :: t)→0≤idx s→idx s < (l.length:Int)→nth l (idx s).toNat=a→idx s+1+(t.length:Int)=(l.length:Int) →
   (∃ r,step s=some (.inr r)∧F s (a :: t)=some r)∨∃ s',step s=some (.inl s')∧I s' t∧idx s'=idx s+1∧F s' t=F s (a :: t))
  {s:S} (hi:idx s=0) (hI:I s l):loop step s=F s l:=by
 have:=loop_rec l idx F I hl h0 h1 (s:=s) ⟨by omega,by omega⟩ (by rw [hi]; exact hI)
 rw [hi] at this
 exact this
def Sm (r:Record):Prop:=r.a.length≤200∧r.b.length≤200
instance (r:Record):Decidable (Sm r):=by unfold Sm; infer_instance
theorem p_Check (r:Record) (h:Sm r):f_validate_Check r=some (errF r):=by
 unfold f_validate_Check
 unfold Sm at h
 rw [p_Encode r (by omega) (by omega)]; rfl
theorem p_rCheck (r:Record) (h:Sm r):f_r13_Check r=some (errF r):=by
 unfold f_r13_Check
 unfold Sm at h
 rw [p_rError r (by omega) (by omega)]; rfl
theorem good_sm {r:Record} (h:errF r=0):Sm r:=by
 have g:=errF_good h
 have ha:=validB_len g.a
 unfold Sm
 rcases g.b with h | h
 ·have:=validB_len h; omega
 ·rw [h.2]; simp; omega
theorem Record.eq_refl (r:Record):eqVs r.vals r.vals=true:=by simp [Record.vals,eqVs,eqV]
theorem sm_wh {q:Record} (h:Sm q) (u:Int):Sm (whR q u):=h
def noR:Record×Bool:=((⟨0,0,0,([]:List UInt8),([]:List UInt8),0,0,0,0,false,0,false⟩:Record),false)
def optR:Option Record→Record×Bool
 | none=>noR
 | some w=>(w,true)
def okP (q p:Record):Prop:=p.part≠0∧errF p=0∧Comm p q
instance (q p:Record):Decidable (okP q p):=by unfold okP; infer_instance
theorem whole_fewer {q:Record} {u v:Int} (h:errF (whR q v)=0) (h0:0≤u) (h1:u≤v):errF (whR q u)=0:=by
 have g:=errF_good h
 unfold errF whR at h ⊢
 simp only at h ⊢
 split at h; · cases h
 split at h; · cases h
 split at h; · cases h
 split at h; · cases h
 split at h; · cases h
 split at h; · cases h
 rename_i q1 q2 q3 q4 q5 q6
 rw [if_neg q1,if_neg q2,if_neg q3,if_neg q4,if_neg (by omega),if_neg (by omega)]
 exact h
theorem sumU_pos {q:Record}:∀ {t:List Record},(∀ p,p∈t→okP q p)→0≤sumU t
 | [],_=>by simp [sumU]
 | r :: t,h=>by
  have:=sumU_pos (fun p hp=>h p (List.mem_cons_of_mem _ hp))
  have:=(errF_good (h r (List.mem_cons_self ..)).2.1).units
  simp only [sumU]; omega
def whW (q:Record) (u:Int) (t:List Record):Option Record:=if (t.all fun p=>decide (okP q p))=true∧errF (whR q (u+sumU t))=0 then some (whR q (u+sumU t)) else none
theorem wholeF_whW (q:Record) (l:List Record):wholeF (q :: l)=whW q 0 (q :: l):=by
 unfold wholeF whW
 rw [Int.zero_add]
 rfl
theorem whW_cons {q:Record} {u:Int} {r:Record} {t:List Record} (h:okP q r):whW q u (r :: t)=whW q (u+r.units) t:=by
 unfold whW
 have e:u+sumU (r :: t)=u+r.units+sumU t:=by simp only [sumU]; omega
 rw [e,List.all_cons,decide_eq_true h,Bool.true_and]
theorem whW_bad {q:Record} {u:Int} {r:Record} {t:List Record} (h:¬ okP q r):whW q u (r :: t)=none:=by
 unfold whW
 rw [List.all_cons,decide_eq_false h,Bool.false_and,if_neg (by simp)]
theorem whW_over {q:Record} {u:Int} {t:List Record} (h0:0≤u) (h:errF (whR q u)≠0):whW q u t=none:=by
 unfold whW
 rw [if_neg]
 rintro ⟨h1,h2⟩
 have hp:=sumU_pos (q:=q) (t:=t) (fun p hp=>by have:=List.all_eq_true.1 h1 p hp; simpa using this)
 exact h (whole_fewer h2 h0 (by omega))
theorem comm_vals (p q:Record):eqVs (CorrelateCommon.vals (⟨⟨p.source,p.call⟩,p.kind,p.a,p.b,p.trunk,p.inbound⟩:CorrelateCommon)) (CorrelateCommon.vals (⟨⟨q.source,q.call⟩,q.kind,q.a,q.b,q.trunk,q.inbound⟩:CorrelateCommon))=decide (Comm p q):=by
 rw [Bool.eq_iff_iff,decide_eq_true_iff]
 simp [CorrelateCommon.vals,eqVs,eqV,Comm]
theorem p_whole (l:List Record) (hs:∀ r,r∈l→Sm r) (hl:l.length≤1000):f_correlate_whole l=some (optR (wholeF l)):=by
 cases l with
 | nil=>rfl
 | cons q l =>
  rw [wholeF_whW]
  unfold f_correlate_whole
  have hq:=hs q (List.mem_cons_self ..)
  have e0:nth (q :: l) (Int.toNat 0)=q:=rfl
  rw [if_neg (by simp; omega),ck_pos (by simp),e0]
  simp only [f_correlate_alone,Option.bind_some]
  refine loop_rec0 (q :: l) (fun s:Int×Int=>s.1) (fun s t=>some (optR (whW q s.2 t))) (fun s t=>0≤s.2∧s.2≤1099511627776∧∀ r,r∈t→Sm r) (by omega) ?_ ?_ rfl ⟨by decide,by decide,hs⟩
  ·rintro ⟨i,u⟩ ⟨h0,h1,h2⟩ hi
   simp only at h0 h1 hi ⊢
   unfold f_correlate_whole_l1 f_correlate_whole_j1
   rw [if_neg (by simp only [decide_eq_true_eq]; omega)]
   change ∃ r,Option.map _ ((f_validate_Check (whR q u)).bind _)=_∧_
   rw [p_Check _ (sm_wh hq u)]
   simp only [Option.bind_some,whW,List.all_nil,sumU,true_and,Int.add_zero]
   by_cases he:errF (whR q u)=0
   ·rw [if_neg (by simp [he]),if_pos he]
    exact ⟨_,rfl,rfl⟩
   ·rw [if_pos (by simpa using he),if_neg he]
    exact ⟨_,rfl,rfl⟩
  ·rintro ⟨i,u⟩ r t ⟨h0,h1,h2⟩ hi0 hi1 hn hlen
   simp only at h0 h1 hi0 hi1 hn hlen ⊢
   unfold f_correlate_whole_l1
   have hr:=h2 r (List.mem_cons_self ..)
   rw [if_pos (by simpa using hi1),ck_pos ⟨hi0,hi1⟩,hn,p_Check r hr,e0]
   simp only [f_correlate_commonOf,f_correlate_callOf,gcall_mk,Option.bind_some]
   by_cases hk:r.part≠0∧errF r=0
   ·have b1:(r.part==0)=false:=by simpa using hk.1
    have b2:(errF r != 0)=false:=by simp [hk.2]
    simp only [b1,b2,Bool.not_false,Bool.or_false,if_true,Bool.false_or]
    rw [ck_pos (by simp),comm_vals]
    by_cases hc:Comm r q
    ·rw [ck_pos (by omega)]
     have gu:=(errF_good hk.2).units
     have hok:okP q r:=⟨hk.1,hk.2,hc⟩
     by_cases hu:r.units > 1099511627776-u
     ·rw [if_pos (by simp [hc]; omega)]
      refine .inl ⟨_,rfl,?_⟩
      rw [whW_cons hok,whW_over (by omega)]
      ·rfl
      ·intro he
       have:=(errF_good he).units
       simp only [whR] at this
       omega
     ·rw [if_neg (by simp [hc]; omega),ck_pos (by omega),ck_pos (by omega)]
      refine .inr ⟨_,rfl,⟨by simp only; omega,by simp only; omega,fun p hp=>h2 p (List.mem_cons_of_mem _ hp)⟩,rfl,?_⟩
      rw [whW_cons hok]
    ·rw [ck_pos (by simp [hc]),if_pos (by simp [hc])]
     refine .inl ⟨_,rfl,?_⟩
     rw [whW_bad (fun h=>hc h.2.2)]
     rfl
   ·have hb:((r.part==0) || ((if (!(r.part==0))=true then errF r else default) != 0))=true:=by
     by_cases hp:r.part=0
     ·simp [hp]
     ·simp [hp]
      intro he; exact hk ⟨hp,he⟩
    simp only [hb,Bool.not_true,Bool.true_or,Bool.false_eq_true,if_false]
    rw [ck_pos (by simp),ck_pos (by simp),if_pos trivial]
    refine .inl ⟨_,rfl,?_⟩
    rw [whW_bad (fun h=>hk ⟨h.1,h.2.1⟩)]
    rfl
theorem p_rwhole (l:List Record) (hs:∀ r,r∈l→Sm r) (hl:l.length≤1000):f_r15_whole l=some (optR (wholeF l)):=by
 cases l with
 | nil =>
  unfold f_r15_whole
  refine loop_rec0 ([]:List Record) (fun s:Int×Int×Int×Int×List UInt8×List UInt8×Int×Int×Int×Bool=>s.1) (fun s t=>some (optR (wholeF []))) (fun s t=>s=(0,0,0,0,([]:List UInt8),([]:List UInt8),0,0,0,false)∧t=[]) (by simp) ?_ ?_ rfl ⟨rfl,rfl⟩
  ·rintro s ⟨h,_⟩ hi
   rw [h]
   exact ⟨_,rfl,rfl⟩
  ·rintro s a t ⟨_,h⟩
   cases h
 | cons q l =>
  rw [wholeF_whW]
  unfold f_r15_whole
  have hq:=hs q (List.mem_cons_self ..)
  have e0:nth (q :: l) (Int.toNat 0)=q:=rfl
  have hpos:(0:Int) < ((q :: l).length:Int):=by simp only [List.length_cons]; omega
  refine loop_rec0 (q :: l) (fun s:Int×Int×Int×Int×List UInt8×List UInt8×Int×Int×Int×Bool=>s.1) (fun s t=>some (optR (whW q s.2.2.2.2.2.2.2.1 t)))
   (fun s t=>(0≤s.2.2.2.2.2.2.2.1∧s.2.2.2.2.2.2.2.1≤1099511627776)∧(∀ r,r∈t→Sm r)∧(s.1=0∨(errF (whR q s.2.2.2.2.2.2.2.1)=0∧s=(s.1,q.source,q.serial,q.kind,q.a,q.b,q.start,s.2.2.2.2.2.2.2.1,q.trunk,q.inbound)))) (by omega) ?_ ?_ rfl ⟨by decide,hs,.inl rfl⟩
  ·rintro ⟨i,c0,c1,c2,c3,c4,c5,u,c10,c11⟩ ⟨h0,h1,h2⟩ hi
   simp only at h0 h1 h2 hi ⊢
   rcases h2 with h2 | ⟨h2,h3⟩
   ·omega
   ·injection h3 with _ h3
    injection h3 with e0 h3
    injection h3 with e1 h3
    injection h3 with e2 h3
    injection h3 with e3 h3
    injection h3 with e4 h3
    injection h3 with e5 h3
    injection h3 with _ h3
    injection h3 with e10 e11
    subst e0 e1 e2 e3 e4 e5 e10 e11
    unfold f_r15_whole_l1 f_r15_whole_j1
    rw [if_neg (by simp only [decide_eq_true_eq]; omega),decide_eq_true hpos]
    refine ⟨_,rfl,?_⟩
    simp only [whW,List.all_nil,sumU,true_and,Int.add_zero]
    rw [if_pos h2]
    rfl
  ·rintro ⟨i,c0,c1,c2,c3,c4,c5,u,c10,c11⟩ r t ⟨h0,h1,h2⟩ hi0 hi1 hn hlen
   simp only at h0 h1 h2 hi0 hi1 hn hlen ⊢
   clear h2
   unfold f_r15_whole_l1
   have hr:=h1 r (List.mem_cons_self ..)
   rw [if_pos (by simpa using hi1),ck_pos ⟨hi0,hi1⟩,hn,p_rCheck r hr,e0]
   simp only [f_r15_call,gcall_mk,Option.bind_some]
   by_cases hk:r.part≠0∧errF r=0
   ·have b1:(r.part==0)=false:=by simpa using hk.1
    have gu:=(errF_good hk.2).units
    rw [if_neg (by simp [b1,hk.2]),ck_pos (by omega),ck_pos ⟨Int.le_refl _,hpos⟩]
    by_cases hc:Comm r q
    ·have hok:okP q r:=⟨hk.1,hk.2,hc⟩
     rw [if_neg (by
      obtain ⟨a1,a2,a3,a4,a5,a6,a7⟩:=hc
      simp [a1,a2,a3,a4,a5,a6,a7])]
     change (∃ r_1,((f_r13_Check (whR q (u+r.units))).bind _)=_∧_)∨∃ s',((f_r13_Check (whR q (u+r.units))).bind _)=_∧_
     rw [p_rCheck _ (sm_wh hq _)]
     simp only [Option.bind_some]
     by_cases he:errF (whR q (u+r.units))=0
     ·have ge:=(errF_good he).units
      simp only [whR] at ge
      rw [if_neg (by simp [he]),ck_pos (by omega)]
      refine .inr ⟨_,rfl,⟨by simp only; omega,fun p hp=>h1 p (List.mem_cons_of_mem _ hp),.inr ⟨he,rfl⟩⟩,rfl,?_⟩
      rw [whW_cons hok]
     ·rw [if_pos (by simpa using he)]
      refine .inl ⟨_,rfl,?_⟩
      rw [whW_cons hok,whW_over (by omega) he]
      rfl
    ·rw [if_pos (by
      unfold Comm at hc
      simp only [Bool.or_eq_true,Bool.not_eq_true',Bool.and_eq_false_iff,bne_iff_ne,beq_eq_false_iff_ne]
      by_cases a1:r.source=q.source
      ·by_cases a2:r.call=q.call
       ·by_cases a3:r.kind=q.kind
        ·by_cases a4:r.a=q.a
         ·by_cases a5:r.b=q.b
          ·by_cases a6:r.trunk=q.trunk
           ·by_cases a7:r.inbound=q.inbound
            ·exact absurd ⟨a1,a2,a3,a4,a5,a6,a7⟩ hc
            ·exact .inr a7
           ·exact .inl (.inr a6)
          ·exact .inl (.inl (.inr a5))
         ·exact .inl (.inl (.inl (.inr a4)))
        ·exact .inl (.inl (.inl (.inl (.inr a3))))
       ·exact .inl (.inl (.inl (.inl (.inl (.inr a2)))))
      ·exact .inl (.inl (.inl (.inl (.inl (.inl a1))))))]
     refine .inl ⟨_,rfl,?_⟩
     rw [whW_bad (fun h=>hc h.2.2)]
     rfl
   ·rw [if_pos (by
     by_cases hp:r.part=0
     ·simp [hp]
     ·simp [hp]
      intro he; exact hk ⟨hp,he⟩)]
    refine .inl ⟨_,rfl,?_⟩
    rw [whW_bad (fun h=>hk ⟨h.1,h.2.1⟩)]
    rfl
theorem optR_if (b:Bool) (o:Option Record):(if b=true then optR o else noR)=optR (if b=true then o else none):=by split <;> rfl
theorem p_rComplete (l:List Record) (hs:∀ r,r∈l→Sm r) (hl:l.length≤1000):f_r15_Complete l=some (optR (complF l)):=by
 unfold f_r15_Complete complF
 rw [←optR_if]
 refine loop_rec0 l (fun s:Int=>s) (fun s t=>some (if numB (s+1) t=true then optR (wholeF l) else noR)) (fun s t=>True) (by omega) ?_ ?_ rfl trivial
 ·intro i _ hi
  unfold f_r15_Complete_l1 f_r15_Complete_j1
  rw [if_neg (by simp only [decide_eq_true_eq]; omega),p_rwhole l hs hl]
  exact ⟨_,rfl,rfl⟩
 ·intro i r t _ hi0 hi1 hn hlen
  unfold f_r15_Complete_l1
  rw [if_pos (by simpa using hi1),ck_pos ⟨hi0,hi1⟩,hn,ck_pos (by omega),ck_pos (fun _=>⟨hi0,hi1⟩),ck_pos (fun _=>by omega)]
  have el:((i+1)==(l.length:Int))=t.isEmpty:=by
   rw [Bool.eq_iff_iff]
   cases t with
   | nil=>simp at hlen ⊢; omega
   | cons=>simp at hlen ⊢; omega
  rw [el]
  simp only [numB]
  by_cases hp:r.part=i+1
  ·by_cases hla:r.last=t.isEmpty
   ·rw [if_neg (by simp [hp,hla]),ck_pos (by omega)]
    refine .inr ⟨_,rfl,trivial,rfl,?_⟩
    simp [hp,hla]
   ·rw [if_pos (by simp [hp,hla])]
    refine .inl ⟨_,rfl,?_⟩
    simp [hp,hla]; rfl
  ·rw [if_pos (by simp [hp])]
   refine .inl ⟨_,rfl,?_⟩
   simp [hp]; rfl
theorem p_firsts (l:List Record) (x:Record) (last:Bool) (hl:l.length≤1000):f_r15_firsts l x last=some (posF last x 1 0 l):=by
 unfold f_r15_firsts
 refine loop_rec0 l (fun s:List Int×Int=>s.2) (fun s t=>some (s.1++posF last x ((s.1.length:Int)+1) s.2 t)) (fun s t=>(s.1.length:Int)≤s.2) (by omega) ?_ ?_ rfl (by simp)
 ·rintro ⟨out,i⟩ h hi
  simp only at h hi ⊢
  unfold f_r15_firsts_l1
  rw [if_neg (by simp only [decide_eq_true_eq]; omega)]
  exact ⟨_,rfl,by simp [posF]⟩
 ·rintro ⟨out,i⟩ r t h hi0 hi1 hn hlen
  simp only at h hi0 hi1 hn hlen ⊢
  unfold f_r15_firsts_l1
  rw [if_pos (by simpa using hi1),ck_pos ⟨hi0,hi1⟩,hn]
  simp only [f_r15_call,Option.bind_some]
  rw [ck_pos (fun _=>⟨hi0,hi1⟩),ck_pos (fun _=>by omega)]
  have ec:((r.source==x.source) && (r.call==x.call))=callB r x:=by rw [Bool.eq_iff_iff,callB_iff]; simp
  rw [ec,show posF last x ((out.length:Int)+1) i (r :: t)=(if callB r x=true∧r.part=(out.length:Int)+1 then (if last=true∧r.last=true then [i] else i :: posF last x ((out.length:Int)+1+1) (i+1) t) else posF last x ((out.length:Int)+1) (i+1) t) from rfl]
  by_cases hc:callB r x=true∧r.part=(out.length:Int)+1
  ·rw [if_pos (by simp [hc.1,hc.2]),ck_pos (by simp only [List.length_cons,List.length_nil]; omega),ck_pos (fun _=>⟨hi0,hi1⟩),if_pos hc]
   by_cases hla:last=true∧r.last=true
   ·rw [if_pos (by simp [hla.1,hla.2]),if_pos hla]
    exact .inl ⟨_,rfl,rfl⟩
   ·rw [if_neg (by simpa using hla),if_neg hla,ck_pos (by omega)]
    refine .inr ⟨_,rfl,by simp only [List.length_append,List.length_cons,List.length_nil]; omega,rfl,?_⟩
    simp
  ·rw [if_neg (by simpa using hc),if_neg hc,ck_pos (by omega)]
   exact .inr ⟨_,rfl,by simp only; omega,rfl,rfl⟩
theorem p_rpick (l:List Record) (at':List Int) (hl:l.length≤1000) (ha:at'.length≤1000):f_r15_pick l at'=some (pickA 0 at' l):=by
 unfold f_r15_pick
 refine (loop_rec0 l (fun s:List Record×List Record×Int×Int=>s.2.2.2) (fun s t=>some (s.1++(pickA s.2.2.2 (at'.drop s.2.2.1.toNat) t).1,s.2.1++(pickA s.2.2.2 (at'.drop s.2.2.1.toNat) t).2))
  (fun s t=>(0≤s.2.2.1∧s.2.2.1≤(at'.length:Int))∧(s.1.length:Int)≤s.2.2.2∧(s.2.1.length:Int)≤s.2.2.2) (by omega) ?_ ?_ rfl (by simp)).trans (by simp)
 ·rintro ⟨out,rest,k,i⟩ ⟨h0,h1⟩ hi
  simp only at h0 h1 hi ⊢
  unfold f_r15_pick_l1
  rw [if_neg (by simp only [decide_eq_true_eq]; omega)]
  exact ⟨_,rfl,by cases at'.drop k.toNat <;> simp [pickA]⟩
 ·rintro ⟨out,rest,k,i⟩ r t ⟨h0,h1,h2⟩ hi0 hi1 hn hlen
  simp only at h0 h1 h2 hi0 hi1 hn hlen ⊢
  unfold f_r15_pick_l1
  rw [if_pos (by simpa using hi1),ck_pos (fun h=>by simp at h; omega),ck_pos ⟨hi0,hi1⟩,hn]
  by_cases hk:k < (at'.length:Int)
  ·have hd:=drop_nth (l:=at') (k:=k.toNat) (by omega)
   rw [hd]
   by_cases he:nth at' k.toNat=i
   ·rw [if_pos (by simp [he,hk]),ck_pos (by simp only [List.length_cons,List.length_nil]; omega),ck_pos (by omega),ck_pos (by omega)]
    refine .inr ⟨_,rfl,⟨by simp only; omega,by simp only [List.length_append,List.length_cons,List.length_nil]; omega,by simp only; omega⟩,rfl,?_⟩
    simp only
    conv=>rhs; unfold pickA
    rw [if_pos he,show (k+1).toNat=k.toNat+1 from by omega]
    simp
   ·rw [if_neg (by simp [he]),ck_pos ⟨hi0,hi1⟩,ck_pos (by simp only [List.length_cons,List.length_nil]; omega),ck_pos (by omega)]
    refine .inr ⟨_,rfl,⟨by simp only; omega,by simp only; omega,by simp only [List.length_append,List.length_cons,List.length_nil]; omega⟩,rfl,?_⟩
    simp only
    rw [hd]
    conv=>rhs; unfold pickA
    rw [if_neg he]
    simp
  ·rw [if_neg (by simp [hk]),ck_pos ⟨hi0,hi1⟩,ck_pos (by simp only [List.length_cons,List.length_nil]; omega),ck_pos (by omega)]
   refine .inr ⟨_,rfl,⟨by simp only; omega,by simp only; omega,by simp only [List.length_append,List.length_cons,List.length_nil]; omega⟩,rfl,?_⟩
   simp only
   rw [List.drop_of_length_le (by omega),pickA_nil,pickA_nil]
   simp
theorem posF_len (last:Bool) (x:Record):∀ (n i:Int) (l:List Record),(posF last x n i l).length≤l.length
 | _,_,[]=>Nat.le_refl _
 | n,i,r :: l=>by
  have h1:=posF_len last x (n+1) (i+1) l
  have h2:=posF_len last x n (i+1) l
  unfold posF
  split
  ·split <;> simp only [List.length_cons,List.length_nil] <;> omega
  ·simp only [List.length_cons]; omega
theorem chn_sm {last:Bool} {x:Record} {n:Int} {l:List Record} (h:∀ r,r∈l→Sm r):(∀ r,r∈(chn last x n l).1→Sm r)∧(∀ r,r∈(chn last x n l).2→Sm r):=by
 have hp:=chn_perm last x n l
 exact ⟨fun r hr=>h r (hp.mem_iff.1 (List.mem_append.2 (.inl hr))),fun r hr=>h r (hp.mem_iff.1 (List.mem_append.2 (.inr hr)))⟩
theorem nth_mem {α:Type} [Inhabited α] {l:List α} {k:Nat} (h:k < l.length):nth l k∈l:=by rw [nth_eq h]; exact List.getElem_mem h
theorem nth_cons_succ {α:Type} [Inhabited α] {a:α} {t:List α} {j:Nat}:nth (a :: t) (j+1)=nth t j:=by simp [nth]
theorem nth_cons_zero {α:Type} [Inhabited α] {a:α} {t:List α}:nth (a :: t) 0=a:=by simp [nth]
theorem p_rbefore (a b:Record):f_r15_before a b=some (decide (Lt a b)):=by
 unfold f_r15_before
 by_cases h1:a.source=b.source
 ·rw [if_neg (by simp [h1])]
  by_cases h2:a.call=b.call
  ·rw [if_neg (by simp [h2])]
   congr 1
   rw [Bool.eq_iff_iff,decide_eq_true_iff,decide_eq_true_iff]
   unfold Lt; omega
  ·rw [if_pos (by simpa using h2)]
   congr 1
   rw [Bool.eq_iff_iff,decide_eq_true_iff,decide_eq_true_iff]
   unfold Lt; omega
 ·rw [if_pos (by simpa using h1)]
  congr 1
  rw [Bool.eq_iff_iff,decide_eq_true_iff,decide_eq_true_iff]
  unfold Lt; omega
def ncB (l:List Record) (t:List Record):Bool:=t.all fun x=>(complF (chn true x 1 l).1).isNone
def okB (r:Record):Bool:=decide (r.part≠0) && decide (errF r=0)
def srtB:Option Record→List Record→Bool
 | _,[]=>true
 | none,r :: t=>okB r && srtB (some r) t
 | some y,r :: t=>okB r && !decide (Lt r y) && srtB (some r) t
theorem srtB_iff:∀ (o:Option Record) (t:List Record),srtB o t=true↔Srt (o.toList++t)∧∀ r,r∈t→errF r=0∧r.part≠0
 | o,[]=>by cases o <;> simp [srtB,Srt]
 | none,r :: t=>by
  have ih:=srtB_iff (some r) t
  simp only [srtB,okB,Bool.and_eq_true,decide_eq_true_eq,ih,Option.toList_none,Option.toList_some,List.nil_append,List.singleton_append,List.mem_cons,forall_eq_or_imp]
  constructor
  ·intro h; exact ⟨h.2.1,⟨h.1.2,h.1.1⟩,h.2.2⟩
  ·intro h; exact ⟨⟨h.2.1.2,h.2.1.1⟩,h.1,h.2.2⟩
 | some y,r :: t=>by
  have ih:=srtB_iff (some r) t
  simp only [srtB,okB,Bool.and_eq_true,decide_eq_true_eq,ih,Option.toList_some,List.singleton_append,List.mem_cons,forall_eq_or_imp,Bool.not_eq_true',decide_eq_false_iff_not]
  constructor
  ·rintro ⟨⟨⟨h1,h2⟩,h3⟩,h4,h5⟩
   refine ⟨List.pairwise_cons.2 ⟨fun z hz=>?_,h4⟩,⟨h2,h1⟩,h5⟩
   rcases List.mem_cons.1 hz with e | hz
   ·rw [e]; exact h3
   ·exact Le_trans h3 ((List.pairwise_cons.1 h4).1 z hz)
  ·rintro ⟨h1,h2,h3⟩
   have h4:=List.pairwise_cons.1 h1
   exact ⟨⟨⟨h2.2,h2.1⟩,h4.1 r (List.mem_cons_self ..)⟩,h4.2,h3⟩
theorem opn_iff (l:List Record):(srtB none l && ncB l l)=true↔Opn l:=by
 rw [Bool.and_eq_true,srtB_iff]
 simp only [Option.toList_none,List.nil_append,ncB,List.all_eq_true,Option.isNone_iff_eq_none]
 constructor
 ·rintro ⟨⟨h1,h2⟩,h3⟩
  refine ⟨h1,h2,fun x=>?_⟩
  by_cases hx:∃ r,r∈l∧callB r x=true
  ·obtain ⟨r,hr,hc⟩:=hx
   rw [chn_eqx true (callB_symm hc)]
   exact h3 r hr
  ·rw [chn_none true (fun r hr hc=>hx ⟨r,hr,hc.1⟩)]
   rfl
 ·rintro ⟨h1,h2,h3⟩
  exact ⟨⟨h1,h2⟩,fun x _=>h3 x⟩
theorem p_ropen1 (l:List Record) (hs:∀ r,r∈l→Sm r) (hl:l.length≤1000):f_r15_Open_j1 l=some (ncB l l):=by
 unfold f_r15_Open_j1
 refine loop_rec0 l (fun s:Int=>s) (fun s t=>some (ncB l t)) (fun s t=>True) (by omega) ?_ ?_ rfl trivial
 ·intro i _ hi
  unfold f_r15_Open_l1
  rw [if_neg (by simp only [decide_eq_true_eq]; omega)]
  exact ⟨_,rfl,rfl⟩
 ·intro i r t _ hi0 hi1 hn hlen
  unfold f_r15_Open_l1
  rw [if_pos (by simpa using hi1),ck_pos ⟨hi0,hi1⟩,hn,p_firsts l r true hl]
  have hp:=posF_len true r 1 0 l
  simp only [Option.bind_some]
  rw [p_rpick l _ hl (by omega),pickA_posF]
  simp only [Option.bind_some]
  have hc:=chn_len (last:=true) (x:=r) (n:=1) (l:=l)
  rw [p_rComplete _ (chn_sm hs).1 (by omega)]
  simp only [Option.bind_some,ncB,List.all_cons]
  cases hcc:complF (chn true r 1 l).1 with
  | none =>
   rw [if_neg (by simp [optR,noR]),ck_pos (by omega)]
   exact .inr ⟨_,rfl,trivial,rfl,by simp⟩
  | some w =>
   rw [if_pos (show (optR (some w)).2=true from rfl)]
   exact .inl ⟨_,rfl,by simp⟩
theorem p_rOpen (l:List Record) (hs:∀ r,r∈l→Sm r) (hl:l.length≤1000):f_r15_Open l=some (srtB none l && ncB l l):=by
 unfold f_r15_Open
 have:=loop_rec0 l (fun s:Int=>s) (fun s t=>some (srtB (if s=0 then none else some (nth l (s-1).toNat)) t && ncB l l)) (fun s t=>∀ r,r∈t→Sm r) (by omega) (step:=fun s=>f_r15_Open_l2 l s) (s:=0) ?_ ?_ rfl hs
 ·exact this
 ·intro i _ hi
  unfold f_r15_Open_l2
  rw [if_neg (by simp only [decide_eq_true_eq]; omega),p_ropen1 l hs hl]
  exact ⟨_,rfl,by simp [srtB]⟩
 ·intro i r t hsm hi0 hi1 hn hlen
  unfold f_r15_Open_l2
  rw [if_pos (by simpa using hi1),ck_pos ⟨hi0,hi1⟩,ck_pos (fun _=>⟨hi0,hi1⟩),hn,p_rCheck r (hsm r (List.mem_cons_self ..))]
  simp only [gcall_mk,Option.bind_some]
  have e1:(i+1=0)=False:=by simp; omega
  have e2:(i+1-1).toNat=i.toNat:=by omega
  by_cases hk:r.part≠0∧errF r=0
  ·have b1:(r.part==0)=false:=by simpa using hk.1
   simp only [b1,hk.2,Bool.not_false,if_true,Bool.false_or,bne_self_eq_false,Bool.true_and]
   by_cases h0:i=0
   ·rw [ck_pos (by simp [h0]),ck_pos (by simp [h0]),ck_pos (by simp [h0])]
    simp only [h0,Int.lt_irrefl,decide_false,gcall,if_neg,Bool.false_eq_true,if_false,Option.bind_some,Bool.false_and,gt_iff_lt]
    rw [ck_pos (by omega)]
    refine .inr ⟨_,rfl,fun p hp=>hsm p (List.mem_cons_of_mem _ hp),rfl,?_⟩
    have hn':nth l 0=r:=by rw [←hn,h0]; rfl
    simp [srtB,okB,hk.1,hk.2,hn']
   ·have hp:i > 0:=by omega
    rw [ck_pos (fun _=>⟨hi0,hi1⟩),ck_pos (fun _=>by omega),ck_pos (fun _=>by omega)]
    simp only [hp,decide_true,p_rbefore,gcall_mk,Option.bind_some,if_true,Bool.true_and]
    rw [if_neg h0]
    generalize nth l (i-1).toNat=y
    by_cases hb:Lt r y
    ·rw [if_pos (by simpa using hb)]
     exact .inl ⟨_,rfl,by simp [srtB,hb]⟩
    ·rw [if_neg (by simpa using hb),ck_pos (by omega)]
     refine .inr ⟨_,rfl,fun p hp=>hsm p (List.mem_cons_of_mem _ hp),rfl,?_⟩
     simp only [e1,if_false,e2,hn]
     simp [srtB,okB,hk.1,hk.2,hb]
  ·have hb:((r.part==0) || ((if (!(r.part==0))=true then errF r else default) != 0))=true:=by
    by_cases hp:r.part=0
    ·simp [hp]
    ·simp [hp]
     intro he; exact hk ⟨hp,he⟩
   simp only [hb,Bool.not_true,Bool.true_or,Bool.false_and,gcall,Bool.false_eq_true,if_false,Option.bind_some]
   rw [ck_pos (by simp),ck_pos (by simp),ck_pos (by simp),if_pos trivial]
   refine .inl ⟨_,rfl,?_⟩
   have:okB r=false:=by
    unfold okB
    rw [Bool.eq_false_iff]
    simpa using hk
   by_cases h0:i=0 <;> simp [h0,srtB,this]
def callC (x:Record):CorrelateCall:=⟨x.source,x.call⟩
theorem call_vals (r x:Record):eqVs (CorrelateCall.vals ⟨r.source,r.call⟩) (CorrelateCall.vals (callC x))=callB r x:=by
 rw [Bool.eq_iff_iff,callB_iff]
 simp [CorrelateCall.vals,callC,eqVs,eqV]
def idxF (x:Record):Int→List Record→Int
 | _,[]=>-1
 | i,r :: t=>if callB r x=true then i else idxF x (i+1) t
def runN (x:Record):List Record→Nat
 | []=>0
 | r :: t=>if callB r x=true then runN x t+1 else 0
theorem p_index (l:List Record) (x:Record) (hl:l.length≤1000):g_api_Record l (callC x)=some (idxF x 0 l):=by
 unfold g_api_Record
 refine loop_rec0 l (fun s:Int=>s) (fun s t=>some (idxF x s t)) (fun s t=>True) (by omega) ?_ ?_ rfl trivial
 ·intro i _ hi
  unfold g_api_Record_l1
  rw [if_neg (by simp only [decide_eq_true_eq]; omega)]
  exact ⟨_,rfl,rfl⟩
 ·intro i r t _ hi0 hi1 hn hlen
  unfold g_api_Record_l1
  rw [if_pos (by simpa using hi1),ck_pos ⟨hi0,hi1⟩,hn]
  simp only [g_correlate_span_1,f_correlate_callOf,Option.bind_some,call_vals]
  by_cases h:callB r x=true
  ·rw [if_pos h]
   exact .inl ⟨_,rfl,by simp [idxF,h]⟩
  ·rw [if_neg h,ck_pos (by omega)]
   exact .inr ⟨_,rfl,trivial,rfl,by simp [idxF,h]⟩
theorem idx_lt:∀ (x:Record) (i:Int) (t:List Record),idxF x i t=-1∨(i≤idxF x i t∧idxF x i t < i+t.length)
 | x,i,[]=>.inl rfl
 | x,i,r :: t=>by
  unfold idxF
  have:=idx_lt x (i+1) t
  simp only [List.length_cons]
  split <;> omega
theorem p_span (l:List Record) (x:Record) (hl:l.length≤1000):f_correlate_span l (callC x)=some (if idxF x 0 l < 0 then (0,0) else (idxF x 0 l,idxF x 0 l+runN x (l.drop (idxF x 0 l).toNat))):=by
 unfold f_correlate_span
 rw [p_index l x hl]
 have hi:=idx_lt x 0 l
 simp only [Option.bind_some,decide_eq_true_eq]
 split
 ·rfl
 ·refine loop_rec l (fun s:Int=>s) (fun s t=>some (idxF x 0 l,s+(runN x t:Int))) (fun s t=>True) (by omega) ?_ ?_ (s:=idxF x 0 l) (by omega) trivial
  ·intro i _ hi
   unfold f_correlate_span_l1
   rw [ck_pos (fun h=>by simp at h; omega)]
   simp only [gcall,hi,Int.lt_irrefl,decide_false,Bool.false_eq_true,if_false,Option.bind_some,Bool.false_and]
   exact ⟨_,rfl,by simp [runN,hi]⟩
  ·intro i r t _ hi0 hi1 hn hlen
   unfold f_correlate_span_l1
   rw [ck_pos (fun _=>⟨hi0,hi1⟩),hn]
   simp only [gcall,hi1,decide_true,if_true,f_correlate_callOf,Option.bind_some,Bool.true_and,call_vals]
   by_cases h:callB r x=true
   ·rw [if_pos h,ck_pos (by omega)]
    refine .inr ⟨_,rfl,trivial,rfl,?_⟩
    simp only [runN,h,if_true]
    congr 2; omega
   ·rw [if_neg h]
    refine .inl ⟨_,rfl,?_⟩
    simp [runN,h]
def fI (k:Int):Int→List Record→Option Int
 | _,[]=>none
 | i,r :: t=>if r.part=k then some i else fI k (i+1) t
theorem fI_some {k:Int}:∀ {i:Int} {l:List Record} {j:Int},fI k i l=some j→i≤j∧j < i+l.length∧(nth l (j-i).toNat).part=k
 | i,[],j,h=>by cases h
 | i,r :: l,j,h=>by
  unfold fI at h
  simp only [List.length_cons]
  split at h
  ·rename_i hk
   cases h
   refine ⟨by omega,by omega,?_⟩
   rw [show (i-i).toNat=0 from by omega,nth_cons_zero]; exact hk
  ·have ih:=fI_some h
   refine ⟨by omega,by omega,?_⟩
   rw [show (j-i).toNat=(j-(i+1)).toNat+1 from by omega,nth_cons_succ]
   exact ih.2.2
theorem posF_unfold (last:Bool) (x:Record) (n:Int):∀ {i:Int} {l:List Record},Srt l→(∀ r,r∈l→callB r x=true)→posF last x n i l=match fI n i l with
  | none=>[]
  | some j=>j :: if last=true∧(nth l (j-i).toNat).last=true then [] else posF last x (n+1) i l
 | i,[],_,_=>rfl
 | i,r :: l,h,hc=>by
  have h2:=List.pairwise_cons.1 h
  have hr:=hc r (List.mem_cons_self ..)
  have hc2:∀ r,r∈l→callB r x=true:=fun y hy=>hc y (List.mem_cons_of_mem _ hy)
  by_cases hp:r.part=n
  ·have e1:fI n i (r :: l)=some i:=by unfold fI; rw [if_pos hp]
   have e2:posF last x (n+1) i (r :: l)=posF last x (n+1) (i+1) l:=by
    conv=>lhs; unfold posF
    rw [if_neg (by omega)]
   simp only [e1,e2]
   rw [show (i-i).toNat=0 from by omega,nth_cons_zero]
   conv=>lhs; unfold posF
   rw [if_pos ⟨hr,hp⟩]
   split <;> rfl
  ·have e1:fI n i (r :: l)=fI n (i+1) l:=by conv=>lhs; unfold fI; rw [if_neg hp]
   have e0:posF last x n i (r :: l)=posF last x n (i+1) l:=by
    conv=>lhs; unfold posF
    rw [if_neg (fun h=>hp h.2)]
   rw [e0,e1,posF_unfold last x n h2.2 hc2]
   cases hf:fI n (i+1) l with
   | none=>rfl
   | some j =>
    have hj:=fI_some hf
    have hm:nth l (j-(i+1)).toNat∈l:=nth_mem (by omega)
    have e2:posF last x (n+1) i (r :: l)=posF last x (n+1) (i+1) l:=by
     conv=>lhs; unfold posF
     rw [if_neg (fun h=>by
      have:=Le_part (h2.1 _ hm) (callB_tr hr (callB_symm (hc2 _ hm)))
      omega)]
    simp only [e2]
    rw [show (j-i).toNat=(j-(i+1)).toNat+1 from by omega,nth_cons_succ]
theorem p_cand (l:List Record) (x:Record) (last:Bool) (hl:l.length≤1000) (hs:Srt l) (hc:∀ r,r∈l→callB r x=true) (hp:∀ r,r∈l→r.part≤99):f_correlate_candidates l last=some (posF last x 1 0 l):=by
 unfold f_correlate_candidates
 refine loop_rec0 l (fun s:Int×List (Int×Int)=>s.1) (fun s t=>some (posF last x 1 0 l)) (fun s t=>∀ k,(alook s.2 k).or (fI k s.1 t)=fI k 0 l) (by omega) ?_ ?_ rfl (fun k=>by rw [alook_nil]; rfl)
 ·rintro ⟨i,m⟩ hm hi
  simp only at hm hi ⊢
  have hm':∀ k,alook m k=fI k 0 l:=fun k=>by rw [←hm k]; simp [fI]
  unfold f_correlate_candidates_l2 f_correlate_candidates_j1
  rw [if_neg (by simp only [decide_eq_true_eq]; omega)]
  have:loop (fun s:List Int×Int=>f_correlate_candidates_l1 l last m s.1 s.2) ([],1)=some (posF last x 1 0 l):=by
   refine (loop_spec (fun s:List Int×Int=>some (s.1++posF last x s.2 0 l)) (fun s=>1≤s.2∧s.2≤100∧(s.1.length:Int)≤s.2-1) (fun s=>(100-s.2).toNat) ?_ ⟨by decide,by decide,by decide⟩ (by decide)).trans (by simp)
   rintro ⟨out,k⟩ ⟨h0,h1,h2⟩
   simp only at h0 h1 h2 ⊢
   unfold f_correlate_candidates_l1
   rw [hm' k,posF_unfold last x k hs hc]
   cases hf:fI k 0 l with
   | none =>
    rw [if_pos (by simp)]
    exact .inl ⟨_,rfl,by simp⟩
   | some j =>
    have hj:=fI_some hf
    have hk:=hp _ (nth_mem (l:=l) (k:=(j-0).toNat) (by omega))
    rw [if_neg (by simp),ck_pos (by simp only [List.length_cons,List.length_nil]; omega)]
    simp only [Option.getD_some]
    rw [ck_pos (fun _=>by omega),show (j-0).toNat=j.toNat from by omega]
    by_cases hla:last=true∧(nth l j.toNat).last=true
    ·rw [if_pos (by simp [hla.1,hla.2]),if_pos hla]
     exact .inl ⟨_,rfl,rfl⟩
    ·rw [if_neg (by simpa using hla),if_neg hla,ck_pos (by omega)]
     refine .inr ⟨_,rfl,⟨by simp only; omega,by simp only; omega,by simp only [List.length_append,List.length_cons,List.length_nil]; omega⟩,by simp only; omega,?_⟩
     simp
  rw [this]
  exact ⟨_,rfl,rfl⟩
 ·rintro ⟨i,m⟩ r t hm hi0 hi1 hn hlen
  simp only at hm hi0 hi1 hn hlen ⊢
  unfold f_correlate_candidates_l2
  rw [if_pos (by simpa using hi1),ck_pos ⟨hi0,hi1⟩,hn]
  cases ha:alook m r.part with
  | none =>
   rw [if_pos (by simp),ck_pos (by omega)]
   refine .inr ⟨_,rfl,fun k=>?_,rfl,by first | rfl | trivial⟩
   simp only
   rw [alook_aset,←hm k]
   by_cases hk:r.part=k
   ·rw [if_pos (by simp [hk])]
    subst hk
    simp [ha,fI]
   ·rw [if_neg (by simpa using fun h=>hk h.symm)]
    simp [fI,hk]
  | some j =>
   rw [if_neg (by simp),ck_pos (by omega)]
   refine .inr ⟨_,rfl,fun k=>?_,rfl,by first | rfl | trivial⟩
   simp only
   rw [←hm k]
   by_cases hk:r.part=k
   ·subst hk
    simp [ha]
   ·simp [fI,hk]
def othF (at':List Int):Int→List Record→List Record
 | _,[]=>[]
 | i,r :: t=>if i∈at' then othF at' (i+1) t else r :: othF at' (i+1) t
theorem othF_congr {a b:List Int}:∀ {i:Int} {l:List Record},(∀ j,i≤j→(j∈a↔j∈b))→othF a i l=othF b i l
 | _,[],_=>rfl
 | i,r :: l,h=>by
  have ih:=othF_congr (i:=i+1) (l:=l) (fun j hj=>h j (by omega))
  unfold othF
  simp only [h i (Int.le_refl _),ih]
theorem othF_nil:∀ (i:Int) (l:List Record),othF [] i l=l
 | _,[]=>rfl
 | i,r :: l=>by unfold othF; rw [if_neg (by simp),othF_nil]
theorem pickA_asc:∀ (i:Int) (at':List Int) (l:List Record),at'.Pairwise (· < ·)→(∀ a,a∈at'→i≤a∧a < i+l.length)→pickA i at' l=(at'.map fun j=>nth l (j-i).toNat,othF at' i l)
 | i,[],l,_,_=>by rw [pickA_nil,othF_nil]; rfl
 | i,a :: at',[],_,h=>by have:=h a (List.mem_cons_self ..); simp at this; omega
 | i,a :: at',r :: l,hp,h=>by
  have h2:=List.pairwise_cons.1 hp
  have ha:=h a (List.mem_cons_self ..)
  unfold pickA
  by_cases e:a=i
  ·subst e
   rw [if_pos rfl,pickA_asc (a+1) at' l h2.2 (fun b hb=>by
    have h3:=h b (List.mem_cons_of_mem _ hb)
    have h4:=h2.1 b hb
    simp only [List.length_cons] at h3
    omega)]
   have e1:(at'.map fun j=>nth (r :: l) (j-a).toNat)=at'.map fun j=>nth l (j-(a+1)).toNat:=List.map_congr_left (fun b hb=>by
    have h4:=h2.1 b hb
    rw [show (b-a).toNat=(b-(a+1)).toNat+1 from by omega,nth_cons_succ])
   have e2:othF (a :: at') a (r :: l)=othF at' (a+1) l:=by
    conv=>lhs; unfold othF
    rw [if_pos (List.mem_cons_self ..)]
    exact othF_congr (fun j hj=>by simp; omega)
   simp only [List.map_cons,e1,e2]
   rw [show (a-a).toNat=0 from by omega,nth_cons_zero]
  ·have hall:∀ b,b∈a :: at'→i+1≤b∧b < i+1+l.length:=fun b hb=>by
    have h3:=h b hb
    simp only [List.length_cons] at h3
    rcases List.mem_cons.1 hb with hb | hb
    ·omega
    ·have:=h2.1 b hb; omega
   rw [if_neg e,pickA_asc (i+1) (a :: at') l hp hall]
   have e1:((a :: at').map fun j=>nth (r :: l) (j-i).toNat)=(a :: at').map fun j=>nth l (j-(i+1)).toNat:=List.map_congr_left (fun b hb=>by
    have h4:=hall b hb
    rw [show (b-i).toNat=(b-(i+1)).toNat+1 from by omega,nth_cons_succ])
   have e2:othF (a :: at') i (r :: l)=r :: othF (a :: at') (i+1) l:=by
    conv=>lhs; unfold othF
    rw [if_neg (fun hb=>by have:=hall i hb; omega)]
   rw [e1,e2]
theorem p_pick (l:List Record) (at':List Int) (hl:l.length≤1000) (hal:at'.length≤1000) (hp:at'.Pairwise (· < ·)) (hb:∀ a,a∈at'→0≤a∧a < (l.length:Int)):f_correlate_pick l at'=some (pickA 0 at' l):=by
 unfold f_correlate_pick
 rw [pickA_asc 0 at' l hp (fun a ha=>by have:=hb a ha; omega)]
 refine loop_rec0 at' (fun s:List Record×Int×List (Int×Bool)=>s.2.1) (fun s t=>some (at'.map (fun j=>nth l (j-0).toNat),othF at' 0 l))
  (fun s t=>(s.1.length:Int)≤s.2.1∧s.1++t.map (fun j=>nth l (j-0).toNat)=at'.map (fun j=>nth l (j-0).toNat)∧(∀ j,((alook s.2.2 j).getD false=true∨j∈t)↔j∈at')∧(∀ a,a∈t→0≤a∧a < (l.length:Int))) (by omega) ?_ ?_ (s:=(([]:List Record),(0:Int),([]:List (Int×Bool)))) rfl ⟨by simp,rfl,fun j=>by simp [alook_nil],hb⟩
 ·rintro ⟨out,i,m⟩ ⟨h1,h2,h3,h4⟩ hi
  simp only at h1 h2 h3 h4 hi ⊢
  have hm:∀ j,(alook m j).getD false=decide (j∈at'):=fun j=>by rw [Bool.eq_iff_iff,decide_eq_true_iff,←h3 j]; simp
  rw [List.map_nil,List.append_nil] at h2
  unfold f_correlate_pick_l2 f_correlate_pick_j1
  rw [if_neg (by simp only [decide_eq_true_eq]; omega),←h2]
  have:loop (fun s:List Record×Int=>f_correlate_pick_l1 l out m s.1 s.2) ([],0)=some (out,othF at' 0 l):=by
   refine (loop_rec0 l (fun s:List Record×Int=>s.2) (fun s t=>some (out,s.1++othF at' s.2 t)) (fun s t=>(s.1.length:Int)≤s.2) (by omega) ?_ ?_ rfl (by simp)).trans (by simp)
   ·rintro ⟨oth,k⟩ hq hk
    simp only at hq hk ⊢
    unfold f_correlate_pick_l1
    rw [if_neg (by simp only [decide_eq_true_eq]; omega)]
    exact ⟨_,rfl,by simp [othF]⟩
   ·rintro ⟨oth,k⟩ r t hq hk0 hk1 hn hlen
    simp only at hq hk0 hk1 hn hlen ⊢
    unfold f_correlate_pick_l1
    rw [if_pos (by simpa using hk1),ck_pos ⟨hk0,hk1⟩,hn,hm k]
    by_cases hmem:k∈at'
    ·rw [if_neg (by simpa using hmem),ck_pos (by omega)]
     refine .inr ⟨_,rfl,by simp only; omega,rfl,?_⟩
     simp [othF,hmem]
    ·rw [if_pos (by simpa using hmem),ck_pos (by simp only [List.length_cons,List.length_nil]; omega),ck_pos (by omega)]
     refine .inr ⟨_,rfl,by simp only [List.length_append,List.length_cons,List.length_nil]; omega,rfl,?_⟩
     simp [othF,hmem]
  rw [this]
  exact ⟨_,rfl,rfl⟩
 ·rintro ⟨out,i,m⟩ a t ⟨h1,h2,h3,h4⟩ hi0 hi1 hn hlen
  simp only at h1 h2 h3 h4 hi0 hi1 hn hlen ⊢
  have ha:=h4 a (List.mem_cons_self ..)
  unfold f_correlate_pick_l2
  rw [if_pos (by simpa using hi1),ck_pos ⟨hi0,hi1⟩,hn,ck_pos ha,ck_pos (by simp only [List.length_cons,List.length_nil]; omega),ck_pos (by omega)]
  refine .inr ⟨_,rfl,⟨?_,?_,fun j=>?_,fun b hb=>h4 b (List.mem_cons_of_mem _ hb)⟩,rfl,by first | rfl | trivial⟩
  ·simp only [List.length_append,List.length_cons,List.length_nil]; omega
  ·simp only
   rw [←h2,List.map_cons,show (a-0).toNat=a.toNat from by omega]
   simp
  ·simp only
   rw [alook_aset,←h3 j]
   by_cases hj:j=a
   ·rw [if_pos (by simp [hj])]; simp [hj]
   ·rw [if_neg (by simpa using hj)]; simp [hj]
theorem runN_run (x:Record):∀ (l:List Record),runN x l=(runF x l).length
 | []=>rfl
 | r :: l=>by
  have ih:=runN_run x l
  unfold runN
  unfold runF at ih ⊢
  by_cases h:callB r x=true
  ·rw [if_pos h,List.takeWhile_cons_of_pos (p:=fun r=>callB r x) h,List.length_cons,ih]
  ·rw [if_neg h,List.takeWhile_cons_of_neg (p:=fun r=>callB r x) h]; rfl
structure Wt (l:List Record):Prop where
 srt:Srt l
 ok:∀ r,r∈l→errF r=0
theorem Wt.sm {l:List Record} (h:Wt l):∀ r,r∈l→Sm r:=fun r hr=>good_sm (h.ok r hr)
theorem Wt.le {l:List Record} (h:Wt l):∀ r,r∈l→r.part≤99:=fun r hr=>(errF_good (h.ok r hr)).part.2
theorem Wt.sub {l l':List Record} (h:Wt l) (hs:l'.Sublist l):Wt l':=⟨h.srt.sublist hs,fun r hr=>h.ok r (hs.subset hr)⟩
theorem Opn.wt {l:List Record} (h:Opn l):Wt l:=⟨h.srt,fun r hr=>(h.ok r hr).1⟩
theorem Wt.ins {l:List Record} (h:Wt l) {p:Record} (hp:errF p=0):Wt (insP l p):=⟨insP_srt h.srt,fun r hr=>by
 rcases insP_mem.1 hr with e | hr
 ·rw [e]; exact hp
 ·exact h.ok r hr⟩
theorem expF_fuel (b:Int):∀ (m m':Nat) (l:List Record),l.length≤m→l.length≤m'→expF b m l=expF b m' l
 | 0,0,_,_,_=>rfl
 | 0,m'+1,[],_,_=>rfl
 | m+1,0,[],_,_=>rfl
 | m+1,m'+1,[],_,_=>rfl
 | m+1,m'+1,x :: l,h,h'=>by
  have hl:=rest_len x l
  simp only [List.length_cons] at h h'
  unfold expF
  rw [expF_fuel b m m' (restF x (x :: l)) (by omega) (by omega)]
theorem endF_cons (x:Record) (l:List Record):endF (x :: l)=(wholeF (pickA 0 (shrF (x :: l) (posF false x 1 0 (x :: l)) (posF false x 1 0 (x :: l)).length) (x :: l)).1).toList++(pickA 0 (shrF (x :: l) (posF false x 1 0 (x :: l)) (posF false x 1 0 (x :: l)).length) (x :: l)).2.map aloneF:=rfl
theorem shrF_succ (l:List Record) (at':List Int) (m:Nat):shrF l at' (m+1)=if (wholeF (pickA 0 (at'.take (m+1)) l).1).isSome=true then at'.take (m+1) else shrF l at' m:=rfl
theorem endF_len:∀ (l:List Record),(endF l).length≤l.length
 | []=>Nat.le_refl _
 | x :: l=>by
  rw [endF_cons]
  generalize shrF (x :: l) (posF false x 1 0 (x :: l)) (posF false x 1 0 (x :: l)).length=at'
  have hp:=(pickA_perm 0 at' (x :: l)).length_eq
  simp only [List.length_append,List.length_map,List.length_cons] at hp ⊢
  cases hw:wholeF (pickA 0 at' (x :: l)).1 with
  | none=>simp only [Option.toList_none,List.length_nil]; omega
  | some w =>
   have:0 < (pickA 0 at' (x :: l)).1.length:=by
    cases hq:(pickA 0 at' (x :: l)).1 with
    | nil=>rw [hq] at hw; cases hw
    | cons=>simp
   simp only [Option.toList_some,List.length_cons,List.length_nil]; omega
theorem run_cons (x:Record) (l:List Record):runF x (x :: l)=x :: runF x l:=List.takeWhile_cons_of_pos (p:=fun r=>callB r x) (callB_refl x)
theorem run_sub (x:Record) (l:List Record):(runF x l).Sublist l:=List.takeWhile_sublist _
theorem rest_sub (x:Record) (l:List Record):(restF x l).Sublist l:=List.dropWhile_sublist _
theorem take_run (x:Record) (l:List Record):l.take (runF x l).length=runF x l:=by
 conv=>lhs; rw [←run_rest x l]
 rw [run_rest,←run_rest x l,run_rest]
 conv=>lhs; arg 2; rw [←run_rest x l]
 exact List.take_left
theorem drop_run (x:Record) (l:List Record):l.drop (runF x l).length=restF x l:=by
 conv=>lhs; arg 2; rw [←run_rest x l]
 exact List.drop_left
theorem pickA_sm {i:Int} {at':List Int} {l:List Record} (h:∀ r,r∈l→Sm r):(∀ r,r∈(pickA i at' l).1→Sm r)∧(∀ r,r∈(pickA i at' l).2→Sm r):=by
 have hp:=pickA_perm i at' l
 exact ⟨fun r hr=>h r (hp.mem_iff.1 (List.mem_append.2 (.inl hr))),fun r hr=>h r (hp.mem_iff.1 (List.mem_append.2 (.inr hr)))⟩
theorem pickA_len (i:Int) (at':List Int) (l:List Record):(pickA i at' l).1.length≤l.length∧(pickA i at' l).2.length≤l.length:=by
 have hp:=(pickA_perm i at' l).length_eq
 rw [List.length_append] at hp
 omega
theorem optR_snd (o:Option Record):(optR o).2=o.isSome:=by cases o <;> rfl
theorem p_rend1 (l:List Record) (at':List Int) (hs:∀ r,r∈l→Sm r) (hl:l.length≤1000) (ha:at'.length≤1000):f_r15_end_j1 l at'=some ((wholeF (pickA 0 at' l).1).toList++(pickA 0 at' l).2.map aloneF):=by
 unfold f_r15_end_j1
 rw [p_rpick l at' hl ha]
 have hpl:=pickA_len 0 at' l
 simp only [Option.bind_some]
 rw [p_rwhole _ (pickA_sm hs).1 (by omega)]
 simp only [Option.bind_some]
 generalize hpk:pickA 0 at' l=pk at hpl ⊢
 have key:∀ (o:List Record) (c0 c1 c2:Int) (c3 c4:List UInt8) (c5 c6 c7 c8:Int) (c9:Bool) (c10:Int) (c11:Bool),o.length≤1→f_r15_end_j2 pk o c0 c1 c2 c3 c4 c5 c6 c7 c8 c9 c10 c11=some (o++pk.2.map aloneF):=by
  intro o c0 c1 c2 c3 c4 c5 c6 c7 c8 c9 c10 c11 ho
  unfold f_r15_end_j2
  refine loop_rec0 pk.2 (fun s:List Record×Int=>s.2) (fun s t=>some (s.1++t.map aloneF)) (fun s t=>(s.1.length:Int)≤s.2+1) (by omega) ?_ ?_ (s:=(o,(0:Int))) rfl (by simp only; omega)
  ·rintro ⟨q,i⟩ h hi
   simp only at h hi ⊢
   unfold f_r15_end_l1
   rw [if_neg (by simp only [decide_eq_true_eq]; omega)]
   exact ⟨_,rfl,by simp⟩
  ·rintro ⟨q,i⟩ r t h hi0 hi1 hn hlen
   simp only at h hi0 hi1 hn hlen ⊢
   unfold f_r15_end_l1
   rw [if_pos (by simpa using hi1),ck_pos ⟨hi0,hi1⟩,hn]
   simp only [f_r15_alone,Option.bind_some]
   rw [ck_pos (by simp only [List.length_cons,List.length_nil]; omega),ck_pos (by omega)]
   refine .inr ⟨_,rfl,by simp only [List.length_append,List.length_cons,List.length_nil]; omega,rfl,?_⟩
   simp only [List.map_cons,List.append_assoc]
   rfl
 cases hw:wholeF pk.1 with
 | none =>
  rw [if_neg (by simp [optR,noR]),key _ _ _ _ _ _ _ _ _ _ _ _ _ (by simp)]
  rfl
 | some w =>
  rw [if_pos (show (optR (some w)).2=true from rfl),ck_pos (by simp),key _ _ _ _ _ _ _ _ _ _ _ _ _ (by simp)]
  rfl
theorem p_rend (x:Record) (l:List Record) (hs:∀ r,r∈x :: l→Sm r) (hl:(x :: l).length≤1000):f_r15_end (x :: l)=some (endF (x :: l)):=by
 unfold f_r15_end
 rw [ck_pos (by simp only [List.length_cons]; omega),show nth (x :: l) (Int.toNat 0)=x from rfl,p_firsts _ x false hl]
 have hpl:=posF_len false x 1 0 (x :: l)
 simp only [Option.bind_some]
 generalize hP:posF false x 1 0 (x :: l)=P at hpl
 have he:endF (x :: l)=(wholeF (pickA 0 (shrF (x :: l) P P.length) (x :: l)).1).toList++(pickA 0 (shrF (x :: l) P P.length) (x :: l)).2.map aloneF:=by
  rw [endF_cons,hP]
 rw [he]
 generalize x :: l=run at *
 refine (loop_spec (fun s:List Int=>some ((wholeF (pickA 0 (shrF run P s.length) run).1).toList++(pickA 0 (shrF run P s.length) run).2.map aloneF)) (fun s=>s=P.take s.length∧s.length≤P.length) (fun s=>s.length) ?_ ⟨by simp,Nat.le_refl _⟩ (by omega))
 rintro s ⟨h1,h2⟩
 unfold f_r15_end_l2
 by_cases h0:s.length=0
 ·have:s=[]:=List.length_eq_zero_iff.1 h0
  subst this
  rw [if_neg (by simp),p_rend1 run [] hs hl (by simp)]
  exact .inl ⟨_,rfl,rfl⟩
 ·rw [if_pos (by simp; omega),p_rpick run s hl (by omega)]
  have hpk:=pickA_len 0 s run
  simp only [Option.bind_some]
  rw [p_rwhole _ (pickA_sm hs).1 (by omega)]
  simp only [Option.bind_some,optR_snd]
  obtain ⟨m,hm⟩:∃ m,s.length=m+1:=⟨s.length-1,by omega⟩
  have hsh:shrF run P s.length=if (wholeF (pickA 0 s run).1).isSome=true then s else shrF run P m:=by
   rw [hm,shrF_succ,←hm,←h1]
  rw [hsh]
  by_cases hw:(wholeF (pickA 0 s run).1).isSome=true
  ·rw [if_pos hw,if_pos hw,p_rend1 run s hs hl (by omega)]
   exact .inl ⟨_,rfl,rfl⟩
  ·rw [if_neg hw,if_neg hw,ck_pos (by omega),ck_pos (by omega)]
   have e:(s.take ((s.length:Int) - 1).toNat)=P.take m:=by
    rw [show ((s.length:Int) - 1).toNat=m from by omega]
    conv=>lhs; rw [h1]
    rw [List.take_take,hm]; congr 1; omega
   have el:(P.take m).length=m:=by rw [List.length_take]; omega
   rw [e]
   exact .inr ⟨_,rfl,⟨by rw [el],by rw [el]; omega⟩,by rw [el]; omega,by simp only [el]⟩
theorem p_rExpire (l:List Record) (b:Int) (hs:∀ r,r∈l→Sm r) (hl:l.length≤1000):f_r15_Expire l b=some (expF b l.length l):=by
 unfold f_r15_Expire
 refine (loop_spec (fun s:List Record×List Record×Int=>some (s.1++(expF b l.length (l.drop s.2.2.toNat)).1,s.2.1++(expF b l.length (l.drop s.2.2.toNat)).2)) (fun s=>0≤s.2.2∧s.2.2≤(l.length:Int)∧(s.1.length:Int)+s.2.1.length≤s.2.2) (fun s=>((l.length:Int) - s.2.2).toNat) ?_ (s:=(([]:List Record),([]:List Record),(0:Int))) ⟨by decide,by simp only; omega,by simp⟩ (by simp only; omega)).trans (by simp)
 rintro ⟨out,left,i⟩ ⟨h0,h1,h2⟩
 simp only at h0 h1 h2 ⊢
 unfold f_r15_Expire_l1
 by_cases hi:i < (l.length:Int)
 ·rw [if_pos (by simpa using hi)]
  have hd:=drop_nth (l:=l) (k:=i.toNat) (by omega)
  have hdl:(l.drop i.toNat).length=l.length-i.toNat:=List.length_drop
  generalize hx:nth l i.toNat=x at hd
  generalize ht:l.drop (i.toNat+1)=t at hd
  have hsd:∀ r,r∈x :: t→Sm r:=fun r hr=>hs r (by rw [←hd] at hr; exact List.mem_of_mem_drop hr)
  have hrn:(runF x (x :: t)).length=(runF x t).length+1:=by rw [run_cons]; rfl
  have hrl:(runF x (x :: t)).length≤(x :: t).length:=(run_sub x _).length_le
  rw [hd] at hdl
  have hk:(i:Int)+((runF x (x :: t)).length:Int)≤(l.length:Int):=by omega
  have hslice:(l.take (i+((runF x (x :: t)).length:Int)).toNat).drop i.toNat=runF x (x :: t):=by
   rw [List.drop_take,hd,show (i+((runF x (x :: t)).length:Int)).toNat-i.toNat=(runF x (x :: t)).length from by omega,take_run]
  have hrest:l.drop (i+((runF x (x :: t)).length:Int)).toNat=restF x (x :: t):=by
   rw [show (i+((runF x (x :: t)).length:Int)).toNat=i.toNat+(runF x (x :: t)).length from by omega,←List.drop_drop,hd,drop_run]
  have hel:=endF_len (runF x (x :: t))
  have hexp:expF b l.length (x :: t)=expF b ((restF x (x :: t)).length+1+t.length) (x :: t):=expF_fuel b _ _ _ (by omega) (by simp only [List.length_cons]; omega)
  obtain ⟨m,hm⟩:∃ m,l.length=m+1:=⟨l.length-1,by omega⟩
  have hrl2:=rest_len x t
  have hexp2:expF b l.length (x :: t)=if (runF x (x :: t)).any (fun r=>decide (b≤r.start))=true then ((expF b l.length (restF x (x :: t))).1,runF x (x :: t)++(expF b l.length (restF x (x :: t))).2) else (endF (runF x (x :: t))++(expF b l.length (restF x (x :: t))).1,(expF b l.length (restF x (x :: t))).2):=by
   conv=>lhs; rw [hm]; unfold expF
   simp only [List.length_cons] at hdl
   rw [expF_fuel b m l.length (restF x (x :: t)) (by omega) (by omega)]
  have hj:f_r15_Expire_j1 l out left i (i+((runF x (x :: t)).length:Int)) ((runF x (x :: t)).any (fun r=>decide (b≤r.start)))=some (.inl (if (runF x (x :: t)).any (fun r=>decide (b≤r.start))=true then (out,left++runF x (x :: t),i+((runF x (x :: t)).length:Int)) else (out++endF (runF x (x :: t)),left,i+((runF x (x :: t)).length:Int)))):=by
   unfold f_r15_Expire_j1
   rw [hslice]
   split
   ·rw [ck_pos (by omega),ck_pos (by omega)]
   ·rw [ck_pos (by omega)]
    have:f_r15_end (runF x (x :: t))=some (endF (runF x (x :: t))):=by
     rw [run_cons]
     have hss:=run_sub x (x :: t)
     rw [run_cons] at hss hrl
     simp only [List.length_cons] at hrl hdl
     exact p_rend x _ (fun r hr=>hsd r (hss.subset hr)) (by simp only [List.length_cons]; omega)
    rw [this]
    simp only [Option.bind_some]
    rw [ck_pos (by omega)]
  have hloop:loop (fun s:Int×Bool=>f_r15_Expire_l2 l b out left i s.1 s.2) (i,false)=some (.inl (if (runF x (x :: t)).any (fun r=>decide (b≤r.start))=true then (out,left++runF x (x :: t),i+((runF x (x :: t)).length:Int)) else (out++endF (runF x (x :: t)),left,i+((runF x (x :: t)).length:Int)))):=by
   rw [←hj]
   have hst:=loop_rec l (step:=fun s:Int×Bool=>f_r15_Expire_l2 l b out left i s.1 s.2) (fun s:Int×Bool=>s.1) (fun s _=>f_r15_Expire_j1 l out left i (i+((runF x (x :: t)).length:Int)) ((runF x (x :: t)).any (fun r=>decide (b≤r.start))))
    (fun s u=>s.1+((runF x u).length:Int)=i+((runF x (x :: t)).length:Int)∧(s.2 || (runF x u).any (fun r=>decide (b≤r.start)))=(runF x (x :: t)).any (fun r=>decide (b≤r.start))) (by omega) ?_ ?_ (s:=(i,false)) ⟨h0,by simp only; omega⟩ (by simp only [hd,Bool.false_or,and_self])
   ·exact hst
   ·rintro ⟨k,late⟩ ⟨e1,e2⟩ he
    simp only at e1 e2 he ⊢
    unfold f_r15_Expire_l2
    have hlt:decide (k < (l.length:Int))=false:=by simp; omega
    rw [ck_pos (by simp [hlt]),ck_pos (by simp [hlt])]
    simp only [hlt,gcall,Bool.false_eq_true,if_false,Option.bind_some,Bool.false_and]
    simp only [runF,List.takeWhile_nil,List.length_nil,List.any_nil,Bool.or_false] at e1 e2
    simp only [runF] at hj ⊢
    rw [show k=i+((List.takeWhile (fun r=>callB r x) (x :: t)).length:Int) from by omega,e2,hj]
    exact ⟨_,rfl,rfl⟩
   ·rintro ⟨k,late⟩ r u ⟨e1,e2⟩ hk0 hk1 hn hlen
    simp only at e1 e2 hk0 hk1 hn hlen ⊢
    unfold f_r15_Expire_l2
    have hlt:decide (k < (l.length:Int))=true:=by simpa using hk1
    rw [ck_pos (fun _=>⟨hk0,hk1⟩),ck_pos (fun _=>⟨h0,hi⟩)]
    simp only [hlt,gcall,if_true,hn,hx,f_r15_call,Option.bind_some,Bool.true_and]
    have ec:((r.source==x.source) && (r.call==x.call))=callB r x:=by rw [Bool.eq_iff_iff,callB_iff]; simp
    rw [ec]
    by_cases hc:callB r x=true
    ·rw [if_pos hc,ck_pos (fun _=>⟨hk0,hk1⟩),ck_pos (by omega)]
     have eru:runF x (r :: u)=r :: runF x u:=List.takeWhile_cons_of_pos (p:=fun r=>callB r x) hc
     rw [eru] at e1 e2
     simp only [List.length_cons,List.any_cons] at e1 e2
     refine .inr ⟨_,rfl,⟨by simp only; omega,?_⟩,rfl,by first | rfl | trivial⟩
     simp only
     rw [←e2]
     simp only [ge_iff_le,Bool.or_assoc]
    ·rw [if_neg hc]
     have eru:runF x (r :: u)=[]:=List.takeWhile_cons_of_neg (p:=fun r=>callB r x) hc
     rw [eru] at e1 e2
     simp only [List.length_nil,List.any_nil,Bool.or_false] at e1 e2
     rw [show k=i+((runF x (x :: t)).length:Int) from by omega,e2,hj]
     exact .inl ⟨_,rfl,rfl⟩
  rw [hloop,hd,hexp2]
  right
  split
  ·refine ⟨_,rfl,⟨by simp only; omega,hk,by simp only [List.length_append]; omega⟩,by simp only; omega,?_⟩
   simp only [hrest]
   simp
  ·refine ⟨_,rfl,⟨by simp only; omega,hk,by simp only [List.length_append]; omega⟩,by simp only; omega,?_⟩
   simp only [hrest]
   simp
 ·rw [if_neg (by simpa using hi),List.drop_of_length_le (by omega)]
  refine .inl ⟨_,rfl,?_⟩
  have:expF b l.length []=([],[]):=by cases l.length <;> rfl
  rw [this]; simp
def idxL (b:Int):Int→List Record→Int
 | _,[]=>-1
 | i,r :: t=>if b≤r.start then i else idxL b (i+1) t
theorem idxL_any (b:Int):∀ (i:Int) (t:List Record),0≤i→decide (idxL b i t≥0)=t.any (fun r=>decide (b≤r.start))
 | i,[],_=>by simp [idxL]
 | i,r :: t,h=>by
  unfold idxL
  by_cases hb:b≤r.start
  ·simp [hb,h]
  ·rw [if_neg hb,idxL_any b (i+1) t (by omega)]
   simp [hb]
theorem p_late (l:List Record) (b:Int) (hl:l.length≤1000):g_api_Record_v3 l b=some (l.any (fun r=>decide (b≤r.start))):=by
 unfold g_api_Record_v3
 have:g_api_Record_v2 l b=some (idxL b 0 l):=by
  unfold g_api_Record_v2
  refine loop_rec0 l (fun s:Int=>s) (fun s t=>some (idxL b s t)) (fun s t=>True) (by omega) ?_ ?_ rfl trivial
  ·intro i _ hi
   unfold g_api_Record_v2_l1
   rw [if_neg (by simp only [decide_eq_true_eq]; omega)]
   exact ⟨_,rfl,rfl⟩
  ·intro i r t _ hi0 hi1 hn hlen
   unfold g_api_Record_v2_l1
   rw [if_pos (by simpa using hi1),ck_pos ⟨hi0,hi1⟩,hn]
   simp only [g_correlate_Expire_1,Option.bind_some,ge_iff_le]
   by_cases h:b≤r.start
   ·rw [if_pos (by simpa using h)]
    exact .inl ⟨_,rfl,by simp [idxL,h]⟩
   ·rw [if_neg (by simpa using h),ck_pos (by omega)]
    exact .inr ⟨_,rfl,trivial,rfl,by simp [idxL,h]⟩
 rw [this]
 simp only [Option.bind_some]
 rw [idxL_any b 0 l (Int.le_refl _)]
theorem shrF_asc {l:List Record} {P:List Int} (hp:P.Pairwise (· < ·)):∀ (m:Nat),(shrF l P m).Pairwise (· < ·)∧(∀ a,a∈shrF l P m→a∈P)∧(shrF l P m).length≤P.length
 | 0=>⟨.nil,by simp [shrF],by simp [shrF]⟩
 | m+1=>by
  rw [shrF_succ]
  split
  ·exact ⟨hp.sublist (List.take_sublist _ _),fun a ha=>List.mem_of_mem_take ha,by rw [List.length_take]; omega⟩
  ·exact shrF_asc hp m
theorem p_chain (x:Record) (run:List Record) (hw:Wt run) (hc:∀ r,r∈run→callB r x=true) (hl:run.length≤1000):f_correlate_chain run=some (shrF run (posF false x 1 0 run) (posF false x 1 0 run).length):=by
 unfold f_correlate_chain
 rw [p_cand run x false hl hw.srt hc hw.le]
 have hpl:=posF_len false x 1 0 run
 have hge:=posF_ge false x 1 0 run
 have hpa:=posF_asc false x 1 0 run
 simp only [Option.bind_some]
 generalize posF false x 1 0 run=P at hpl hge hpa ⊢
 refine (loop_spec (fun s:List Int=>some (shrF run P s.length)) (fun s=>s=P.take s.length∧s.length≤P.length) (fun s=>s.length) ?_ ⟨by simp,Nat.le_refl _⟩ (by omega))
 rintro s ⟨h1,h2⟩
 unfold f_correlate_chain_l1
 by_cases h0:s.length=0
 ·have:s=[]:=List.length_eq_zero_iff.1 h0
  subst this
  rw [if_neg (by simp)]
  exact .inl ⟨_,rfl,rfl⟩
 ·have hsp:s.Pairwise (· < ·):=by rw [h1]; exact hpa.sublist (List.take_sublist _ _)
  have hsb:∀ a,a∈s→0≤a∧a < (run.length:Int):=fun a ha=>by
   rw [h1] at ha
   have:=hge a (List.mem_of_mem_take ha)
   omega
  rw [if_pos (by simp; omega),p_pick run s hl (by omega) hsp hsb]
  have hpk:=pickA_len 0 s run
  simp only [Option.bind_some]
  rw [p_whole _ (pickA_sm hw.sm).1 (by omega)]
  simp only [Option.bind_some,optR_snd]
  obtain ⟨m,hm⟩:∃ m,s.length=m+1:=⟨s.length-1,by omega⟩
  have hsh:shrF run P s.length=if (wholeF (pickA 0 s run).1).isSome=true then s else shrF run P m:=by
   rw [hm,shrF_succ,←hm,←h1]
  rw [hsh]
  by_cases hww:(wholeF (pickA 0 s run).1).isSome=true
  ·rw [if_pos hww,if_pos hww]
   exact .inl ⟨_,rfl,rfl⟩
  ·rw [if_neg hww,if_neg hww,ck_pos (by omega),ck_pos (by omega)]
   have e:(s.take ((s.length:Int) - 1).toNat)=P.take m:=by
    rw [show ((s.length:Int) - 1).toNat=m from by omega]
    conv=>lhs; rw [h1]
    rw [List.take_take,hm]; congr 1; omega
   have el:(P.take m).length=m:=by rw [List.length_take]; omega
   rw [e]
   exact .inr ⟨_,rfl,⟨by rw [el],by rw [el]; omega⟩,by rw [el]; omega,by simp only [el]⟩
theorem p_Expire (l:List Record) (b:Int) (hw:Wt l) (hl:l.length≤1000):f_correlate_Expire l b=some (expF b l.length l):=by
 unfold f_correlate_Expire x_CloneRecord
 rw [ck_pos (by omega)]
 simp only [Option.bind_some]
 refine (loop_spec (fun s:List Record×List Record×List Record=>some (s.1++(expF b l.length s.2.2).1,s.2.1++(expF b l.length s.2.2).2)) (fun s=>Wt s.2.2∧s.1.length+s.2.1.length+s.2.2.length≤l.length) (fun s=>s.2.2.length) ?_ (s:=(([]:List Record),([]:List Record),l)) ⟨hw,by simp⟩ (by simp only; omega)).trans (by simp)
 rintro ⟨out,left,rest⟩ ⟨h1,h2⟩
 simp only at h1 h2 ⊢
 unfold f_correlate_Expire_l1
 cases rest with
 | nil =>
  rw [if_neg (by simp)]
  refine .inl ⟨_,rfl,?_⟩
  have:expF b l.length []=([],[]):=by cases l.length <;> rfl
  rw [this]; simp
 | cons x t =>
  simp only [List.length_cons] at h2
  have hrl:=(run_sub x (x :: t)).length_le
  have hrn:(runF x (x :: t)).length=(runF x t).length+1:=by rw [run_cons]; rfl
  have hwr:Wt (runF x (x :: t)):=h1.sub (run_sub _ _)
  have hws:Wt (restF x (x :: t)):=h1.sub (rest_sub _ _)
  have hrl2:=rest_len x t
  have htot:(runF x (x :: t)).length+(restF x (x :: t)).length=t.length+1:=by
   have:=congrArg List.length (run_rest x (x :: t))
   rw [List.length_append] at this
   exact this
  have hel:=endF_len (runF x (x :: t))
  obtain ⟨m,hm⟩:∃ m,l.length=m+1:=⟨l.length-1,by omega⟩
  have hexp2:expF b l.length (x :: t)=if (runF x (x :: t)).any (fun r=>decide (b≤r.start))=true then ((expF b l.length (restF x (x :: t))).1,runF x (x :: t)++(expF b l.length (restF x (x :: t))).2) else (endF (runF x (x :: t))++(expF b l.length (restF x (x :: t))).1,(expF b l.length (restF x (x :: t))).2):=by
   conv=>lhs; rw [hm]; unfold expF
   rw [expF_fuel b m l.length (restF x (x :: t)) (by omega) (by omega)]
  have hix:idxF x 0 (x :: t)=0:=by unfold idxF; rw [if_pos (callB_refl x)]
  simp only [List.length_cons] at hrl
  rw [if_pos (by simp),ck_pos (by simp only [List.length_cons]; omega),show nth (x :: t) (Int.toNat 0)=x from rfl]
  simp only [f_correlate_callOf,Option.bind_some]
  rw [show (⟨x.source,x.call⟩:CorrelateCall)=callC x from rfl,p_span (x :: t) x (by simp only [List.length_cons]; omega),hix,if_neg (by omega)]
  simp only [Option.bind_some,Int.toNat_zero,List.drop_zero,runN_run,Int.zero_add,Int.toNat_natCast]
  rw [ck_pos (by simp only [List.length_cons]; omega),ck_pos (by simp only [List.length_cons]; omega)]
  simp only [take_run,drop_run]
  rw [p_late _ b (by omega)]
  simp only [Option.bind_some]
  rw [hexp2]
  by_cases hany:(runF x (x :: t)).any (fun r=>decide (b≤r.start))=true
  ·rw [if_pos hany,if_pos hany,ck_pos (by omega)]
   refine .inr ⟨_,rfl,⟨hws,by simp only [List.length_append]; omega⟩,by simp only [List.length_cons]; omega,?_⟩
   simp
  ·rw [if_neg hany,if_neg hany,p_chain x _ hwr run_call (by omega)]
   have hpl:=posF_len false x 1 0 (runF x (x :: t))
   have hge:=posF_ge false x 1 0 (runF x (x :: t))
   obtain ⟨q1,q2,q3⟩:=shrF_asc (l:=runF x (x :: t)) (posF_asc false x 1 0 (runF x (x :: t))) (posF false x 1 0 (runF x (x :: t))).length
   simp only [Option.bind_some]
   rw [p_pick _ _ (by omega) (by omega) q1 (fun a ha=>by have:=hge a (q2 a ha); omega)]
   have he:endF (runF x (x :: t))=(wholeF (pickA 0 (shrF (runF x (x :: t)) (posF false x 1 0 (runF x (x :: t))) (posF false x 1 0 (runF x (x :: t))).length) (runF x (x :: t))).1).toList++(pickA 0 (shrF (runF x (x :: t)) (posF false x 1 0 (runF x (x :: t))) (posF false x 1 0 (runF x (x :: t))).length) (runF x (x :: t))).2.map aloneF:=by
    rw [run_cons]; exact endF_cons x _
   generalize shrF (runF x (x :: t)) (posF false x 1 0 (runF x (x :: t))) (posF false x 1 0 (runF x (x :: t))).length=at' at he
   have hpk:=pickA_len 0 at' (runF x (x :: t))
   have hpm:=pickA_sm (i:=0) (at':=at') hwr.sm
   simp only [Option.bind_some]
   rw [p_whole _ hpm.1 (by omega)]
   simp only [Option.bind_some]
   generalize hpg:pickA 0 at' (runF x (x :: t))=pk at hpk he
   have key:∀ (o:List Record) (c0 c1 c2:Int) (c3 c4:List UInt8) (c5 c6 c7 c8:Int) (c9:Bool) (c10:Int) (c11:Bool),o.length≤2000→f_correlate_Expire_j1 left (x :: t) ((0:Int),((runF x (x :: t)).length:Int)) pk o c0 c1 c2 c3 c4 c5 c6 c7 c8 c9 c10 c11=some (.inl (o++pk.2.map aloneF,left,restF x (x :: t))):=by
    intro o c0 c1 c2 c3 c4 c5 c6 c7 c8 c9 c10 c11 ho
    unfold f_correlate_Expire_j1
    refine loop_rec0 pk.2 (fun s:List Record×Int=>s.2) (fun s t'=>(some (Sum.inl (s.1++t'.map aloneF,left,restF x (x :: t))):Option ((List Record×List Record×List Record) ⊕ (List Record×List Record)))) (fun s t'=>(s.1.length:Int)≤s.2+2000) (by omega) ?_ ?_ (s:=(o,(0:Int))) rfl (by simp only; omega)
    ·rintro ⟨q,i⟩ h hi
     simp only at h hi ⊢
     unfold f_correlate_Expire_l2
     rw [if_neg (by simp only [decide_eq_true_eq]; omega)]
     refine ⟨_,rfl,?_⟩
     simp only [Int.toNat_natCast,drop_run]
     simp
    ·rintro ⟨q,i⟩ r t' h hi0 hi1 hn hlen
     simp only at h hi0 hi1 hn hlen ⊢
     unfold f_correlate_Expire_l2
     rw [if_pos (by simpa using hi1),ck_pos ⟨hi0,hi1⟩,hn]
     simp only [f_correlate_alone,Option.bind_some]
     rw [ck_pos (by simp only [List.length_cons,List.length_nil]; omega),ck_pos (by omega)]
     refine .inr ⟨_,rfl,by simp only [List.length_append,List.length_cons,List.length_nil]; omega,rfl,?_⟩
     simp only [List.map_cons,List.append_assoc]
     rfl
   cases hww:wholeF pk.1 with
   | none =>
    rw [hww] at he
    rw [if_neg (by simp [optR,noR]),key _ _ _ _ _ _ _ _ _ _ _ _ _ (by omega)]
    refine .inr ⟨_,rfl,⟨hws,?_⟩,by simp only [List.length_cons]; omega,?_⟩
    ·have:=congrArg List.length he
     simp only [Option.toList_none,List.nil_append] at this
     simp only [List.length_append]; omega
    ·rw [he]; simp
   | some w =>
    rw [hww] at he
    rw [if_pos (show (optR (some w)).2=true from rfl),ck_pos (by simp only [List.length_cons,List.length_nil]; omega),key _ _ _ _ _ _ _ _ _ _ _ _ _ (by simp only [List.length_append,List.length_cons,List.length_nil]; omega)]
    refine .inr ⟨_,rfl,⟨hws,?_⟩,by simp only [List.length_cons]; omega,?_⟩
    ·have:=congrArg List.length he
     simp only [Option.toList_some,List.length_append,List.length_cons,List.length_nil] at this
     simp only [List.length_append,List.length_cons,List.length_nil]; omega
    ·rw [he]; simp [optR]
theorem awake_true:f_w15_awake=some true:=by kernel_rfl
theorem few_tot (l:List Record) (n:Int) (h0:0≤n) (h1:n≤200):∃ b,f_w15_few l n=some b∧(b=true→(l.length:Int)≤n∧∀ r,r∈l→Sm r):=by
 unfold f_w15_few
 obtain ⟨b,h1,h2⟩:=loop_post (step:=fun i:Int=>f_w15_few_l1 l n i) (fun b=>b=true→(l.length:Int)≤n∧∀ r,r∈l→Sm r) (fun i:Int=>0≤i∧i≤n+1∧i≤(l.length:Int)∧∀ r,r∈l.take i.toNat→Sm r) (fun i=>(n+1-i).toNat) (fun i hI=>by
  obtain ⟨h0,h1,h2,h3⟩:=hI
  show (∃ r,f_w15_few_l1 l n i=_∧_)∨∃ s',f_w15_few_l1 l n i=_∧_
  unfold f_w15_few_l1
  by_cases h:i < (l.length:Int)∧i≤n
  ·rw [if_pos (by simp [h]),ck_pos (by omega),ck_pos (by omega)]
   by_cases hs:Sm (nth l i.toNat)
   ·have hs':=hs
    unfold Sm at hs'
    rw [if_neg (by simp; omega),ck_pos (by omega)]
    refine .inr ⟨i+1,rfl,⟨by omega,by omega,by omega,?_⟩,by omega⟩
    rw [show (i+1).toNat=i.toNat+1 from by omega,take_nth (by omega)]
    intro r hr
    rcases List.mem_append.1 hr with hr | hr
    ·exact h3 r hr
    ·simp at hr; subst hr; exact hs
   ·have hs':=hs
    unfold Sm at hs'
    rw [if_pos (by simp; omega)]
    exact .inl ⟨_,rfl,by simp⟩
  ·rw [if_neg (by simp; omega)]
   unfold f_w15_few_j1
   refine .inl ⟨_,rfl,fun hb=>?_⟩
   simp at hb
   have:i=l.length:=by omega
   refine ⟨by omega,fun r hr=>h3 r ?_⟩
   rw [List.take_of_length_le (by omega)]
   exact hr) (s:=0) ⟨by omega,by omega,by omega,by simp⟩ (by omega)
 exact ⟨b,h1,h2⟩
theorem light_tot (l:List Record):∃ b,f_w15_light l=some b∧(b=true→l.length≤25∧Opn l):=by
 unfold f_w15_light
 obtain ⟨b,h1,h2⟩:=few_tot l 25 (by decide) (by decide)
 rw [h1]
 simp only [Option.bind_some]
 cases b with
 | false=>exact ⟨_,rfl,by simp⟩
 | true =>
  obtain ⟨hl,hs⟩:=h2 rfl
  simp only [gcall,if_true]
  rw [p_rOpen l hs (by omega)]
  exact ⟨_,rfl,fun h=>⟨by omega,(opn_iff l).1 (by simpa using h)⟩⟩
theorem expF_len (b:Int):∀ (m:Nat) (l:List Record),(expF b m l).1.length+(expF b m l).2.length≤l.length
 | 0,l=>by simp [expF]
 | m+1,[]=>by simp [expF]
 | m+1,x :: l=>by
  have h1:=expF_len b m (restF x (x :: l))
  have h2:=congrArg List.length (run_rest x (x :: l))
  have h3:=endF_len (runF x (x :: l))
  rw [List.length_append] at h2
  unfold expF
  split <;> simp only [List.length_append] <;> omega
theorem p_Same (a:List Record) (hl:a.length≤1000):f_r13_Same a a=some true:=by
 unfold f_r13_Same f_r09_Same
 rw [if_neg (by simp),loop_all a (fun _=>true) true true (by omega) (fun i h0 h1=>?_) (fun i hi=>?_)]
 ·simp
 ·unfold f_r09_Same_l1
  rw [if_pos (by simpa using h1),ck_pos (by omega),ck_pos (by omega),if_neg (by rw [Record.eq_refl]; simp),ck_pos (by omega)]
  rfl
 ·unfold f_r09_Same_l1
  rw [if_neg (by simp; omega)]
theorem expires_true (l:List Record) (b:Int):f_w15_CorrelateExpires l b=some true:=by
 unfold f_w15_CorrelateExpires
 obtain ⟨c,h1,h2⟩:=light_tot l
 rw [h1]
 simp only [Option.bind_some]
 cases c with
 | false=>rw [if_pos (by simp),awake_true]; rfl
 | true =>
  obtain ⟨ln,ho⟩:=h2 rfl
  have hj:=expF_len b l.length l
  have hopn:=expF_opn ho b (Nat.le_refl l.length)
  rw [if_neg (by simp),p_Expire l b ho.wt (by omega),p_rExpire l b ho.wt.sm (by omega),p_Expire l _ ho.wt (by omega)]
  simp only [Option.bind_some]
  rw [p_Same _ (by omega)]
  simp only [Option.bind_some,gcall,if_true]
  rw [p_Same _ (by omega)]
  simp only [Option.bind_some,Bool.and_self,if_true]
  rw [p_rOpen _ hopn.wt.sm (by omega),(opn_iff _).2 hopn,expF_none _ l (fun r hr=>by have:=(errF_good (ho.ok r hr).1).start; omega)]
  simp only [Option.bind_some,Bool.and_self,if_true,awake_true,List.length_nil]
  rfl
end Go.Proofs.YtajciinoiacpmaaDoor
namespace Go.Abs
open Go.RowKit Go.ChangeShapes Go.WideShapes Go.Deep
inductive Sh where
 | i (k:IntKind)
 | b
 | s
 | sl (row:List Sh)
inductive DFits:Sh→D→Prop where
 | i (k:IntKind) (n:Int) (h:(Lit.int k n).wf=true):DFits (.i k) (.ex (.int k n))
 | b (x:Bool):DFits .b (.ex (.bool x))
 | s (l:List UInt8) (h:l.length≤maxLen):DFits .s (.ex (.string ⟨l.toArray⟩))
 | sl (row:List Sh) (rows:List (List D)) (hn:rows.length≤maxLen) (h1:∀ r,r∈rows→r.length=row.length)
   (h:∀ r,r∈rows→∀ (i:Nat) sh d,row[i]?=some sh→r[i]?=some d→DFits sh d):DFits (.sl row) (.sl row.length rows)
def shapeFs (P:Program) (rec:TypeId→Option (List Sh)):List Field→Nat→Option (List Sh)
 | [],_=>some []
 | f :: fs,off=>match rec f.type with
  | some r=>if Nat.beq f.offset off && Nat.beq r.length (P.cellsOf f.type) then (shapeFs P rec fs (off+r.length)).map (r++·) else none
  | none=>none
def shape (P:Program):Nat→TypeId→Option (List Sh)
 | 0,_=>none
 | n+1,t=>match P.underlying t with
  | some (.int k)=>some [.i k]
  | some .bool=>some [.b]
  | some .string=>some [.s]
  | some (.slice e)=>match shape P n e with
   | some r=>if Nat.beq r.length (P.cellsOf e) && Nat.blt 0 r.length then some [.sl r] else none
   | none=>none
  | some (.struct fs)=>match shapeFs P (shape P n) fs.toList 0 with
   | some r=>if Nat.beq r.length (P.cellsOf t) then some r else none
   | none=>none
  | _=>none
def Opens (lim:Nat→Nat) (w:World) (shs:List Sh) (cs:List Value):Prop :=
 ∃ ds:List D,ds.length=shs.length∧cs.length=shs.length∧∀ (i:Nat) sh d c,shs[i]?=some sh→ds[i]?=some d→cs[i]?=some c→DFits sh d∧DRep lim w d c∧c.oneCell'=true
theorem Opens.one {lim:Nat→Nat} {w:World} {sh:Sh} {d:D} {c:Value} (h1:DFits sh d) (h2:DRep lim w d c) (h3:c.oneCell'=true):Opens lim w [sh] [c]:=by
 refine ⟨[d],rfl,rfl,fun i sh' d' c' ha hb hc=>?_⟩
 cases i with
 | zero=>simp at ha hb hc; subst ha; subst hb; subst hc; exact ⟨h1,h2,h3⟩
 | succ i=>simp at ha
theorem Opens.nil {lim:Nat→Nat} {w:World}:Opens lim w [] []:=⟨[],rfl,rfl,fun i _ _ _ h=>by simp at h⟩
theorem Opens.append {lim:Nat→Nat} {w:World} {s1 s2:List Sh} {c1 c2:List Value} (h:Opens lim w s1 c1) (k:Opens lim w s2 c2):Opens lim w (s1++s2) (c1++c2):=by
 obtain ⟨d1,a1,b1,e1⟩:=h
 obtain ⟨d2,a2,b2,e2⟩:=k
 refine ⟨d1++d2,by simp [a1,a2],by simp [b1,b2],fun i sh d c ha hb hc=>?_⟩
 by_cases hi:i < s1.length
 ·rw [List.getElem?_append_left hi] at ha
  rw [List.getElem?_append_left (by omega)] at hb hc
  exact e1 i sh d c ha hb hc
 ·rw [List.getElem?_append_right (by omega)] at ha hb hc
  rw [a1] at hb
  rw [b1] at hc
  exact e2 _ sh d c ha hb hc
section opening
variable {H:Type} {enc:TypeId×Value→H} {P:Program} {w:World} {held:Bool} {lim:Nat→Nat}
theorem opens_fields {rec:TypeId→Option (List Sh)} (cs:List Value):∀ (fs:List Field) (off:Nat) (shs:List Sh),shapeFs P rec fs off=some shs→cs.length=off+shs.length →
  (∀ (i:Nat) f,fs[i]?=some f→∀ r,rec f.type=some r→r.length=P.cellsOf f.type→Opens lim w r ((cs.drop f.offset).take (P.cellsOf f.type)))→Opens lim w shs (cs.drop off)
 | [],off,shs,h,hl,_=>by
  simp [shapeFs] at h; subst h
  rw [List.drop_of_length_le (by simp at hl; omega)]
  exact .nil
 | f :: fs,off,shs,h,hl,hf=>by
  unfold shapeFs at h
  split at h
  ·rename_i r hr
   split at h
   ·rename_i hc
    rw [Bool.and_eq_true] at hc
    replace hc:=And.intro (Nat.eq_of_beq_eq_true hc.1) (Nat.eq_of_beq_eq_true hc.2)
    obtain ⟨rest,hrest,rfl⟩:=Option.map_eq_some_iff.1 h
    simp only [List.length_append] at hl
    have h1:=hf 0 f rfl r hr hc.2
    have h2:=opens_fields cs fs (off+r.length) rest hrest (by omega) fun i g hg=>hf (i+1) g (by simpa using hg)
    have e:cs.drop off=(cs.drop f.offset).take (P.cellsOf f.type)++cs.drop (off+r.length):=by
     rw [hc.1,←hc.2,←List.drop_drop,List.take_append_drop]
    rw [e]
    exact h1.append h2
   ·cases h
  ·cases h
theorem opens_shape (hlim:∀ b off u,w.cell? ⟨b,off,none⟩=some u→off < lim b):∀ (n:Nat) (t:TypeId) (shs:List Sh),shape P n t=some shs→∀ fuel cs x,DataW.trod enc P w 0 (fun _=>true) held fuel t cs=some x→Opens lim w shs cs
 | 0,_,_,h=>by simp [shape] at h
 | n+1,t,shs,h=>by
  intro fuel cs x ht
  unfold shape at h
  split at h
  ·rename_i k hu
   cases h
   obtain ⟨m,rfl,_,hw⟩:=DataW.trod_int hu ht
   exact .one (.i k m hw) (.ex _) rfl
  ·rename_i hu
   cases h
   obtain ⟨b,rfl,_⟩:=DataW.trod_bool hu ht
   exact .one (.b b) (.ex _) rfl
  ·rename_i hu
   cases h
   obtain ⟨⟨a⟩,rfl,_,hs⟩:=DataW.trod_string hu ht
   exact .one (.s a.toList (by simpa [ByteArray.size] using hs)) (.ex _) rfl
  ·rename_i e hu
   split at h
   ·rename_i r hr
    split at h
    ·rename_i hc
     cases h
     rw [Bool.and_eq_true] at hc
     obtain ⟨hc1,hc2⟩:=And.intro (Nat.eq_of_beq_eq_true hc.1) (blt_lt hc.2)
     rcases open_slice hu ht with ⟨rfl,_⟩ | ⟨a,len,cap,m,n',D0,Pl,rfl,hb,hl,hm,hmm,hx,hi⟩
     ·exact .one (.sl r [] (Nat.zero_le _) (fun _ h=>by cases h) (fun _ h=>by cases h)) (.nil _ _) rfl
     ·simp only [if_true] at hmm
      subst hmm
      obtain ⟨F,hF⟩:=choose_lt (n:=m) (p:=fun i (ds:List D)=>ds.length=r.length∧∀ (j:Nat) sh d,r[j]?=some sh→ds[j]?=some d→∃ c,w.cell? (a.add (i*r.length+j))=some c∧DFits sh d∧DRep lim w d c∧c.oneCell'=true) (fun i hi'=>by
       obtain ⟨cs',h1,h2⟩:=hi i hi'
       obtain ⟨ds,k1,k2,k3⟩:=opens_shape hlim n e r hr n' cs' _ h2
       obtain ⟨_,h3,h4⟩:=World.cells?_some h1
       refine ⟨ds,k1,fun j sh d hj hd=>?_⟩
       have hjl:j < r.length:=(List.getElem?_eq_some_iff.1 hj).1
       have hc':cs'[j]?=some (cs'[j]'(by omega)):=List.getElem?_eq_getElem (by omega)
       refine ⟨cs'[j]'(by omega),?_,k3 j sh d _ hj hd hc'⟩
       rw [←hc',←h4 j (by omega),←hc1,Go.Deep.add_add])
      have hfit:DFits (.sl r) (.sl r.length ((List.range len).map F)):=by
       refine .sl r _ (by simp; omega) (fun row hrow=>?_) fun row hrow i sh d hs hd=>?_
       ·obtain ⟨i,hi2,rfl⟩:=List.mem_map.1 hrow
        exact (hF i (by have:=List.mem_range.1 hi2; omega)).1
       ·obtain ⟨i',hi2,rfl⟩:=List.mem_map.1 hrow
        obtain ⟨c,_,hh,_⟩:=(hF i' (by have:=List.mem_range.1 hi2; omega)).2 i sh d hs hd
        exact hh
      refine .one hfit ?_ rfl
      rcases Nat.eq_zero_or_pos m with h0 | h0
      ·subst h0
       have:len=0:=by omega
       subst this
       exact .nil _ _
      ·have hspot:a.spot=none:=by
        obtain ⟨cs',h1,h2⟩:=hi 0 h0
        obtain ⟨_,h3,h4⟩:=World.cells?_some h1
        have h5:=h4 0 (by omega)
        have h6:cs'[0]?=some (cs'[0]'(by omega)):=List.getElem?_eq_getElem (by omega)
        rw [h6] at h5
        unfold World.cell? at h5
        split at h5
        ·split at h5
         ·cases h5
         ·rename_i hsp
          simpa [Addr.add] using hsp
        ·cases h5
       obtain ⟨b,off,sp⟩:=a
       simp only at hspot
       subst hspot
       have hcell:∀ i j,i < m→j < r.length→∀ sh d,r[j]?=some sh→(F i)[j]?=some d→∃ c,w.cell? ⟨b,off+(i*r.length+j),none⟩=some c∧DFits sh d∧DRep lim w d c∧c.oneCell'=true:=fun i j hi' hj sh d hs hd=>by
        obtain ⟨c,h1,h2⟩:=(hF i hi').2 j sh d hs hd
        rw [Addr.add_lit] at h1
        exact ⟨c,h1,h2⟩
       have hlen:((List.range len).map F).length=len:=by simp
       have key:=DRep.sl (lim:=lim) (w:=w) r.length ((List.range len).map F) b off m (by rw [hlen]; exact hl) (fun row hrow=>by
        obtain ⟨i,hi2,rfl⟩:=List.mem_map.1 hrow
        exact (hF i (by have:=List.mem_range.1 hi2; omega)).1) (fun k hk=>by
        rw [hlen] at hk
        have hdiv:k / r.length < len:=Nat.div_lt_of_lt_mul (by rw [Nat.mul_comm]; exact hk)
        have hmod:k % r.length < r.length:=Nat.mod_lt _ hc2
        obtain ⟨c,h1,h2,h3,h4⟩:=hcell (k / r.length) (k % r.length) (by omega) hmod _ _ (List.getElem?_eq_getElem hmod) (List.getElem?_eq_getElem (by rw [(hF _ (by omega)).1]; exact hmod))
        have e:k / r.length*r.length+k % r.length=k:=by rw [Nat.mul_comm]; exact Nat.div_add_mod k r.length
        rw [e] at h1
        exact ⟨hlim _ _ _ h1,c,h1,h4⟩) (fun i j row c u h1 h2 h3=>by
        rw [List.getElem?_map] at h1
        obtain ⟨i',hi2,rfl⟩:=Option.map_eq_some_iff.1 h1
        have hil:i < len:=by have:=(List.getElem?_eq_some_iff.1 hi2).1; simpa using this
        have:i'=i:=by rw [List.getElem?_range hil] at hi2; cases hi2; rfl
        subst this
        have hjl:j < r.length:=by have:=(List.getElem?_eq_some_iff.1 h2).1; rw [(hF _ (by omega)).1] at this; exact this
        obtain ⟨c',k1,k2,k3,k4⟩:=hcell i' j (by omega) hjl _ _ (List.getElem?_eq_getElem hjl) h2
        rw [h3] at k1
        cases k1
        exact k3)
       rw [hlen] at key
       exact key
    ·cases h
   ·cases h
  ·rename_i fs hu
   split at h
   ·rename_i r hr
    split at h
    ·rename_i hc
     cases h
     have hc':=Nat.eq_of_beq_eq_true hc
     obtain ⟨ys,n',_,hy,hlen,hyl,hf⟩:=DataW.trod_struct hu ht
     have:=opens_fields (lim:=lim) (w:=w) (P:=P) cs fs.toList 0 _ hr (by omega) fun i f hi r' hr' hl'=>by
      have h1:=hf i f (by simpa using hi)
      have hys:ys[i]?=some (ys[i]'(by have:=(List.getElem?_eq_some_iff.1 hi).1; simp at this; omega)):=List.getElem?_eq_getElem _
      exact opens_shape hlim n f.type r' hr' n' _ _ (h1.trans hys)
     simpa using this
    ·cases h
   ·cases h
  ·cases h
end opening
end Go.Abs
