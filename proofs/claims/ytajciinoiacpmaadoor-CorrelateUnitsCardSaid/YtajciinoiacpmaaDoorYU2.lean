/- Our own texts XB0 XC0 XD0 XE0 XF0 XG0 E1 Sh LX LW0 LW1 LW2 LW3 LW4 LW5 LW6 R1 JA KA of this seat in one. -/
import Derived.Test.YtajciinoiacpmaaDoorYU1
import Derived.Sort.Grow
import Derived.Deep.Draws
import Derived.Shelf.Strings.Builder1
import Derived.Shelf.Strings.Builder2
import Derived.Shelf.Strings.OnBuilder
import Derived.Shelf.Strconv.Itoa0
import Derived.Shelf.Strconv.Itoa1
import Derived.Shelf.LaysM
import Derived.Shelf.Strconv.Itoa2
import Derived.Shelf.Strconv.Itoa3
import Derived.Test.YtajciinoiacpmaaDoorProg
import Derived.Lib.ItoaLen
set_option linter.unusedSimpArgs false
set_option linter.unusedVariables false
set_option linter.unusedSectionVars false
set_option maxRecDepth 100000
set_option maxHeartbeats 4000000
namespace Go.Proofs.YtajciinoiacpmaaDoor
open Go.RowKit Go.Abs
theorem own_cellsRecord {w:World} {base b n c:Nat} {xs:List Value} (hs:w.ownsRow base 32 12 (.slice (some ⟨b,0,none⟩) n c) n xs):base≤b∧n≤c∧c≤maxLen∧∃ cur:Array Value,w.heap[b]?=some (.cells cur 32 (0,0))∧cur.size=c*12∧cur.toList.take (n*12)=xs:=by
 rcases hs.2 with ⟨h,_⟩ | ⟨b',c',cur,h,hbb,hg,hnc,hcm,hcs,htk⟩
 ·cases h
 ·cases h
  exact ⟨hbb,hnc,hcm,cur,hg,hcs,htk⟩
theorem over_noRecord (w:World) {b vb m vc o lb cb cs:Nat} {cur vcur:Array Value} (hne:vb≠b) (hg:w.heap[b]?=some (.cells cur 32 (0,0))) (hgv:w.heap[vb]?=some (.cells vcur 32 (0,0))) (hk:cur.size≠0) :
  (callFunc 52 #[.slice (some ⟨vb,0,none⟩) m vc,.slice (some ⟨b,o,none⟩) lb cb]).run Tryd.prog w=.ok (.value (.bool false)) w:=by
 obtain ⟨i,hi,hz,hsz,hby⟩:=in_32
 rw [run_callFunc_extern Tryd.func52 (by kernel_rfl) (by kernel_rfl) (by kernel_rfl) (e:=Extern.SlicesOverlaps.overlaps #[22,22] #[4]) (by kernel_rfl),
  Lib.run_overlaps_apart w 22 4 32 Tryd.underlying22 12 (fun w'=>by simp [sizeOf,typeInfo,hi,hsz]) ⟨vb,0,none⟩ ⟨b,o,none⟩ m vc lb cb hne 32 32 vcur.size cur.size (by simp [World.shape?,hgv]) (by simp [World.shape?,hg]) hk (by simp [World.frozen?,hgv]) (by simp [World.frozen?,hgv])]
 rfl
theorem ins_shiftRecord (w:World) {base b n c i vb m vc:Nat} {xs ys:List Value} (hs:w.ownsRow base 32 12 (.slice (some ⟨b,0,none⟩) n c) n xs) (hu:w.ownsRow base 32 12 (.slice (some ⟨vb,0,none⟩) m vc) m ys) (hne:vb≠b) (hi:i < n) (hm:0 < m) (hb:n+m≤1000000000) (hroom:n+m≤c)
  (h1x:∀ x∈xs,x.oneCell'=true) (h1:∀ y∈ys,y.oneCell'=true) :
  Calls Tryd.prog 30 #[.slice (some ⟨b,0,none⟩) n c,.int .i64 i,.slice (some ⟨vb,0,none⟩) m vc] w fun e w'=>∃ v',e=.returned v'∧TurnedRecord base w (.slice (some ⟨b,0,none⟩) n c) (n+m) (xs.take (i*12)++ys++xs.drop (i*12)) v' w':=by
 have t3:=Tryd.underlying3; have t22:=Tryd.underlying22
 have u3:=run_underlying Tryd.underlying3; have u22:=run_underlying Tryd.underlying22
 obtain ⟨hbb,hnc,hcm,cur,hg,hcs,htk⟩:=own_cellsRecord hs
 obtain ⟨_,hvc,_,vcur,hgv,hvcs,hvtk⟩:=own_cellsRecord hu
 obtain ⟨inf,hinf,hz,hsz,hby⟩:=in_32
 simp only [maxLen] at hcm
 have z32:∀ w,(Go.sizeOf 32).run Tryd.prog w=.ok 12 w:=fun w'=>by simp [sizeOf,typeInfo,hinf,hsz]
 have hz1:¬ ((m:Int)=0):=by omega
 have hz2:¬ ((i:Int)=(n:Int)):=by omega
 have mixed:=hMix
 have hw1:IntKind.i64.wrap ((i:Int)+(m:Int))=(i:Int)+(m:Int):=by rw [IntKind.wrap_i64]; omega
 have hb1:(0:Int)≤(i:Int)+(m:Int):=by omega
 have hin:i≤n:=by omega
 have htn:((i:Int)+(m:Int)).toNat=i+m:=by omega
 have hb2:¬ (c=i+m):=by omega
 have hb3:(i:Int)≤(n:Int)+(m:Int):=by omega
 have hb4:¬ (c=i):=by omega
 have hk0:cur.size≠0:=by rw [hcs]; omega
 have hxl:=hs.1
 have hyl:=hu.1
 have hov:∀ o lb cb,(callFunc 52 #[.slice (some ⟨vb,0,none⟩) m vc,.slice (some ⟨b,o,none⟩) lb cb]).run Tryd.prog w=.ok (.value (.bool false)) w:=fun o lb cb=>over_noRecord (cs:=0) w hne hg hgv hk0
 -- the first copy
 have hcurx:∀ j x,xs[j]?=some x→w.cell? ⟨b,j,none⟩=some x:=fun j x hj=>by have:=hs.cells (g:=b) rfl j x hj; rwa [Addr.add_lit,Nat.zero_add] at this
 have hcell1:∀ j v,(xs.drop (i*12))[j]?=some v→w.cell? (Addr.add ⟨b,i*12,none⟩ j)=some v:=fun j v hj=>by
  rw [List.getElem?_drop] at hj
  rw [Addr.add_lit]
  exact hcurx _ _ hj
 have hmn:Nat.min (n+m-i) (n+m-(i+m))=n-i:=nmin_eq (by omega)
 have hmn2:Nat.min m (n+m-i)=m:=nmin_eq (by omega)
 have hdl:(xs.drop (i*12)).length=Nat.min (n+m-i) (n+m-(i+m))*12:=by rw [List.length_drop,hxl,hmn]; omega
 have hcp1:∀ (W:World),W.heap=w.heap→∀ ty dc sc,(Builtin.copy_ #[22,22] ty #[.slice (some ⟨b,(i+m)*12,none⟩) (n+m-(i+m)) dc,.slice (some ⟨b,i*12,none⟩) (n+m-i) sc]).run Tryd.prog W=.ok (goInt (Nat.min (n+m-i) (n+m-(i+m)))) (W.setRow b (laid cur.toList ((i+m)*12) (xs.drop (i*12))).toArray):=fun W hW ty dc sc =>
  run_copyR W Tryd.underlying22 hinf hsz (by rw [hW]; exact hg) hdl (fun j v hj=>by rw [World.cell?_of_block (w:=w) (by rw [hW])]; exact hcell1 j v hj) (fun v hv=>h1x v (List.mem_of_mem_drop hv)) (by rw [hdl,hcs,hmn]; omega)
 generalize hl1:laid cur.toList ((i+m)*12) (xs.drop (i*12))=L1 at hcp1
 have hcl:cur.toList.length=c*12:=by simpa using hcs
 have hfit1:(i+m)*12+(xs.drop (i*12)).length≤cur.toList.length:=by rw [List.length_drop,hxl,hcl]; omega
 have hL1:L1.length=cur.toList.length:=by rw [←hl1]; exact laid_len hfit1
 have hcellv:∀ j v,ys[j]?=some v→w.cell? (Addr.add ⟨vb,0,none⟩ j)=some v:=fun j v hj=>hu.cells (g:=vb) rfl j v hj
 have hcp2:∀ (W:World),W.heap[b]?=some (.cells L1.toArray 32 (0,0))→(∀ x:Addr,x.block≠b→W.cell? x=w.cell? x)→∀ ty dc,(Builtin.copy_ #[22,22] ty #[.slice (some ⟨b,i*12,none⟩) (n+m-i) dc,.slice (some ⟨vb,0,none⟩) m vc]).run Tryd.prog W=.ok (goInt (Nat.min m (n+m-i))) (W.setRow b (laid L1 (i*12) ys).toArray):=fun W hWg hWc ty dc =>
  run_copyR W Tryd.underlying22 hinf hsz hWg (by rw [hyl,hmn2]) (fun j v hj=>by rw [hWc _ (by rw [Addr.add_lit]; exact hne)]; exact hcellv j v hj) h1 (by simp only [List.size_toArray]; omega)
 have hg1:((w.drew).setRow b L1.toArray).heap[b]?=some (.cells L1.toArray 32 (0,0)):=setRow_heap w.drew b cur _ 32 (0,0) hg
 have hoth:∀ x:Addr,x.block≠b→((w.drew).setRow b L1.toArray).cell? x=w.cell? x:=fun x hx=>World.cell?_of_block (w:=w) (setRow_other w.drew b x.block _ hx)
 have hfin:TurnedRecord base w (.slice (some ⟨b,0,none⟩) n c) (n+m) (xs.take (i*12)++ys++xs.drop (i*12)) (.slice (some ⟨b,0,none⟩) (n+m) c) (((w.drew).setRow b L1.toArray).setRow b (laid L1 (i*12) ys).toArray):=by
  have hfit2:i*12+ys.length≤L1.length:=by rw [hyl,hL1,hcl]; omega
  refine ⟨⟨by simp only [List.length_append,List.length_take,List.length_drop]; omega,.inr ⟨b,c,_,rfl,hbb,setRow_heap _ b _ _ 32 (0,0) hg1,hroom,by simp only [maxLen]; omega,by rw [List.size_toArray,laid_len hfit2,hL1,hcl],?_⟩⟩,
   .inl ⟨rfl,by simp,⟨rfl,rfl,rfl,by simp,fun k hk hkb=>?_⟩⟩⟩
  ·rw [List.toList_toArray,take_laid hfit2 (by rw [hyl]; omega),←hl1]
   have e1:(laid cur.toList ((i+m)*12) (xs.drop (i*12))).take (i*12)=xs.take (i*12):=by
    apply List.ext_getElem?
    intro j
    rw [List.getElem?_take,List.getElem?_take,laid_get hfit1]
    by_cases h:j < i*12
    ·rw [if_pos h,if_pos h,if_neg (by omega),←htk,List.getElem?_take,if_pos (by omega)]
    ·rw [if_neg h,if_neg h]
   rw [e1]
   congr 1
   rw [take_laid hfit1 (by rw [List.length_drop,hxl]; omega),hyl]
   apply List.ext_getElem?
   intro j
   rw [List.getElem?_drop]
   have hk1:(List.take ((i+m)*12) cur.toList).length=(i+m)*12:=by rw [List.length_take,hcl]; omega
   by_cases h:j < (n-i)*12
   ·rw [List.getElem?_append_left (by rw [List.length_append,hk1,List.length_drop,hxl]; omega),List.getElem?_append_right (by rw [hk1]; omega),hk1]
    congr 1; omega
   ·rw [List.getElem?_eq_none (by simp only [List.length_append,List.length_drop,List.length_take,hcl,hxl]; omega),List.getElem?_eq_none (by rw [List.length_drop,hxl]; omega)]
  ·rw [setRow_other _ b k _ (fun e=>hkb (by rw [e]; rfl)),setRow_other _ b k _ (fun e=>hkb (by rw [e]; rfl))]
   rfl
 have hcp1':=hcp1 w.drew rfl
 have hcp2':=hcp2 _ hg1 hoth
 go_enter Tryd.func30,Tryd.ntmps30
 go_wp2_with (simp only [hov])
 go_region_law_o (refine step_copy_r rfl _ _ 22 22 rfl _ _ (by simp [Act.eval,Act.put]) (by simp [Act.eval,Act.put]) (hcp1' _ _ _) ?_)
 go_wp2_with (at_builtin; refine wpList_copy_r _ rfl _ _ 22 22 rfl _ _ rfl rfl (hcp2' _ _) ?_)
 go_ret
 exact ⟨_,rfl,hfin⟩
set_option maxRecDepth 100000
set_option maxHeartbeats 4000000
theorem ins_growRecord (w:World) {base b n c i vb m vc:Nat} {xs ys:List Value} (hs:w.ownsRow base 32 12 (.slice (some ⟨b,0,none⟩) n c) n xs) (hu:w.ownsRow base 32 12 (.slice (some ⟨vb,0,none⟩) m vc) m ys) (hi:i < n) (hm:0 < m) (hb:n+m≤1000000000) (hroom:c < n+m) (hbase:base≤w.heap.size)
  (h1x:∀ x∈xs,x.oneCell'=true) (h1:∀ y∈ys,y.oneCell'=true) :
  Calls Tryd.prog 30 #[.slice (some ⟨b,0,none⟩) n c,.int .i64 i,.slice (some ⟨vb,0,none⟩) m vc] w fun e w'=>∃ v',e=.returned v'∧TurnedRecord base w (.slice (some ⟨b,0,none⟩) n c) (n+m) (xs.take (i*12)++ys++xs.drop (i*12)) v' w':=by
 have t3:=Tryd.underlying3; have t22:=Tryd.underlying22
 have u3:=run_underlying Tryd.underlying3; have u22:=run_underlying Tryd.underlying22
 obtain ⟨hbb,hnc,hcm,cur,hg,hcs,htk⟩:=own_cellsRecord hs
 obtain ⟨_,hvc,_,vcur,hgv,hvcs,hvtk⟩:=own_cellsRecord hu
 obtain ⟨inf,hinf,hz,hsz,hby⟩:=in_32
 simp only [maxLen] at hcm
 have mixed:=hMix
 have hz1:¬ ((m:Int)=0):=by omega
 have hz2:¬ ((i:Int)=(n:Int)):=by omega
 have hz3:(c:Int) < (n:Int)+(m:Int):=by omega
 have hbw:b < w.heap.size:=(hs.lt b rfl).2
 have hvw:vb < w.heap.size:=(hu.lt vb rfl).2
 have hkk:(n:Int)+(m:Int) - (i:Int)=((n+m-i:Nat):Int):=by omega
 have hik:i+(n+m-i)=n+m:=by omega
 have hxl:=hs.1
 have hyl:=hu.1
 have hcurx:∀ j x,xs[j]?=some x→w.cell? ⟨b,j,none⟩=some x:=fun j x hj=>by have:=hs.cells (g:=b) rfl j x hj; rwa [Addr.add_lit,Nat.zero_add] at this
 have hold:(Builtin.firstCells inf.size i (.slice (some ⟨b,0,none⟩) i c)).run Tryd.prog w.drew=.ok (xs.take (i*12)).toArray w.drew:=by
  rw [hsz]
  refine run_firstCells_some w.drew 12 i ⟨b,0,none⟩ i c (xs.take (i*12)) (by rw [List.length_take]; omega) (fun j v hj=>?_)
  rw [Addr.add_lit,Nat.zero_add]
  rw [List.getElem?_take] at hj
  split at hj
  ·exact hcurx j v hj
  ·cases hj
 generalize hzv:(Value.agg _)=zv at hz
 have hzc:zv.cells.size=12:=by rw [←hzv]; rfl
 have hrz:∀ ty,(Builtin.append_ #[22,3] ty #[.slice (some ⟨b,0,none⟩) i c,.int .i64 ((n:Int)+(m:Int) - (i:Int))]).run Tryd.prog w =
   .ok (.slice (some ⟨w.heap.size,0,none⟩) (n+m) (grownCap w (n+m) c 32)) (w.drew.alloc (.cells ((xs.take (i*12)).toArray++Builtin.zeroCells zv.cells (n+m-i)++Builtin.zeroCells zv.cells (grownCap w (n+m) c 32-(n+m))) 32)):=fun ty=>by
  have h:=Lib.run_append_grow_zeros w 22 3 ty 32 inf zv .i64 .i64 Tryd.underlying22 Tryd.underlying3 hinf hz (some ⟨b,0,none⟩) i c (xs.take (i*12)) hold (n+m-i) (by omega) (by omega) (by omega) (by omega) (by rw [hby]; omega) (by rw [hik]; exact growslice_fits hroom (by rw [hby]; omega))
  rw [hik] at h
  rw [hkk]
  exact h
 have hGn:n+m≤grownCap w (n+m) c 32:=grownCap_ge w _ _ _
 have hG63:grownCap w (n+m) c 32≤maxLen:=grownCap_le_maxLen w (n+m) c 32 (by unfold maxLen; omega)
 generalize grownCap w (n+m) c 32=G at hrz hGn hG63
 simp only [maxLen] at hG63
 generalize hROW:(xs.take (i*12)).toArray++Builtin.zeroCells zv.cells (n+m-i)++Builtin.zeroCells zv.cells (G-(n+m))=ROW at hrz
 have hRl:ROW.size=G*12:=by
  rw [←hROW]
  simp only [Array.size_append,List.size_toArray,List.length_take,size_zeroCells,hzc,hxl]
  omega
 have hRt:ROW.toList.take (i*12)=xs.take (i*12):=by
  rw [←hROW]
  simp only [Array.toList_append,List.append_assoc]
  rw [List.take_append_of_le_length (by rw [List.length_take]; omega),List.take_of_length_le (by rw [List.length_take]; omega)]
 have hRL:ROW.toList.length=G*12:=by simpa using hRl
 have hmA:Nat.min m (n+m-i)=m:=nmin_eq (by omega)
 have hmB:Nat.min (n-i) (n+m-(i+m))=n-i:=nmin_eq (by omega)
 have hdl:(xs.drop (i*12)).length=(n-i)*12:=by rw [List.length_drop,hxl]; omega
 have hfitA:i*12+ys.length≤ROW.toList.length:=by rw [hyl,hRL]; omega
 have hcpA:∀ (W:World),W.heap[w.heap.size]?=some (.cells ROW 32 (0,0))→(∀ x:Addr,x.block < w.heap.size→W.cell? x=w.cell? x)→∀ ty dc,(Builtin.copy_ #[22,22] ty #[.slice (some ⟨w.heap.size,i*12,none⟩) (n+m-i) dc,.slice (some ⟨vb,0,none⟩) m vc]).run Tryd.prog W=.ok (goInt (Nat.min m (n+m-i))) (W.setRow w.heap.size (laid ROW.toList (i*12) ys).toArray):=fun W hWg hWc ty dc =>
  run_copyR W Tryd.underlying22 hinf hsz hWg (by rw [hyl,hmA]) (fun j v hj=>by rw [hWc _ (by rw [Addr.add_lit]; exact hvw)]; exact hu.cells (g:=vb) rfl j v hj) h1 (by rw [hyl,hRl]; omega)
 generalize hl1:laid ROW.toList (i*12) ys=L1 at hcpA
 have hL1:L1.length=ROW.toList.length:=by rw [←hl1]; exact laid_len hfitA
 have hfitB:(i+m)*12+(xs.drop (i*12)).length≤L1.length:=by rw [hdl,hL1,hRL]; omega
 have hcpB:∀ (W:World),W.heap[w.heap.size]?=some (.cells L1.toArray 32 (0,0))→(∀ x:Addr,x.block < w.heap.size→W.cell? x=w.cell? x)→∀ ty dc sc,(Builtin.copy_ #[22,22] ty #[.slice (some ⟨w.heap.size,(i+m)*12,none⟩) (n+m-(i+m)) dc,.slice (some ⟨b,i*12,none⟩) (n-i) sc]).run Tryd.prog W=.ok (goInt (Nat.min (n-i) (n+m-(i+m)))) (W.setRow w.heap.size (laid L1 ((i+m)*12) (xs.drop (i*12))).toArray):=fun W hWg hWc ty dc sc =>
  run_copyR W Tryd.underlying22 hinf hsz hWg (by rw [hdl,hmB]) (fun j v hj=>by
   rw [hWc _ (by rw [Addr.add_lit]; exact hbw),Addr.add_lit]
   rw [List.getElem?_drop] at hj
   exact hcurx _ _ hj) (fun v hv=>h1x v (List.mem_of_mem_drop hv)) (by simp only [List.size_toArray]; omega)
 generalize hl2:laid L1 ((i+m)*12) (xs.drop (i*12))=L2 at hcpB
 have hL2:L2.length=L1.length:=by rw [←hl2]; exact laid_len hfitB
 have hnewrow:∀ W:World,W.heap=w.heap.push (.cells ROW 32 (0,0))→W.heap[w.heap.size]?=some (.cells ROW 32 (0,0)):=fun W hW=>by rw [hW]; simp
 have hA1:∀ W:World,W.heap=w.heap.push (.cells ROW 32 (0,0))→∀ x:Addr,x.block < w.heap.size→W.cell? x=w.cell? x:=fun W hW x hx=>World.cell?_of_block (w:=w) (by rw [hW,Array.getElem?_push_lt hx]; simp [hx])
 have hB0:∀ W:World,W.heap=w.heap.push (.cells ROW 32 (0,0))→(W.setRow w.heap.size L1.toArray).heap[w.heap.size]?=some (.cells L1.toArray 32 (0,0)):=fun W hW=>setRow_heap W _ ROW _ 32 (0,0) (hnewrow W hW)
 have hB1:∀ W:World,W.heap=w.heap.push (.cells ROW 32 (0,0))→∀ x:Addr,x.block < w.heap.size→(W.setRow w.heap.size L1.toArray).cell? x=w.cell? x:=fun W hW x hx=>(World.cell?_of_block (w:=W) (setRow_other W _ x.block _ (by omega))).trans (hA1 W hW x hx)
 have hfin:∀ W W2:World,W.heap=w.heap.push (.cells ROW 32 (0,0))→W.os=w.os→W.tape=w.tape→W.output=w.output→W2.heap=(W.setRow w.heap.size L1.toArray).heap→W2.os=w.os→W2.tape=w.tape→W2.output=w.output →
   TurnedRecord base w (.slice (some ⟨b,0,none⟩) n c) (n+m) (xs.take (i*12)++ys++xs.drop (i*12)) (.slice (some ⟨w.heap.size,0,none⟩) (n+m) G) (W2.setRow w.heap.size L2.toArray):=by
  intro W W2 hW ho ht hou hW2 ho2 ht2 hou2
  have hg2:W2.heap[w.heap.size]?=some (.cells L1.toArray 32 (0,0)):=by rw [hW2]; exact hB0 W hW
  refine ⟨⟨by simp only [List.length_append,List.length_take,List.length_drop]; omega,.inr ⟨w.heap.size,G,_,rfl,hbase,setRow_heap _ _ _ _ 32 (0,0) hg2,hGn,by simp only [maxLen]; omega,by rw [List.size_toArray,hL2,hL1,hRL],?_⟩⟩,
   .inr ⟨rfl,⟨ho2,ht2,hou2,by simp [hW2,hW],fun k hk=>?_⟩⟩⟩
  ·have e2:(L1.take ((n+m)*12)).drop ((i+m)*12+(xs.drop (i*12)).length)=[]:=List.drop_eq_nil_of_le (by rw [List.length_take,hdl]; omega)
   rw [List.toList_toArray,←hl2,take_laid hfitB (by rw [hdl]; omega),e2,←hl1]
   have e1:(laid ROW.toList (i*12) ys).take ((i+m)*12)=xs.take (i*12)++ys:=by
    rw [take_laid hfitA (by rw [hyl]; omega),hRt,hyl,List.drop_eq_nil_of_le (by rw [List.length_take]; omega),List.append_nil]
   rw [e1,List.append_nil]
  ·rw [setRow_other _ _ k _ (by omega),hW2,setRow_other _ _ k _ (by omega),hW,Array.getElem?_push_lt hk]; simp [hk]
 clear hkk hik hold hROW
 have hGi:¬ (G=i):=by omega
 have hGim:¬ (G=i+m):=by omega
 have hci:¬ (c=i):=by omega
 have hw1:IntKind.i64.wrap ((i:Int)+(m:Int))=(i:Int)+(m:Int):=by rw [IntKind.wrap_i64]; omega
 have hb1:(0:Int)≤(i:Int)+(m:Int):=by omega
 have hin:i≤n:=by omega
 have htn:((i:Int)+(m:Int)).toNat=i+m:=by omega
 have hb3:(i:Int)≤(n:Int):=by omega
 have hcpA':=hcpA (w.alloc (.cells ROW 32)).drew (hnewrow _ rfl) (hA1 _ rfl)
 have hcpB':=hcpB ((w.alloc (.cells ROW 32)).drew.setRow w.heap.size L1.toArray).drew (hB0 _ rfl) (hB1 (w.alloc (.cells ROW 32)).drew rfl)
 have hfin':=hfin (w.alloc (.cells ROW 32)).drew ((w.alloc (.cells ROW 32)).drew.setRow w.heap.size L1.toArray).drew rfl rfl rfl rfl rfl rfl rfl rfl
 go_enter Tryd.func30,Tryd.ntmps30
 go_wp2_with (first
  | (at_builtin; refine Lib.wpList_append_run _ rfl _ _ _ _ rfl _ _ rfl rfl _ _ (hrz _) ?_)
  | (at_builtin; refine wpList_copy_r _ rfl _ _ 22 22 rfl _ _ rfl rfl (hcpA' _ _) ?_))
 go_region_law_o (refine step_copy_r rfl _ _ 22 22 rfl _ _ (by simp [Act.eval,Act.put]) (by simp [Act.eval,Act.put]) (hcpB' _ _ _) ?_)
 go_wp2
 go_ret
 exact ⟨_,rfl,hfin'⟩
set_option maxRecDepth 100000
set_option maxHeartbeats 4000000
theorem ins_empRecord (w:World) {base m:Nat} {A:Option Addr} {u:Value} {ys:List Value} (hu:w.ownsRow base 32 12 u m ys) (hm:0 < m) (hb:m≤1000000000) (hbase:base≤w.heap.size) (h1:∀ y∈ys,y.oneCell'=true) :
  Calls Tryd.prog 30 #[.slice A 0 0,.int .i64 0,u] w fun e w'=>∃ v',e=.returned v'∧TurnedRecord base w (.slice none 0 0) m ys v' w':=by
 have t3:=Tryd.underlying3; have t22:=Tryd.underlying22
 have u3:=run_underlying Tryd.underlying3; have u22:=run_underlying Tryd.underlying22
 have hz1:¬ ((m:Int)=0):=by omega
 obtain ⟨i,hi,hz,hsz,hby⟩:=in_32
 have hs:=World.ownsRow_nil w base 32 12
 obtain ⟨v',w',hrun,hown,_,hc⟩:=run_append3 (P:=Tryd.prog) (ty:=22) w Tryd.underlying22 Tryd.underlying22 (.inr ⟨_,rfl⟩) hi hz hsz (by rfl) hs (src_ownRecord hu h1) (by simp only [maxLen]; omega) (by rw [hby]; omega) hbase
 rw [Nat.zero_add,List.nil_append] at hown
 have hrun':=((append_emp (ty:=22) Tryd.underlying22 Tryd.underlying22 (.inr ⟨_,rfl⟩) hi hz hsz (src_ownRecord hu h1) (by omega) (by rw [hby]; omega) A).2 (by omega)).trans hrun
 rcases hu.2 with ⟨_,h0⟩ | ⟨vb,vc,vcur,rfl,_⟩
 ·omega
 cases A with
 | none =>
  go_enter Tryd.func30,Tryd.ntmps30
  go_wp2_with (at_builtin; refine Lib.wpList_append_run _ rfl _ _ _ _ rfl _ _ rfl rfl _ _ hrun' ?_)
  all_goals (go_ret; exact ⟨_,rfl,hown,hc⟩)
 | some A =>
  obtain ⟨ab,ao,asp⟩:=A
  go_enter Tryd.func30,Tryd.ntmps30
  go_wp2_with (at_builtin; refine Lib.wpList_append_run _ rfl _ _ _ _ rfl _ _ rfl rfl _ _ hrun' ?_)
  all_goals (go_ret; exact ⟨_,rfl,hown,hc⟩)
theorem ins_worldRecord (w:World) {base n m i:Nat} {v u:Value} {xs ys:List Value} (hs:w.ownsRow base 32 12 v n xs) (hu:w.ownsRow base 32 12 u m ys) (hne:∀ b,v.ownBlock=some b→u.ownBlock≠some b) (hi:i≤n) (hm:0 < m) (hb:n+m≤1000000000) (hbase:base≤w.heap.size)
  (h1x:∀ x∈xs,x.oneCell'=true) (h1:∀ y∈ys,y.oneCell'=true) :
  Calls Tryd.prog 30 #[v,.int .i64 i,u] w fun e w'=>∃ v',e=.returned v'∧TurnedRecord base w v (n+m) (xs.take (i*12)++ys++xs.drop (i*12)) v' w':=by
 by_cases hin:i=n
 ·subst hin
  have hxl:=hs.1
  rw [List.take_of_length_le (by omega),List.drop_eq_nil_of_le (by omega),List.append_nil]
  exact ins_endRecord w hs hu hm hb hbase h1
 ·obtain ⟨b,c,rfl⟩:=(own_form hs).2 (by omega)
  obtain ⟨vb,vc,rfl⟩:=(own_form hu).2 (by omega)
  by_cases hr:n+m≤c
  ·exact ins_shiftRecord w hs hu (fun e=>hne b rfl (by rw [e]; rfl)) (by omega) hm hb hr h1x h1
  ·exact ins_growRecord w hs hu (by omega) hm hb (by omega) hbase h1x h1
theorem c_x_InsertRecord {l l':List Record} {n0 n1:Nat} {i:Int} {r:List Record} (H:x_InsertRecord i l l'=some r) :
  ACallS Tryd.prog 30 [.vc 0 n0,.d (cI i),.vc 1 n1] ⟨[],[⟨32,12,n0,some (l.map Record.row)⟩,⟨32,12,n1,some (l'.map Record.row)⟩]⟩
   (QE (.vc 2 r.length) ⟨[],[⟨32,12,([]:List Record).length,none⟩,⟨32,12,n1,some (l'.map Record.row)⟩,⟨32,12,r.length,some (r.map Record.row)⟩]⟩):=by
 obtain ⟨hk,H⟩:=ck_some H
 cases H
 intro g w base vs hinv ha
 obtain ⟨x,y,z,rfl,e1,e2,e3⟩:=args3 rfl ha
 obtain ⟨k0,k1,k2,k3⟩:=hk
 have e2':y=.int .i64 i:=e2.ex_inv
 subst e2'
 obtain ⟨xs,s1,s2,s3⟩:=hinv.own 0 _ _ _ _ rfl
 obtain ⟨ys,u1,u2,u3⟩:=hinv.own 1 _ _ _ _ rfl
 have hn0:n0=l.length:=by have:=s3.len; simpa using this.symm
 have hn1:n1=l'.length:=by have:=u3.len; simpa using this.symm
 have hz:z=g.tk 1:=by
  rcases vc_or hinv rfl e3 with h | ⟨_,h,_⟩
  ·exact h
  ·have:l'=[]:=by simpa using h
   rw [this] at k2; simp at k2
 subst hz
 obtain ⟨j,rfl⟩:∃ j:Nat,i=(j:Int):=⟨i.toNat,by omega⟩
 have hrow:=s3.repl s1.1 u3 u1.1 (i:=j) (j:=j) (Nat.le_refl _) (by omega)
 have hrows:(l.map Record.row).take j++l'.map Record.row++(l.map Record.row).drop j=(l.take j++l'++l.drop j).map Record.row:=by simp [List.map_take,List.map_drop]
 rw [hrows,show j+n1+(n0-j)=n0+n1 from by omega] at hrow
 have hlen:(l.take j++l'++l.drop j).length=n0+n1:=by simp; omega
 have h1x:=s3.one s1.1
 have h1y:=u3.one u1.1
 have fin:∀ v0:Value,(v0.ownBlock=(g.tk 0).ownBlock∨v0.ownBlock=none∧0 < n0+n1)→∀ e w',(∃ v',e=.returned v'∧TurnedRecord base w v0 (n0+n1) (xs.take (j*12)++ys++xs.drop (j*12)) v' w') →
   RPost ⟨g,w,⟨[],[⟨32,12,n0,some (l.map Record.row)⟩,⟨32,12,n1,some (l'.map Record.row)⟩]⟩,base⟩ (QE (.vc 2 (l.take (j:Int).toNat++l'++l.drop (j:Int).toNat).length) ⟨[],[⟨32,12,([]:List Record).length,none⟩,⟨32,12,n1,some (l'.map Record.row)⟩,⟨32,12,(l.take (j:Int).toNat++l'++l.drop (j:Int).toNat).length,some ((l.take (j:Int).toNat++l'++l.drop (j:Int).toNat).map Record.row)⟩]⟩) e w':=by
  rintro v0 hv0 e w' ⟨v',rfl,ho,hc⟩
  rw [Int.toNat_natCast,hlen]
  refine renew_post hinv (tk:=0) rfl rfl ho ?_ hrow
  rcases hc with ⟨c1,c2,c3⟩ | hc
  ·rcases hv0 with hv0 | ⟨hv0,hp⟩
   ·rw [hv0] at c1 c3
    exact .inl ⟨c1,c2,c3⟩
   ·rw [hv0] at c1
    obtain ⟨b,c,hv'⟩:=(own_form ho).2 (by omega)
    rw [hv'] at c1
    cases c1
  ·exact .inr hc
 rcases vc_or hinv rfl e1 with hx | ⟨h0,hl0,A,hx⟩
 ·subst hx
  refine (ins_worldRecord w s1 u1 (fun b h1 h2=>hinv.tailNe 0 1 _ _ b (by decide) rfl rfl h1 h2) (i:=j) (by omega) (by omega) (by omega) hinv.base h1x h1y).mono ?_
  exact fin _ (.inl rfl)
 ·subst hx
  have hj:j=0:=by omega
  subst hj
  have hxs:xs=[]:=List.eq_nil_of_length_eq_zero (by rw [s1.1,h0,Nat.zero_mul])
  subst hxs
  refine (ins_empRecord w (A:=A) u1 (by omega) (by omega) hinv.base h1y).mono fun e w' hh=>fin (.slice none 0 0) (.inr ⟨rfl,by omega⟩) e w' ?_
  rw [h0,Nat.zero_add]
  simpa using hh
set_option maxRecDepth 100000
set_option maxHeartbeats 4000000
theorem rep_endRecord (w:World) {base b n c i m uc:Nat} {A:Option Addr} {xs ys:List Value} (hs:w.ownsRow base 32 12 (.slice (some ⟨b,0,none⟩) n c) n xs) (hu:Go.Abs.Src Tryd.prog w 12 (.slice A m uc) m ys) (hi:i < n) (hm:m≤n-i) (hb:n≤1000000000) :
  Calls Tryd.prog 55 #[.slice (some ⟨b,0,none⟩) n c,.int .i64 i,.int .i64 n,.slice A m uc] w fun e w'=>∃ v',e=.returned v'∧TurnedRecord base w (.slice (some ⟨b,0,none⟩) n c) (i+m) (xs.take (i*12)++ys) v' w':=by
 have t3:=Tryd.underlying3; have t22:=Tryd.underlying22
 have u3:=run_underlying Tryd.underlying3; have u22:=run_underlying Tryd.underlying22
 obtain ⟨hbb,hnc,hcm,cur,hg,hcs,htk⟩:=own_cellsRecord hs
 obtain ⟨inf,hinf,hz,hsz,hby⟩:=in_32
 simp only [maxLen] at hcm
 generalize hzv:(Value.agg _)=zv at hz
 have hzc:zv.cells.size=12:=by rw [←hzv]; rfl
 have hz1:∀ v∈(Builtin.zeroCells zv.cells (n-(i+m))).toList,v.oneCell'=true:=zeroCells_one (by rw [hzc,←hzv]; decide)
 have hz2:¬ ((i:Int)=(n:Int)):=by omega
 have hxl:=hs.1
 have hyl:=hu.size
 have hcl:cur.toList.length=c*12:=by simpa using hcs
 have hfit1:i*12+ys.length≤cur.toList.length:=by rw [hyl,hcl]; omega
 have hrun:∀ ty,(Builtin.append_ #[22,22] ty #[.slice (some ⟨b,0,none⟩) i c,.slice A m uc]).run Tryd.prog w=.ok (.slice (some ⟨b,0,none⟩) (i+m) c) (w.setRow b (laid cur.toList (i*12) ys).toArray):=fun ty =>
  run_appendR w Tryd.underlying22 hinf hsz hg (by omega) (hu.cells w rfl) hu.one (by rw [←Array.length_toList]; exact hfit1)
 generalize hl1:laid cur.toList (i*12) ys=L1 at hrun
 have hL1:L1.length=cur.toList.length:=by rw [←hl1]; exact laid_len hfit1
 have hg1:(w.setRow b L1.toArray).heap[b]?=some (.cells L1.toArray 32 (0,0)):=setRow_heap w b cur _ 32 (0,0) hg
 have hT1:L1.take ((i+m)*12)=xs.take (i*12)++ys:=by
  have e1:(cur.toList.take ((i+m)*12)).drop (i*12+ys.length)=[]:=List.drop_eq_nil_of_le (by rw [List.length_take,hyl]; omega)
  rw [←hl1,take_laid hfit1 (by rw [hyl]; omega),e1,List.append_nil,←htk,List.take_take,show min (i*12) (n*12)=i*12 from by omega]
 have hlen:(xs.take (i*12)++ys).length=(i+m)*12:=by simp only [List.length_append,List.length_take]; omega
 have hin:i≤n:=by omega
 have hb0:(0:Int)≤(i:Int):=by omega
 have hci:¬ (c=i):=by omega
 by_cases hmn:i+m=n
 ·have hlt:¬ ((i:Int)+(m:Int) < (n:Int)):=by omega
  have hlt2:¬ (i+m < n):=by omega
  have hlt3:¬ (((i+m:Nat):Int) < (n:Int)):=by omega
  have hfin:TurnedRecord base w (.slice (some ⟨b,0,none⟩) n c) (i+m) (xs.take (i*12)++ys) (.slice (some ⟨b,0,none⟩) (i+m) c) (w.setRow b L1.toArray) :=
   ⟨⟨hlen,.inr ⟨b,c,_,rfl,hbb,hg1,by omega,by simp only [maxLen]; omega,by rw [List.size_toArray,hL1,hcl],by rw [List.toList_toArray,hT1]⟩⟩,.inl ⟨rfl,by simp,⟨rfl,rfl,rfl,by simp,fun k hk hkb=>setRow_other _ b k _ (fun e=>hkb (by rw [e]; rfl))⟩⟩⟩
  rw [hmn] at hfin
  go_enter Tryd.func55,Tryd.ntmps55
  go_wp2_with (at_builtin; refine Lib.wpList_append_run _ rfl _ _ _ _ rfl _ _ rfl rfl _ _ (hrun _) ?_)
  all_goals (go_ret; exact ⟨_,rfl,hfin⟩)
 ·have hlt:(i:Int)+(m:Int) < (n:Int):=by omega
  have hlt2:i+m < n:=by omega
  have hfitz:(i+m)*12+(Builtin.zeroCells zv.cells (n-(i+m))).toList.length≤L1.length:=by rw [Array.length_toList,size_zeroCells,hzc,hL1,hcl]; omega
  have hclr:∀ ty dc,(Builtin.clear_ #[22] ty #[.slice (some ⟨b,(i+m)*12,none⟩) (n-(i+m)) dc]).run Tryd.prog (w.setRow b L1.toArray)=.ok (.tuple #[]) ((w.setRow b L1.toArray).setRow b (laid L1 ((i+m)*12) (Builtin.zeroCells zv.cells (n-(i+m))).toList).toArray):=fun ty dc=>by
   have:=run_clearR (P:=Tryd.prog) (ty:=ty) (c:=dc) (w.setRow b L1.toArray) (o:=(i+m)*12) (n:=n-(i+m)) Tryd.underlying22 hinf hz hzc hg1 (by omega) (by rw [List.size_toArray,hL1,hcl]; omega) hz1
   exact this
  generalize hl2:laid L1 ((i+m)*12) (Builtin.zeroCells zv.cells (n-(i+m))).toList=L2 at hclr
  have hL2:L2.length=L1.length:=by rw [←hl2]; exact laid_len hfitz
  have hT2:L2.take ((i+m)*12)=xs.take (i*12)++ys:=by rw [←hl2,take_laid0 hfitz (Nat.le_refl _),hT1]
  have hcim:¬ (c=i+m):=by omega
  have hle:i+m≤n:=by omega
  have hfin:TurnedRecord base w (.slice (some ⟨b,0,none⟩) n c) (i+m) (xs.take (i*12)++ys) (.slice (some ⟨b,0,none⟩) (i+m) c) ((w.setRow b L1.toArray).setRow b L2.toArray) :=
   ⟨⟨hlen,.inr ⟨b,c,_,rfl,hbb,setRow_heap _ b _ _ 32 (0,0) hg1,by omega,by simp only [maxLen]; omega,by rw [List.size_toArray,hL2,hL1,hcl],by rw [List.toList_toArray,hT2]⟩⟩,
    .inl ⟨rfl,by simp,⟨rfl,rfl,rfl,by simp,fun k hk hkb=>by rw [setRow_other _ b k _ (fun e=>hkb (by rw [e]; rfl)),setRow_other _ b k _ (fun e=>hkb (by rw [e]; rfl))]⟩⟩⟩
  go_enter Tryd.func55,Tryd.ntmps55
  go_wp2_with (first
   | (at_builtin; refine Lib.wpList_append_run _ rfl _ _ _ _ rfl _ _ rfl rfl _ _ (hrun _) ?_)
   | (at_builtin; refine wpList_clear_r _ rfl _ 22 rfl _ rfl (hclr _ _) ?_))
  all_goals (go_ret; exact ⟨_,rfl,hfin⟩)
set_option maxRecDepth 100000
set_option maxHeartbeats 4000000
theorem rep_midRecord (w:World) {base b n c i j m uc:Nat} {A:Option Addr} {xs ys:List Value} (hs:w.ownsRow base 32 12 (.slice (some ⟨b,0,none⟩) n c) n xs) (hu:Go.Abs.Src Tryd.prog w 12 (.slice A m uc) m ys) (hi:i < j) (hj:j < n) (hm:m≤j-i) (hb:n≤1000000000) (h1x:∀ x∈xs,x.oneCell'=true) :
  Calls Tryd.prog 55 #[.slice (some ⟨b,0,none⟩) n c,.int .i64 i,.int .i64 j,.slice A m uc] w fun e w'=>∃ v',e=.returned v'∧TurnedRecord base w (.slice (some ⟨b,0,none⟩) n c) (i+m+(n-j)) (xs.take (i*12)++ys++xs.drop (j*12)) v' w':=by
 have t3:=Tryd.underlying3; have t22:=Tryd.underlying22
 have u3:=run_underlying Tryd.underlying3; have u22:=run_underlying Tryd.underlying22
 obtain ⟨hbb,hnc,hcm,cur,hg,hcs,htk⟩:=own_cellsRecord hs
 obtain ⟨inf,hinf,hz,hsz,hby⟩:=in_32
 simp only [maxLen] at hcm
 have mixed:=hMix
 generalize hzv:(Value.agg _)=zv at hz
 have hzc:zv.cells.size=12:=by rw [←hzv]; rfl
 have hxl:=hs.1
 have hyl:=hu.size
 have hcl:cur.toList.length=c*12:=by simpa using hcs
 obtain ⟨T,hT⟩:∃ T,i+m+(n-j)=T:=⟨_,rfl⟩
 have hTi:(i:Int)+(m:Int)+((n-j:Nat):Int)=(T:Int):=by omega
 have hTn:T≤n:=by omega
 have hz1:∀ v∈(Builtin.zeroCells zv.cells (n-T)).toList,v.oneCell'=true:=zeroCells_one (by rw [hzc,←hzv]; decide)
 have hne1:¬ ((i:Int)=(j:Int)):=by omega
 have hne2:¬ ((j:Int)=(n:Int)):=by omega
 have hw1:IntKind.i64.wrap ((i:Int)+(m:Int))=(i:Int)+(m:Int):=by rw [IntKind.wrap_i64]; omega
 have hw2:IntKind.i64.wrap ((i:Int)+(m:Int)+((n-j:Nat):Int))=(T:Int):=by rw [IntKind.wrap_i64]; omega
 have htc:¬ ((c:Int) < (T:Int)):=by omega
 have hb1:(0:Int)≤(i:Int)+(m:Int):=by omega
 have htn:((i:Int)+(m:Int)).toNat=i+m:=by omega
 have hle1:(i:Int)+(m:Int)≤(j:Int):=by omega
 have hle2:(i:Int)+(m:Int)≤(T:Int):=by omega
 have hTc:T≤c:=by omega
 have hin:i≤n:=by omega
 have hin2:i≤c:=by omega
 have hiT:i≤T:=by omega
 have hjn:j≤n:=by omega
 have hij:i≤j:=by omega
 have hci:¬ (c=i):=by omega
 have hcj:¬ (c=j):=by omega
 have hcim:¬ (c=i+m):=by omega
 -- the first copy
 have hfit1:i*12+ys.length≤cur.toList.length:=by rw [hyl,hcl]; omega
 have hcp1:∀ ty dc,(Builtin.copy_ #[22,22] ty #[.slice (some ⟨b,i*12,none⟩) (T-i) dc,.slice A m uc]).run Tryd.prog w.drew=.ok (goInt m) (w.drew.setRow b (laid cur.toList (i*12) ys).toArray):=fun ty dc =>
  run_copyS w.drew Tryd.underlying22 hinf hsz hg (by omega) (hu.cells _ rfl) hu.one (by rw [←Array.length_toList]; exact hfit1)
 generalize hl1:laid cur.toList (i*12) ys=L1 at hcp1
 have hL1:L1.length=cur.toList.length:=by rw [←hl1]; exact laid_len hfit1
 have hg1:(w.drew.setRow b L1.toArray).heap[b]?=some (.cells L1.toArray 32 (0,0)):=setRow_heap w.drew b cur _ 32 (0,0) hg
 -- the second one
 have hdl:(xs.drop (j*12)).length=(n-j)*12:=by rw [List.length_drop,hxl]; omega
 have hcell:∀ k v,(xs.drop (j*12))[k]?=some v→(w.drew.setRow b L1.toArray).drew.cell? (Addr.add ⟨b,j*12,none⟩ k)=some v:=fun k v hk=>by
  have hkl:=(List.getElem?_eq_some_iff.1 hk).1
  rw [List.getElem?_drop] at hk
  rw [Addr.add_lit]
  have:(w.drew.setRow b L1.toArray).drew.cell? ⟨b,j*12+k,none⟩=L1[j*12+k]?:=by
   have:=cell_of_row (w.drew.setRow b L1.toArray) b (j*12+k) L1.toArray 32 (0,0) hg1
   simpa using this
  rw [this,←hl1,laid_get hfit1,if_neg (by rw [hyl]; omega),←hk,←htk,List.getElem?_take,if_pos (by omega)]
 have hmnB:Nat.min (n-j) (T-(i+m))=n-j:=nmin_eq (by omega)
 have hfit2:(i+m)*12+(xs.drop (j*12)).length≤L1.length:=by rw [hdl,hL1,hcl]; omega
 have hcp2:∀ ty dc sc,(Builtin.copy_ #[22,22] ty #[.slice (some ⟨b,(i+m)*12,none⟩) (T-(i+m)) dc,.slice (some ⟨b,j*12,none⟩) (n-j) sc]).run Tryd.prog (w.drew.setRow b L1.toArray).drew=.ok (goInt (Nat.min (n-j) (T-(i+m)))) ((w.drew.setRow b L1.toArray).drew.setRow b (laid L1 ((i+m)*12) (xs.drop (j*12))).toArray):=fun ty dc sc =>
  run_copyR (w.drew.setRow b L1.toArray).drew Tryd.underlying22 hinf hsz hg1 (by rw [hdl,hmnB]) hcell (fun v hv=>h1x v (List.mem_of_mem_drop hv)) (by rw [←Array.length_toList]; exact hfit2)
 generalize hl2:laid L1 ((i+m)*12) (xs.drop (j*12))=L2 at hcp2
 have hL2:L2.length=L1.length:=by rw [←hl2]; exact laid_len hfit2
 have hg2:((w.drew.setRow b L1.toArray).drew.setRow b L2.toArray).heap[b]?=some (.cells L2.toArray 32 (0,0)):=setRow_heap (w.drew.setRow b L1.toArray).drew b _ _ 32 (0,0) hg1
 have hT1:L1.take ((i+m)*12)=xs.take (i*12)++ys:=by
  have e1:(cur.toList.take ((i+m)*12)).drop (i*12+ys.length)=[]:=List.drop_eq_nil_of_le (by rw [List.length_take,hyl]; omega)
  rw [←hl1,take_laid hfit1 (by rw [hyl]; omega),e1,List.append_nil,←htk,List.take_take,show min (i*12) (n*12)=i*12 from by omega]
 have hT2:L2.take (T*12)=xs.take (i*12)++ys++xs.drop (j*12):=by
  have e1:(L1.take (T*12)).drop ((i+m)*12+(xs.drop (j*12)).length)=[]:=List.drop_eq_nil_of_le (by rw [List.length_take,hdl]; omega)
  rw [←hl2,take_laid hfit2 (by rw [hdl]; omega),e1,List.append_nil,hT1]
 have hlen:(xs.take (i*12)++ys++xs.drop (j*12)).length=T*12:=by simp only [List.length_append,List.length_take,List.length_drop]; omega
 rw [hT]
 have hos:∀ k,k < w.heap.size→some k≠Value.ownBlock (.slice (some ⟨b,0,none⟩) n c)→((w.drew.setRow b L1.toArray).drew.setRow b L2.toArray).heap[k]?=w.heap[k]?:=fun k hk hkb=>by
  rw [setRow_other _ b k _ (fun e=>hkb (by rw [e]; rfl))]
  show (w.drew.setRow b L1.toArray).heap[k]?=_
  rw [setRow_other _ b k _ (fun e=>hkb (by rw [e]; rfl))]; rfl
 by_cases hTe:T=n
 ·have hfin:TurnedRecord base w (.slice (some ⟨b,0,none⟩) n c) T (xs.take (i*12)++ys++xs.drop (j*12)) (.slice (some ⟨b,0,none⟩) T c) ((w.drew.setRow b L1.toArray).drew.setRow b L2.toArray) :=
   ⟨⟨hlen,.inr ⟨b,c,_,rfl,hbb,hg2,hTc,by simp only [maxLen]; omega,by rw [List.size_toArray,hL2,hL1,hcl],by rw [List.toList_toArray,hT2]⟩⟩,.inl ⟨rfl,by simp,⟨rfl,rfl,rfl,by simp,hos⟩⟩⟩
  have hclr:∀ (W:World) (A:Option Addr) ty dc,(Builtin.clear_ #[22] ty #[.slice A 0 dc]).run Tryd.prog W=.ok (.tuple #[]) W:=fun W A ty dc=>run_clear_none W Tryd.underlying22
  have hz0:n-T=0:=by omega
  clear hTe
  rw [List.append_assoc] at hfin ⊢
  rcases Decidable.em (c=T) with hcT | hcT
  ·subst hcT
   go_enter Tryd.func55,Tryd.ntmps55
   go_wp2
   go_region
   go_wp2_with (at_builtin; refine wpList_copy_r _ rfl _ _ 22 22 rfl _ _ rfl rfl (hcp1 _ _) ?_)
   go_region_law_o (refine step_copy_r rfl _ _ 22 22 rfl _ _ (by simp [Act.eval,Act.put]) (by simp [Act.eval,Act.put]) (hcp2 _ _ _) ?_)
   go_wp2_with (at_builtin; refine wpList_clear_r _ rfl _ 22 rfl _ rfl (hclr _ _ _ _) ?_)
   all_goals (go_ret; exact ⟨_,rfl,hfin⟩)
  ·go_enter Tryd.func55,Tryd.ntmps55
   go_wp2
   go_region
   go_wp2_with (at_builtin; refine wpList_copy_r _ rfl _ _ 22 22 rfl _ _ rfl rfl (hcp1 _ _) ?_)
   go_region_law_o (refine step_copy_r rfl _ _ 22 22 rfl _ _ (by simp [Act.eval,Act.put]) (by simp [Act.eval,Act.put]) (hcp2 _ _ _) ?_)
   go_wp2_with (at_builtin; refine wpList_clear_r _ rfl _ 22 rfl _ rfl (hclr _ _ _ _) ?_)
   all_goals (go_ret; exact ⟨_,rfl,hfin⟩)
 ·have hfitz:T*12+(Builtin.zeroCells zv.cells (n-T)).toList.length≤L2.length:=by rw [Array.length_toList,size_zeroCells,hzc,hL2,hL1,hcl]; omega
  have hclr:∀ ty dc,(Builtin.clear_ #[22] ty #[.slice (some ⟨b,T*12,none⟩) (n-T) dc]).run Tryd.prog ((w.drew.setRow b L1.toArray).drew.setRow b L2.toArray)=.ok (.tuple #[]) (((w.drew.setRow b L1.toArray).drew.setRow b L2.toArray).setRow b (laid L2 (T*12) (Builtin.zeroCells zv.cells (n-T)).toList).toArray):=fun ty dc=>by
   have:=run_clearR (P:=Tryd.prog) (ty:=ty) (c:=dc) ((w.drew.setRow b L1.toArray).drew.setRow b L2.toArray) (o:=T*12) (n:=n-T) Tryd.underlying22 hinf hz hzc hg2 (by omega) (by rw [List.size_toArray,hL2,hL1,hcl]; omega) hz1
   exact this
  generalize hl3:laid L2 (T*12) (Builtin.zeroCells zv.cells (n-T)).toList=L3 at hclr
  have hL3:L3.length=L2.length:=by rw [←hl3]; exact laid_len hfitz
  have hT3:L3.take (T*12)=xs.take (i*12)++ys++xs.drop (j*12):=by rw [←hl3,take_laid0 hfitz (Nat.le_refl _),hT2]
  have hcT:¬ (c=T):=by omega
  have hfin:TurnedRecord base w (.slice (some ⟨b,0,none⟩) n c) T (xs.take (i*12)++ys++xs.drop (j*12)) (.slice (some ⟨b,0,none⟩) T c) (((w.drew.setRow b L1.toArray).drew.setRow b L2.toArray).setRow b L3.toArray) :=
   ⟨⟨hlen,.inr ⟨b,c,_,rfl,hbb,setRow_heap _ b _ _ 32 (0,0) hg2,hTc,by simp only [maxLen]; omega,by rw [List.size_toArray,hL3,hL2,hL1,hcl],by rw [List.toList_toArray,hT3]⟩⟩,.inl ⟨rfl,by simp,⟨rfl,rfl,rfl,by simp,fun k hk hkb=>by rw [setRow_other _ b k _ (fun e=>hkb (by rw [e]; rfl))]; exact hos k hk hkb⟩⟩⟩
  rw [List.append_assoc] at hfin ⊢
  go_enter Tryd.func55,Tryd.ntmps55
  go_wp2
  go_region
  go_wp2_with (at_builtin; refine wpList_copy_r _ rfl _ _ 22 22 rfl _ _ rfl rfl (hcp1 _ _) ?_)
  go_region_law_o (refine step_copy_r rfl _ _ 22 22 rfl _ _ (by simp [Act.eval,Act.put]) (by simp [Act.eval,Act.put]) (hcp2 _ _ _) ?_)
  go_wp2_with (at_builtin; refine wpList_clear_r _ rfl _ 22 rfl _ rfl (hclr _ _) ?_)
  all_goals (go_ret; exact ⟨_,rfl,hfin⟩)
set_option maxRecDepth 100000
set_option maxHeartbeats 4000000
theorem c_x_ReplaceRecord {l l':List Record} {n0:Nat} {i j:Int} {r:List Record} (H:x_ReplaceRecord i j l' l=some r) :
  ACallS Tryd.prog 55 [.vc 0 n0,.d (cI i),.d (cI j),.d (slOf 12 Record.row l')] ⟨[],[⟨32,12,n0,some (l.map Record.row)⟩]⟩
   (QE (.vc 1 r.length) ⟨[],[⟨32,12,([]:List Record).length,none⟩,⟨32,12,r.length,some (r.map Record.row)⟩]⟩):=by
 obtain ⟨hk,H⟩:=ck_some H
 cases H
 intro g w base vs hinv ha
 obtain ⟨x,y,z,u,rfl,e1,e2,e3,e4⟩:=args4 rfl ha
 obtain ⟨k0,k1,k2,k3,k4⟩:=hk
 have e2':y=.int .i64 i:=e2.ex_inv
 have e3':z=.int .i64 j:=e3.ex_inv
 subst e2'; subst e3'
 obtain ⟨xs,s1,s2,s3⟩:=hinv.own 0 _ _ _ _ rfl
 have hn0:n0=l.length:=by have:=s3.len; simpa using this.symm
 have e4':DRep g.lim w (.sl 12 (l'.map Record.row)) u:=by cases e4 with | d _ _ h=>exact h
 obtain ⟨ys,hsr⟩:=srcRep_sl (P:=Tryd.prog) e4'
 obtain ⟨A,uc,hu⟩:=sl_form e4'
 have hsrc:=hsr.src
 rw [List.length_map] at hu hsrc
 subst hu
 have hx:x=g.tk 0:=by
  rcases vc_or hinv rfl e1 with h | ⟨_,h,_⟩
  ·exact h
  ·have:l=[]:=by simpa using h
   rw [this] at k2; simp at k2; omega
 subst hx
 obtain ⟨i',rfl⟩:∃ q:Nat,i=(q:Int):=⟨i.toNat,by omega⟩
 obtain ⟨j',rfl⟩:∃ q:Nat,j=(q:Int):=⟨j.toNat,by omega⟩
 have hys:RowsRep g.lim w 12 l'.length (l'.map Record.row) ys:=⟨by simp,hsr.rows,fun q c v hc hv=>hsr.rep q v c hv hc⟩
 have hrow:=s3.repl s1.1 hys hsrc.size (i:=i') (j:=j') (by omega) (by omega)
 have hrows:(l.map Record.row).take i'++l'.map Record.row++(l.map Record.row).drop j'=(l.take i'++l'++l.drop j').map Record.row:=by simp [List.map_take,List.map_drop]
 rw [hrows] at hrow
 have hlen:(l.take i'++l'++l.drop j').length=i'+l'.length+(n0-j'):=by simp; omega
 obtain ⟨b,c,hv⟩:=(own_form s1).2 (by omega)
 have h1x:=s3.one s1.1
 have fin:∀ e w',(∃ v',e=.returned v'∧TurnedRecord base w (g.tk 0) (i'+l'.length+(n0-j')) (xs.take (i'*12)++ys++xs.drop (j'*12)) v' w') →
   RPost ⟨g,w,⟨[],[⟨32,12,n0,some (l.map Record.row)⟩]⟩,base⟩ (QE (.vc 1 (l.take (i':Int).toNat++l'++l.drop (j':Int).toNat).length) ⟨[],[⟨32,12,([]:List Record).length,none⟩,⟨32,12,(l.take (i':Int).toNat++l'++l.drop (j':Int).toNat).length,some ((l.take (i':Int).toNat++l'++l.drop (j':Int).toNat).map Record.row)⟩]⟩) e w':=by
  rintro e w' ⟨v',rfl,ho,hc⟩
  rw [Int.toNat_natCast,Int.toNat_natCast,hlen]
  exact renew_post hinv (tk:=0) rfl rfl ho hc hrow
 refine Calls.mono ?_ fin
 have s1':=s1
 rw [hv] at s1' ⊢
 by_cases hjn:j'=n0
 ·subst hjn
  have:=rep_endRecord w s1' hsrc (i:=i') (by omega) (by omega) (by omega)
  rw [Nat.sub_self,Nat.add_zero,List.drop_eq_nil_of_le (by rw [s1.1]; exact Nat.le_refl _),List.append_nil]
  exact this
 ·exact rep_midRecord w s1' hsrc (by omega) (by omega) (by omega) (by omega) h1x
theorem c_x_CloneRecordV {l r:List Record} (H:x_CloneRecord l=some r):ACallS Tryd.prog 28 [.d (slOf 12 Record.row l)] ⟨[],[]⟩ (QE (.vc 0 r.length) ⟨[],[⟨32,12,r.length,some (r.map Record.row)⟩]⟩):=by
 obtain ⟨hk,H⟩:=ck_some H
 cases H
 obtain ⟨i32,hi32,hz32,hs32,hb32⟩:=in_32
 refine ACallS.keep ?_
 refine ACallS.enter Tryd.func28 rfl Tryd.ntmps28 rfl fun S hS=>?_
 refine .B 8 [] rfl trivial ?_
 refine .slNil Tryd.underlying22 rfl rfl fun b hb=>?_
 refine .A 1 [] rfl trivial ?_
 refine .cond rfl (fun hc=>?_) (fun hc=>?_)
 ·have hl:l=[]:=by simpa using hb hc
  subst hl
  refine .A 4 [] rfl trivial ?_
  refine .tokV (i:=2) (e:=32) (sz:=12) rfl ?_
  refine .R Tryd.func28 Tryd.results28 rfl ?_
  exact ⟨[],[0],rfl,rfl,rfl,rfl,rfl,rfl,rfl,rfl,.rfl' _⟩
 ·refine .B 3 [] rfl trivial ?_
  refine .v (x:=.vc 0 ([]:List Record).length) (v_build0V Record.row Tryd.underlying22 hi32 hs32) rfl ?_
  refine .withSt (st':=⟨[],[⟨32,12,([]:List Record).length,some (([]:List Record).map Record.row)⟩]⟩) rfl ?_
  refine .B 1 [] rfl trivial ?_
  refine .v (x:=.vc 0 (([]:List Record)++l).length) (v_appendV (l:=[]) (l':=l) (row:=Record.row) Tryd.underlying22 hi32 hz32 hs32 rfl (by rw [hb32]; decide) rfl rfl rfl rfl (by simpa using hk)) rfl ?_
  refine .withSt (st':=⟨[],[⟨32,12,(([]:List Record)++l).length,some ((([]:List Record)++l).map Record.row)⟩]⟩) rfl ?_
  refine .A 2 [] rfl trivial ?_
  refine .R Tryd.func28 Tryd.results28 rfl ?_
  exact ⟨[],[0],rfl,rfl,rfl,rfl,rfl,rfl,rfl,rfl,.rfl' _⟩
theorem c_x_CloneRecord {l r:List Record} (H:x_CloneRecord l=some r):ACall Tryd.prog 28 [slOf 12 Record.row l] (·=slOf 12 Record.row r):=.of (c_x_CloneRecordV H).letgo
end Go.Proofs.YtajciinoiacpmaaDoor
namespace Go.Abs
open Go.RowKit
theorem DArgs.one {lim:Nat→Nat} {w:World} {d:D} {vs:Array Value} (h:DArgs lim w [d] vs):∃ v,vs=#[v]∧DRep lim w d v:=by
 obtain ⟨h1,h2⟩:=h
 match vs,h1 with
 | ⟨[v]⟩,_=>exact ⟨v,rfl,h2 0 d v rfl rfl⟩
theorem DArgs.two {lim:Nat→Nat} {w:World} {d e:D} {vs:Array Value} (h:DArgs lim w [d,e] vs):∃ v u,vs=#[v,u]∧DRep lim w d v∧DRep lim w e u:=by
 obtain ⟨h1,h2⟩:=h
 match vs,h1 with
 | ⟨[v,u]⟩,_=>exact ⟨v,u,rfl,h2 0 d v rfl rfl,h2 1 e u rfl rfl⟩
theorem below_grow (w:World) (k:Nat) (os:Array Obj):Below w.heap.size w (Go.Sort.grow (w.drewN k) os) :=
 ⟨rfl,rfl,rfl,by simp [Go.Sort.grow],fun b hb=>by
  show ((w.drewN k).heap++os)[b]?=_
  rw [Array.getElem?_append_left (show b < (w.drewN k).heap.size from hb)]
  rfl⟩
theorem ACall.lib {P:Program} {f:FuncId} {args:List D} {u:Value}
  (h:∀ lim w vs,Globs w.heap.size w→DArgs lim w args vs→Calls P f vs w fun e w'=>e=.returned u∧Below w.heap.size w w'):ACall P f args (·=.ex u):=by
 intro lim w vs hg ha
 refine (h lim w vs hg ha).mono ?_
 rintro e w' ⟨rfl,hb⟩
 exact ⟨u,.ex u,lim,rfl,rfl,.ex u,⟨hb.size,fun _ _=>Nat.le_refl _,fun b off hb' _=>hb.cell (p:=⟨b,off,none⟩) hb'⟩,hb,fun _ _=>rfl⟩
theorem strs_cells {lim:Nat→Nat} {w:World} {xs:List (List UInt8)} {v:Value} (h:DRep lim w (.sl 1 (xs.map rS)) v) :
  (∃ A c,v=.slice A 0 c∧xs=[])∨∃ b off c,v=.slice (some ⟨b,off,none⟩) xs.length c∧xs.length≤c∧b < w.heap.size∧∀ (j:Nat) x,xs[j]?=some x→w.cell? ⟨b,off+j,none⟩=some (.string ⟨x.toArray⟩):=by
 generalize hr:xs.map rS=rows at h
 cases h with
 | nil _ A =>
  have:xs=[]:=by simpa using hr
  exact .inl ⟨A,0,rfl,this⟩
 | sl _ _ b off c hc hrow hx hcell =>
  subst hr
  rw [List.length_map] at *
  by_cases h0:xs=[]
  ·subst h0; exact .inl ⟨_,c,rfl,rfl⟩
  ·refine .inr ⟨b,off,c,rfl,hc,?_,fun j x hj=>?_⟩
   ·have hl:0 < xs.length:=List.length_pos_iff.2 h0
    obtain ⟨_,u,hu,_⟩:=hx 0 (by omega)
    exact World.block_lt_of_cell? w _ hu
   ·have hjl:=(List.getElem?_eq_some_iff.1 hj).1
    obtain ⟨_,u,hu,_⟩:=hx j (by omega)
    have:=hcell j 0 (rS x) (.ex (.string ⟨x.toArray⟩)) u (by rw [List.getElem?_map,hj]; rfl) rfl (by rw [Nat.mul_one,Nat.add_zero]; exact hu)
    rw [hu,drep_ex this]
end Go.Abs
namespace Go.Proofs.YtajciinoiacpmaaDoor
open Go.Shelf
def Tryd.lays156_ren:Go.Shelf.Ren:=⟨fun | 156=>70 | 165=>74 | 166=>75 | 169=>76 | 240=>79 | 241=>80 | 276=>85 | 277=>86 | n=>n,fun | 31=>88 | 9=>9 | 3=>3 | 4=>4 | 0=>0 | 20=>20 | 72=>93 | 76=>97 | 70=>90 | 37=>91 | 75=>96 | 127=>102 | 164=>109 | 5=>5 | 80=>99 | n=>n,fun | n=>n⟩
theorem Tryd.lays156:Go.Proofs.Lays.n156 Tryd.prog Tryd.lays156_ren:={
 mixed:=by kernel_rfl
 f156:=Tryd.func70.trans (congrArg some (by kernel_rfl))
 f165:=Tryd.func74.trans (congrArg some (by kernel_rfl))
 f166:=Tryd.func75.trans (congrArg some (by kernel_rfl))
 f169:=Tryd.func76.trans (congrArg some (by kernel_rfl))
 f240:=Tryd.func79.trans (congrArg some (by kernel_rfl))
 f241:=Tryd.func80.trans (congrArg some (by kernel_rfl))
 f276:=Tryd.func85.trans (congrArg some (by kernel_rfl))
 f277:=Tryd.func86.trans (congrArg some (by kernel_rfl))
 t0:=Tryd.underlying0
 a0:=Tryd.isAgg0
 z0:=Tryd.sizeOf0
 v0:=Tryd.zeroValue0
 t3:=Tryd.underlying3
 a3:=Tryd.isAgg3
 z3:=Tryd.sizeOf3
 v3:=Tryd.zeroValue3
 t4:=Tryd.underlying4
 a4:=Tryd.isAgg4
 z4:=Tryd.sizeOf4
 v4:=Tryd.zeroValue4
 t9:=Tryd.underlying9
 a9:=Tryd.isAgg9
 z9:=Tryd.sizeOf9
 v9:=Tryd.zeroValue9
 t20:=Tryd.underlying20
 a20:=Tryd.isAgg20
 z20:=Tryd.sizeOf20
 v20:=Tryd.zeroValue20
 t31:=Tryd.underlying88
 a31:=Tryd.isAgg88
 z31:=Tryd.sizeOf88
 v31:=Tryd.zeroValue88
 t37:=Tryd.underlying91
 a37:=Tryd.isAgg91
 z37:=Tryd.sizeOf91
 v37:=Tryd.zeroValue91
 t70:=Tryd.underlying90
 a70:=Tryd.isAgg90
 z70:=Tryd.sizeOf90
 v70:=Tryd.zeroValue90
 t72:=Tryd.underlying93
 a72:=Tryd.isAgg93
 z72:=Tryd.sizeOf93
 v72:=Tryd.zeroValue93
 t75:=Tryd.underlying96
 a75:=Tryd.isAgg96
 z75:=Tryd.sizeOf96
 v75:=Tryd.zeroValue96
 t76:=Tryd.underlying97
 a76:=Tryd.isAgg97
 z76:=Tryd.sizeOf97
 v76:=Tryd.zeroValue97
 t127:=Tryd.underlying102
 a127:=Tryd.isAgg102
 z127:=Tryd.sizeOf102
 v127:=Tryd.zeroValue102
 t164:=Tryd.underlying109
 a164:=Tryd.isAgg109
 z164:=Tryd.sizeOf109
 v164:=Tryd.zeroValue109 }
theorem Tryd.Builder_Extra_156:Builder.Extra Tryd.prog Tryd.lays156_ren:={
 sizeBuilder:=by kernel_rfl
 liesBuilder:=by kernel_rfl
 t5:=Tryd.underlying5
 a5:=Tryd.isAgg5
 z5:=Tryd.sizeOf5
 v5:=Tryd.zeroValue5
 infoByte:=by kernel_rfl
 cellsByte:=by kernel_rfl
 sizeByte:=by kernel_rfl
 neB5:=by decide }
open Go.RowKit in
theorem Tryd.strings_Join_none (a:Option Addr) (c:Nat) (sep:ByteArray) (w:World) :
  Calls Tryd.prog 70 #[.slice a 0 c,.string sep] w fun e w'=>e=.returned (.string ⟨#[]⟩)∧w'=w:=Any.strings_Join_none Tryd.lays156 Tryd.Builder_Extra_156 a c sep w
open Go.RowKit in
theorem Tryd.strings_Join (bk o c:Nat) (xs:List ByteArray) (sep:ByteArray) (w:World) (hcells:∀ (j:Nat) x,xs[j]?=some x→w.cell? ⟨bk,o+j,none⟩=some (.string x)) (hbk:bk < w.heap.size) (hN:xs.length≤140737488355328) (hcap:xs.length≤c) (hlen:(Lib.join (xs.map (·.data.toList)) sep.data.toList).length≤140737488355328) :
  Calls Tryd.prog 70 #[.slice (some ⟨bk,o,none⟩) xs.length c,.string sep] w fun e w'=>e=.returned (.string ⟨(Lib.join (xs.map (·.data.toList)) sep.data.toList).toArray⟩)∧Below w.heap.size w w':=Any.strings_Join Tryd.lays156 Tryd.Builder_Extra_156 bk o c xs sep w hcells hbk hN hcap hlen
def Tryd.laysM171_ren:Go.Shelf.Ren:=⟨fun | 171=>69 | 243=>73 | 246=>78 | 283=>81 | 284=>82 | 285=>83 | 286=>84 | 129=>88 | 317=>87 | 318=>89 | 319=>90 | 320=>91 | 337=>92 | 338=>93 | n=>n,fun | 3=>3 | 9=>9 | 2=>2 | 4=>4 | 171=>103 | 0=>0 | 53=>104 | 37=>91 | 5=>5 | 173=>107 | 212=>114 | 51=>115 | 20=>20 | 213=>116 | 46=>117 | 232=>120 | 233=>121 | n=>n,fun | 17=>0 | 18=>2 | 19=>3 | n=>n⟩
theorem Tryd.laysM171:Go.Proofs.LaysM.n171 Tryd.prog Tryd.laysM171_ren:={
 mixed:=by kernel_rfl
 f129:=Tryd.func88.trans (congrArg some (by kernel_rfl))
 f171:=Tryd.func69.trans (congrArg some (by kernel_rfl))
 f243:=Tryd.func73.trans (congrArg some (by kernel_rfl))
 f246:=Tryd.func78.trans (congrArg some (by kernel_rfl))
 f283:=Tryd.func81.trans (congrArg some (by kernel_rfl))
 f284:=Tryd.func82.trans (congrArg some (by kernel_rfl))
 f285:=Tryd.func83.trans (congrArg some (by kernel_rfl))
 f286:=Tryd.func84.trans (congrArg some (by kernel_rfl))
 f317:=Tryd.func87.trans (congrArg some (by kernel_rfl))
 f318:=Tryd.func89.trans (congrArg some (by kernel_rfl))
 f319:=Tryd.func90.trans (congrArg some (by kernel_rfl))
 f320:=Tryd.func91.trans (congrArg some (by kernel_rfl))
 f337:=Tryd.func92.trans (congrArg some (by kernel_rfl))
 f338:=Tryd.func93.trans (congrArg some (by kernel_rfl))
 t0:=Tryd.underlying0
 a0:=Tryd.isAgg0
 z0:=Tryd.sizeOf0
 v0:=Tryd.zeroValue0
 t2:=Tryd.underlying2
 a2:=Tryd.isAgg2
 z2:=Tryd.sizeOf2
 v2:=Tryd.zeroValue2
 t3:=Tryd.underlying3
 a3:=Tryd.isAgg3
 z3:=Tryd.sizeOf3
 v3:=Tryd.zeroValue3
 t4:=Tryd.underlying4
 a4:=Tryd.isAgg4
 z4:=Tryd.sizeOf4
 v4:=Tryd.zeroValue4
 t5:=Tryd.underlying5
 a5:=Tryd.isAgg5
 z5:=Tryd.sizeOf5
 v5:=Tryd.zeroValue5
 t9:=Tryd.underlying9
 a9:=Tryd.isAgg9
 z9:=Tryd.sizeOf9
 v9:=Tryd.zeroValue9
 t20:=Tryd.underlying20
 a20:=Tryd.isAgg20
 z20:=Tryd.sizeOf20
 v20:=Tryd.zeroValue20
 t37:=Tryd.underlying91
 a37:=Tryd.isAgg91
 z37:=Tryd.sizeOf91
 v37:=Tryd.zeroValue91
 t46:=Tryd.underlying117
 a46:=Tryd.isAgg117
 z46:=Tryd.sizeOf117
 v46:=Tryd.zeroValue117
 t51:=Tryd.underlying115
 a51:=Tryd.isAgg115
 z51:=Tryd.sizeOf115
 v51:=Tryd.zeroValue115
 t53:=Tryd.underlying104
 a53:=Tryd.isAgg104
 z53:=Tryd.sizeOf104
 v53:=Tryd.zeroValue104
 t171:=Tryd.underlying103
 a171:=Tryd.isAgg103
 z171:=Tryd.sizeOf103
 v171:=Tryd.zeroValue103
 t173:=Tryd.underlying107
 a173:=Tryd.isAgg107
 z173:=Tryd.sizeOf107
 v173:=Tryd.zeroValue107
 t212:=Tryd.underlying114
 a212:=Tryd.isAgg114
 z212:=Tryd.sizeOf114
 v212:=Tryd.zeroValue114
 t213:=Tryd.underlying116
 a213:=Tryd.isAgg116
 z213:=Tryd.sizeOf116
 t232:=Tryd.underlying120
 a232:=Tryd.isAgg120
 z232:=Tryd.sizeOf120
 v232:=Tryd.zeroValue120
 t233:=Tryd.underlying121
 a233:=Tryd.isAgg121
 z233:=Tryd.sizeOf121
 v233:=Tryd.zeroValue121
 g17:=by kernel_rfl
 g18:=by kernel_rfl
 g19:=by kernel_rfl
 i0:=by kernel_rfl
 i2:=by kernel_rfl
 i3:=by kernel_rfl
 i4:=by kernel_rfl
 i5:=by kernel_rfl
 i9:=by kernel_rfl
 i20:=by kernel_rfl
 i37:=by kernel_rfl
 i46:=by kernel_rfl
 i51:=by kernel_rfl
 i53:=by kernel_rfl
 i171:=by kernel_rfl
 i173:=by kernel_rfl
 i212:=by kernel_rfl
 i232:=by kernel_rfl
 i233:=by kernel_rfl
 m17:=by kernel_rfl
 m18:=by kernel_rfl
 m19:=by kernel_rfl }
open Go.RowKit Go.Sort Go.Lib in
theorem Tryd.strconv_Itoa (n:Int) (h0:-9223372036854775808≤n) (h1:n≤9223372036854775807) (w:World) (htab:Lib.TabIs Tryd.prog w "internal/strconv.uint64pow10" .u64 Lib.pow10Tab) :
  Calls Tryd.prog 69 #[.int .i64 n] w fun e w'=>e=.returned (.string ⟨(Lib.itoa n).toArray⟩)∧∃ k os,w'=grow (w.drewN k) os:=Any.strconv_Itoa Tryd.laysM171 n h0 h1 w htab
end Go.Proofs.YtajciinoiacpmaaDoor
namespace Go.Proofs.YtajciinoiacpmaaDoor
open Go.RowKit Go.Abs
theorem tab_is {w:World} (h:Globs w.heap.size w):Go.Lib.TabIs Tryd.prog w "internal/strconv.uint64pow10" .u64 Go.Lib.pow10Tab:=by
 obtain ⟨_,ty,fr,h2⟩:=h.1 (0,(Go.Lib.pow10Tab.map fun z=>Value.int .u64 z).toArray) (by simp [GL])
 have hn:Tryd.prog.globalNamed "internal/strconv.uint64pow10" = some 0:=by kernel_rfl
 unfold Go.Lib.TabIs World.var?
 rw [hn]
 simp only [Option.bind_some]
 simp only at h2
 rw [h2]
theorem c_x_Itoa {n:Int} {r:List UInt8} (H:x_Itoa n=some r):ACall Tryd.prog 69 [cI n] (·=cS r):=by
 obtain ⟨h,H⟩:=ck_some H; cases H
 refine ACall.lib fun lim w vs hg ha=>?_
 obtain ⟨v,rfl,hv⟩:=ha.one
 rw [drep_ex hv]
 refine (Tryd.strconv_Itoa n h.1 h.2 w (tab_is hg)).mono ?_
 rintro e w' ⟨rfl,k,os,rfl⟩
 exact ⟨rfl,below_grow w k os⟩
theorem c_x_Join {xs:List (List UInt8)} {sep r:List UInt8} (H:x_Join xs sep=some r):ACall Tryd.prog 70 [slOf 1 rS xs,cS sep] (·=cS r):=by
 obtain ⟨h,H⟩:=ck_some H; cases H
 refine ACall.lib fun lim w vs hg ha=>?_
 obtain ⟨v,u,rfl,hv,hu⟩:=ha.two
 rw [drep_ex hu]
 rcases strs_cells hv with ⟨A,c,rfl,rfl⟩ | ⟨b,off,c,rfl,hc,hb,hcell⟩
 ·exact (Tryd.strings_Join_none A c ⟨sep.toArray⟩ w).mono fun e w' ⟨he,hw⟩=>⟨he,hw▸Below.refl _ _⟩
 ·have hm:(xs.map fun x=>(⟨x.toArray⟩:ByteArray)).map (·.data.toList)=xs:=by simp [Function.comp_def]
  have:=Tryd.strings_Join b off c (xs.map fun x=>(⟨x.toArray⟩:ByteArray)) ⟨sep.toArray⟩ w (fun j x hj=>by
   rw [List.getElem?_map] at hj
   obtain ⟨y,hy,rfl⟩:=Option.map_eq_some_iff.1 hj
   exact hcell j y hy) hb (by simp; omega) (by simpa using hc) (by rw [hm]; simp; omega)
  rw [hm,List.length_map] at this
  exact this
end Go.Proofs.YtajciinoiacpmaaDoor
set_option maxRecDepth 100000
set_option maxHeartbeats 1000000
namespace Go.Proofs.YtajciinoiacpmaaDoor
open Go.RowKit Go.Abs Go.Proofs.Tryd
theorem c_f_w15_few {v0l:List Record} {v1most:Int} {r:Bool} (H:f_w15_few v0l v1most=some r):ACall prog 17 [slOf 12 Record.row v0l,cI v1most] (·=cB r):=by
 refine ACall.enter' func17 rfl ntmps17 rfl fun S hS=>?_
 unfold f_w15_few at H
 refine .A 9 [] rfl trivial ?_
 refine .blockJoin2 (ι:=Unit) (fun _=>[(0,.d (slOf 12 Record.row v0l)),(1,.d (cI v1most))]) (fun _=>⟨[],[]⟩) (fun s=>f_w15_few_j1 v0l v1most=some r) ?_ ?_
 ·rintro _ H
  replace H:f_w15_few_j1 v0l v1most=some r:=H
  unfold f_w15_few_j1 at H
  refine .A 8 [.i (v0l.length:Int)] rfl (s22.n rfl rfl) ?_
  refine .R func17 results17 rfl ?_
  cases H
  exact .m rfl (.rfl' _)
 ·intro hj1 hj1x
  obtain ⟨n1,H⟩:=loop_some H
  refine .loop (ι:=Nat×(Int)) (fun ⟨_,v5il1⟩=>[(0,.d (slOf 12 Record.row v0l)),(1,.d (cI v1most)),(5,.d (cI v5il1))]) (fun ⟨_,v5il1⟩=>⟨[],[]⟩) (fun p=>iter (fun s=>f_w15_few_l1 v0l v1most s) p.1 p.2=some r) (·.1) (n1,0) H (.cons rfl (.rfl' _) (.cons rfl (.rfl' _) (.cons rfl (.rfl' _) (.nil)))) rfl ?_
  rintro ⟨m1,v5il1⟩ HI ih1
  obtain ⟨n1,q1,hm1,H,HK1⟩:=iter_succ HI
  clear HI
  replace H:f_w15_few_l1 v0l v1most v5il1=some q1:=H
  unfold f_w15_few_l1 at H
  refine .A 13 [.i (v0l.length:Int)] rfl ⟨rfl,rfl,rfl,s22.n rfl rfl⟩ ?_
  refine .ite H rfl (fun H=>?_) (fun H=>?_)
  ·obtain ⟨hk1,H⟩:=ck_some H
   obtain ⟨hk2,H⟩:=ck_some H
   refine .A 22 [.d (.ro (Record.row (nth v0l v5il1.toNat))),.i (((nth v0l v5il1.toNat).a).length:Int),.d (.ro (Record.row (nth v0l v5il1.toNat))),.i (((nth v0l v5il1.toNat).b).length:Int)] rfl ⟨rfl,rfl,fun hg=>OpQ.g (q_lenS underlying9 rfl),rfl,rfl,rfl,fun hg=>s22.ix rfl rfl rfl (hk2 hg),rfl,rfl,OpQ.g (q_lenS underlying9 rfl),s22.ix rfl rfl rfl hk1⟩ ?_
   refine .ite H rfl (fun H=>?_) (fun H=>?_)
   ·refine .A 4 [] rfl trivial ?_
    refine .R func17 results17 rfl ?_
    cases H
    cases HK1
    exact .m rfl (.rfl' _)
   ·obtain ⟨hk3,H⟩:=ck_some H
    refine .A 7 [.i (v5il1+1)] rfl (g_addI rfl rfl hk3) ?_
    cases H
    exact .z (ih1 (n1,(v5il1+1)) HK1 hm1) rfl rfl
  ·refine .A 1 [] rfl trivial ?_
   obtain ⟨q0,H9,hq0⟩:=map_some' H; clear H; cases hq0
   cases HK1
   have H:=H9
   exact .z (hj1x () H) rfl rfl
theorem c_f_w15_part {v0serial:Int} {v1number:Int} {v2units:Int} {v3last:Bool} {r:Record} (H:f_w15_part v0serial v1number v2units v3last=some r):ACall prog 27 [cI v0serial,cI v1number,cI v2units,cB v3last] (·=.agg (Record.row r)):=by
 obtain ⟨i32,hi32,hz32,hs32,hb32⟩:=in_32
 refine ACall.enter' func27 rfl ntmps27 rfl fun S hS=>?_
 unfold f_w15_part at H
 refine .A 13 [.r 0,.d (.agg (Record.row (⟨1,v0serial,1,([49]:List UInt8),([50]:List UInt8),0,v2units,7,v1number,v3last,0,false⟩:Record)))] rfl (OpQ.g (q_buildP pl_32 hi32 hz32 rfl (by kernel_rfl))) ?_
 refine .R func27 results27 rfl ?_
 cases H
 exact .m rfl (.rfl' _)
theorem c_f_correlate_alone {v0r:Record} {r:Record} (H:f_correlate_alone v0r=some r):ACall prog 44 [.agg (Record.row v0r)] (·=.agg (Record.row r)):=by
 refine ACall.enter' func44 rfl ntmps44 rfl fun S hS=>?_
 unfold f_correlate_alone at H
 refine .A 19 [.r 0,.r 1] rfl trivial ?_
 refine .R func44 results44 rfl ?_
 cases H
 exact .m rfl (.rfl' _)
theorem c_f_textual_within {v0n:Int} {v1lo:Int} {v2hi:Int} {r:Bool} (H:f_textual_within v0n v1lo v2hi=some r):ACall prog 71 [cI v0n,cI v1lo,cI v2hi] (·=cB r):=by
 refine ACall.enter' func71 rfl ntmps71 rfl fun S hS=>?_
 unfold f_textual_within at H
 refine .A 16 [] rfl ⟨rfl,rfl,rfl⟩ ?_
 refine .R func71 results71 rfl ?_
 cases H
 exact .m rfl (.rfl' _)
theorem c_f_digits_digit {v0c:UInt8} {r:Bool} (H:f_digits_digit v0c=some r):ACall prog 77 [cU8 v0c] (·=cB r):=by
 refine ACall.enter' func77 rfl ntmps77 rfl fun S hS=>?_
 unfold f_digits_digit at H
 refine .A 14 [.b (decide (v0c≥48)),.b (decide (v0c≤57))] rfl ⟨rfl,fun hg=>OpQ.g (q8_leq (a:=v0c) (b:=57) rfl rfl),rfl,OpQ.g (q8_geq (a:=v0c) (b:=48) rfl rfl)⟩ ?_
 refine .R func77 results77 rfl ?_
 cases H
 exact .m rfl (.rfl' _)
theorem c_f_digits_Valid {v0s:List UInt8} {r:Bool} (H:f_digits_Valid v0s=some r):ACall prog 72 [cS v0s] (·=cB r):=by
 refine ACall.enter' func72 rfl ntmps72 rfl fun S hS=>?_
 unfold f_digits_Valid at H
 refine .A 11 [.i (v0s.length:Int)] rfl (OpQ.g (q_lenS underlying9 rfl)) ?_
 refine .blockJoin2 (ι:=Unit) (fun _=>[(0,.d (cS v0s))]) (fun _=>⟨[],[]⟩) (fun s=>f_digits_Valid_j1 v0s=some r) ?_ ?_
 ·rintro _ H
  replace H:f_digits_Valid_j1 v0s=some r:=H
  unfold f_digits_Valid_j1 at H
  refine .A 12 [.i (v0s.length:Int),.i (v0s.length:Int)] rfl ⟨rfl,rfl,fun hg=>OpQ.g (q_lenS underlying9 rfl),rfl,OpQ.g (q_lenS underlying9 rfl)⟩ ?_
  refine .R func72 results72 rfl ?_
  cases H
  exact .m rfl (.rfl' _)
 ·intro hj1 hj1x
  obtain ⟨n1,H⟩:=loop_some H
  refine .loop (ι:=Nat×(Int)) (fun ⟨_,v6l1⟩=>[(0,.d (cS v0s)),(5,.d (cI (v0s.length:Int))),(6,.d (cI v6l1))]) (fun ⟨_,v6l1⟩=>⟨[],[]⟩) (fun p=>iter (fun s=>f_digits_Valid_l1 v0s s) p.1 p.2=some r) (·.1) (n1,0) H (.cons rfl (.rfl' _) (.cons rfl (.rfl' _) (.cons rfl (.rfl' _) (.nil)))) rfl ?_
  rintro ⟨m1,v6l1⟩ HI ih1
  obtain ⟨n1,q1,hm1,H,HK1⟩:=iter_succ HI
  clear HI
  replace H:f_digits_Valid_l1 v0s v6l1=some q1:=H
  unfold f_digits_Valid_l1 at H
  refine .A 5 [] rfl trivial ?_
  refine .ite H rfl (fun H=>?_) (fun H=>?_)
  ·obtain ⟨hk1,H⟩:=ck_some H
   obtain ⟨y1,hy1,H⟩:=bind_some' H
   refine .A 16 [.c (nth v0s v6l1.toNat),.b y1] rfl ⟨g_call (en 0 rfl) rfl rfl (c_f_digits_digit (hy1)),OpQ.g (q_indexL (i:=v6l1) underlying9 rfl rfl hk1)⟩ ?_
   refine .ite H rfl (fun H=>?_) (fun H=>?_)
   ·refine .A 4 [] rfl trivial ?_
    refine .R func72 results72 rfl ?_
    cases H
    cases HK1
    exact .m rfl (.rfl' _)
   ·obtain ⟨hk2,H⟩:=ck_some H
    refine .A 6 [.i (v6l1+1)] rfl (g_addI rfl rfl hk2) ?_
    cases H
    exact .z (ih1 (n1,(v6l1+1)) HK1 hm1) rfl rfl
  ·refine .A 1 [] rfl trivial ?_
   obtain ⟨q0,H9,hq0⟩:=map_some' H; clear H; cases hq0
   cases HK1
   have H:=H9
   exact .z (hj1x () H) rfl rfl
theorem c_f_textual_check {v0:Record} {r:Int} (H:f_textual_check v0=some r):ACall prog 68 [.agg (Record.row v0)] (·=cI r):=by
 refine ACall.enter' func68 rfl ntmps68 rfl fun S hS=>?_
 unfold f_textual_check at H
 refine .A 21 [.r 0] rfl ⟨rfl,rfl,rfl⟩ ?_
 refine .seqJoin (ι:=Int) (fun v4j1=>[(1,.ref 0 0),(3,.d (cB ((v0.kind==3) || (v0.kind==4)))),(4,.d (cI v4j1))]) (fun v4j1=>⟨[.row 32 [.d (cI v0.source),.d (cI v0.serial),.d (cI v0.kind),.d (cS v0.a),.d (cS v0.b),.d (cI v0.start),.d (cI v0.units),.d (cI v0.call),.d (cI v0.part),.d (cB v0.last),.d (cI v0.trunk),.d (cB v0.inbound)]],[]⟩) (fun s=>f_textual_check_j1 v0 s=some r) ?_ ?_
 ·rintro v4j1 H
  replace H:f_textual_check_j1 v0 v4j1=some r:=H
  unfold f_textual_check_j1 at H
  obtain ⟨y1,hy1,H⟩:=bind_some' H
  obtain ⟨y2,hy2,H⟩:=bind_some' H
  refine .A 16 [.b y1,.b y2] rfl ⟨rfl,rfl,fun hg=>g_call (en 1 rfl) rfl rfl (c_f_textual_within (gcall_some hy2 hg)),rfl,rfl,g_call (en 1 rfl) rfl rfl (c_f_textual_within (hy1))⟩ ?_
  refine .ite H rfl (fun H=>?_) (fun H=>?_)
  ·refine .A 4 [] rfl trivial ?_
   refine .R func68 results68 rfl ?_
   cases H
   exact .m rfl (.rfl' _)
  ·obtain ⟨y3,hy3,H⟩:=bind_some' H
   refine .A 8 [.b y3] rfl (g_call (en 1 rfl) rfl rfl (c_f_textual_within (hy3))) ?_
   refine .ite H rfl (fun H=>?_) (fun H=>?_)
   ·refine .A 4 [] rfl trivial ?_
    refine .R func68 results68 rfl ?_
    cases H
    exact .m rfl (.rfl' _)
   ·obtain ⟨y4,hy4,H⟩:=bind_some' H
    obtain ⟨y5,hy5,H⟩:=bind_some' H
    refine .B 17 [.b y4,.b y5] rfl ⟨rfl,rfl,rfl,rfl,rfl,fun hg=>g_call (en 2 rfl) rfl rfl (c_f_digits_Valid (gcall_some hy5 hg)),rfl,rfl,g_call (en 2 rfl) rfl rfl (c_f_digits_Valid (hy4))⟩ ?_
    refine .guardG (env':=[(44,_),(47,_)]) rfl rfl rfl ⟨.inr (.inl rfl),⟨.inr (.inr ⟨_,_,rfl,rfl⟩),trivial⟩⟩ rfl (fun hg=>OpQ.g (q_pickAndB rfl rfl rfl)) ?_
    refine .B 1 [] rfl rfl ?_
    refine .guardG (env':=[(42,_),(49,_)]) rfl rfl rfl ⟨.inr (.inl rfl),⟨.inr (.inr ⟨_,_,rfl,rfl⟩),trivial⟩⟩ rfl (fun hg=>OpQ.g (q_pickAndB rfl rfl rfl)) ?_
    refine .A 3 [] rfl rfl ?_
    refine .ite H rfl (fun H=>?_) (fun H=>?_)
    ·refine .A 4 [] rfl trivial ?_
     refine .R func68 results68 rfl ?_
     cases H
     exact .m rfl (.rfl' _)
    ·obtain ⟨y6,hy6,H⟩:=bind_some' H
     refine .A 8 [.b y6] rfl (g_call (en 1 rfl) rfl rfl (c_f_textual_within (hy6))) ?_
     refine .ite H rfl (fun H=>?_) (fun H=>?_)
     ·refine .A 4 [] rfl trivial ?_
      refine .R func68 results68 rfl ?_
      cases H
      exact .m rfl (.rfl' _)
     ·obtain ⟨y7,hy7,H⟩:=bind_some' H
      refine .A 9 [.b y7] rfl (g_call (en 1 rfl) rfl rfl (c_f_textual_within (hy7))) ?_
      refine .ite H rfl (fun H=>?_) (fun H=>?_)
      ·refine .A 4 [] rfl trivial ?_
       refine .R func68 results68 rfl ?_
       cases H
       exact .m rfl (.rfl' _)
      ·obtain ⟨hk1,H⟩:=ck_some H
       refine .A 15 [.i (v0.start+v0.units)] rfl ⟨rfl,rfl,fun hg=>g_addI rfl rfl (hk1 hg),rfl,rfl,rfl,rfl⟩ ?_
       refine .ite H rfl (fun H=>?_) (fun H=>?_)
       ·refine .A 4 [] rfl trivial ?_
        refine .R func68 results68 rfl ?_
        cases H
        exact .m rfl (.rfl' _)
       ·obtain ⟨y8,hy8,H⟩:=bind_some' H
        obtain ⟨y9,hy9,H⟩:=bind_some' H
        refine .A 14 [.b y8,.b y9] rfl ⟨rfl,rfl,fun hg=>g_call (en 1 rfl) rfl rfl (c_f_textual_within (gcall_some hy9 hg)),rfl,rfl,g_call (en 1 rfl) rfl rfl (c_f_textual_within (hy8))⟩ ?_
        refine .ite H rfl (fun H=>?_) (fun H=>?_)
        ·refine .A 4 [] rfl trivial ?_
         refine .R func68 results68 rfl ?_
         cases H
         exact .m rfl (.rfl' _)
        ·refine .B 16 [.b ((v0.part==0) != (v0.call==0))] rfl ⟨rfl,rfl,rfl,rfl,OpQ.g (q_bneq rfl underlying4 rfl)⟩ ?_
         refine .guardG (env':=[(97,_),(100,_)]) rfl rfl rfl ⟨.inr (.inl rfl),⟨.inr (.inr ⟨_,_,rfl,rfl⟩),trivial⟩⟩ rfl (fun hg=>OpQ.g (q_pickAndB rfl rfl rfl)) ?_
         refine .A 3 [] rfl rfl ?_
         refine .ite H rfl (fun H=>?_) (fun H=>?_)
         ·refine .A 4 [] rfl trivial ?_
          refine .R func68 results68 rfl ?_
          cases H
          exact .m rfl (.rfl' _)
         ·obtain ⟨y10,hy10,H⟩:=bind_some' H
          refine .A 8 [.b y10] rfl (g_call (en 1 rfl) rfl rfl (c_f_textual_within (hy10))) ?_
          refine .ite H rfl (fun H=>?_) (fun H=>?_)
          ·refine .A 4 [] rfl trivial ?_
           refine .R func68 results68 rfl ?_
           cases H
           exact .m rfl (.rfl' _)
          ·refine .A 11 [] rfl ⟨rfl,rfl,rfl⟩ ?_
           refine .ite H rfl (fun H=>?_) (fun H=>?_)
           ·refine .A 4 [] rfl trivial ?_
            refine .R func68 results68 rfl ?_
            cases H
            exact .m rfl (.rfl' _)
           ·refine .A 6 [] rfl trivial ?_
            refine .R func68 results68 rfl ?_
            cases H
            exact .m rfl (.rfl' _)
 ·intro hj1
  refine .A 6 [] rfl trivial ?_
  refine .ite H rfl (fun H=>?_) (fun H=>?_)
  ·refine .A 3 [] rfl trivial ?_
   exact .z (hj1 604800 H) rfl rfl
  ·refine .A 1 [] rfl trivial ?_
   exact .z (hj1 1099511627776 H) rfl rfl
theorem c_f_textual_Encode {v0:Record} {r:(List UInt8)×Int} (H:f_textual_Encode v0=some r):ACall prog 66 [.agg (Record.row v0)] (·=.tup [cS r.1,cI r.2]):=by
 obtain ⟨i9,hi9,hz9,hs9,hb9⟩:=in_9
 refine ACall.enter' func66 rfl ntmps66 rfl fun S hS=>?_
 unfold f_textual_Encode at H
 obtain ⟨y1,hy1,H⟩:=bind_some' H
 refine .A 18 [.r 0,.i y1] rfl (g_call (en 3 rfl) rfl rfl (c_f_textual_check (hy1))) ?_
 refine .ite H rfl (fun H=>?_) (fun H=>?_)
 ·refine .A 6 [] rfl trivial ?_
  refine .R func66 results66 rfl ?_
  cases H
  exact .m rfl (.tupD rfl)
 ·refine .A 11 [] rfl trivial ?_
  refine .seqJoin (ι:=List UInt8) (fun v6j1=>[(1,.ref 0 0),(5,.d (.ex (.func (.func 69) #[] #[]))),(6,.d (cS v6j1))]) (fun v6j1=>⟨[.row 32 [.d (cI v0.source),.d (cI v0.serial),.d (cI v0.kind),.d (cS v0.a),.d (cS v0.b),.d (cI v0.start),.d (cI v0.units),.d (cI v0.call),.d (cI v0.part),.d (cB v0.last),.d (cI v0.trunk),.d (cB v0.inbound)]],[]⟩) (fun s=>f_textual_Encode_j1 v0 s=some r) ?_ ?_
  ·rintro v6j1 H
   replace H:f_textual_Encode_j1 v0 v6j1=some r:=H
   unfold f_textual_Encode_j1 at H
   obtain ⟨hk1,H⟩:=ck_some H
   obtain ⟨hk2,H⟩:=ck_some H
   obtain ⟨y2,hy2,H⟩:=bind_some' H
   obtain ⟨y3,hy3,H⟩:=bind_some' H
   obtain ⟨y4,hy4,H⟩:=bind_some' H
   obtain ⟨y5,hy5,H⟩:=bind_some' H
   refine .A 31 [.p 25,.i (v0.kind-1),.s ((([118,116,100,99]:List UInt8).take v0.kind.toNat).drop (v0.kind-1).toNat),.s y2,.s y3,.s y4,.s y5,.n (.tsl 1 (([(([118,116,100,99]:List UInt8).take v0.kind.toNat).drop (v0.kind-1).toNat,y2,y3,v0.a,v6j1,y4,y5]:List (List UInt8)).map rS) 0) ⟨9,1,([(([118,116,100,99]:List UInt8).take v0.kind.toNat).drop (v0.kind-1).toNat,y2,y3,v0.a,v6j1,y4,y5]:List (List UInt8)).length,none⟩] rfl ⟨.e (v_buildSliceT (n:=7) underlying88 hi9 hs9 hz9 rfl rfl rfl rfl rfl) rfl,g_callF (en 4 rfl) rfl rfl rfl (c_x_Itoa (hy5)),g_callF (en 4 rfl) rfl rfl rfl (c_x_Itoa (hy4)),g_callF (en 4 rfl) rfl rfl rfl (c_x_Itoa (hy3)),g_callF (en 4 rfl) rfl rfl rfl (c_x_Itoa (hy2)),OpQ.g (q_strLHL underlying9 rfl rfl rfl hk2),g_subI rfl rfl hk1,(show drawB _ _=true by kernel_rfl)⟩ ?_
   refine .seqJoin (ι:=List (List UInt8)) (fun v7j2=>[(1,.ref 0 0),(5,.d (.ex (.func (.func 69) #[] #[]))),(7,.tsl 1 (v7j2.map rS) 0)]) (fun v7j2=>⟨[.row 32 [.d (cI v0.source),.d (cI v0.serial),.d (cI v0.kind),.d (cS v0.a),.d (cS v0.b),.d (cI v0.start),.d (cI v0.units),.d (cI v0.call),.d (cI v0.part),.d (cB v0.last),.d (cI v0.trunk),.d (cB v0.inbound)]],[⟨9,1,v7j2.length,none⟩]⟩) (fun s=>f_textual_Encode_j2 v0 s=some r) ?_ ?_
   ·rintro v7j2 H
    replace H:f_textual_Encode_j2 v0 v7j2=some r:=H
    unfold f_textual_Encode_j2 at H
    refine .seqJoin (ι:=List (List UInt8)) (fun v7j3=>[(7,.tsl 1 (v7j3.map rS) 0)]) (fun v7j3=>⟨[.row 32 [.d (cI v0.source),.d (cI v0.serial),.d (cI v0.kind),.d (cS v0.a),.d (cS v0.b),.d (cI v0.start),.d (cI v0.units),.d (cI v0.call),.d (cI v0.part),.d (cB v0.last),.d (cI v0.trunk),.d (cB v0.inbound)]],[⟨9,1,v7j3.length,none⟩]⟩) (fun s=>f_textual_Encode_j3 s=some r) ?_ ?_
    ·rintro v7j3 H
     replace H:f_textual_Encode_j3 v7j3=some r:=H
     unfold f_textual_Encode_j3 at H
     obtain ⟨y6,hy6,H⟩:=bind_some' H
     refine .A 7 [.s y6] rfl (g_call (en 5 rfl) rfl rfl (c_x_Join (hy6))) ?_
     refine .R func66 results66 rfl ?_
     cases H
     exact .m rfl (.tupD rfl)
    ·intro hj3
     refine .A 6 [] rfl trivial ?_
     refine .ite H rfl (fun H=>?_) (fun H=>?_)
     ·refine .A 4 [] rfl trivial ?_
      refine .seqJoin (ι:=List UInt8) (fun v8j4=>[(1,.ref 0 0),(5,.d (.ex (.func (.func 69) #[] #[]))),(7,.tsl 1 (v7j2.map rS) 0),(8,.d (cS v8j4))]) (fun v8j4=>⟨[.row 32 [.d (cI v0.source),.d (cI v0.serial),.d (cI v0.kind),.d (cS v0.a),.d (cS v0.b),.d (cI v0.start),.d (cI v0.units),.d (cI v0.call),.d (cI v0.part),.d (cB v0.last),.d (cI v0.trunk),.d (cB v0.inbound)]],[⟨9,1,v7j2.length,none⟩]⟩) (fun s=>f_textual_Encode_j4 v0 v7j2 s=some r) ?_ ?_
      ·rintro v8j4 H
       replace H:f_textual_Encode_j4 v0 v7j2 v8j4=some r:=H
       unfold f_textual_Encode_j4 at H
       obtain ⟨y7,hy7,H⟩:=bind_some' H
       obtain ⟨hk3,H⟩:=ck_some H
       refine .A 11 [.s y7,.d (slOf 1 rS ([v8j4,y7]:List (List UInt8))),.a 0 9 1 rS (v7j2++([v8j4,y7]:List (List UInt8)))] rfl ⟨s88.a rfl rfl rfl rfl hk3,g_buildSliceN (n:=2) (rows:=([v8j4,y7]:List (List UInt8)).map rS) underlying88 hi9 hs9 hz9 rfl rfl rfl rfl rfl,g_callF (en 4 rfl) rfl rfl rfl (c_x_Itoa (hy7))⟩ ?_
       exact .z (hj3 (v7j2++([v8j4,y7]:List (List UInt8))) H) rfl rfl
      ·intro hj4
       refine .A 5 [] rfl trivial ?_
       refine .ite H rfl (fun H=>?_) (fun H=>?_)
       ·refine .A 3 [] rfl trivial ?_
        exact .z (hj4 ([105,110]:List UInt8) H) rfl rfl
       ·refine .A 1 [] rfl trivial ?_
        exact .z (hj4 ([111,117,116]:List UInt8) H) rfl rfl
     ·refine .A 1 [] rfl trivial ?_
      exact .z (hj3 v7j2 H) rfl rfl
   ·intro hj2
    refine .A 6 [] rfl trivial ?_
    refine .ite H rfl (fun H=>?_) (fun H=>?_)
    ·obtain ⟨y8,hy8,H⟩:=bind_some' H
     obtain ⟨y9,hy9,H⟩:=bind_some' H
     obtain ⟨hk4,H⟩:=ck_some H
     refine .A 21 [.p 10,.s y8,.s y9,.d (slOf 1 rS ([([112,97,114,116]:List UInt8),y8,y9]:List (List UInt8))),.a 0 9 1 rS (([(([118,116,100,99]:List UInt8).take v0.kind.toNat).drop (v0.kind-1).toNat,y2,y3,v0.a,v6j1,y4,y5]:List (List UInt8))++([([112,97,114,116]:List UInt8),y8,y9]:List (List UInt8)))] rfl ⟨s88.a rfl rfl rfl rfl hk4,g_buildSliceN (n:=3) (rows:=([([112,97,114,116]:List UInt8),y8,y9]:List (List UInt8)).map rS) underlying88 hi9 hs9 hz9 rfl rfl rfl rfl rfl,g_callF (en 4 rfl) rfl rfl rfl (c_x_Itoa (hy9)),g_callF (en 4 rfl) rfl rfl rfl (c_x_Itoa (hy8)),(show drawB _ _=true by kernel_rfl)⟩ ?_
     refine .ite H rfl (fun H=>?_) (fun H=>?_)
     ·obtain ⟨hk5,H⟩:=ck_some H
      refine .A 6 [.d (slOf 1 rS ([([108,97,115,116]:List UInt8)]:List (List UInt8))),.a 0 9 1 rS ((([(([118,116,100,99]:List UInt8).take v0.kind.toNat).drop (v0.kind-1).toNat,y2,y3,v0.a,v6j1,y4,y5]:List (List UInt8))++([([112,97,114,116]:List UInt8),y8,y9]:List (List UInt8)))++([([108,97,115,116]:List UInt8)]:List (List UInt8)))] rfl ⟨s88.a rfl rfl rfl rfl hk5,g_buildSlice1 underlying88 hi9 hs9 hz9 rfl rfl rfl rfl rfl⟩ ?_
      exact .z (hj2 ((([(([118,116,100,99]:List UInt8).take v0.kind.toNat).drop (v0.kind-1).toNat,y2,y3,v0.a,v6j1,y4,y5]:List (List UInt8))++([([112,97,114,116]:List UInt8),y8,y9]:List (List UInt8)))++([([108,97,115,116]:List UInt8)]:List (List UInt8))) H) rfl rfl
     ·refine .A 1 [] rfl trivial ?_
      exact .z (hj2 (([(([118,116,100,99]:List UInt8).take v0.kind.toNat).drop (v0.kind-1).toNat,y2,y3,v0.a,v6j1,y4,y5]:List (List UInt8))++([([112,97,114,116]:List UInt8),y8,y9]:List (List UInt8))) H) rfl rfl
    ·refine .A 1 [] rfl trivial ?_
     exact .z (hj2 ([(([118,116,100,99]:List UInt8).take v0.kind.toNat).drop (v0.kind-1).toNat,y2,y3,v0.a,v6j1,y4,y5]:List (List UInt8)) H) rfl rfl
  ·intro hj1
   refine .A 5 [] rfl trivial ?_
   refine .ite H rfl (fun H=>?_) (fun H=>?_)
   ·refine .A 3 [] rfl trivial ?_
    exact .z (hj1 ([45]:List UInt8) H) rfl rfl
   ·refine .A 1 [] rfl trivial ?_
    exact .z (hj1 v0.b H) rfl rfl
theorem c_f_validate_Check {v0r:Record} {r:Int} (H:f_validate_Check v0r=some r):ACall prog 58 [.agg (Record.row v0r)] (·=cI r):=by
 refine ACall.enter' func58 rfl ntmps58 rfl fun S hS=>?_
 unfold f_validate_Check at H
 obtain ⟨y1,hy1,H⟩:=bind_some' H
 refine .A 20 [.r 0,.d (.tup [cS y1.1,cI y1.2])] rfl (g_call (en 6 rfl) rfl rfl (c_f_textual_Encode (hy1))) ?_
 refine .R func58 results58 rfl ?_
 cases H
 exact .m rfl (.rfl' _)
theorem c_f_correlate_callOf {v0r:Record} {r:CorrelateCall} (H:f_correlate_callOf v0r=some r):ACall prog 32 [.agg (Record.row v0r)] (·=.agg (CorrelateCall.row r)):=by
 obtain ⟨i51,hi51,hz51,hs51,hb51⟩:=in_51
 refine ACall.enter' func32 rfl ntmps32 rfl fun S hS=>?_
 unfold f_correlate_callOf at H
 refine .A 14 [.r 0,.r 1,.d (.agg (CorrelateCall.row (⟨v0r.source,v0r.call⟩:CorrelateCall)))] rfl (OpQ.g (q_buildP pl_51 hi51 hz51 rfl rfl)) ?_
 refine .R func32 results32 rfl ?_
 cases H
 exact .m rfl (.rfl' _)
set_option maxRecDepth 100000
set_option maxHeartbeats 1000000
theorem c_f_correlate_commonOf {v0r:Record} {r:CorrelateCommon} (H:f_correlate_commonOf v0r=some r):ACall prog 59 [.agg (Record.row v0r)] (·=.agg (CorrelateCommon.row r)):=by
 obtain ⟨i75,hi75,hz75,hs75,hb75⟩:=in_75
 refine ACall.enter' func59 rfl ntmps59 rfl fun S hS=>?_
 unfold f_correlate_commonOf at H
 obtain ⟨y1,hy1,H⟩:=bind_some' H
 refine .A 23 [.r 0,.r 1,.p 13,.d (.agg (CorrelateCall.row y1)),.d (.agg (CorrelateCommon.row (⟨y1,v0r.kind,v0r.a,v0r.b,v0r.trunk,v0r.inbound⟩:CorrelateCommon)))] rfl ⟨OpQ.g (q_buildP pl_75 hi75 hz75 rfl rfl),g_call (en 7 rfl) rfl rfl (c_f_correlate_callOf (hy1)),(show drawB _ _=true by kernel_rfl)⟩ ?_
 refine .R func59 results59 rfl ?_
 cases H
 exact .m rfl (.rfl' _)
theorem c_f_correlate_whole {v0parts:List Record} {r:Record×Bool} (H:f_correlate_whole v0parts=some r):ACall prog 43 [slOf 12 Record.row v0parts] (·=.tup [.agg (Record.row r.1),cB r.2]):=by
 obtain ⟨i32,hi32,hz32,hs32,hb32⟩:=in_32
 refine ACall.enter' func43 rfl ntmps43 rfl fun S hS=>?_
 unfold f_correlate_whole at H
 refine .A 12 [.r 0,.i (v0parts.length:Int)] rfl (s22.n rfl rfl) ?_
 refine .ite H rfl (fun H=>?_) (fun H=>?_)
 ·refine .A 6 [.d (.agg (Record.row (⟨0,0,0,([]:List UInt8),([]:List UInt8),0,0,0,0,false,0,false⟩:Record)))] rfl (OpQ.g (q_buildP pl_32 hi32 hz32 rfl rfl)) ?_
  refine .R func43 results43 rfl ?_
  cases H
  exact .m rfl (.tupD rfl)
 ·obtain ⟨hk1,H⟩:=ck_some H
  obtain ⟨y1,hy1,H⟩:=bind_some' H
  refine .A 22 [.d (.ro (Record.row (nth v0parts (Int.toNat (0))))),.d (.agg (Record.row y1)),.r 1,.i (v0parts.length:Int)] rfl ⟨s22.n rfl rfl,g_call (en 8 rfl) rfl rfl (c_f_correlate_alone (hy1)),s22.ix rfl rfl rfl hk1⟩ ?_
  refine .blockJoin2 (ι:=Int) (fun o1c6j1=>[(2,.ref 0 0),(4,.ref 1 0)]) (fun o1c6j1=>⟨[.row 32 [.d (cI 0),.d (cI 0),.d (cI 0),.d (cS ([]:List UInt8)),.d (cS ([]:List UInt8)),.d (cI 0),.d (cI 0),.d (cI 0),.d (cI 0),.d (cB false),.d (cI 0),.d (cB false)],.row 32 [.d (cI y1.source),.d (cI y1.serial),.d (cI y1.kind),.d (cS y1.a),.d (cS y1.b),.d (cI y1.start),.d (cI o1c6j1),.d (cI y1.call),.d (cI y1.part),.d (cB y1.last),.d (cI y1.trunk),.d (cB y1.inbound)]],[]⟩) (fun s=>f_correlate_whole_j1 y1 s=some r) ?_ ?_
  ·rintro o1c6j1 H
   replace H:f_correlate_whole_j1 y1 o1c6j1=some r:=H
   unfold f_correlate_whole_j1 at H
   obtain ⟨y2,hy2,H⟩:=bind_some' H
   refine .A 7 [.i y2] rfl (g_call (en 9 rfl) rfl rfl (c_f_validate_Check (hy2))) ?_
   refine .ite H rfl (fun H=>?_) (fun H=>?_)
   ·refine .A 6 [.d (.agg (Record.row (⟨0,0,0,([]:List UInt8),([]:List UInt8),0,0,0,0,false,0,false⟩:Record)))] rfl (OpQ.g (q_buildP pl_32 hi32 hz32 rfl rfl)) ?_
    refine .R func43 results43 rfl ?_
    cases H
    exact .m rfl (.tupD rfl)
   ·refine .A 7 [] rfl trivial ?_
    refine .R func43 results43 rfl ?_
    cases H
    exact .m rfl (.tupD rfl)
  ·intro hj1 hj1x
   obtain ⟨n1,H⟩:=loop_some H
   refine .loop (ι:=Nat×(Int×Int)) (fun ⟨_,v18l1,o1c6l1⟩=>[(0,.d (slOf 12 Record.row v0parts)),(2,.ref 0 0),(4,.ref 1 0),(16,.d (slOf 12 Record.row v0parts)),(17,.d (cI (v0parts.length:Int))),(18,.d (cI v18l1))]) (fun ⟨_,v18l1,o1c6l1⟩=>⟨[.row 32 [.d (cI 0),.d (cI 0),.d (cI 0),.d (cS ([]:List UInt8)),.d (cS ([]:List UInt8)),.d (cI 0),.d (cI 0),.d (cI 0),.d (cI 0),.d (cB false),.d (cI 0),.d (cB false)],.row 32 [.d (cI y1.source),.d (cI y1.serial),.d (cI y1.kind),.d (cS y1.a),.d (cS y1.b),.d (cI y1.start),.d (cI o1c6l1),.d (cI y1.call),.d (cI y1.part),.d (cB y1.last),.d (cI y1.trunk),.d (cB y1.inbound)]],[]⟩) (fun p=>iter (fun s=>f_correlate_whole_l1 v0parts y1 s.1 s.2) p.1 p.2=some r) (·.1) (n1,(0,0)) H (.cons rfl (.rfl' _) (.cons rfl (.rfl' _) (.cons rfl (.rfl' _) (.cons rfl (.rfl' _) (.cons rfl (.rfl' _) (.cons rfl (.rfl' _) (.nil))))))) rfl ?_
   rintro ⟨m1,v18l1,o1c6l1⟩ HI ih1
   obtain ⟨n1,q1,hm1,H,HK1⟩:=iter_succ HI
   clear HI
   replace H:f_correlate_whole_l1 v0parts y1 v18l1 o1c6l1=some q1:=H
   unfold f_correlate_whole_l1 at H
   refine .A 5 [] rfl trivial ?_
   refine .ite H rfl (fun H=>?_) (fun H=>?_)
   ·obtain ⟨hk2,H⟩:=ck_some H
    obtain ⟨y3,hy3,H⟩:=bind_some' H
    obtain ⟨y4,hy4,H⟩:=bind_some' H
    obtain ⟨hk3,H⟩:=ck_some H
    obtain ⟨y5,hy5,H⟩:=bind_some' H
    obtain ⟨hk4,H⟩:=ck_some H
    refine .A 40 [.d (.ro (Record.row (nth v0parts v18l1.toNat))),.r 2,.p 25,.i y3,.d (.agg (CorrelateCommon.row y4)),.d (.ro (Record.row (nth v0parts (Int.toNat (0))))),.d (.agg (CorrelateCommon.row y5)),.b (!(eqVs (CorrelateCommon.vals y4) (CorrelateCommon.vals y5))),.i (1099511627776-o1c6l1)] rfl ⟨rfl,rfl,rfl,fun hg=>g_subI rfl rfl (hk4 hg),rfl,rfl,rfl,rfl,fun hg=>OpQ.g (q_gtneq fg_75 rfl rfl (xs:=CorrelateCommon.vals y4) (ys:=CorrelateCommon.vals y5) rfl rfl rfl rfl),rfl,rfl,fun hg=>g_call (en 10 rfl) rfl rfl (c_f_correlate_commonOf (gcall_some hy5 hg)),rfl,rfl,fun hg=>s22.ix rfl rfl rfl (hk3 hg),rfl,fun hg=>g_call (en 10 rfl) rfl rfl (c_f_correlate_commonOf (gcall_some hy4 hg)),rfl,rfl,rfl,fun hg=>g_call (en 9 rfl) rfl rfl (c_f_validate_Check (gcall_some hy3 hg)),rfl,(show drawB _ _=true by kernel_rfl),s22.ix rfl rfl rfl hk2⟩ ?_
    refine .ite H rfl (fun H=>?_) (fun H=>?_)
    ·refine .A 6 [.d (.agg (Record.row (⟨0,0,0,([]:List UInt8),([]:List UInt8),0,0,0,0,false,0,false⟩:Record)))] rfl (OpQ.g (q_buildP pl_32 hi32 hz32 rfl rfl)) ?_
     refine .R func43 results43 rfl ?_
     cases H
     cases HK1
     exact .m rfl (.tupD rfl)
    ·obtain ⟨hk5,H⟩:=ck_some H
     obtain ⟨hk6,H⟩:=ck_some H
     refine .A 15 [.i (o1c6l1+((nth v0parts v18l1.toNat).units)),.i (v18l1+1)] rfl ⟨g_addI rfl rfl hk6,g_addI rfl rfl hk5⟩ ?_
     cases H
     exact .t 2 0 (ih1 (n1,(v18l1+1,o1c6l1+((nth v0parts v18l1.toNat).units))) HK1 hm1) rfl rfl rfl rfl rfl hS rfl
   ·refine .A 1 [] rfl trivial ?_
    obtain ⟨q0,H9,hq0⟩:=map_some' H; clear H; cases hq0
    cases HK1
    have H:=H9
    exact .z (hj1x o1c6l1 H) rfl rfl
theorem c_f_correlate_Complete {v0parts:List Record} {r:Record×Bool} (H:f_correlate_Complete v0parts=some r):ACall prog 18 [slOf 12 Record.row v0parts] (·=.tup [.agg (Record.row r.1),cB r.2]):=by
 obtain ⟨i32,hi32,hz32,hs32,hb32⟩:=in_32
 refine ACall.enter' func18 rfl ntmps18 rfl fun S hS=>?_
 unfold f_correlate_Complete at H
 refine .A 12 [.r 0,.i (v0parts.length:Int)] rfl (s22.n rfl rfl) ?_
 refine .blockJoin2 (ι:=Unit) (fun _=>[(0,.d (slOf 12 Record.row v0parts)),(2,.ref 0 0)]) (fun _=>⟨[.row 32 [.d (cI 0),.d (cI 0),.d (cI 0),.d (cS ([]:List UInt8)),.d (cS ([]:List UInt8)),.d (cI 0),.d (cI 0),.d (cI 0),.d (cI 0),.d (cB false),.d (cI 0),.d (cB false)]],[]⟩) (fun s=>f_correlate_Complete_j1 v0parts=some r) ?_ ?_
 ·rintro _ H
  replace H:f_correlate_Complete_j1 v0parts=some r:=H
  unfold f_correlate_Complete_j1 at H
  obtain ⟨y1,hy1,H⟩:=bind_some' H
  refine .A 9 [.d (.tup [.agg (Record.row y1.1),cB y1.2])] rfl (g_call (en 11 rfl) rfl rfl (c_f_correlate_whole (hy1))) ?_
  refine .R func18 results18 rfl ?_
  cases H
  exact .m rfl (.tupD rfl)
 ·intro hj1 hj1x
  obtain ⟨n1,H⟩:=loop_some H
  refine .loop (ι:=Nat×(Int)) (fun ⟨_,v8l1⟩=>[(0,.d (slOf 12 Record.row v0parts)),(2,.ref 0 0),(6,.d (slOf 12 Record.row v0parts)),(7,.d (cI (v0parts.length:Int))),(8,.d (cI v8l1))]) (fun ⟨_,v8l1⟩=>⟨[.row 32 [.d (cI 0),.d (cI 0),.d (cI 0),.d (cS ([]:List UInt8)),.d (cS ([]:List UInt8)),.d (cI 0),.d (cI 0),.d (cI 0),.d (cI 0),.d (cB false),.d (cI 0),.d (cB false)]],[]⟩) (fun p=>iter (fun s=>f_correlate_Complete_l1 v0parts s) p.1 p.2=some r) (·.1) (n1,0) H (.cons rfl (.rfl' _) (.cons rfl (.rfl' _) (.cons rfl (.rfl' _) (.cons rfl (.rfl' _) (.cons rfl (.rfl' _) (.nil)))))) rfl ?_
  rintro ⟨m1,v8l1⟩ HI ih1
  obtain ⟨n1,q1,hm1,H,HK1⟩:=iter_succ HI
  clear HI
  replace H:f_correlate_Complete_l1 v0parts v8l1=some q1:=H
  unfold f_correlate_Complete_l1 at H
  refine .A 5 [] rfl trivial ?_
  refine .ite H rfl (fun H=>?_) (fun H=>?_)
  ·obtain ⟨hk1,H⟩:=ck_some H
   obtain ⟨hk2,H⟩:=ck_some H
   obtain ⟨hk3,H⟩:=ck_some H
   refine .A 30 [.d (.ro (Record.row (nth v0parts v8l1.toNat))),.r 1,.i (v8l1+1),.i (v0parts.length:Int),.i ((v0parts.length:Int) - 1),.b (((nth v0parts v8l1.toNat).last) != (v8l1==((v0parts.length:Int) - 1)))] rfl ⟨rfl,fun hg=>OpQ.g (q_bneq rfl underlying4 rfl),rfl,rfl,rfl,rfl,fun hg=>g_subI rfl rfl (hk3 hg),rfl,fun hg=>s22.n rfl rfl,rfl,rfl,g_addI rfl rfl hk2,s22.ix rfl rfl rfl hk1⟩ ?_
   refine .ite H rfl (fun H=>?_) (fun H=>?_)
   ·refine .A 6 [.d (.agg (Record.row (⟨0,0,0,([]:List UInt8),([]:List UInt8),0,0,0,0,false,0,false⟩:Record)))] rfl (OpQ.g (q_buildP pl_32 hi32 hz32 rfl rfl)) ?_
    refine .R func18 results18 rfl ?_
    cases H
    cases HK1
    exact .m rfl (.tupD rfl)
   ·obtain ⟨hk4,H⟩:=ck_some H
    refine .A 6 [.i (v8l1+1)] rfl (g_addI rfl rfl hk4) ?_
    cases H
    exact .t 1 0 (ih1 (n1,(v8l1+1)) HK1 hm1) rfl rfl rfl rfl rfl hS rfl
  ·refine .A 1 [] rfl trivial ?_
   obtain ⟨q0,H9,hq0⟩:=map_some' H; clear H; cases hq0
   cases HK1
   have H:=H9
   exact .z (hj1x () H) rfl rfl
theorem c_f_cmp_isNaN_int {v0x:Int} {r:Bool} (H:f_cmp_isNaN_int v0x=some r):ACall prog 63 [cI v0x] (·=cB r):=by
 refine ACall.enter' func63 rfl ntmps63 rfl fun S hS=>?_
 unfold f_cmp_isNaN_int at H
 refine .A 11 [] rfl trivial ?_
 refine .R func63 results63 rfl ?_
 cases H
 exact .m rfl (.rfl' _)
theorem c_f_cmp_Compare_int {v0x:Int} {v1y:Int} {r:Int} (H:f_cmp_Compare_int v0x v1y=some r):ACall prog 51 [cI v0x,cI v1y] (·=cI r):=by
 refine ACall.enter' func51 rfl ntmps51 rfl fun S hS=>?_
 unfold f_cmp_Compare_int at H
 obtain ⟨y1,hy1,H⟩:=bind_some' H
 obtain ⟨y2,hy2,H⟩:=bind_some' H
 refine .A 21 [.b y1,.b y2] rfl ⟨g_call (en 12 rfl) rfl rfl (c_f_cmp_isNaN_int (hy2)),g_call (en 12 rfl) rfl rfl (c_f_cmp_isNaN_int (hy1))⟩ ?_
 refine .ite H rfl (fun H=>?_) (fun H=>?_)
 ·refine .A 5 [] rfl trivial ?_
  refine .ite H rfl (fun H=>?_) (fun H=>?_)
  ·refine .A 4 [] rfl trivial ?_
   refine .R func51 results51 rfl ?_
   cases H
   exact .m rfl (.rfl' _)
  ·refine .A 5 [] rfl trivial ?_
   refine .R func51 results51 rfl ?_
   cases H
   exact .m rfl (.rfl' _)
 ·refine .A 6 [] rfl trivial ?_
  refine .ite H rfl (fun H=>?_) (fun H=>?_)
  ·refine .A 4 [] rfl trivial ?_
   refine .R func51 results51 rfl ?_
   cases H
   exact .m rfl (.rfl' _)
  ·refine .A 8 [] rfl trivial ?_
   refine .ite H rfl (fun H=>?_) (fun H=>?_)
   ·refine .A 4 [] rfl trivial ?_
    refine .R func51 results51 rfl ?_
    cases H
    exact .m rfl (.rfl' _)
   ·refine .A 8 [] rfl trivial ?_
    refine .ite H rfl (fun H=>?_) (fun H=>?_)
    ·refine .A 4 [] rfl trivial ?_
     refine .R func51 results51 rfl ?_
     cases H
     exact .m rfl (.rfl' _)
    ·refine .A 5 [] rfl trivial ?_
     refine .R func51 results51 rfl ?_
     cases H
     exact .m rfl (.rfl' _)
theorem c_f_cmp_Or_int {v0vals:List Int} {r:Int} (H:f_cmp_Or_int v0vals=some r):ACall prog 50 [slOf 1 rI v0vals] (·=cI r):=by
 refine ACall.enter' func50 rfl ntmps50 rfl fun S hS=>?_
 unfold f_cmp_Or_int at H
 refine .A 16 [.i (v0vals.length:Int)] rfl (s37.n rfl rfl) ?_
 obtain ⟨n1,H⟩:=loop_some H
 refine .loop (ι:=Nat×(Int)) (fun ⟨_,v8l1⟩=>[(3,.d (cI 0)),(6,.d (slOf 1 rI v0vals)),(7,.d (cI (v0vals.length:Int))),(8,.d (cI v8l1))]) (fun ⟨_,v8l1⟩=>⟨[],[]⟩) (fun p=>iter (fun s=>f_cmp_Or_int_l1 v0vals s) p.1 p.2=some r) (·.1) (n1,0) H (.cons rfl (.rfl' _) (.cons rfl (.rfl' _) (.cons rfl (.rfl' _) (.cons rfl (.rfl' _) (.nil))))) rfl ?_
 rintro ⟨m1,v8l1⟩ HI ih1
 obtain ⟨n1,q1,hm1,H,HK1⟩:=iter_succ HI
 clear HI
 replace H:f_cmp_Or_int_l1 v0vals v8l1=some q1:=H
 unfold f_cmp_Or_int_l1 at H
 refine .A 5 [] rfl trivial ?_
 refine .ite H rfl (fun H=>?_) (fun H=>?_)
 ·obtain ⟨hk1,H⟩:=ck_some H
  refine .A 15 [.d (.ro (rI (nth v0vals v8l1.toNat)))] rfl (s37.ix rfl rfl rfl hk1) ?_
  refine .ite H rfl (fun H=>?_) (fun H=>?_)
  ·refine .A 5 [] rfl trivial ?_
   refine .R func50 results50 rfl ?_
   cases H
   cases HK1
   exact .m rfl (.rfl' _)
  ·obtain ⟨hk2,H⟩:=ck_some H
   refine .A 6 [.i (v8l1+1)] rfl (g_addI rfl rfl hk2) ?_
   cases H
   exact .z (ih1 (n1,(v8l1+1)) HK1 hm1) rfl rfl
 ·refine .A 6 [] rfl trivial ?_
  refine .R func50 results50 rfl ?_
  cases H
  cases HK1
  exact .m rfl (.rfl' _)
theorem c_f_correlate_before {v0a:Record} {v1b:Record} {r:Int} (H:f_correlate_before v0a v1b=some r):ACall prog 29 [.agg (Record.row v0a),.agg (Record.row v1b)] (·=cI r):=by
 obtain ⟨i3,hi3,hz3,hs3,hb3⟩:=in_3
 refine ACall.enter' func29 rfl ntmps29 rfl fun S hS=>?_
 unfold f_correlate_before at H
 obtain ⟨y1,hy1,H⟩:=bind_some' H
 obtain ⟨y2,hy2,H⟩:=bind_some' H
 obtain ⟨y3,hy3,H⟩:=bind_some' H
 obtain ⟨y4,hy4,H⟩:=bind_some' H
 refine .A 28 [.r 0,.r 1,.p 18,.i y1,.i y2,.i y3,.d (slOf 1 rI ([y1,y2,y3]:List Int)),.i y4] rfl ⟨g_call (en 13 rfl) rfl rfl (c_f_cmp_Or_int (hy4)),g_buildSliceN (n:=3) (rows:=([y1,y2,y3]:List Int).map rI) underlying37 hi3 hs3 hz3 rfl rfl rfl rfl rfl,g_call (en 14 rfl) rfl rfl (c_f_cmp_Compare_int (hy3)),g_call (en 14 rfl) rfl rfl (c_f_cmp_Compare_int (hy2)),g_call (en 14 rfl) rfl rfl (c_f_cmp_Compare_int (hy1)),(show drawB _ _=true by kernel_rfl)⟩ ?_
 refine .R func29 results29 rfl ?_
 cases H
 exact .m rfl (.rfl' _)
theorem c_g_correlate_span_1 {v0r:Record} {o0c0p:CorrelateCall} {r:Bool} (H:g_correlate_span_1 v0r o0c0p=some r):ACallS prog 57 [.d (.agg (Record.row v0r)),.ref 0 0] ⟨[.row 51 [.d (cI o0c0p.source),.d (cI o0c0p.number)]],[]⟩ (QE (.d (cB r)) ⟨[.row 51 [.d (cI o0c0p.source),.d (cI o0c0p.number)]],[]⟩):=by
 refine ACallS.keep ?_
 refine ACallS.enter func57 rfl ntmps57 rfl fun S hS=>?_
 unfold g_correlate_span_1 at H
 obtain ⟨y1,hy1,H⟩:=bind_some' H
 refine .A 14 [.r 1,.p 5,.d (.agg (CorrelateCall.row y1)),.b (eqVs (CorrelateCall.vals y1) (CorrelateCall.vals o0c0p))] rfl ⟨OpQ.g (q_steql fk_51 rfl rfl (xs:=CorrelateCall.vals y1) (ys:=CorrelateCall.vals o0c0p) rfl rfl rfl rfl),g_call (en 7 rfl) rfl rfl (c_f_correlate_callOf (hy1)),(show drawB _ _=true by kernel_rfl)⟩ ?_
 refine .R func57 results57 rfl ?_
 cases H
 exact ⟨[0],[],rfl,rfl,rfl,rfl,rfl,rfl,rfl,rfl,.rfl' _⟩
theorem c_g_api_Record {v0s:List Record} {o0c0p:CorrelateCall} {r:Int} (H:g_api_Record v0s o0c0p=some r):ACallS prog 56 [.d (slOf 12 Record.row v0s),.clo 57 [.ref 0 0]] ⟨[.row 51 [.d (cI o0c0p.source),.d (cI o0c0p.number)]],[]⟩ (QE (.d (cI r)) ⟨[.row 51 [.d (cI o0c0p.source),.d (cI o0c0p.number)]],[]⟩):=by
 refine ACallS.keep ?_
 refine ACallS.enter func56 rfl ntmps56 rfl fun S hS=>?_
 unfold g_api_Record at H
 refine .A 12 [.i (v0s.length:Int)] rfl (s22.n rfl rfl) ?_
 obtain ⟨n1,H⟩:=loop_some H
 refine .loop (ι:=Nat×(Int)) (fun ⟨_,v8l1⟩=>[(0,.d (slOf 12 Record.row v0s)),(1,.clo 57 [.ref 0 0]),(7,.d (cI (v0s.length:Int))),(8,.d (cI v8l1))]) (fun ⟨_,v8l1⟩=>⟨[.row 51 [.d (cI o0c0p.source),.d (cI o0c0p.number)]],[]⟩) (fun p=>iter (fun s=>g_api_Record_l1 v0s o0c0p s) p.1 p.2=some r) (·.1) (n1,0) H (.cons rfl (.rfl' _) (.cons rfl (.rfl' _) (.cons rfl (.rfl' _) (.cons rfl (.rfl' _) (.nil))))) rfl ?_
 rintro ⟨m1,v8l1⟩ HI ih1
 obtain ⟨n1,q1,hm1,H,HK1⟩:=iter_succ HI
 clear HI
 replace H:g_api_Record_l1 v0s o0c0p v8l1=some q1:=H
 unfold g_api_Record_l1 at H
 refine .A 5 [] rfl trivial ?_
 refine .ite H rfl (fun H=>?_) (fun H=>?_)
 ·obtain ⟨hk1,H⟩:=ck_some H
  obtain ⟨y1,hy1,H⟩:=bind_some' H
  refine .B 15 [.d (.ro (Record.row (nth v0s v8l1.toNat)))] rfl (s22.ix rfl rfl rfl hk1) ?_
  refine .callFC (en 15 rfl) rfl rfl [0] [] (x:=.d (cB y1)) (st':=⟨[.row 51 [.d (cI o0c0p.source),.d (cI o0c0p.number)]],[]⟩) rfl (c_g_correlate_span_1 (hy1)) ⟨.rfl' _,.rfl' _,trivial⟩ rfl rfl rfl rfl rfl rfl ?_
  refine .A 1 [] rfl trivial ?_
  refine .ite H rfl (fun H=>?_) (fun H=>?_)
  ·refine .A 5 [] rfl trivial ?_
   refine .R func56 results56 rfl ?_
   cases H
   cases HK1
   exact ⟨[0],[],rfl,rfl,rfl,rfl,rfl,rfl,rfl,rfl,.rfl' _⟩
  ·obtain ⟨hk2,H⟩:=ck_some H
   refine .A 6 [.i (v8l1+1)] rfl (g_addI rfl rfl hk2) ?_
   cases H
   exact .z (ih1 (n1,(v8l1+1)) HK1 hm1) rfl rfl
 ·refine .A 5 [] rfl trivial ?_
  refine .R func56 results56 rfl ?_
  cases H
  cases HK1
  exact ⟨[0],[],rfl,rfl,rfl,rfl,rfl,rfl,rfl,rfl,.rfl' _⟩
theorem c_f_correlate_span {v0open:List Record} {v1c:CorrelateCall} {r:Int×Int} (H:f_correlate_span v0open v1c=some r):ACall prog 38 [slOf 12 Record.row v0open,.agg (CorrelateCall.row v1c)] (·=.tup [cI r.1,cI r.2]):=by
 refine ACall.enter' func38 rfl ntmps38 rfl fun S hS=>?_
 unfold f_correlate_span at H
 obtain ⟨y1,hy1,H⟩:=bind_some' H
 refine .B 10 [.r 0,.g (.clo 57 [.ref 0 0])] rfl (OpQ.g (q_makeFunc rfl)) ?_
 refine .callF (en 16 rfl) rfl [0] [] (x:=.d (cI y1)) (st':=⟨[.row 51 [.d (cI v1c.source),.d (cI v1c.number)]],[]⟩) rfl (c_g_api_Record (hy1)) ⟨.rfl' _,.rfl' _,trivial⟩ rfl rfl rfl rfl rfl rfl ?_
 refine .A 8 [] rfl trivial ?_
 refine .ite H rfl (fun H=>?_) (fun H=>?_)
 ·refine .A 5 [] rfl trivial ?_
  refine .R func38 results38 rfl ?_
  cases H
  exact .m rfl (.tupD rfl)
 ·refine .A 8 [] rfl trivial ?_
  obtain ⟨n1,H⟩:=loop_some H
  refine .loop (ι:=Nat×(Int)) (fun ⟨_,v5tol1⟩=>[(0,.d (slOf 12 Record.row v0open)),(3,.ref 0 0),(4,.d (cI y1)),(5,.d (cI v5tol1))]) (fun ⟨_,v5tol1⟩=>⟨[.row 51 [.d (cI v1c.source),.d (cI v1c.number)]],[]⟩) (fun p=>iter (fun s=>f_correlate_span_l1 v0open v1c y1 s) p.1 p.2=some r) (·.1) (n1,y1) H (.cons rfl (.rfl' _) (.cons rfl (.rfl' _) (.cons rfl (.rfl' _) (.cons rfl (.rfl' _) (.nil))))) rfl ?_
  rintro ⟨m1,v5tol1⟩ HI ih1
  obtain ⟨n1,q1,hm1,H,HK1⟩:=iter_succ HI
  clear HI
  replace H:f_correlate_span_l1 v0open v1c y1 v5tol1=some q1:=H
  unfold f_correlate_span_l1 at H
  obtain ⟨hk1,H⟩:=ck_some H
  obtain ⟨y2,hy2,H⟩:=bind_some' H
  refine .A 18 [.p 13,.i (v0open.length:Int),.d (.ro (Record.row (nth v0open v5tol1.toNat))),.d (.agg (CorrelateCall.row y2)),.b (eqVs (CorrelateCall.vals y2) (CorrelateCall.vals v1c))] rfl ⟨rfl,fun hg=>OpQ.g (q_steql fk_51 rfl rfl (xs:=CorrelateCall.vals y2) (ys:=CorrelateCall.vals v1c) rfl rfl rfl rfl),rfl,rfl,fun hg=>g_call (en 7 rfl) rfl rfl (c_f_correlate_callOf (gcall_some hy2 hg)),rfl,rfl,fun hg=>s22.ix rfl rfl rfl (hk1 hg),rfl,rfl,s22.n rfl rfl,(show drawB _ _=true by kernel_rfl)⟩ ?_
  refine .ite H rfl (fun H=>?_) (fun H=>?_)
  ·obtain ⟨hk2,H⟩:=ck_some H
   refine .A 8 [.i (v5tol1+1)] rfl (g_addI rfl rfl hk2) ?_
   cases H
   exact .z (ih1 (n1,(v5tol1+1)) HK1 hm1) rfl rfl
  ·refine .A 8 [] rfl trivial ?_
   refine .R func38 results38 rfl ?_
   cases H
   cases HK1
   exact .m rfl (.tupD rfl)
set_option maxRecDepth 100000
set_option maxHeartbeats 1000000
theorem c_f_correlate_candidates {v0parts:List Record} {v1last:Bool} {r:(List Int)} (H:f_correlate_candidates v0parts v1last=some r):ACall prog 54 [slOf 12 Record.row v0parts,cB v1last] (·=slOf 1 rI r):=by
 obtain ⟨i3,hi3,hz3,hs3,hb3⟩:=in_3
 refine ACall.enter' func54 rfl ntmps54 rfl fun S hS=>?_
 unfold f_correlate_candidates at H
 refine .A 16 [.v (.mp 0) ⟨[.map (mEnc (fun n=>Value.int .i64 n) (fun x=>cI x) ([]:List (Int×Int)))],[]⟩,.i (v0parts.length:Int)] rfl ⟨s22.n rfl rfl,.e (v_makeMap) rfl⟩ ?_
 refine .blockJoin2 (ι:=(List (Int×Int))) (fun o0c0j1=>[(0,.d (slOf 12 Record.row v0parts)),(1,.d (cB v1last)),(5,.mp 0)]) (fun o0c0j1=>⟨[.map (mEnc (fun n=>Value.int .i64 n) (fun x=>cI x) o0c0j1)],[]⟩) (fun s=>f_correlate_candidates_j1 v0parts v1last s=some r) ?_ ?_
 ·rintro o0c0j1 H
  replace H:f_correlate_candidates_j1 v0parts v1last o0c0j1=some r:=H
  unfold f_correlate_candidates_j1 at H
  refine .A 9 [] rfl trivial ?_
  refine .tok (i:=10) (e:=3) (sz:=1) rfl ?_
  obtain ⟨n1,H⟩:=loop_some H
  refine .loop (ι:=Nat×(List Int×Int)) (fun ⟨_,v10outl1,v11kl1⟩=>[(0,.d (slOf 12 Record.row v0parts)),(1,.d (cB v1last)),(5,.mp 0),(10,.tsl 1 (v10outl1.map rI) 0),(11,.d (cI v11kl1))]) (fun ⟨_,v10outl1,v11kl1⟩=>⟨[.map (mEnc (fun n=>Value.int .i64 n) (fun x=>cI x) o0c0j1)],[⟨3,1,v10outl1.length,none⟩]⟩) (fun p=>iter (fun s=>f_correlate_candidates_l1 v0parts v1last o0c0j1 s.1 s.2) p.1 p.2=some r) (·.1) (n1,(([]:List Int),1)) H (.cons rfl (.rfl' _) (.cons rfl (.rfl' _) (.cons rfl (.rfl' _) (.cons rfl (.rfl' _) (.cons rfl (.rfl' _) (.nil)))))) rfl ?_
  rintro ⟨m1,v10outl1,v11kl1⟩ HI ih1
  obtain ⟨n1,q1,hm1,H,HK1⟩:=iter_succ HI
  clear HI
  replace H:f_correlate_candidates_l1 v0parts v1last o0c0j1 v10outl1 v11kl1=some q1:=H
  unfold f_correlate_candidates_l1 at H
  refine .A 19 [.d (.tup [cI ((alook o0c0j1 v11kl1).getD 0),cB ((alook o0c0j1 v11kl1).isSome)])] rfl (OpQ.g (q_lookupOkD (intKF underlying3) (l:=o0c0j1) (val:=(fun x=>cI x)) (k:=v11kl1) (a0:=0) underlying80 hi3 hz3 (show DLe (cI 0) (cI 0) from .rfl' _) rfl rfl rfl (fun _ _ _ h=>exKey h))) ?_
  refine .ite H rfl (fun H=>?_) (fun H=>?_)
  ·refine .A 5 [] rfl trivial ?_
   refine .R func54 results54 rfl ?_
   cases H
   cases HK1
   exact .m rfl (.tsl _ _ _)
  ·obtain ⟨hk1,H⟩:=ck_some H
   obtain ⟨hk2,H⟩:=ck_some H
   refine .A 20 [.d (slOf 1 rI ([(alook o0c0j1 v11kl1).getD 0]:List Int)),.a 0 3 1 rI (v10outl1++([(alook o0c0j1 v11kl1).getD 0]:List Int)),.d (.ro (Record.row (nth v0parts ((alook o0c0j1 v11kl1).getD 0).toNat)))] rfl ⟨rfl,rfl,rfl,fun hg=>s22.ix rfl rfl rfl (hk2 hg),rfl,rfl,s37.a rfl rfl rfl rfl hk1,g_buildSlice1 underlying37 hi3 hs3 hz3 rfl rfl rfl rfl rfl⟩ ?_
   refine .ite H rfl (fun H=>?_) (fun H=>?_)
   ·refine .A 5 [] rfl trivial ?_
    refine .R func54 results54 rfl ?_
    cases H
    cases HK1
    exact .m rfl (.tsl _ _ _)
   ·obtain ⟨hk3,H⟩:=ck_some H
    refine .A 7 [.i (v11kl1+1)] rfl (g_addI rfl rfl hk3) ?_
    cases H
    exact .z (ih1 (n1,(v10outl1++([(alook o0c0j1 v11kl1).getD 0]:List Int),v11kl1+1)) HK1 hm1) rfl rfl
 ·intro hj1 hj1x
  obtain ⟨n2,H⟩:=loop_some H
  refine .loop (ι:=Nat×(Int×(List (Int×Int)))) (fun ⟨_,v17l2,o0c0l2⟩=>[(0,.d (slOf 12 Record.row v0parts)),(1,.d (cB v1last)),(5,.mp 0),(15,.d (slOf 12 Record.row v0parts)),(16,.d (cI (v0parts.length:Int))),(17,.d (cI v17l2))]) (fun ⟨_,v17l2,o0c0l2⟩=>⟨[.map (mEnc (fun n=>Value.int .i64 n) (fun x=>cI x) o0c0l2)],[]⟩) (fun p=>iter (fun s=>f_correlate_candidates_l2 v0parts v1last s.1 s.2) p.1 p.2=some r) (·.1) (n2,(0,([]:List (Int×Int)))) H (.cons rfl (.rfl' _) (.cons rfl (.rfl' _) (.cons rfl (.rfl' _) (.cons rfl (.rfl' _) (.cons rfl (.rfl' _) (.cons rfl (.rfl' _) (.nil))))))) rfl ?_
  rintro ⟨m1,v17l2,o0c0l2⟩ HI ih1
  obtain ⟨n1,q1,hm1,H,HK1⟩:=iter_succ HI
  clear HI
  replace H:f_correlate_candidates_l2 v0parts v1last v17l2 o0c0l2=some q1:=H
  unfold f_correlate_candidates_l2 at H
  refine .A 5 [] rfl trivial ?_
  refine .ite H rfl (fun H=>?_) (fun H=>?_)
  ·obtain ⟨hk4,H⟩:=ck_some H
   refine .A 29 [.d (.ro (Record.row (nth v0parts v17l2.toNat))),.r 1,.d (.tup [cI ((alook o0c0l2 ((nth v0parts v17l2.toNat).part)).getD 0),cB ((alook o0c0l2 ((nth v0parts v17l2.toNat).part)).isSome)])] rfl ⟨OpQ.g (q_lookupOkD (intKF underlying3) (l:=o0c0l2) (val:=(fun x=>cI x)) (k:=(nth v0parts v17l2.toNat).part) (a0:=0) underlying80 hi3 hz3 (show DLe (cI 0) (cI 0) from .rfl' _) rfl rfl rfl (fun _ _ _ h=>exKey h)),s22.ix rfl rfl rfl hk4⟩ ?_
   refine .ite H rfl (fun H=>?_) (fun H=>?_)
   ·obtain ⟨hk5,H⟩:=ck_some H
    refine .A 12 [.u ⟨[.map (mEnc (fun n=>Value.int .i64 n) (fun x=>cI x) (aset o0c0l2 ((nth v0parts v17l2.toNat).part) v17l2)),.row 32 [.d (cI ((nth v0parts v17l2.toNat).source)),.d (cI ((nth v0parts v17l2.toNat).serial)),.d (cI ((nth v0parts v17l2.toNat).kind)),.d (cS ((nth v0parts v17l2.toNat).a)),.d (cS ((nth v0parts v17l2.toNat).b)),.d (cI ((nth v0parts v17l2.toNat).start)),.d (cI ((nth v0parts v17l2.toNat).units)),.d (cI ((nth v0parts v17l2.toNat).call)),.d (cI ((nth v0parts v17l2.toNat).part)),.d (cB ((nth v0parts v17l2.toNat).last)),.d (cI ((nth v0parts v17l2.toNat).trunk)),.d (cB ((nth v0parts v17l2.toNat).inbound))]],[]⟩,.i (v17l2+1)] rfl ⟨g_addI rfl rfl hk5,.e (u_mapUpdateD (intKF underlying3) (l:=o0c0l2) (val:=(fun x=>cI x)) (k:=(nth v0parts v17l2.toNat).part) (a:=v17l2) underlying80 rfl rfl rfl (fun _ _ _ h=>exKey h) rfl (.rfl' _)) rfl⟩ ?_
    cases H
    exact .t 1 0 (ih1 (n1,(v17l2+1,aset o0c0l2 ((nth v0parts v17l2.toNat).part) v17l2)) HK1 hm1) rfl rfl rfl rfl (okBoth rfl (okCons okMap rfl)) hS rfl
   ·obtain ⟨hk6,H⟩:=ck_some H
    refine .A 6 [.i (v17l2+1)] rfl (g_addI rfl rfl hk6) ?_
    cases H
    exact .t 1 0 (ih1 (n1,(v17l2+1,o0c0l2)) HK1 hm1) rfl rfl rfl rfl (okBoth rfl (okCons okMap rfl)) hS rfl
  ·refine .A 1 [] rfl trivial ?_
   obtain ⟨q0,H9,hq0⟩:=map_some' H; clear H; cases hq0
   cases HK1
   have H:=H9
   exact .z (hj1x o0c0l2 H) rfl rfl
theorem c_f_correlate_pick {v0parts:List Record} {v1at:List Int} {r:(List Record)×(List Record)} (H:f_correlate_pick v0parts v1at=some r):ACall prog 41 [slOf 12 Record.row v0parts,slOf 1 rI v1at] (·=.tup [slOf 12 Record.row r.1,slOf 12 Record.row r.2]):=by
 obtain ⟨i4,hi4,hz4,hs4,hb4⟩:=in_4
 obtain ⟨i32,hi32,hz32,hs32,hb32⟩:=in_32
 refine ACall.enter' func41 rfl ntmps41 rfl fun S hS=>?_
 unfold f_correlate_pick at H
 refine .A 17 [.v (.mp 0) ⟨[.map (mEnc (fun n=>Value.int .i64 n) (fun x=>cB x) ([]:List (Int×Bool)))],[]⟩,.i (v1at.length:Int)] rfl ⟨s37.n rfl rfl,.e (v_makeMap) rfl⟩ ?_
 refine .tok (i:=4) (e:=32) (sz:=12) rfl ?_
 refine .blockJoin2 (ι:=List Record×(List (Int×Bool))) (fun ⟨v4pickedj1,o0c0j1⟩=>[(0,.d (slOf 12 Record.row v0parts)),(4,.tsl 12 (v4pickedj1.map Record.row) 0),(5,.d (nilD)),(6,.mp 0)]) (fun ⟨v4pickedj1,o0c0j1⟩=>⟨[.map (mEnc (fun n=>Value.int .i64 n) (fun x=>cB x) o0c0j1)],[⟨32,12,v4pickedj1.length,none⟩]⟩) (fun s=>f_correlate_pick_j1 v0parts s.1 s.2=some r) ?_ ?_
 ·rintro ⟨v4pickedj1,o0c0j1⟩ H
  replace H:f_correlate_pick_j1 v0parts v4pickedj1 o0c0j1=some r:=H
  unfold f_correlate_pick_j1 at H
  refine .A 8 [.i (v0parts.length:Int)] rfl (s22.n rfl rfl) ?_
  refine .tok (i:=5) (e:=32) (sz:=12) rfl ?_
  obtain ⟨n1,H⟩:=loop_some H
  refine .loop (ι:=Nat×(List Record×Int)) (fun ⟨_,v5othersl1,v30l1⟩=>[(4,.tsl 12 (v4pickedj1.map Record.row) 0),(5,.tsl 12 (v5othersl1.map Record.row) 1),(6,.mp 0),(28,.d (slOf 12 Record.row v0parts)),(29,.d (cI (v0parts.length:Int))),(30,.d (cI v30l1))]) (fun ⟨_,v5othersl1,v30l1⟩=>⟨[.map (mEnc (fun n=>Value.int .i64 n) (fun x=>cB x) o0c0j1)],[⟨32,12,v4pickedj1.length,none⟩,⟨32,12,v5othersl1.length,none⟩]⟩) (fun p=>iter (fun s=>f_correlate_pick_l1 v0parts v4pickedj1 o0c0j1 s.1 s.2) p.1 p.2=some r) (·.1) (n1,(([]:List Record),0)) H (.cons rfl (.rfl' _) (.cons rfl (.rfl' _) (.cons rfl (.rfl' _) (.cons rfl (.rfl' _) (.cons rfl (.rfl' _) (.cons rfl (.rfl' _) (.nil))))))) rfl ?_
  rintro ⟨m1,v5othersl1,v30l1⟩ HI ih1
  obtain ⟨n1,q1,hm1,H,HK1⟩:=iter_succ HI
  clear HI
  replace H:f_correlate_pick_l1 v0parts v4pickedj1 o0c0j1 v5othersl1 v30l1=some q1:=H
  unfold f_correlate_pick_l1 at H
  refine .A 5 [] rfl trivial ?_
  refine .ite H rfl (fun H=>?_) (fun H=>?_)
  ·obtain ⟨hk1,H⟩:=ck_some H
   refine .A 19 [.d (.ro (Record.row (nth v0parts v30l1.toNat))),.r 1,.b ((alook o0c0j1 v30l1).getD false)] rfl ⟨OpQ.g (q_lookupD (intKF underlying3) (l:=o0c0j1) (val:=(fun x=>cB x)) (k:=v30l1) (a0:=false) underlying73 hi4 hz4 (show DLe (cB false) (cB false) from .rfl' _) rfl rfl rfl (fun _ _ _ h=>exKey h)),s22.ix rfl rfl rfl hk1⟩ ?_
   refine .ite H rfl (fun H=>?_) (fun H=>?_)
   ·obtain ⟨hk2,H⟩:=ck_some H
    obtain ⟨hk3,H⟩:=ck_some H
    refine .A 12 [.d (slOf 12 Record.row ([nth v0parts v30l1.toNat]:List Record)),.a 1 32 12 Record.row (v5othersl1++([nth v0parts v30l1.toNat]:List Record)),.i (v30l1+1)] rfl ⟨g_addI rfl rfl hk3,s22.a rfl rfl rfl rfl hk2,g_buildSlice1 underlying22 hi32 hs32 hz32 rfl rfl rfl rfl rfl⟩ ?_
    cases H
    exact .t 1 2 (ih1 (n1,(v5othersl1++([nth v0parts v30l1.toNat]:List Record),v30l1+1)) HK1 hm1) rfl rfl rfl rfl (okBoth rfl (okCons okMap rfl)) hS rfl
   ·obtain ⟨hk4,H⟩:=ck_some H
    refine .A 6 [.i (v30l1+1)] rfl (g_addI rfl rfl hk4) ?_
    cases H
    exact .t 1 2 (ih1 (n1,(v5othersl1,v30l1+1)) HK1 hm1) rfl rfl rfl rfl (okBoth rfl (okCons okMap rfl)) hS rfl
  ·refine .A 8 [] rfl trivial ?_
   refine .R func41 results41 rfl ?_
   cases H
   cases HK1
   exact .m rfl (.tupL ⟨.tsl _ _ _,.tsl _ _ _,trivial⟩)
 ·intro hj1 hj1x
  obtain ⟨n2,H⟩:=loop_some H
  refine .loop (ι:=Nat×(List Record×Int×(List (Int×Bool)))) (fun ⟨_,v4pickedl2,v14l2,o0c0l2⟩=>[(0,.d (slOf 12 Record.row v0parts)),(4,.tsl 12 (v4pickedl2.map Record.row) 0),(5,.d (nilD)),(6,.mp 0),(12,.d (slOf 1 rI v1at)),(13,.d (cI (v1at.length:Int))),(14,.d (cI v14l2))]) (fun ⟨_,v4pickedl2,v14l2,o0c0l2⟩=>⟨[.map (mEnc (fun n=>Value.int .i64 n) (fun x=>cB x) o0c0l2)],[⟨32,12,v4pickedl2.length,none⟩]⟩) (fun p=>iter (fun s=>f_correlate_pick_l2 v0parts v1at s.1 s.2.1 s.2.2) p.1 p.2=some r) (·.1) (n2,(([]:List Record),0,([]:List (Int×Bool)))) H (.cons rfl (.rfl' _) (.cons rfl (.rfl' _) (.cons rfl (.rfl' _) (.cons rfl (.rfl' _) (.cons rfl (.rfl' _) (.cons rfl (.rfl' _) (.cons rfl (.rfl' _) (.nil)))))))) rfl ?_
  rintro ⟨m1,v4pickedl2,v14l2,o0c0l2⟩ HI ih1
  obtain ⟨n1,q1,hm1,H,HK1⟩:=iter_succ HI
  clear HI
  replace H:f_correlate_pick_l2 v0parts v1at v4pickedl2 v14l2 o0c0l2=some q1:=H
  unfold f_correlate_pick_l2 at H
  refine .A 5 [] rfl trivial ?_
  refine .ite H rfl (fun H=>?_) (fun H=>?_)
  ·obtain ⟨hk5,H⟩:=ck_some H
   obtain ⟨hk6,H⟩:=ck_some H
   obtain ⟨hk7,H⟩:=ck_some H
   obtain ⟨hk8,H⟩:=ck_some H
   refine .A 30 [.d (.ro (rI (nth v1at v14l2.toNat))),.u ⟨[.map (mEnc (fun n=>Value.int .i64 n) (fun x=>cB x) (aset o0c0l2 (nth v1at v14l2.toNat) true))],[⟨32,12,v4pickedl2.length,none⟩]⟩,.d (.ro (Record.row (nth v0parts (nth v1at v14l2.toNat).toNat))),.d (slOf 12 Record.row ([nth v0parts (nth v1at v14l2.toNat).toNat]:List Record)),.a 0 32 12 Record.row (v4pickedl2++([nth v0parts (nth v1at v14l2.toNat).toNat]:List Record)),.i (v14l2+1)] rfl ⟨g_addI rfl rfl hk8,s22.a rfl rfl rfl rfl hk7,g_buildSlice1 underlying22 hi32 hs32 hz32 rfl rfl rfl rfl rfl,s22.ix rfl rfl rfl hk6,.e (u_mapUpdateD (intKF underlying3) (l:=o0c0l2) (val:=(fun x=>cB x)) (k:=nth v1at v14l2.toNat) (a:=true) underlying73 rfl rfl rfl (fun _ _ _ h=>exKey h) rfl (.rfl' _)) rfl,s37.ix rfl rfl rfl hk5⟩ ?_
   cases H
   exact .z (ih1 (n1,(v4pickedl2++([nth v0parts (nth v1at v14l2.toNat).toNat]:List Record),v14l2+1,aset o0c0l2 (nth v1at v14l2.toNat) true)) HK1 hm1) rfl rfl
  ·refine .A 1 [] rfl trivial ?_
   obtain ⟨q0,H9,hq0⟩:=map_some' H; clear H; cases hq0
   cases HK1
   have H:=H9
   exact .z (hj1x (v4pickedl2,o0c0l2) H) rfl rfl
theorem c_g_api_Record_v1 {o0c0p:CorrelateCall} {y0t0p:List Record} {n0p:Nat} {r:Int} (H:g_api_Record_v1 o0c0p y0t0p=some r):ACallS prog 56 [.vc 0 n0p,.clo 57 [.ref 0 0]] ⟨[.row 51 [.d (cI o0c0p.source),.d (cI o0c0p.number)]],[⟨32,12,n0p,some (y0t0p.map Record.row)⟩]⟩ (QE (.d (cI r)) ⟨[.row 51 [.d (cI o0c0p.source),.d (cI o0c0p.number)]],[⟨32,12,n0p,some (y0t0p.map Record.row)⟩]⟩):=by
 obtain ⟨i32,hi32,hz32,hs32,hb32⟩:=in_32
 refine ACallS.keep ?_
 refine ACallS.enter func56 rfl ntmps56 rfl fun S hS=>?_
 unfold g_api_Record_v1 at H
 refine .A 12 [.i (y0t0p.length:Int)] rfl (OpQ.g (q_lenV (l:=y0t0p) (row:=Record.row) underlying22 rfl rfl)) ?_
 obtain ⟨n1,H⟩:=loop_some H
 refine .loop (ι:=Nat×(Int)) (fun ⟨_,v8l1⟩=>[(0,.vc 0 n0p),(1,.clo 57 [.ref 0 0]),(7,.d (cI (y0t0p.length:Int))),(8,.d (cI v8l1))]) (fun ⟨_,v8l1⟩=>⟨[.row 51 [.d (cI o0c0p.source),.d (cI o0c0p.number)]],[⟨32,12,n0p,some (y0t0p.map Record.row)⟩]⟩) (fun p=>iter (fun s=>g_api_Record_v1_l1 o0c0p y0t0p s) p.1 p.2=some r) (·.1) (n1,0) H (.cons rfl (.rfl' _) (.cons rfl (.rfl' _) (.cons rfl (.rfl' _) (.cons rfl (.rfl' _) (.nil))))) rfl ?_
 rintro ⟨m1,v8l1⟩ HI ih1
 obtain ⟨n1,q1,hm1,H,HK1⟩:=iter_succ HI
 clear HI
 replace H:g_api_Record_v1_l1 o0c0p y0t0p v8l1=some q1:=H
 unfold g_api_Record_v1_l1 at H
 refine .A 5 [] rfl trivial ?_
 refine .ite H rfl (fun H=>?_) (fun H=>?_)
 ·obtain ⟨hk1,H⟩:=ck_some H
  obtain ⟨hk2,H⟩:=ck_some H
  obtain ⟨y1,hy1,H⟩:=bind_some' H
  refine .B 15 [.g (.vp 0 n0p v8l1.toNat 0),.f 1 (.d (.agg (Record.row (nth y0t0p v8l1.toNat))))] rfl ⟨OpQ.g (q_loadVpA (l:=y0t0p) (row:=Record.row) (cs:=(Record.row (nth y0t0p v8l1.toNat))) one_32 sz_32 rfl rfl hk2 (Nat.le_of_ble_eq_true rfl) rfl),OpQ.g (q_idxV (l:=y0t0p) (row:=Record.row) (i:=v8l1) underlying22 hi32 hs32 rfl rfl rfl hk1)⟩ ?_
  refine .callFC (en 15 rfl) rfl rfl [0] [] (x:=.d (cB y1)) (st':=⟨[.row 51 [.d (cI o0c0p.source),.d (cI o0c0p.number)]],[⟨32,12,n0p,some (y0t0p.map Record.row)⟩]⟩) rfl (c_g_correlate_span_1 (hy1)) ⟨.rfl' _,.rfl' _,trivial⟩ rfl rfl rfl rfl rfl rfl ?_
  refine .A 1 [] rfl trivial ?_
  refine .ite H rfl (fun H=>?_) (fun H=>?_)
  ·refine .A 5 [] rfl trivial ?_
   refine .R func56 results56 rfl ?_
   cases H
   cases HK1
   exact ⟨[0],[0],rfl,rfl,rfl,rfl,rfl,rfl,rfl,rfl,.rfl' _⟩
  ·obtain ⟨hk3,H⟩:=ck_some H
   refine .A 6 [.i (v8l1+1)] rfl (g_addI rfl rfl hk3) ?_
   cases H
   exact .z (ih1 (n1,(v8l1+1)) HK1 hm1) rfl rfl
 ·refine .A 5 [] rfl trivial ?_
  refine .R func56 results56 rfl ?_
  cases H
  cases HK1
  exact ⟨[0],[0],rfl,rfl,rfl,rfl,rfl,rfl,rfl,rfl,.rfl' _⟩
theorem c_g_correlate_span {v1c:CorrelateCall} {y0t0p:List Record} {n0p:Nat} {r:Int×Int} (H:g_correlate_span v1c y0t0p=some r):ACallS prog 38 [.vc 0 n0p,.d (.agg (CorrelateCall.row v1c))] ⟨[],[⟨32,12,n0p,some (y0t0p.map Record.row)⟩]⟩ (QE (.d (.tup [cI r.1,cI r.2])) ⟨[],[⟨32,12,n0p,some (y0t0p.map Record.row)⟩]⟩):=by
 obtain ⟨i32,hi32,hz32,hs32,hb32⟩:=in_32
 refine ACallS.keep ?_
 refine ACallS.enter func38 rfl ntmps38 rfl fun S hS=>?_
 unfold g_correlate_span at H
 obtain ⟨y1,hy1,H⟩:=bind_some' H
 refine .B 10 [.r 0,.g (.clo 57 [.ref 0 0])] rfl (OpQ.g (q_makeFunc rfl)) ?_
 refine .callF (en 16 rfl) rfl [0] [0] (x:=.d (cI y1)) (st':=⟨[.row 51 [.d (cI v1c.source),.d (cI v1c.number)]],[⟨32,12,n0p,some (y0t0p.map Record.row)⟩]⟩) rfl (c_g_api_Record_v1 (hy1)) ⟨.rfl' _,.rfl' _,trivial⟩ rfl rfl rfl rfl rfl rfl ?_
 refine .A 8 [] rfl trivial ?_
 refine .ite H rfl (fun H=>?_) (fun H=>?_)
 ·refine .A 5 [] rfl trivial ?_
  refine .R func38 results38 rfl ?_
  cases H
  exact ⟨[],[0],rfl,rfl,rfl,rfl,rfl,rfl,rfl,rfl,.tupL (ds:=[cI 0,cI 0]) ⟨.rfl' _,.rfl' _,trivial⟩⟩
 ·refine .A 8 [] rfl trivial ?_
  obtain ⟨n1,H⟩:=loop_some H
  refine .loop (ι:=Nat×(Int)) (fun ⟨_,v5tol1⟩=>[(0,.vc 0 n0p),(3,.ref 0 0),(4,.d (cI y1)),(5,.d (cI v5tol1))]) (fun ⟨_,v5tol1⟩=>⟨[.row 51 [.d (cI v1c.source),.d (cI v1c.number)]],[⟨32,12,n0p,some (y0t0p.map Record.row)⟩]⟩) (fun p=>iter (fun s=>g_correlate_span_l1 v1c y0t0p y1 s) p.1 p.2=some r) (·.1) (n1,y1) H (.cons rfl (.rfl' _) (.cons rfl (.rfl' _) (.cons rfl (.rfl' _) (.cons rfl (.rfl' _) (.nil))))) rfl ?_
  rintro ⟨m1,v5tol1⟩ HI ih1
  obtain ⟨n1,q1,hm1,H,HK1⟩:=iter_succ HI
  clear HI
  replace H:g_correlate_span_l1 v1c y0t0p y1 v5tol1=some q1:=H
  unfold g_correlate_span_l1 at H
  obtain ⟨hk1,H⟩:=ck_some H
  obtain ⟨hk2,H⟩:=ck_some H
  obtain ⟨y2,hy2,H⟩:=bind_some' H
  refine .A 18 [.p 13,.i (y0t0p.length:Int),.g (.vp 0 n0p v5tol1.toNat 0),.f 7 (.d (.agg (Record.row (nth y0t0p v5tol1.toNat)))),.d (.agg (CorrelateCall.row y2)),.b (eqVs (CorrelateCall.vals y2) (CorrelateCall.vals v1c))] rfl ⟨rfl,fun hg=>OpQ.g (q_steql fk_51 rfl rfl (xs:=CorrelateCall.vals y2) (ys:=CorrelateCall.vals v1c) rfl rfl rfl rfl),rfl,rfl,fun hg=>g_call (en 7 rfl) rfl rfl (c_f_correlate_callOf (gcall_some hy2 hg)),rfl,fun hg=>OpQ.g (q_loadVpA (l:=y0t0p) (row:=Record.row) (cs:=(Record.row (nth y0t0p v5tol1.toNat))) one_32 sz_32 rfl rfl (hk2 hg) (Nat.le_of_ble_eq_true rfl) rfl),rfl,fun hg=>OpQ.g (q_idxV (l:=y0t0p) (row:=Record.row) (i:=v5tol1) underlying22 hi32 hs32 rfl rfl rfl (hk1 hg)),rfl,rfl,OpQ.g (q_lenV (l:=y0t0p) (row:=Record.row) underlying22 rfl rfl),(show drawB _ _=true by kernel_rfl)⟩ ?_
  refine .ite H rfl (fun H=>?_) (fun H=>?_)
  ·obtain ⟨hk3,H⟩:=ck_some H
   refine .A 8 [.i (v5tol1+1)] rfl (g_addI rfl rfl hk3) ?_
   cases H
   exact .z (ih1 (n1,(v5tol1+1)) HK1 hm1) rfl rfl
  ·refine .A 8 [] rfl trivial ?_
   refine .R func38 results38 rfl ?_
   cases H
   cases HK1
   exact ⟨[],[0],rfl,rfl,rfl,rfl,rfl,rfl,rfl,rfl,.tupL (ds:=[cI y1,cI v5tol1]) ⟨.rfl' _,.rfl' _,trivial⟩⟩
theorem c_g_correlate_candidates {v0parts:List Record} {v1last:Bool} {n0p:Nat} {y0t0p:List Record} {lo_v0parts:Nat} (hw_v0parts:(y0t0p.drop lo_v0parts).take v0parts.length=v0parts) {r:(List Int)} (H:g_correlate_candidates v0parts v1last=some r):ACallS prog 54 [.vw 0 n0p lo_v0parts v0parts.length,.d (cB v1last)] ⟨[],[⟨32,12,n0p,some (y0t0p.map Record.row)⟩]⟩ (QE (.d (slOf 1 rI r)) ⟨[],[⟨32,12,n0p,some (y0t0p.map Record.row)⟩]⟩):=by
 obtain ⟨i3,hi3,hz3,hs3,hb3⟩:=in_3
 obtain ⟨i32,hi32,hz32,hs32,hb32⟩:=in_32
 refine ACallS.keep ?_
 refine ACallS.enter func54 rfl ntmps54 rfl fun S hS=>?_
 unfold g_correlate_candidates at H
 refine .A 16 [.v (.mp 0) ⟨[.map (mEnc (fun n=>Value.int .i64 n) (fun x=>cI x) ([]:List (Int×Int)))],[⟨32,12,n0p,some (y0t0p.map Record.row)⟩]⟩,.i (v0parts.length:Int)] rfl ⟨OpQ.g (q_lenW underlying22 rfl),.e (v_makeMap) rfl⟩ ?_
 refine .blockJoin2 (ι:=(List (Int×Int))) (fun o0c0j1=>[(0,.vw 0 n0p lo_v0parts v0parts.length),(1,.d (cB v1last)),(5,.mp 0)]) (fun o0c0j1=>⟨[.map (mEnc (fun n=>Value.int .i64 n) (fun x=>cI x) o0c0j1)],[⟨32,12,n0p,some (y0t0p.map Record.row)⟩]⟩) (fun s=>g_correlate_candidates_j1 v0parts v1last s=some r) ?_ ?_
 ·rintro o0c0j1 H
  replace H:g_correlate_candidates_j1 v0parts v1last o0c0j1=some r:=H
  unfold g_correlate_candidates_j1 at H
  refine .A 9 [] rfl trivial ?_
  refine .tok (i:=10) (e:=3) (sz:=1) rfl ?_
  obtain ⟨n1,H⟩:=loop_some H
  refine .loop (ι:=Nat×(List Int×Int)) (fun ⟨_,v10outl1,v11kl1⟩=>[(0,.vw 0 n0p lo_v0parts v0parts.length),(1,.d (cB v1last)),(5,.mp 0),(10,.tsl 1 (v10outl1.map rI) 1),(11,.d (cI v11kl1))]) (fun ⟨_,v10outl1,v11kl1⟩=>⟨[.map (mEnc (fun n=>Value.int .i64 n) (fun x=>cI x) o0c0j1)],[⟨32,12,n0p,some (y0t0p.map Record.row)⟩,⟨3,1,v10outl1.length,none⟩]⟩) (fun p=>iter (fun s=>g_correlate_candidates_l1 v0parts v1last o0c0j1 s.1 s.2) p.1 p.2=some r) (·.1) (n1,(([]:List Int),1)) H (.cons rfl (.rfl' _) (.cons rfl (.rfl' _) (.cons rfl (.rfl' _) (.cons rfl (.rfl' _) (.cons rfl (.rfl' _) (.nil)))))) rfl ?_
  rintro ⟨m1,v10outl1,v11kl1⟩ HI ih1
  obtain ⟨n1,q1,hm1,H,HK1⟩:=iter_succ HI
  clear HI
  replace H:g_correlate_candidates_l1 v0parts v1last o0c0j1 v10outl1 v11kl1=some q1:=H
  unfold g_correlate_candidates_l1 at H
  refine .A 19 [.d (.tup [cI ((alook o0c0j1 v11kl1).getD 0),cB ((alook o0c0j1 v11kl1).isSome)])] rfl (OpQ.g (q_lookupOkD (intKF underlying3) (l:=o0c0j1) (val:=(fun x=>cI x)) (k:=v11kl1) (a0:=0) underlying80 hi3 hz3 (show DLe (cI 0) (cI 0) from .rfl' _) rfl rfl rfl (fun _ _ _ h=>exKey h))) ?_
  refine .ite H rfl (fun H=>?_) (fun H=>?_)
  ·refine .A 5 [] rfl trivial ?_
   refine .R func54 results54 rfl ?_
   cases H
   cases HK1
   exact ⟨[],[0],rfl,rfl,(by first | rfl | (simp only [List.map_cons,List.map_nil,renMap,renArr,mergeSt]; rfl)),(by first | rfl | (simp only [List.map_cons,List.map_nil,renMap,renArr,mergeSt]; rfl)),(by first | rfl | (simp only [List.map_cons,List.map_nil,renMap,renArr,mergeSt]; rfl)),(by first | rfl | (simp only [List.map_cons,List.map_nil,renMap,renArr,mergeSt]; rfl)),(by first | rfl | (simp only [List.map_cons,List.map_nil,renMap,renArr,mergeSt]; rfl)),(by first | rfl | (simp only [List.map_cons,List.map_nil,renMap,renArr,mergeSt]; rfl)),.tsl _ _ _⟩
  ·obtain ⟨hk1,H⟩:=ck_some H
   obtain ⟨hk2,H⟩:=ck_some H
   obtain ⟨hk3,H⟩:=ck_some H
   refine .A 20 [.d (slOf 1 rI ([(alook o0c0j1 v11kl1).getD 0]:List Int)),.a 1 3 1 rI (v10outl1++([(alook o0c0j1 v11kl1).getD 0]:List Int)),.g (.vp 0 n0p (lo_v0parts+((alook o0c0j1 v11kl1).getD 0).toNat) 0),.f 3 (.d (cB ((nth v0parts ((alook o0c0j1 v11kl1).getD 0).toNat).last)))] rfl ⟨rfl,fun hg=>OpQ.g (q_loadVpW (l:=y0t0p) (a:=v0parts) (row:=Record.row) (lo:=lo_v0parts) (i:=((alook o0c0j1 v11kl1).getD 0).toNat) hw_v0parts one_4 rfl rfl (hk3 hg) rfl),rfl,rfl,fun hg=>OpQ.g (q_idxW (row:=Record.row) (l:=y0t0p) (i:=(alook o0c0j1 v11kl1).getD 0) underlying22 hi32 hs32 rfl rfl rfl (hk2 hg)),rfl,rfl,s37.a rfl rfl rfl rfl hk1,g_buildSlice1 underlying37 hi3 hs3 hz3 rfl rfl rfl rfl rfl⟩ ?_
   refine .ite H rfl (fun H=>?_) (fun H=>?_)
   ·refine .A 5 [] rfl trivial ?_
    refine .R func54 results54 rfl ?_
    cases H
    cases HK1
    exact ⟨[],[0],rfl,rfl,(by first | rfl | (simp only [List.map_cons,List.map_nil,renMap,renArr,mergeSt]; rfl)),(by first | rfl | (simp only [List.map_cons,List.map_nil,renMap,renArr,mergeSt]; rfl)),(by first | rfl | (simp only [List.map_cons,List.map_nil,renMap,renArr,mergeSt]; rfl)),(by first | rfl | (simp only [List.map_cons,List.map_nil,renMap,renArr,mergeSt]; rfl)),(by first | rfl | (simp only [List.map_cons,List.map_nil,renMap,renArr,mergeSt]; rfl)),(by first | rfl | (simp only [List.map_cons,List.map_nil,renMap,renArr,mergeSt]; rfl)),.tsl _ _ _⟩
   ·obtain ⟨hk4,H⟩:=ck_some H
    refine .A 7 [.i (v11kl1+1)] rfl (g_addI rfl rfl hk4) ?_
    cases H
    exact .z (ih1 (n1,(v10outl1++([(alook o0c0j1 v11kl1).getD 0]:List Int),v11kl1+1)) HK1 hm1) rfl rfl
 ·intro hj1 hj1x
  obtain ⟨n2,H⟩:=loop_some H
  refine .loop (ι:=Nat×(Int×(List (Int×Int)))) (fun ⟨_,v17l2,o0c0l2⟩=>[(0,.vw 0 n0p lo_v0parts v0parts.length),(1,.d (cB v1last)),(5,.mp 0),(15,.vw 0 n0p lo_v0parts v0parts.length),(16,.d (cI (v0parts.length:Int))),(17,.d (cI v17l2))]) (fun ⟨_,v17l2,o0c0l2⟩=>⟨[.map (mEnc (fun n=>Value.int .i64 n) (fun x=>cI x) o0c0l2)],[⟨32,12,n0p,some (y0t0p.map Record.row)⟩]⟩) (fun p=>iter (fun s=>g_correlate_candidates_l2 v0parts v1last s.1 s.2) p.1 p.2=some r) (·.1) (n2,(0,([]:List (Int×Int)))) H (.cons rfl (.rfl' _) (.cons rfl (.rfl' _) (.cons rfl (.rfl' _) (.cons rfl (.rfl' _) (.cons rfl (.rfl' _) (.cons rfl (.rfl' _) (.nil))))))) rfl ?_
  rintro ⟨m1,v17l2,o0c0l2⟩ HI ih1
  obtain ⟨n1,q1,hm1,H,HK1⟩:=iter_succ HI
  clear HI
  replace H:g_correlate_candidates_l2 v0parts v1last v17l2 o0c0l2=some q1:=H
  unfold g_correlate_candidates_l2 at H
  refine .A 5 [] rfl trivial ?_
  refine .ite H rfl (fun H=>?_) (fun H=>?_)
  ·obtain ⟨hk5,H⟩:=ck_some H
   obtain ⟨hk6,H⟩:=ck_some H
   refine .A 29 [.g (.vp 0 n0p (lo_v0parts+v17l2.toNat) 0),.f 22 (.d (.agg (Record.row (nth v0parts v17l2.toNat)))),.r 1,.d (.tup [cI ((alook o0c0l2 ((nth v0parts v17l2.toNat).part)).getD 0),cB ((alook o0c0l2 ((nth v0parts v17l2.toNat).part)).isSome)])] rfl ⟨OpQ.g (q_lookupOkD (intKF underlying3) (l:=o0c0l2) (val:=(fun x=>cI x)) (k:=(nth v0parts v17l2.toNat).part) (a0:=0) underlying80 hi3 hz3 (show DLe (cI 0) (cI 0) from .rfl' _) rfl rfl rfl (fun _ _ _ h=>exKey h)),OpQ.g (q_loadVpAW (l:=y0t0p) (a:=v0parts) (row:=Record.row) (lo:=lo_v0parts) (i:=v17l2.toNat) (cs:=(Record.row (nth v0parts v17l2.toNat))) hw_v0parts one_32 sz_32 rfl rfl hk6 (Nat.le_of_ble_eq_true rfl) rfl),OpQ.g (q_idxW (row:=Record.row) (l:=y0t0p) (i:=v17l2) underlying22 hi32 hs32 rfl rfl rfl hk5)⟩ ?_
   refine .ite H rfl (fun H=>?_) (fun H=>?_)
   ·obtain ⟨hk7,H⟩:=ck_some H
    refine .A 12 [.u ⟨[.map (mEnc (fun n=>Value.int .i64 n) (fun x=>cI x) (aset o0c0l2 ((nth v0parts v17l2.toNat).part) v17l2)),.row 32 [.d (cI ((nth v0parts v17l2.toNat).source)),.d (cI ((nth v0parts v17l2.toNat).serial)),.d (cI ((nth v0parts v17l2.toNat).kind)),.d (cS ((nth v0parts v17l2.toNat).a)),.d (cS ((nth v0parts v17l2.toNat).b)),.d (cI ((nth v0parts v17l2.toNat).start)),.d (cI ((nth v0parts v17l2.toNat).units)),.d (cI ((nth v0parts v17l2.toNat).call)),.d (cI ((nth v0parts v17l2.toNat).part)),.d (cB ((nth v0parts v17l2.toNat).last)),.d (cI ((nth v0parts v17l2.toNat).trunk)),.d (cB ((nth v0parts v17l2.toNat).inbound))]],[⟨32,12,n0p,some (y0t0p.map Record.row)⟩]⟩,.i (v17l2+1)] rfl ⟨g_addI rfl rfl hk7,.e (u_mapUpdateD (intKF underlying3) (l:=o0c0l2) (val:=(fun x=>cI x)) (k:=(nth v0parts v17l2.toNat).part) (a:=v17l2) underlying80 rfl rfl rfl (fun _ _ _ h=>exKey h) rfl (.rfl' _)) rfl⟩ ?_
    cases H
    exact .t 1 1 (ih1 (n1,(v17l2+1,aset o0c0l2 ((nth v0parts v17l2.toNat).part) v17l2)) HK1 hm1) rfl rfl rfl rfl (okBoth rfl (okCons okMap rfl)) hS rfl
   ·obtain ⟨hk8,H⟩:=ck_some H
    refine .A 6 [.i (v17l2+1)] rfl (g_addI rfl rfl hk8) ?_
    cases H
    exact .t 1 1 (ih1 (n1,(v17l2+1,o0c0l2)) HK1 hm1) rfl rfl rfl rfl (okBoth rfl (okCons okMap rfl)) hS rfl
  ·refine .A 1 [] rfl trivial ?_
   obtain ⟨q0,H9,hq0⟩:=map_some' H; clear H; cases hq0
   cases HK1
   have H:=H9
   exact .z (hj1x o0c0l2 H) rfl rfl
theorem c_g_correlate_pick {v0parts:List Record} {v1at:List Int} {n0p:Nat} {y0t0p:List Record} {lo_v0parts:Nat} (hw_v0parts:(y0t0p.drop lo_v0parts).take v0parts.length=v0parts) {r:(List Record)×(List Record)} (H:g_correlate_pick v0parts v1at=some r):ACallS prog 41 [.vw 0 n0p lo_v0parts v0parts.length,.d (slOf 1 rI v1at)] ⟨[],[⟨32,12,n0p,some (y0t0p.map Record.row)⟩]⟩ (QE (.d (.tup [slOf 12 Record.row r.1,slOf 12 Record.row r.2])) ⟨[],[⟨32,12,n0p,some (y0t0p.map Record.row)⟩]⟩):=by
 obtain ⟨i4,hi4,hz4,hs4,hb4⟩:=in_4
 obtain ⟨i32,hi32,hz32,hs32,hb32⟩:=in_32
 refine ACallS.keep ?_
 refine ACallS.enter func41 rfl ntmps41 rfl fun S hS=>?_
 unfold g_correlate_pick at H
 refine .A 17 [.v (.mp 0) ⟨[.map (mEnc (fun n=>Value.int .i64 n) (fun x=>cB x) ([]:List (Int×Bool)))],[⟨32,12,n0p,some (y0t0p.map Record.row)⟩]⟩,.i (v1at.length:Int)] rfl ⟨s37.n rfl rfl,.e (v_makeMap) rfl⟩ ?_
 refine .tok (i:=4) (e:=32) (sz:=12) rfl ?_
 refine .blockJoin2 (ι:=List Record×(List (Int×Bool))) (fun ⟨v4pickedj1,o0c0j1⟩=>[(0,.vw 0 n0p lo_v0parts v0parts.length),(4,.tsl 12 (v4pickedj1.map Record.row) 1),(5,.d (nilD)),(6,.mp 0)]) (fun ⟨v4pickedj1,o0c0j1⟩=>⟨[.map (mEnc (fun n=>Value.int .i64 n) (fun x=>cB x) o0c0j1)],[⟨32,12,n0p,some (y0t0p.map Record.row)⟩,⟨32,12,v4pickedj1.length,none⟩]⟩) (fun s=>g_correlate_pick_j1 v0parts s.1 s.2=some r) ?_ ?_
 ·rintro ⟨v4pickedj1,o0c0j1⟩ H
  replace H:g_correlate_pick_j1 v0parts v4pickedj1 o0c0j1=some r:=H
  unfold g_correlate_pick_j1 at H
  refine .A 8 [.i (v0parts.length:Int)] rfl (OpQ.g (q_lenW underlying22 rfl)) ?_
  refine .tok (i:=5) (e:=32) (sz:=12) rfl ?_
  obtain ⟨n1,H⟩:=loop_some H
  refine .loop (ι:=Nat×(List Record×Int)) (fun ⟨_,v5othersl1,v30l1⟩=>[(4,.tsl 12 (v4pickedj1.map Record.row) 1),(5,.tsl 12 (v5othersl1.map Record.row) 2),(6,.mp 0),(28,.vw 0 n0p lo_v0parts v0parts.length),(29,.d (cI (v0parts.length:Int))),(30,.d (cI v30l1))]) (fun ⟨_,v5othersl1,v30l1⟩=>⟨[.map (mEnc (fun n=>Value.int .i64 n) (fun x=>cB x) o0c0j1)],[⟨32,12,n0p,some (y0t0p.map Record.row)⟩,⟨32,12,v4pickedj1.length,none⟩,⟨32,12,v5othersl1.length,none⟩]⟩) (fun p=>iter (fun s=>g_correlate_pick_l1 v0parts v4pickedj1 o0c0j1 s.1 s.2) p.1 p.2=some r) (·.1) (n1,(([]:List Record),0)) H (.cons rfl (.rfl' _) (.cons rfl (.rfl' _) (.cons rfl (.rfl' _) (.cons rfl (.rfl' _) (.cons rfl (.rfl' _) (.cons rfl (.rfl' _) (.nil))))))) rfl ?_
  rintro ⟨m1,v5othersl1,v30l1⟩ HI ih1
  obtain ⟨n1,q1,hm1,H,HK1⟩:=iter_succ HI
  clear HI
  replace H:g_correlate_pick_l1 v0parts v4pickedj1 o0c0j1 v5othersl1 v30l1=some q1:=H
  unfold g_correlate_pick_l1 at H
  refine .A 5 [] rfl trivial ?_
  refine .ite H rfl (fun H=>?_) (fun H=>?_)
  ·obtain ⟨hk1,H⟩:=ck_some H
   obtain ⟨hk2,H⟩:=ck_some H
   refine .A 19 [.g (.vp 0 n0p (lo_v0parts+v30l1.toNat) 0),.f 12 (.d (.agg (Record.row (nth v0parts v30l1.toNat)))),.r 1,.b ((alook o0c0j1 v30l1).getD false)] rfl ⟨OpQ.g (q_lookupD (intKF underlying3) (l:=o0c0j1) (val:=(fun x=>cB x)) (k:=v30l1) (a0:=false) underlying73 hi4 hz4 (show DLe (cB false) (cB false) from .rfl' _) rfl rfl rfl (fun _ _ _ h=>exKey h)),OpQ.g (q_loadVpAW (l:=y0t0p) (a:=v0parts) (row:=Record.row) (lo:=lo_v0parts) (i:=v30l1.toNat) (cs:=(Record.row (nth v0parts v30l1.toNat))) hw_v0parts one_32 sz_32 rfl rfl hk2 (Nat.le_of_ble_eq_true rfl) rfl),OpQ.g (q_idxW (row:=Record.row) (l:=y0t0p) (i:=v30l1) underlying22 hi32 hs32 rfl rfl rfl hk1)⟩ ?_
   refine .ite H rfl (fun H=>?_) (fun H=>?_)
   ·obtain ⟨hk3,H⟩:=ck_some H
    obtain ⟨hk4,H⟩:=ck_some H
    refine .A 12 [.d (slOf 12 Record.row ([nth v0parts v30l1.toNat]:List Record)),.a 2 32 12 Record.row (v5othersl1++([nth v0parts v30l1.toNat]:List Record)),.i (v30l1+1)] rfl ⟨g_addI rfl rfl hk4,s22.a rfl rfl rfl rfl hk3,g_buildSlice1 underlying22 hi32 hs32 hz32 rfl rfl rfl rfl rfl⟩ ?_
    cases H
    exact .t 1 3 (ih1 (n1,(v5othersl1++([nth v0parts v30l1.toNat]:List Record),v30l1+1)) HK1 hm1) rfl rfl rfl rfl (okBoth rfl (okCons okMap rfl)) hS rfl
   ·obtain ⟨hk5,H⟩:=ck_some H
    refine .A 6 [.i (v30l1+1)] rfl (g_addI rfl rfl hk5) ?_
    cases H
    exact .t 1 3 (ih1 (n1,(v5othersl1,v30l1+1)) HK1 hm1) rfl rfl rfl rfl (okBoth rfl (okCons okMap rfl)) hS rfl
  ·refine .A 8 [] rfl trivial ?_
   refine .R func41 results41 rfl ?_
   cases H
   cases HK1
   exact ⟨[],[0],rfl,rfl,(by first | rfl | (simp only [List.map_cons,List.map_nil,renMap,renArr,mergeSt]; rfl)),(by first | rfl | (simp only [List.map_cons,List.map_nil,renMap,renArr,mergeSt]; rfl)),(by first | rfl | (simp only [List.map_cons,List.map_nil,renMap,renArr,mergeSt]; rfl)),(by first | rfl | (simp only [List.map_cons,List.map_nil,renMap,renArr,mergeSt]; rfl)),(by first | rfl | (simp only [List.map_cons,List.map_nil,renMap,renArr,mergeSt]; rfl)),(by first | rfl | (simp only [List.map_cons,List.map_nil,renMap,renArr,mergeSt]; rfl)),.tupL (ds:=[slOf 12 Record.row v4pickedj1,slOf 12 Record.row v5othersl1]) ⟨.tsl _ _ _,.tsl _ _ _,trivial⟩⟩
 ·intro hj1 hj1x
  obtain ⟨n2,H⟩:=loop_some H
  refine .loop (ι:=Nat×(List Record×Int×(List (Int×Bool)))) (fun ⟨_,v4pickedl2,v14l2,o0c0l2⟩=>[(0,.vw 0 n0p lo_v0parts v0parts.length),(4,.tsl 12 (v4pickedl2.map Record.row) 1),(5,.d (nilD)),(6,.mp 0),(12,.d (slOf 1 rI v1at)),(13,.d (cI (v1at.length:Int))),(14,.d (cI v14l2))]) (fun ⟨_,v4pickedl2,v14l2,o0c0l2⟩=>⟨[.map (mEnc (fun n=>Value.int .i64 n) (fun x=>cB x) o0c0l2)],[⟨32,12,n0p,some (y0t0p.map Record.row)⟩,⟨32,12,v4pickedl2.length,none⟩]⟩) (fun p=>iter (fun s=>g_correlate_pick_l2 v0parts v1at s.1 s.2.1 s.2.2) p.1 p.2=some r) (·.1) (n2,(([]:List Record),0,([]:List (Int×Bool)))) H (.cons rfl (.rfl' _) (.cons rfl (.rfl' _) (.cons rfl (.rfl' _) (.cons rfl (.rfl' _) (.cons rfl (.rfl' _) (.cons rfl (.rfl' _) (.cons rfl (.rfl' _) (.nil)))))))) rfl ?_
  rintro ⟨m1,v4pickedl2,v14l2,o0c0l2⟩ HI ih1
  obtain ⟨n1,q1,hm1,H,HK1⟩:=iter_succ HI
  clear HI
  replace H:g_correlate_pick_l2 v0parts v1at v4pickedl2 v14l2 o0c0l2=some q1:=H
  unfold g_correlate_pick_l2 at H
  refine .A 5 [] rfl trivial ?_
  refine .ite H rfl (fun H=>?_) (fun H=>?_)
  ·obtain ⟨hk6,H⟩:=ck_some H
   obtain ⟨hk7,H⟩:=ck_some H
   obtain ⟨hk8,H⟩:=ck_some H
   obtain ⟨hk9,H⟩:=ck_some H
   obtain ⟨hk10,H⟩:=ck_some H
   refine .A 30 [.d (.ro (rI (nth v1at v14l2.toNat))),.u ⟨[.map (mEnc (fun n=>Value.int .i64 n) (fun x=>cB x) (aset o0c0l2 (nth v1at v14l2.toNat) true))],[⟨32,12,n0p,some (y0t0p.map Record.row)⟩,⟨32,12,v4pickedl2.length,none⟩]⟩,.g (.vp 0 n0p (lo_v0parts+(nth v1at v14l2.toNat).toNat) 0),.f 10 (.d (.agg (Record.row (nth v0parts (nth v1at v14l2.toNat).toNat)))),.d (slOf 12 Record.row ([nth v0parts (nth v1at v14l2.toNat).toNat]:List Record)),.a 1 32 12 Record.row (v4pickedl2++([nth v0parts (nth v1at v14l2.toNat).toNat]:List Record)),.i (v14l2+1)] rfl ⟨g_addI rfl rfl hk10,s22.a rfl rfl rfl rfl hk9,g_buildSlice1 underlying22 hi32 hs32 hz32 rfl rfl rfl rfl rfl,OpQ.g (q_loadVpAW (l:=y0t0p) (a:=v0parts) (row:=Record.row) (lo:=lo_v0parts) (i:=(nth v1at v14l2.toNat).toNat) (cs:=(Record.row (nth v0parts (nth v1at v14l2.toNat).toNat))) hw_v0parts one_32 sz_32 rfl rfl hk8 (Nat.le_of_ble_eq_true rfl) rfl),OpQ.g (q_idxW (row:=Record.row) (l:=y0t0p) (i:=nth v1at v14l2.toNat) underlying22 hi32 hs32 rfl rfl rfl hk7),.e (u_mapUpdateD (intKF underlying3) (l:=o0c0l2) (val:=(fun x=>cB x)) (k:=nth v1at v14l2.toNat) (a:=true) underlying73 rfl rfl rfl (fun _ _ _ h=>exKey h) rfl (.rfl' _)) rfl,s37.ix rfl rfl rfl hk6⟩ ?_
   cases H
   exact .z (ih1 (n1,(v4pickedl2++([nth v0parts (nth v1at v14l2.toNat).toNat]:List Record),v14l2+1,aset o0c0l2 (nth v1at v14l2.toNat) true)) HK1 hm1) rfl rfl
  ·refine .A 1 [] rfl trivial ?_
   obtain ⟨q0,H9,hq0⟩:=map_some' H; clear H; cases hq0
   cases HK1
   have H:=H9
   exact .z (hj1x (v4pickedl2,o0c0l2) H) rfl rfl
theorem c_g_correlate_join_v1 {v2c:CorrelateCall} {y0t0p:List Record} {y1t0p:List Record} {n0p:Nat} {r:(List Record)×(List Record)} (H:g_correlate_join_v1 v2c y0t0p y1t0p=some r):ACallS prog 31 [.vc 0 n0p,.tsl 12 (y1t0p.map Record.row) 1,.d (.agg (CorrelateCall.row v2c))] ⟨[],[⟨32,12,n0p,some (y0t0p.map Record.row)⟩,⟨32,12,y1t0p.length,none⟩]⟩ (QE (.tup [.vc 2 r.1.length,.tsl 12 (r.2.map Record.row) 1]) ⟨[],[⟨32,12,([]:List Record).length,none⟩,⟨32,12,r.2.length,none⟩,⟨32,12,r.1.length,some (r.1.map Record.row)⟩]⟩):=by
 obtain ⟨i32,hi32,hz32,hs32,hb32⟩:=in_32
 refine ACallS.keep ?_
 refine ACallS.enter func31 rfl ntmps31 rfl fun S hS=>?_
 unfold g_correlate_join_v1 at H
 refine .A 7 [.r 0] rfl trivial ?_
 refine .move (i:=0) rfl rfl ?_
 obtain ⟨n1,H⟩:=loop_some H
 refine .normV (l:=y0t0p) (row:=Record.row) (tk:=2) (fun z=>[(0,.vc 2 z),(1,.tsl 12 (y1t0p.map Record.row) 1),(5,.ref 0 0)]) (fun z=>⟨[.row 51 [.d (cI v2c.source),.d (cI v2c.number)]],[⟨32,12,([]:List Record).length,none⟩,⟨32,12,y1t0p.length,none⟩,⟨32,12,z,some (y0t0p.map Record.row)⟩]⟩) rfl (.cons rfl (.rfl' _) (.cons rfl (.rfl' _) (.cons rfl (.rfl' _) (.nil)))) rfl ?_
 refine .loop (ι:=Nat×(List Record×List Record)) (fun ⟨_,y2tl1,v1outl1⟩=>[(0,.vc 2 y2tl1.length),(1,.tsl 12 (v1outl1.map Record.row) 1),(5,.ref 0 0)]) (fun ⟨_,y2tl1,v1outl1⟩=>⟨[.row 51 [.d (cI v2c.source),.d (cI v2c.number)]],[⟨32,12,([]:List Record).length,none⟩,⟨32,12,v1outl1.length,none⟩,⟨32,12,y2tl1.length,some (y2tl1.map Record.row)⟩]⟩) (fun p=>iter (fun s=>g_correlate_join_v1_l1 v2c s.1 s.2) p.1 p.2=some r) (·.1) (n1,(y0t0p,y1t0p)) H (.cons rfl (.rfl' _) (.cons rfl (.rfl' _) (.cons rfl (.rfl' _) (.nil)))) rfl ?_
 rintro ⟨m1,y2tl1,v1outl1⟩ HI ih1
 obtain ⟨n1,q1,hm1,H,HK1⟩:=iter_succ HI
 clear HI
 replace H:g_correlate_join_v1_l1 v2c y2tl1 v1outl1=some q1:=H
 unfold g_correlate_join_v1_l1 at H
 obtain ⟨y1,hy1,H⟩:=bind_some' H
 refine .B 5 [] rfl trivial ?_
 refine .callF (en 17 rfl) rfl [] [2] (x:=.d (.tup [cI y1.1,cI y1.2])) (st':=⟨[.row 51 [.d (cI v2c.source),.d (cI v2c.number)]],[⟨32,12,([]:List Record).length,none⟩,⟨32,12,v1outl1.length,none⟩,⟨32,12,y2tl1.length,some (y2tl1.map Record.row)⟩]⟩) rfl (c_g_correlate_span (hy1)) ⟨.rfl' _,.rfl' _,trivial⟩ rfl rfl rfl rfl rfl rfl ?_
 refine .A 7 [] rfl trivial ?_
 obtain ⟨hk1,H⟩:=ck_some H
 obtain ⟨hk2,H⟩:=ck_some H
 obtain ⟨y2,hy2,H⟩:=bind_some' H
 obtain ⟨y3,hy3,H⟩:=bind_some' H
 refine .orders2 14 8 9 [⟨[.row 51 [.d (cI v2c.source),.d (cI v2c.number)]],[⟨32,12,([]:List Record).length,none⟩,⟨32,12,v1outl1.length,none⟩,⟨32,12,y2tl1.length,some (y2tl1.map Record.row)⟩]⟩,⟨[.row 51 [.d (cI v2c.source),.d (cI v2c.number)]],[⟨32,12,([]:List Record).length,none⟩,⟨32,12,v1outl1.length,none⟩,⟨32,12,y2tl1.length,some (y2tl1.map Record.row)⟩]⟩,⟨[.row 51 [.d (cI v2c.source),.d (cI v2c.number)]],[⟨32,12,([]:List Record).length,none⟩,⟨32,12,v1outl1.length,none⟩,⟨32,12,y2tl1.length,some (y2tl1.map Record.row)⟩]⟩] hMix (by kernel_rfl) (by decide) (by decide) (by kernel_rfl) rfl ?_
 show XOps _ _ _ _ _ _ _ _ _ _ (_ :: _) _ _
 refine .g (x:=.vc 2 y2tl1.length) 0 1 ⟨OpQ.g (q_move rfl),OpQ.g (q_move rfl),trivial⟩ rfl (by kernel_rfl) rfl ?_
 refine .g (x:=.d (cI y1.1)) 0 1 ⟨OpQ.g (q_move rfl),OpQ.g (q_move rfl),trivial⟩ rfl (by kernel_rfl) rfl ?_
 refine .g (x:=.d (cI y1.2)) 0 1 ⟨OpQ.g (q_move rfl),OpQ.g (q_move rfl),trivial⟩ rfl (by kernel_rfl) rfl ?_
 refine .g (x:=.vw 2 y2tl1.length y1.1.toNat ((y2tl1.take y1.2.toNat).drop y1.1.toNat).length) 0 1 ⟨OpQ.g (q_slVW (l:=y2tl1) (row:=Record.row) (i:=y1.1) (j:=y1.2) underlying22 hi32 hs32 rfl rfl rfl rfl hk1),OpQ.g (q_slVW (l:=y2tl1) (row:=Record.row) (i:=y1.1) (j:=y1.2) underlying22 hi32 hs32 rfl rfl rfl rfl hk1),trivial⟩ rfl (by kernel_rfl) rfl ?_
 refine .g (x:=.vc 2 y2tl1.length) 0 0 ⟨OpQ.g (q_move rfl),trivial⟩ rfl (by kernel_rfl) rfl ?_
 refine .g (x:=.d (cI y1.1)) 0 0 ⟨OpQ.g (q_move rfl),trivial⟩ rfl (by kernel_rfl) rfl ?_
 refine .g (x:=.d (cI y1.2)) 0 0 ⟨OpQ.g (q_move rfl),trivial⟩ rfl (by kernel_rfl) rfl ?_
 refine .g (x:=.vw 2 y2tl1.length y1.1.toNat ((y2tl1.take y1.2.toNat).drop y1.1.toNat).length) 0 0 ⟨OpQ.g (q_slVW (l:=y2tl1) (row:=Record.row) (i:=y1.1) (j:=y1.2) underlying22 hi32 hs32 rfl rfl rfl rfl hk2),trivial⟩ rfl (by kernel_rfl) rfl ?_
 refine .c 0 (OpC.callF (en 18 rfl) [] [2] (x:=.d (slOf 1 rI y2)) (st':=⟨[.row 51 [.d (cI v2c.source),.d (cI v2c.number)]],[⟨32,12,([]:List Record).length,none⟩,⟨32,12,v1outl1.length,none⟩,⟨32,12,y2tl1.length,some (y2tl1.map Record.row)⟩]⟩) rfl (c_g_correlate_candidates (view_ok (by have h:=@H; omega)) (hy2)) ⟨.rfl' _,.rfl' _,trivial⟩ rfl rfl rfl rfl rfl rfl) rfl rfl rfl rfl ?_
 refine .c 1 (OpC.callF (en 19 rfl) [] [2] (x:=.d (.tup [slOf 12 Record.row y3.1,slOf 12 Record.row y3.2])) (st':=⟨[.row 51 [.d (cI v2c.source),.d (cI v2c.number)]],[⟨32,12,([]:List Record).length,none⟩,⟨32,12,v1outl1.length,none⟩,⟨32,12,y2tl1.length,some (y2tl1.map Record.row)⟩]⟩) rfl (c_g_correlate_pick (view_ok (by have h:=@H; omega)) (hy3)) ⟨.rfl' _,.rfl' _,trivial⟩ rfl rfl rfl rfl rfl rfl) rfl rfl rfl rfl ?_
 refine .g (x:=.d (.tup [slOf 12 Record.row y3.1,slOf 12 Record.row y3.2])) 2 2 ⟨OpQ.g (q_move rfl),trivial⟩ rfl (by kernel_rfl) rfl ?_
 refine .g (x:=.d (slOf 12 Record.row y3.1)) 2 2 ⟨OpQ.g (q_extract rfl rfl),trivial⟩ rfl (by kernel_rfl) rfl ?_
 refine .g (x:=.d (slOf 12 Record.row y3.2)) 2 2 ⟨OpQ.g (q_extract rfl rfl),trivial⟩ rfl (by kernel_rfl) rfl ?_
 refine .g (x:=.d (slOf 12 Record.row y3.1)) 2 2 ⟨OpQ.g (q_assign rfl),trivial⟩ rfl (by kernel_rfl) rfl ?_
 refine .nil rfl ?_
 show AOps _ _ _ _ _ _ (_ :: _) _ _ _
 obtain ⟨y4,hy4,H⟩:=bind_some' H
 refine .A 19 [.d (.tup [.agg (Record.row y4.1),cB y4.2]),.r 1] rfl (g_call (en 20 rfl) rfl rfl (c_f_correlate_Complete (hy4))) ?_
 refine .ite H rfl (fun H=>?_) (fun H=>?_)
 ·refine .A 7 [] rfl trivial ?_
  refine .R func31 results31 rfl ?_
  cases H
  cases HK1
  exact ⟨[],[0,1,2],rfl,rfl,rfl,rfl,rfl,rfl,rfl,rfl,.tupE ⟨.rfl' _,.rfl' _,trivial⟩⟩
 ·obtain ⟨y5,hy5,H⟩:=bind_some' H
  refine .B 7 [] rfl trivial ?_
  refine .callF (en 21 rfl) rfl [] [2] (x:=.vc 3 y5.length) (st':=⟨[.row 51 [.d (cI v2c.source),.d (cI v2c.number)],.row 32 [.d (cI y4.1.source),.d (cI y4.1.serial),.d (cI y4.1.kind),.d (cS y4.1.a),.d (cS y4.1.b),.d (cI y4.1.start),.d (cI y4.1.units),.d (cI y4.1.call),.d (cI y4.1.part),.d (cB y4.1.last),.d (cI y4.1.trunk),.d (cB y4.1.inbound)]],[⟨32,12,([]:List Record).length,none⟩,⟨32,12,v1outl1.length,none⟩,⟨32,12,([]:List Record).length,none⟩,⟨32,12,y5.length,some (y5.map Record.row)⟩]⟩) rfl (c_x_ReplaceRecord (hy5)) ⟨.rfl' _,.rfl' _,.rfl' _,.rfl' _,trivial⟩ rfl rfl rfl rfl rfl rfl ?_
  obtain ⟨hk3,H⟩:=ck_some H
  refine .A 10 [.d (slOf 12 Record.row ([y4.1]:List Record)),.a 1 32 12 Record.row (v1outl1++([y4.1]:List Record))] rfl ⟨s22.a rfl rfl rfl rfl hk3,g_buildSlice1 underlying22 hi32 hs32 hz32 rfl rfl rfl rfl rfl⟩ ?_
  cases H
  refine .reloc [0] [0,1,3] (env':=[(0,.vc 2 y5.length),(1,.tsl 12 ((v1outl1++([y4.1]:List Record)).map Record.row) 1),(5,.ref 0 0)]) (st':=⟨[.row 51 [.d (cI v2c.source),.d (cI v2c.number)]],[⟨32,12,([]:List Record).length,none⟩,⟨32,12,(v1outl1++([y4.1]:List Record)).length,none⟩,⟨32,12,y5.length,some (y5.map Record.row)⟩]⟩) hS rfl rfl rfl rfl rfl rfl rfl rfl (.cons rfl (.rfl' _) (.cons rfl (.rfl' _) (.cons rfl (.rfl' _) (.nil)))) ?_
  exact .z (ih1 (n1,(y5,v1outl1++([y4.1]:List Record))) HK1 hm1) rfl rfl
theorem c_f_correlate_Join {v0open:List Record} {v1list:List Record} {r:(List Record)×(List Record)} (H:f_correlate_Join v0open v1list=some r):ACall prog 11 [slOf 12 Record.row v0open,slOf 12 Record.row v1list] (·=.tup [slOf 12 Record.row r.1,slOf 12 Record.row r.2]):=by
 obtain ⟨i32,hi32,hz32,hs32,hb32⟩:=in_32
 refine ACall.enter' func11 rfl ntmps11 rfl fun S hS=>?_
 unfold f_correlate_Join at H
 obtain ⟨y1,hy1,H⟩:=bind_some' H
 refine .B 12 [] rfl trivial ?_
 refine .callF (en 22 rfl) rfl [] [] (x:=.vc 0 y1.length) (st':=⟨[],[⟨32,12,y1.length,some (y1.map Record.row)⟩]⟩) rfl (c_x_CloneRecordV (hy1)) ⟨.rfl' _,trivial⟩ rfl rfl rfl rfl rfl rfl ?_
 refine .A 10 [.i (v1list.length:Int)] rfl (s22.n rfl rfl) ?_
 refine .tok (i:=6) (e:=32) (sz:=12) rfl ?_
 obtain ⟨n1,H⟩:=loop_some H
 refine .loop (ι:=Nat×(List Record×List Record×Int)) (fun ⟨_,y0tl1,v6outl1,v15l1⟩=>[(6,.tsl 12 (v6outl1.map Record.row) 1),(7,.vc 0 y0tl1.length),(13,.d (slOf 12 Record.row v1list)),(14,.d (cI (v1list.length:Int))),(15,.d (cI v15l1))]) (fun ⟨_,y0tl1,v6outl1,v15l1⟩=>⟨[],[⟨32,12,y0tl1.length,some (y0tl1.map Record.row)⟩,⟨32,12,v6outl1.length,none⟩]⟩) (fun p=>iter (fun s=>f_correlate_Join_l1 v1list s.1 s.2.1 s.2.2) p.1 p.2=some r) (·.1) (n1,(y1,([]:List Record),0)) H (.cons rfl (.rfl' _) (.cons rfl (.rfl' _) (.cons rfl (.rfl' _) (.cons rfl (.rfl' _) (.cons rfl (.rfl' _) (.nil)))))) rfl ?_
 rintro ⟨m1,y0tl1,v6outl1,v15l1⟩ HI ih1
 obtain ⟨n1,q1,hm1,H,HK1⟩:=iter_succ HI
 clear HI
 replace H:f_correlate_Join_l1 v1list y0tl1 v6outl1 v15l1=some q1:=H
 unfold f_correlate_Join_l1 at H
 refine .A 5 [] rfl trivial ?_
 refine .ite H rfl (fun H=>?_) (fun H=>?_)
 ·obtain ⟨hk1,H⟩:=ck_some H
  refine .A 17 [.d (.ro (Record.row (nth v1list v15l1.toNat))),.r 0] rfl (s22.ix rfl rfl rfl hk1) ?_
  refine .ite H rfl (fun H=>?_) (fun H=>?_)
  ·obtain ⟨hk2,H⟩:=ck_some H
   obtain ⟨hk3,H⟩:=ck_some H
   refine .A 13 [.d (slOf 12 Record.row ([nth v1list v15l1.toNat]:List Record)),.a 1 32 12 Record.row (v6outl1++([nth v1list v15l1.toNat]:List Record)),.i (v15l1+1)] rfl ⟨g_addI rfl rfl hk3,s22.a rfl rfl rfl rfl hk2,g_buildSlice1 underlying22 hi32 hs32 hz32 rfl rfl rfl rfl rfl⟩ ?_
   cases H
   exact .t 0 2 (ih1 (n1,(y0tl1,v6outl1++([nth v1list v15l1.toNat]:List Record),v15l1+1)) HK1 hm1) rfl rfl rfl rfl rfl hS rfl
  ·refine .A 6 [] rfl trivial ?_
   refine .blockJoin2 (ι:=Int) (fun v10atj1=>[(6,.tsl 12 (v6outl1.map Record.row) 1),(7,.vc 0 y0tl1.length),(9,.ref 0 0),(10,.d (cI v10atj1)),(13,.d (slOf 12 Record.row v1list)),(14,.d (cI (v1list.length:Int))),(15,.d (cI v15l1))]) (fun v10atj1=>⟨[.row 32 [.d (cI ((nth v1list v15l1.toNat).source)),.d (cI ((nth v1list v15l1.toNat).serial)),.d (cI ((nth v1list v15l1.toNat).kind)),.d (cS ((nth v1list v15l1.toNat).a)),.d (cS ((nth v1list v15l1.toNat).b)),.d (cI ((nth v1list v15l1.toNat).start)),.d (cI ((nth v1list v15l1.toNat).units)),.d (cI ((nth v1list v15l1.toNat).call)),.d (cI ((nth v1list v15l1.toNat).part)),.d (cB ((nth v1list v15l1.toNat).last)),.d (cI ((nth v1list v15l1.toNat).trunk)),.d (cB ((nth v1list v15l1.toNat).inbound))]],[⟨32,12,y0tl1.length,some (y0tl1.map Record.row)⟩,⟨32,12,v6outl1.length,none⟩]⟩) (fun s=>f_correlate_Join_j1 v1list y0tl1 v6outl1 v15l1 s=some q1) ?_ ?_
   ·rintro v10atj1 H
    replace H:f_correlate_Join_j1 v1list y0tl1 v6outl1 v15l1 v10atj1=some q1:=H
    unfold f_correlate_Join_j1 at H
    obtain ⟨y2,hy2,H⟩:=bind_some' H
    refine .B 6 [.n (.vc 2 (([nth v1list v15l1.toNat]:List Record).length)) ⟨32,12,(([nth v1list v15l1.toNat]:List Record).length),some (([nth v1list v15l1.toNat]:List Record).map Record.row)⟩] rfl (.e (v_buildSliceV (n:=1) (l0:=([nth v1list v15l1.toNat]:List Record)) (row:=Record.row) underlying22 hi32 hs32 hz32 rfl rfl rfl rfl rfl) rfl) ?_
    refine .callF (en 23 rfl) rfl [] [0,2] (x:=.vc 3 y2.length) (st':=⟨[.row 32 [.d (cI ((nth v1list v15l1.toNat).source)),.d (cI ((nth v1list v15l1.toNat).serial)),.d (cI ((nth v1list v15l1.toNat).kind)),.d (cS ((nth v1list v15l1.toNat).a)),.d (cS ((nth v1list v15l1.toNat).b)),.d (cI ((nth v1list v15l1.toNat).start)),.d (cI ((nth v1list v15l1.toNat).units)),.d (cI ((nth v1list v15l1.toNat).call)),.d (cI ((nth v1list v15l1.toNat).part)),.d (cB ((nth v1list v15l1.toNat).last)),.d (cI ((nth v1list v15l1.toNat).trunk)),.d (cB ((nth v1list v15l1.toNat).inbound))]],[⟨32,12,([]:List Record).length,none⟩,⟨32,12,v6outl1.length,none⟩,⟨32,12,(([nth v1list v15l1.toNat]:List Record).length),some (([nth v1list v15l1.toNat]:List Record).map Record.row)⟩,⟨32,12,y2.length,some (y2.map Record.row)⟩]⟩) rfl (c_x_InsertRecord (hy2)) ⟨.rfl' _,.rfl' _,.rfl' _,trivial⟩ rfl rfl rfl rfl rfl rfl ?_
    obtain ⟨y3,hy3,H⟩:=bind_some' H
    obtain ⟨y4,hy4,H⟩:=bind_some' H
    refine .B 7 [.d (.agg (CorrelateCall.row y3))] rfl (g_call (en 7 rfl) rfl rfl (c_f_correlate_callOf (hy3))) ?_
    refine .callF (en 24 rfl) rfl [] [3,1] (x:=.tup [.vc 4 y4.1.length,.tsl 12 (y4.2.map Record.row) 1]) (st':=⟨[.row 32 [.d (cI ((nth v1list v15l1.toNat).source)),.d (cI ((nth v1list v15l1.toNat).serial)),.d (cI ((nth v1list v15l1.toNat).kind)),.d (cS ((nth v1list v15l1.toNat).a)),.d (cS ((nth v1list v15l1.toNat).b)),.d (cI ((nth v1list v15l1.toNat).start)),.d (cI ((nth v1list v15l1.toNat).units)),.d (cI ((nth v1list v15l1.toNat).call)),.d (cI ((nth v1list v15l1.toNat).part)),.d (cB ((nth v1list v15l1.toNat).last)),.d (cI ((nth v1list v15l1.toNat).trunk)),.d (cB ((nth v1list v15l1.toNat).inbound))]],[⟨32,12,([]:List Record).length,none⟩,⟨32,12,y4.2.length,none⟩,⟨32,12,(([nth v1list v15l1.toNat]:List Record).length),some (([nth v1list v15l1.toNat]:List Record).map Record.row)⟩,⟨32,12,([]:List Record).length,none⟩,⟨32,12,y4.1.length,some (y4.1.map Record.row)⟩]⟩) rfl (c_g_correlate_join_v1 (hy4)) ⟨.rfl' _,.rfl' _,.rfl' _,trivial⟩ rfl rfl rfl rfl rfl rfl ?_
    obtain ⟨hk4,H⟩:=ck_some H
    refine .A 11 [.i (v15l1+1)] rfl (g_addI rfl rfl hk4) ?_
    cases H
    refine .reloc [] [4,1] (env':=[(6,.tsl 12 (y4.2.map Record.row) 1),(7,.vc 0 y4.1.length),(13,.d (slOf 12 Record.row v1list)),(14,.d (cI (v1list.length:Int))),(15,.d (cI (v15l1+1)))]) (st':=⟨[],[⟨32,12,y4.1.length,some (y4.1.map Record.row)⟩,⟨32,12,y4.2.length,none⟩]⟩) hS rfl rfl rfl rfl rfl rfl rfl rfl (.cons rfl (.rfl' _) (.cons rfl (.rfl' _) (.cons rfl (.rfl' _) (.cons rfl (.rfl' _) (.cons rfl (.rfl' _) (.nil)))))) ?_
    exact .z (ih1 (n1,(y4.1,y4.2,v15l1+1)) HK1 hm1) rfl rfl
   ·intro hj1 hj1x
    obtain ⟨n2,H⟩:=loop_some H
    refine .loop (ι:=Nat×(Int)) (fun ⟨_,v10atl2⟩=>[(6,.tsl 12 (v6outl1.map Record.row) 1),(7,.vc 0 y0tl1.length),(9,.ref 0 0),(10,.d (cI v10atl2)),(13,.d (slOf 12 Record.row v1list)),(14,.d (cI (v1list.length:Int))),(15,.d (cI v15l1))]) (fun ⟨_,v10atl2⟩=>⟨[.row 32 [.d (cI ((nth v1list v15l1.toNat).source)),.d (cI ((nth v1list v15l1.toNat).serial)),.d (cI ((nth v1list v15l1.toNat).kind)),.d (cS ((nth v1list v15l1.toNat).a)),.d (cS ((nth v1list v15l1.toNat).b)),.d (cI ((nth v1list v15l1.toNat).start)),.d (cI ((nth v1list v15l1.toNat).units)),.d (cI ((nth v1list v15l1.toNat).call)),.d (cI ((nth v1list v15l1.toNat).part)),.d (cB ((nth v1list v15l1.toNat).last)),.d (cI ((nth v1list v15l1.toNat).trunk)),.d (cB ((nth v1list v15l1.toNat).inbound))]],[⟨32,12,y0tl1.length,some (y0tl1.map Record.row)⟩,⟨32,12,v6outl1.length,none⟩]⟩) (fun p=>iter (fun s=>f_correlate_Join_l2 v1list y0tl1 v6outl1 v15l1 s) p.1 p.2=some q1) (·.1) (n2,0) H (.cons rfl (.rfl' _) (.cons rfl (.rfl' _) (.cons rfl (.rfl' _) (.cons rfl (.rfl' _) (.cons rfl (.rfl' _) (.cons rfl (.rfl' _) (.cons rfl (.rfl' _) (.nil)))))))) rfl ?_
    rintro ⟨m2,v10atl2⟩ HI ih2
    obtain ⟨n2,q2,hm2,H,HK2⟩:=iter_succ HI
    clear HI
    replace H:f_correlate_Join_l2 v1list y0tl1 v6outl1 v15l1 v10atl2=some q2:=H
    unfold f_correlate_Join_l2 at H
    obtain ⟨hk5,H⟩:=ck_some H
    obtain ⟨hk6,H⟩:=ck_some H
    obtain ⟨y5,hy5,H⟩:=bind_some' H
    refine .A 18 [.p 13,.i (y0tl1.length:Int),.g (.vp 0 y0tl1.length v10atl2.toNat 0),.f 7 (.d (.agg (Record.row (nth y0tl1 v10atl2.toNat)))),.i y5] rfl ⟨rfl,rfl,fun hg=>g_call (en 25 rfl) rfl rfl (c_f_correlate_before (gcall_some hy5 hg)),rfl,rfl,fun hg=>OpQ.g (q_loadVpA (l:=y0tl1) (row:=Record.row) (cs:=(Record.row (nth y0tl1 v10atl2.toNat))) one_32 sz_32 rfl rfl (hk6 hg) (Nat.le_of_ble_eq_true rfl) rfl),rfl,fun hg=>OpQ.g (q_idxV (l:=y0tl1) (row:=Record.row) (i:=v10atl2) underlying22 hi32 hs32 rfl rfl rfl (hk5 hg)),rfl,rfl,OpQ.g (q_lenV (l:=y0tl1) (row:=Record.row) underlying22 rfl rfl),(show drawB _ _=true by kernel_rfl)⟩ ?_
    refine .ite H rfl (fun H=>?_) (fun H=>?_)
    ·obtain ⟨hk7,H⟩:=ck_some H
     refine .A 8 [.i (v10atl2+1)] rfl (g_addI rfl rfl hk7) ?_
     cases H
     exact .z (ih2 (n2,(v10atl2+1)) HK2 hm2) rfl rfl
    ·refine .A 1 [] rfl trivial ?_
     obtain ⟨q0,H9,hq0⟩:=map_some' H; clear H; cases hq0
     cases HK2
     have H:=H9
     exact .z (hj1x v10atl2 H) rfl rfl
 ·refine .A 8 [] rfl trivial ?_
  refine .freezeL (l:=y0tl1) (row:=Record.row) (i:=5) rfl rfl ?_
  refine .R func11 results11 rfl ?_
  cases H
  cases HK1
  exact .m rfl (.tupL ⟨.tsl _ _ _,.tsl _ _ _,trivial⟩)
theorem c_f_correlate_chain {v0parts:List Record} {r:(List Int)} (H:f_correlate_chain v0parts=some r):ACall prog 42 [slOf 12 Record.row v0parts] (·=slOf 1 rI r):=by
 obtain ⟨i3,hi3,hz3,hs3,hb3⟩:=in_3
 refine ACall.enter' func42 rfl ntmps42 rfl fun S hS=>?_
 unfold f_correlate_chain at H
 obtain ⟨y1,hy1,H⟩:=bind_some' H
 refine .A 12 [.d (slOf 1 rI y1)] rfl (g_call (en 18 rfl) rfl rfl (c_f_correlate_candidates (hy1))) ?_
 obtain ⟨n1,H⟩:=loop_some H
 refine .loop (ι:=Nat×(List Int)) (fun ⟨_,v3atl1⟩=>[(0,.d (slOf 12 Record.row v0parts)),(3,.d (slOf 1 rI v3atl1))]) (fun ⟨_,v3atl1⟩=>⟨[],[]⟩) (fun p=>iter (fun s=>f_correlate_chain_l1 v0parts s) p.1 p.2=some r) (·.1) (n1,y1) H (.cons rfl (.rfl' _) (.cons rfl (.rfl' _) (.nil))) rfl ?_
 rintro ⟨m1,v3atl1⟩ HI ih1
 obtain ⟨n1,q1,hm1,H,HK1⟩:=iter_succ HI
 clear HI
 replace H:f_correlate_chain_l1 v0parts v3atl1=some q1:=H
 unfold f_correlate_chain_l1 at H
 refine .A 7 [.i (v3atl1.length:Int)] rfl (s37.n rfl rfl) ?_
 refine .ite H rfl (fun H=>?_) (fun H=>?_)
 ·obtain ⟨y2,hy2,H⟩:=bind_some' H
  obtain ⟨y3,hy3,H⟩:=bind_some' H
  refine .A 29 [.d (.tup [slOf 12 Record.row y2.1,slOf 12 Record.row y2.2]),.d (.tup [.agg (Record.row y3.1),cB y3.2]),.r 0] rfl ⟨g_call (en 11 rfl) rfl rfl (c_f_correlate_whole (hy3)),g_call (en 19 rfl) rfl rfl (c_f_correlate_pick (hy2))⟩ ?_
  refine .ite H rfl (fun H=>?_) (fun H=>?_)
  ·refine .A 5 [] rfl trivial ?_
   refine .R func42 results42 rfl ?_
   cases H
   cases HK1
   exact .m rfl (.rfl' _)
  ·obtain ⟨hk1,H⟩:=ck_some H
   obtain ⟨hk2,H⟩:=ck_some H
   refine .A 10 [.i (v3atl1.length:Int),.i ((v3atl1.length:Int) - 1),.d (slOf 1 rI (v3atl1.take ((v3atl1.length:Int) - 1).toNat))] rfl ⟨OpQ.g (q_slHL (l:=v3atl1) (row:=rI) underlying37 hi3 hs3 rfl rfl rfl hk2),g_subI rfl rfl hk1,s37.n rfl rfl⟩ ?_
   cases H
   exact .t 0 0 (ih1 (n1,(v3atl1.take ((v3atl1.length:Int) - 1).toNat)) HK1 hm1) rfl rfl rfl rfl rfl hS rfl
 ·refine .A 5 [] rfl trivial ?_
  refine .R func42 results42 rfl ?_
  cases H
  cases HK1
  exact .m rfl (.nil 1)
set_option maxRecDepth 100000
set_option maxHeartbeats 1000000
theorem c_g_correlate_Expire_1 {v0r:Record} {o0c0p:Int} {r:Bool} (H:g_correlate_Expire_1 v0r o0c0p=some r):ACallS prog 40 [.d (.agg (Record.row v0r)),.ref 0 0] ⟨[.row 3 [.d (cI o0c0p)]],[]⟩ (QE (.d (cB r)) ⟨[.row 3 [.d (cI o0c0p)]],[]⟩):=by
 refine ACallS.keep ?_
 refine ACallS.enter func40 rfl ntmps40 rfl fun S hS=>?_
 unfold g_correlate_Expire_1 at H
 refine .A 13 [.r 1] rfl trivial ?_
 refine .R func40 results40 rfl ?_
 cases H
 exact ⟨[0],[],rfl,rfl,rfl,rfl,rfl,rfl,rfl,rfl,.rfl' _⟩
theorem c_g_api_Record_v2 {v0s:List Record} {o0c0p:Int} {r:Int} (H:g_api_Record_v2 v0s o0c0p=some r):ACallS prog 56 [.d (slOf 12 Record.row v0s),.clo 40 [.ref 0 0]] ⟨[.row 3 [.d (cI o0c0p)]],[]⟩ (QE (.d (cI r)) ⟨[.row 3 [.d (cI o0c0p)]],[]⟩):=by
 refine ACallS.keep ?_
 refine ACallS.enter func56 rfl ntmps56 rfl fun S hS=>?_
 unfold g_api_Record_v2 at H
 refine .A 12 [.i (v0s.length:Int)] rfl (s22.n rfl rfl) ?_
 obtain ⟨n1,H⟩:=loop_some H
 refine .loop (ι:=Nat×(Int)) (fun ⟨_,v8l1⟩=>[(0,.d (slOf 12 Record.row v0s)),(1,.clo 40 [.ref 0 0]),(7,.d (cI (v0s.length:Int))),(8,.d (cI v8l1))]) (fun ⟨_,v8l1⟩=>⟨[.row 3 [.d (cI o0c0p)]],[]⟩) (fun p=>iter (fun s=>g_api_Record_v2_l1 v0s o0c0p s) p.1 p.2=some r) (·.1) (n1,0) H (.cons rfl (.rfl' _) (.cons rfl (.rfl' _) (.cons rfl (.rfl' _) (.cons rfl (.rfl' _) (.nil))))) rfl ?_
 rintro ⟨m1,v8l1⟩ HI ih1
 obtain ⟨n1,q1,hm1,H,HK1⟩:=iter_succ HI
 clear HI
 replace H:g_api_Record_v2_l1 v0s o0c0p v8l1=some q1:=H
 unfold g_api_Record_v2_l1 at H
 refine .A 5 [] rfl trivial ?_
 refine .ite H rfl (fun H=>?_) (fun H=>?_)
 ·obtain ⟨hk1,H⟩:=ck_some H
  obtain ⟨y1,hy1,H⟩:=bind_some' H
  refine .B 15 [.d (.ro (Record.row (nth v0s v8l1.toNat)))] rfl (s22.ix rfl rfl rfl hk1) ?_
  refine .callFC (en 26 rfl) rfl rfl [0] [] (x:=.d (cB y1)) (st':=⟨[.row 3 [.d (cI o0c0p)]],[]⟩) rfl (c_g_correlate_Expire_1 (hy1)) ⟨.rfl' _,.rfl' _,trivial⟩ rfl rfl rfl rfl rfl rfl ?_
  refine .A 1 [] rfl trivial ?_
  refine .ite H rfl (fun H=>?_) (fun H=>?_)
  ·refine .A 5 [] rfl trivial ?_
   refine .R func56 results56 rfl ?_
   cases H
   cases HK1
   exact ⟨[0],[],rfl,rfl,rfl,rfl,rfl,rfl,rfl,rfl,.rfl' _⟩
  ·obtain ⟨hk2,H⟩:=ck_some H
   refine .A 6 [.i (v8l1+1)] rfl (g_addI rfl rfl hk2) ?_
   cases H
   exact .z (ih1 (n1,(v8l1+1)) HK1 hm1) rfl rfl
 ·refine .A 5 [] rfl trivial ?_
  refine .R func56 results56 rfl ?_
  cases H
  cases HK1
  exact ⟨[0],[],rfl,rfl,rfl,rfl,rfl,rfl,rfl,rfl,.rfl' _⟩
theorem c_g_api_Record_v3 {v0s:List Record} {o0c0p:Int} {r:Bool} (H:g_api_Record_v3 v0s o0c0p=some r):ACallS prog 39 [.d (slOf 12 Record.row v0s),.clo 40 [.ref 0 0]] ⟨[.row 3 [.d (cI o0c0p)]],[]⟩ (QE (.d (cB r)) ⟨[.row 3 [.d (cI o0c0p)]],[]⟩):=by
 refine ACallS.keep ?_
 refine ACallS.enter func39 rfl ntmps39 rfl fun S hS=>?_
 unfold g_api_Record_v3 at H
 obtain ⟨y1,hy1,H⟩:=bind_some' H
 refine .B 8 [] rfl trivial ?_
 refine .callF (en 16 rfl) rfl [0] [] (x:=.d (cI y1)) (st':=⟨[.row 3 [.d (cI o0c0p)]],[]⟩) rfl (c_g_api_Record_v2 (hy1)) ⟨.rfl' _,.rfl' _,trivial⟩ rfl rfl rfl rfl rfl rfl ?_
 refine .A 3 [] rfl trivial ?_
 refine .R func39 results39 rfl ?_
 cases H
 exact ⟨[0],[],rfl,rfl,rfl,rfl,rfl,rfl,rfl,rfl,.rfl' _⟩
theorem c_f_correlate_Expire {v0:List Record} {v1:Int} {r:(List Record)×(List Record)} (H:f_correlate_Expire v0 v1=some r):ACall prog 15 [slOf 12 Record.row v0,cI v1] (·=.tup [slOf 12 Record.row r.1,slOf 12 Record.row r.2]):=by
 obtain ⟨i32,hi32,hz32,hs32,hb32⟩:=in_32
 refine ACall.enter' func15 rfl ntmps15 rfl fun S hS=>?_
 unfold f_correlate_Expire at H
 obtain ⟨y1,hy1,H⟩:=bind_some' H
 refine .A 19 [.r 0,.d (slOf 12 Record.row y1)] rfl (g_call (en 22 rfl) rfl rfl (c_x_CloneRecord (hy1))) ?_
 refine .tok (i:=6) (e:=32) (sz:=12) rfl ?_
 refine .tok (i:=7) (e:=32) (sz:=12) rfl ?_
 obtain ⟨n1,H⟩:=loop_some H
 refine .loop (ι:=Nat×(List Record×List Record×List Record)) (fun ⟨_,v6l1,v7l1,v8l1⟩=>[(3,.ref 0 0),(6,.tsl 12 (v6l1.map Record.row) 0),(7,.tsl 12 (v7l1.map Record.row) 1),(8,.d (slOf 12 Record.row v8l1))]) (fun ⟨_,v6l1,v7l1,v8l1⟩=>⟨[.row 3 [.d (cI v1)]],[⟨32,12,v6l1.length,none⟩,⟨32,12,v7l1.length,none⟩]⟩) (fun p=>iter (fun s=>f_correlate_Expire_l1 v1 s.1 s.2.1 s.2.2) p.1 p.2=some r) (·.1) (n1,(([]:List Record),([]:List Record),y1)) H (.cons rfl (.rfl' _) (.cons rfl (.rfl' _) (.cons rfl (.rfl' _) (.cons rfl (.rfl' _) (.nil))))) rfl ?_
 rintro ⟨m1,v6l1,v7l1,v8l1⟩ HI ih1
 obtain ⟨n1,q1,hm1,H,HK1⟩:=iter_succ HI
 clear HI
 replace H:f_correlate_Expire_l1 v1 v6l1 v7l1 v8l1=some q1:=H
 unfold f_correlate_Expire_l1 at H
 refine .A 7 [.i (v8l1.length:Int)] rfl (s22.n rfl rfl) ?_
 refine .ite H rfl (fun H=>?_) (fun H=>?_)
 ·obtain ⟨hk1,H⟩:=ck_some H
  obtain ⟨y2,hy2,H⟩:=bind_some' H
  obtain ⟨y3,hy3,H⟩:=bind_some' H
  obtain ⟨hk2,H⟩:=ck_some H
  obtain ⟨hk3,H⟩:=ck_some H
  obtain ⟨y4,hy4,H⟩:=bind_some' H
  refine .B 35 [.d (.ro (Record.row (nth v8l1 (Int.toNat (0))))),.d (.agg (CorrelateCall.row y2)),.d (.tup [cI y3.1,cI y3.2]),.d (slOf 12 Record.row (v8l1.take y3.2.toNat)),.d (slOf 12 Record.row (v8l1.drop y3.2.toNat)),.g (.clo 40 [.ref 0 0])] rfl ⟨OpQ.g (q_makeFunc rfl),OpQ.g (q_slLL (l:=v8l1) (row:=Record.row) underlying22 hi32 hs32 rfl rfl rfl hk3),OpQ.g (q_slHL (l:=v8l1) (row:=Record.row) underlying22 hi32 hs32 rfl rfl rfl hk2),g_call (en 17 rfl) rfl rfl (c_f_correlate_span (hy3)),g_call (en 7 rfl) rfl rfl (c_f_correlate_callOf (hy2)),s22.ix rfl rfl rfl hk1⟩ ?_
  refine .callF (en 27 rfl) rfl [0] [] (x:=.d (cB y4)) (st':=⟨[.row 3 [.d (cI v1)]],[⟨32,12,v6l1.length,none⟩,⟨32,12,v7l1.length,none⟩]⟩) rfl (c_g_api_Record_v3 (hy4)) ⟨.rfl' _,.rfl' _,trivial⟩ rfl rfl rfl rfl rfl rfl ?_
  refine .A 1 [] rfl trivial ?_
  refine .ite H rfl (fun H=>?_) (fun H=>?_)
  ·obtain ⟨hk4,H⟩:=ck_some H
   refine .A 8 [.a 1 32 12 Record.row (v7l1++(v8l1.take y3.2.toNat))] rfl (s22.a rfl rfl rfl rfl hk4) ?_
   cases H
   exact .z (ih1 (n1,(v6l1,v7l1++(v8l1.take y3.2.toNat),v8l1.drop y3.2.toNat)) HK1 hm1) rfl rfl
  ·obtain ⟨y5,hy5,H⟩:=bind_some' H
   obtain ⟨y6,hy6,H⟩:=bind_some' H
   refine .A 13 [.d (slOf 1 rI y5),.d (.tup [slOf 12 Record.row y6.1,slOf 12 Record.row y6.2])] rfl ⟨g_call (en 19 rfl) rfl rfl (c_f_correlate_pick (hy6)),g_call (en 28 rfl) rfl rfl (c_f_correlate_chain (hy5))⟩ ?_
   refine .seqJoin (ι:=List Record×Int×Int×Int×List UInt8×List UInt8×Int×Int×Int×Int×Bool×Int×Bool) (fun ⟨v6j1,o1c0j1,o1c1j1,o1c2j1,o1c3j1,o1c4j1,o1c5j1,o1c6j1,o1c7j1,o1c8j1,o1c9j1,o1c10j1,o1c11j1⟩=>[(3,.ref 0 0),(6,.tsl 12 (v6j1.map Record.row) 0),(7,.tsl 12 (v7l1.map Record.row) 1),(8,.d (slOf 12 Record.row (v8l1.drop y3.2.toNat))),(13,.d (slOf 12 Record.row y6.2))]) (fun ⟨v6j1,o1c0j1,o1c1j1,o1c2j1,o1c3j1,o1c4j1,o1c5j1,o1c6j1,o1c7j1,o1c8j1,o1c9j1,o1c10j1,o1c11j1⟩=>⟨[.row 3 [.d (cI v1)],.row 32 [.d (cI o1c0j1),.d (cI o1c1j1),.d (cI o1c2j1),.d (cS o1c3j1),.d (cS o1c4j1),.d (cI o1c5j1),.d (cI o1c6j1),.d (cI o1c7j1),.d (cI o1c8j1),.d (cB o1c9j1),.d (cI o1c10j1),.d (cB o1c11j1)]],[⟨32,12,v6j1.length,none⟩,⟨32,12,v7l1.length,none⟩]⟩) (fun s=>f_correlate_Expire_j1 v7l1 v8l1 y3 y6 s.1 s.2.1 s.2.2.1 s.2.2.2.1 s.2.2.2.2.1 s.2.2.2.2.2.1 s.2.2.2.2.2.2.1 s.2.2.2.2.2.2.2.1 s.2.2.2.2.2.2.2.2.1 s.2.2.2.2.2.2.2.2.2.1 s.2.2.2.2.2.2.2.2.2.2.1 s.2.2.2.2.2.2.2.2.2.2.2.1 s.2.2.2.2.2.2.2.2.2.2.2.2=some q1) ?_ ?_
   ·rintro ⟨v6j1,o1c0j1,o1c1j1,o1c2j1,o1c3j1,o1c4j1,o1c5j1,o1c6j1,o1c7j1,o1c8j1,o1c9j1,o1c10j1,o1c11j1⟩ H
    replace H:f_correlate_Expire_j1 v7l1 v8l1 y3 y6 v6j1 o1c0j1 o1c1j1 o1c2j1 o1c3j1 o1c4j1 o1c5j1 o1c6j1 o1c7j1 o1c8j1 o1c9j1 o1c10j1 o1c11j1=some q1:=H
    unfold f_correlate_Expire_j1 at H
    refine .A 7 [.i (y6.2.length:Int)] rfl (s22.n rfl rfl) ?_
    obtain ⟨n2,H⟩:=loop_some H
    refine .loop (ι:=Nat×(List Record×Int)) (fun ⟨_,v6l2,v63l2⟩=>[(3,.ref 0 0),(6,.tsl 12 (v6l2.map Record.row) 0),(7,.tsl 12 (v7l1.map Record.row) 1),(8,.d (slOf 12 Record.row (v8l1.drop y3.2.toNat))),(61,.d (slOf 12 Record.row y6.2)),(62,.d (cI (y6.2.length:Int))),(63,.d (cI v63l2))]) (fun ⟨_,v6l2,v63l2⟩=>⟨[.row 3 [.d (cI v1)],.row 32 [.d (cI o1c0j1),.d (cI o1c1j1),.d (cI o1c2j1),.d (cS o1c3j1),.d (cS o1c4j1),.d (cI o1c5j1),.d (cI o1c6j1),.d (cI o1c7j1),.d (cI o1c8j1),.d (cB o1c9j1),.d (cI o1c10j1),.d (cB o1c11j1)]],[⟨32,12,v6l2.length,none⟩,⟨32,12,v7l1.length,none⟩]⟩) (fun p=>iter (fun s=>f_correlate_Expire_l2 v7l1 v8l1 y3 y6 s.1 s.2) p.1 p.2=some q1) (·.1) (n2,(v6j1,0)) H (.cons rfl (.rfl' _) (.cons rfl (.rfl' _) (.cons rfl (.rfl' _) (.cons rfl (.rfl' _) (.cons rfl (.rfl' _) (.cons rfl (.rfl' _) (.cons rfl (.rfl' _) (.nil)))))))) rfl ?_
    rintro ⟨m2,v6l2,v63l2⟩ HI ih2
    obtain ⟨n2,q2,hm2,H,HK2⟩:=iter_succ HI
    clear HI
    replace H:f_correlate_Expire_l2 v7l1 v8l1 y3 y6 v6l2 v63l2=some q2:=H
    unfold f_correlate_Expire_l2 at H
    refine .A 5 [] rfl trivial ?_
    refine .ite H rfl (fun H=>?_) (fun H=>?_)
    ·obtain ⟨hk5,H⟩:=ck_some H
     obtain ⟨y7,hy7,H⟩:=bind_some' H
     obtain ⟨hk6,H⟩:=ck_some H
     obtain ⟨hk7,H⟩:=ck_some H
     refine .A 23 [.d (.ro (Record.row (nth y6.2 v63l2.toNat))),.r 2,.d (.agg (Record.row y7)),.d (slOf 12 Record.row ([y7]:List Record)),.a 0 32 12 Record.row (v6l2++([y7]:List Record)),.i (v63l2+1)] rfl ⟨g_addI rfl rfl hk7,s22.a rfl rfl rfl rfl hk6,g_buildSlice1 underlying22 hi32 hs32 hz32 rfl rfl rfl rfl rfl,g_call (en 8 rfl) rfl rfl (c_f_correlate_alone (hy7)),s22.ix rfl rfl rfl hk5⟩ ?_
     cases H
     exact .t 2 2 (ih2 (n2,(v6l2++([y7]:List Record),v63l2+1)) HK2 hm2) rfl rfl rfl rfl rfl hS rfl
    ·refine .A 2 [] rfl trivial ?_
     cases H
     cases HK2
     exact .t 1 2 (ih1 (n1,(v6l2,v7l1,v8l1.drop y3.2.toNat)) HK1 hm1) rfl rfl rfl rfl rfl hS rfl
   ·intro hj1
    obtain ⟨y8,hy8,H⟩:=bind_some' H
    refine .A 15 [.d (.tup [.agg (Record.row y8.1),cB y8.2]),.r 1] rfl (g_call (en 11 rfl) rfl rfl (c_f_correlate_whole (hy8))) ?_
    refine .ite H rfl (fun H=>?_) (fun H=>?_)
    ·obtain ⟨hk8,H⟩:=ck_some H
     refine .A 7 [.d (slOf 12 Record.row ([y8.1]:List Record)),.a 0 32 12 Record.row (v6l1++([y8.1]:List Record))] rfl ⟨s22.a rfl rfl rfl rfl hk8,g_buildSlice1 underlying22 hi32 hs32 hz32 rfl rfl rfl rfl rfl⟩ ?_
     exact .z (hj1 (v6l1++([y8.1]:List Record),y8.1.source,y8.1.serial,y8.1.kind,y8.1.a,y8.1.b,y8.1.start,y8.1.units,y8.1.call,y8.1.part,y8.1.last,y8.1.trunk,y8.1.inbound) H) rfl rfl
    ·refine .A 1 [] rfl trivial ?_
     exact .z (hj1 (v6l1,y8.1.source,y8.1.serial,y8.1.kind,y8.1.a,y8.1.b,y8.1.start,y8.1.units,y8.1.call,y8.1.part,y8.1.last,y8.1.trunk,y8.1.inbound) H) rfl rfl
 ·refine .A 8 [] rfl trivial ?_
  refine .R func15 results15 rfl ?_
  cases H
  cases HK1
  exact .m rfl (.tupL ⟨.tsl _ _ _,.tsl _ _ _,trivial⟩)
theorem c_f_w15_awake {r:Bool} (H:f_w15_awake=some r):ACall prog 10 [] (·=cB r):=by
 obtain ⟨i32,hi32,hz32,hs32,hb32⟩:=in_32
 refine ACall.enter' func10 rfl ntmps10 rfl fun S hS=>?_
 unfold f_w15_awake at H
 obtain ⟨y1,hy1,H⟩:=bind_some' H
 obtain ⟨y2,hy2,H⟩:=bind_some' H
 obtain ⟨y3,hy3,H⟩:=bind_some' H
 obtain ⟨y4,hy4,H⟩:=bind_some' H
 obtain ⟨y5,hy5,H⟩:=bind_some' H
 obtain ⟨y6,hy6,H⟩:=bind_some' H
 refine .A 41 [.d (.agg (Record.row y1)),.d (.agg (Record.row y2)),.d (slOf 12 Record.row ([y1,y2]:List Record)),.d (.tup [.agg (Record.row y3.1),cB y3.2]),.r 0,.d (.agg (Record.row y4)),.d (.agg (Record.row y5)),.d (slOf 12 Record.row ([y4,y5]:List Record)),.d (.tup [slOf 12 Record.row y6.1,slOf 12 Record.row y6.2]),.i (y6.1.length:Int),.i (y6.2.length:Int)] rfl ⟨rfl,rfl,fun hg=>s22.n rfl rfl,rfl,s22.n rfl rfl,g_call (en 29 rfl) rfl rfl ((c_f_correlate_Join (hy6)).le ⟨.nil 12,.rfl' _,trivial⟩),g_buildSliceN (n:=2) (rows:=([y4,y5]:List Record).map Record.row) underlying22 hi32 hs32 hz32 rfl rfl rfl rfl rfl,g_call (en 30 rfl) rfl rfl (c_f_w15_part (hy5)),g_call (en 30 rfl) rfl rfl (c_f_w15_part (hy4)),g_call (en 20 rfl) rfl rfl (c_f_correlate_Complete (hy3)),g_buildSliceN (n:=2) (rows:=([y1,y2]:List Record).map Record.row) underlying22 hi32 hs32 hz32 rfl rfl rfl rfl rfl,g_call (en 30 rfl) rfl rfl (c_f_w15_part (hy2)),g_call (en 30 rfl) rfl rfl (c_f_w15_part (hy1))⟩ ?_
 refine .ite H rfl (fun H=>?_) (fun H=>?_)
 ·refine .A 4 [] rfl trivial ?_
  refine .R func10 results10 rfl ?_
  cases H
  exact .m rfl (.rfl' _)
 ·obtain ⟨y7,hy7,H⟩:=bind_some' H
  obtain ⟨y8,hy8,H⟩:=bind_some' H
  obtain ⟨y9,hy9,H⟩:=bind_some' H
  obtain ⟨y10,hy10,H⟩:=bind_some' H
  obtain ⟨y11,hy11,H⟩:=bind_some' H
  obtain ⟨y12,hy12,H⟩:=bind_some' H
  obtain ⟨y13,hy13,H⟩:=bind_some' H
  refine .A 49 [.d (.agg (Record.row y7)),.d (.agg (Record.row y8)),.d (slOf 12 Record.row ([y7,y8]:List Record)),.d (.tup [slOf 12 Record.row y9.1,slOf 12 Record.row y9.2]),.d (.agg (Record.row y10)),.d (.agg (Record.row y11)),.d (.agg (Record.row y12)),.d (slOf 12 Record.row ([y10,y11,y12]:List Record)),.d (.tup [slOf 12 Record.row y13.1,slOf 12 Record.row y13.2]),.i (y9.1.length:Int),.i (y9.2.length:Int),.i (y13.1.length:Int),.i (y13.2.length:Int)] rfl ⟨rfl,rfl,fun hg=>s22.n rfl rfl,rfl,rfl,rfl,fun hg=>s22.n rfl rfl,rfl,rfl,rfl,fun hg=>s22.n rfl rfl,rfl,s22.n rfl rfl,g_call (en 31 rfl) rfl rfl (c_f_correlate_Expire (hy13)),g_buildSliceN (n:=3) (rows:=([y10,y11,y12]:List Record).map Record.row) underlying22 hi32 hs32 hz32 rfl rfl rfl rfl rfl,g_call (en 30 rfl) rfl rfl (c_f_w15_part (hy12)),g_call (en 30 rfl) rfl rfl (c_f_w15_part (hy11)),g_call (en 30 rfl) rfl rfl (c_f_w15_part (hy10)),g_call (en 29 rfl) rfl rfl (c_f_correlate_Join (hy9)),g_buildSliceN (n:=2) (rows:=([y7,y8]:List Record).map Record.row) underlying22 hi32 hs32 hz32 rfl rfl rfl rfl rfl,g_call (en 30 rfl) rfl rfl (c_f_w15_part (hy8)),g_call (en 30 rfl) rfl rfl (c_f_w15_part (hy7))⟩ ?_
  refine .ite H rfl (fun H=>?_) (fun H=>?_)
  ·refine .A 4 [] rfl trivial ?_
   refine .R func10 results10 rfl ?_
   cases H
   exact .m rfl (.rfl' _)
  ·obtain ⟨hk1,H⟩:=ck_some H
   obtain ⟨hk2,H⟩:=ck_some H
   obtain ⟨hk3,H⟩:=ck_some H
   obtain ⟨hk4,H⟩:=ck_some H
   obtain ⟨hk5,H⟩:=ck_some H
   refine .A 53 [.d (.agg (Record.row (⟨1,1,1,([49]:List UInt8),([50]:List UInt8),0,15,0,0,false,0,false⟩:Record))),.r 1,.p 42,.b (eqVs (Record.vals y3.1) (Record.vals (⟨1,1,1,([49]:List UInt8),([50]:List UInt8),0,15,0,0,false,0,false⟩:Record))),.d (.ro (Record.row (nth y9.1 (Int.toNat (0))))),.d (.ro (Record.row (nth y9.2 (Int.toNat (0))))),.d (.ro (Record.row (nth y13.1 (Int.toNat (0))))),.b (eqVs (Record.vals (nth y13.1 (Int.toNat (0)))) (Record.vals (⟨1,1,1,([49]:List UInt8),([50]:List UInt8),0,15,0,0,false,0,false⟩:Record))),.d (.ro (Record.row (nth y13.1 (Int.toNat (1))))),.d (.ro (Record.row (nth y13.1 (Int.toNat (1)))))] rfl ⟨rfl,rfl,rfl,rfl,fun hg=>s22.ix rfl rfl rfl (hk5 hg),rfl,rfl,rfl,rfl,rfl,fun hg=>s22.ix rfl rfl rfl (hk4 hg),rfl,rfl,fun hg=>OpQ.g (q_steql fk_32 rfl rfl (xs:=Record.vals (nth y13.1 (Int.toNat (0)))) (ys:=Record.vals (⟨1,1,1,([49]:List UInt8),([50]:List UInt8),0,15,0,0,false,0,false⟩:Record)) rfl rfl rfl rfl),rfl,rfl,rfl,fun hg=>s22.ix rfl rfl rfl (hk3 hg),rfl,rfl,rfl,rfl,rfl,fun hg=>s22.ix rfl rfl rfl (hk2 hg),rfl,rfl,rfl,rfl,rfl,fun hg=>s22.ix rfl rfl rfl (hk1 hg),rfl,rfl,fun hg=>OpQ.g (q_steql fk_32 rfl rfl (xs:=Record.vals y3.1) (ys:=Record.vals (⟨1,1,1,([49]:List UInt8),([50]:List UInt8),0,15,0,0,false,0,false⟩:Record)) rfl rfl rfl rfl),rfl,rfl,(show drawB _ _=true by kernel_rfl),OpQ.g (q_buildP pl_32 hi32 hz32 rfl rfl)⟩ ?_
   refine .R func10 results10 rfl ?_
   cases H
   exact .m rfl (.rfl' _)
theorem c_f_r09_in {v0n:Int} {v1low:Int} {v2high:Int} {r:Bool} (H:f_r09_in v0n v1low v2high=some r):ACall prog 61 [cI v0n,cI v1low,cI v2high] (·=cB r):=by
 refine ACall.enter' func61 rfl ntmps61 rfl fun S hS=>?_
 unfold f_r09_in at H
 refine .A 16 [] rfl ⟨rfl,rfl,rfl⟩ ?_
 refine .R func61 results61 rfl ?_
 cases H
 exact .m rfl (.rfl' _)
theorem c_f_r02_Valid {v0s:List UInt8} {r:Bool} (H:f_r02_Valid v0s=some r):ACall prog 62 [cS v0s] (·=cB r):=by
 refine ACall.enter' func62 rfl ntmps62 rfl fun S hS=>?_
 unfold f_r02_Valid at H
 refine .A 9 [] rfl trivial ?_
 refine .blockJoin2 (ι:=Unit) (fun _=>[(0,.d (cS v0s))]) (fun _=>⟨[],[]⟩) (fun s=>f_r02_Valid_j1 v0s=some r) ?_ ?_
 ·rintro _ H
  replace H:f_r02_Valid_j1 v0s=some r:=H
  unfold f_r02_Valid_j1 at H
  refine .A 12 [.i (v0s.length:Int),.i (v0s.length:Int)] rfl ⟨rfl,rfl,fun hg=>OpQ.g (q_lenS underlying9 rfl),rfl,OpQ.g (q_lenS underlying9 rfl)⟩ ?_
  refine .R func62 results62 rfl ?_
  cases H
  exact .m rfl (.rfl' _)
 ·intro hj1 hj1x
  obtain ⟨n1,H⟩:=loop_some H
  refine .loop (ι:=Nat×(Int)) (fun ⟨_,v3il1⟩=>[(0,.d (cS v0s)),(3,.d (cI v3il1))]) (fun ⟨_,v3il1⟩=>⟨[],[]⟩) (fun p=>iter (fun s=>f_r02_Valid_l1 v0s s) p.1 p.2=some r) (·.1) (n1,0) H (.cons rfl (.rfl' _) (.cons rfl (.rfl' _) (.nil))) rfl ?_
  rintro ⟨m1,v3il1⟩ HI ih1
  obtain ⟨n1,q1,hm1,H,HK1⟩:=iter_succ HI
  clear HI
  replace H:f_r02_Valid_l1 v0s v3il1=some q1:=H
  unfold f_r02_Valid_l1 at H
  refine .A 8 [.i (v0s.length:Int)] rfl (OpQ.g (q_lenS underlying9 rfl)) ?_
  refine .ite H rfl (fun H=>?_) (fun H=>?_)
  ·obtain ⟨hk1,H⟩:=ck_some H
   obtain ⟨hk2,H⟩:=ck_some H
   refine .A 16 [.c (nth v0s v3il1.toNat),.b (decide ((nth v0s v3il1.toNat) < 48)),.c (nth v0s v3il1.toNat),.b (decide ((nth v0s v3il1.toNat) > 57))] rfl ⟨rfl,fun hg=>OpQ.g (q8_gtr (a:=nth v0s v3il1.toNat) (b:=57) rfl rfl),rfl,fun hg=>OpQ.g (q_indexL (i:=v3il1) underlying9 rfl rfl (hk2 hg)),rfl,rfl,OpQ.g (q8_lss (a:=nth v0s v3il1.toNat) (b:=48) rfl rfl),OpQ.g (q_indexL (i:=v3il1) underlying9 rfl rfl hk1)⟩ ?_
   refine .ite H rfl (fun H=>?_) (fun H=>?_)
   ·refine .A 4 [] rfl trivial ?_
    refine .R func62 results62 rfl ?_
    cases H
    cases HK1
    exact .m rfl (.rfl' _)
   ·obtain ⟨hk3,H⟩:=ck_some H
    refine .A 7 [.i (v3il1+1)] rfl (g_addI rfl rfl hk3) ?_
    cases H
    exact .z (ih1 (n1,(v3il1+1)) HK1 hm1) rfl rfl
  ·refine .A 1 [] rfl trivial ?_
   obtain ⟨q0,H9,hq0⟩:=map_some' H; clear H; cases hq0
   cases HK1
   have H:=H9
   exact .z (hj1x () H) rfl rfl
theorem c_f_r09_Error {v0:Record} {r:Int} (H:f_r09_Error v0=some r):ACall prog 49 [.agg (Record.row v0)] (·=cI r):=by
 refine ACall.enter' func49 rfl ntmps49 rfl fun S hS=>?_
 unfold f_r09_Error at H
 obtain ⟨y1,hy1,H⟩:=bind_some' H
 obtain ⟨y2,hy2,H⟩:=bind_some' H
 refine .A 21 [.r 0,.b y1,.b y2] rfl ⟨rfl,rfl,fun hg=>g_call (en 32 rfl) rfl rfl (c_f_r09_in (gcall_some hy2 hg)),rfl,rfl,g_call (en 32 rfl) rfl rfl (c_f_r09_in (hy1))⟩ ?_
 refine .ite H rfl (fun H=>?_) (fun H=>?_)
 ·refine .A 4 [] rfl trivial ?_
  refine .R func49 results49 rfl ?_
  cases H
  exact .m rfl (.rfl' _)
 ·obtain ⟨y3,hy3,H⟩:=bind_some' H
  refine .A 8 [.b y3] rfl (g_call (en 32 rfl) rfl rfl (c_f_r09_in (hy3))) ?_
  refine .ite H rfl (fun H=>?_) (fun H=>?_)
  ·refine .A 4 [] rfl trivial ?_
   refine .R func49 results49 rfl ?_
   cases H
   exact .m rfl (.rfl' _)
  ·obtain ⟨y4,hy4,H⟩:=bind_some' H
   refine .A 8 [.b y4] rfl (g_call (en 33 rfl) rfl rfl (c_f_r02_Valid (hy4))) ?_
   refine .ite H rfl (fun H=>?_) (fun H=>?_)
   ·refine .A 4 [] rfl trivial ?_
    refine .R func49 results49 rfl ?_
    cases H
    exact .m rfl (.rfl' _)
   ·obtain ⟨y5,hy5,H⟩:=bind_some' H
    refine .B 18 [.b y5] rfl ⟨rfl,rfl,rfl,rfl,rfl,rfl,rfl,rfl,g_call (en 33 rfl) rfl rfl (c_f_r02_Valid (hy5))⟩ ?_
    refine .guardG (env':=[(37,_),(40,_)]) rfl rfl rfl ⟨.inr (.inl rfl),⟨.inr (.inr ⟨_,_,rfl,rfl⟩),trivial⟩⟩ rfl (fun hg=>OpQ.g (q_pickAndB rfl rfl rfl)) ?_
    refine .guardG (env':=[(33,_),(41,_)]) rfl rfl rfl ⟨.inr (.inl rfl),⟨.inr (.inr ⟨_,_,rfl,rfl⟩),trivial⟩⟩ rfl (fun hg=>OpQ.g (q_pickOrB rfl rfl rfl)) ?_
    refine .A 3 [] rfl rfl ?_
    refine .ite H rfl (fun H=>?_) (fun H=>?_)
    ·refine .A 4 [] rfl trivial ?_
     refine .R func49 results49 rfl ?_
     cases H
     exact .m rfl (.rfl' _)
    ·obtain ⟨y6,hy6,H⟩:=bind_some' H
     refine .A 8 [.b y6] rfl (g_call (en 32 rfl) rfl rfl (c_f_r09_in (hy6))) ?_
     refine .ite H rfl (fun H=>?_) (fun H=>?_)
     ·refine .A 4 [] rfl trivial ?_
      refine .R func49 results49 rfl ?_
      cases H
      exact .m rfl (.rfl' _)
     ·obtain ⟨y7,hy7,H⟩:=bind_some' H
      refine .B 14 [.b y7] rfl ⟨rfl,rfl,rfl,rfl,rfl,g_call (en 32 rfl) rfl rfl (c_f_r09_in (hy7))⟩ ?_
      refine .guardG (env':=[(58,_),(61,_)]) rfl rfl rfl ⟨.inr (.inl rfl),⟨.inr (.inr ⟨_,_,rfl,rfl⟩),trivial⟩⟩ rfl (fun hg=>OpQ.g (q_pickAndB rfl rfl rfl)) ?_
      refine .A 3 [] rfl rfl ?_
      refine .ite H rfl (fun H=>?_) (fun H=>?_)
      ·refine .A 4 [] rfl trivial ?_
       refine .R func49 results49 rfl ?_
       cases H
       exact .m rfl (.rfl' _)
      ·obtain ⟨hk1,H⟩:=ck_some H
       refine .A 15 [.i (v0.start+v0.units)] rfl ⟨rfl,rfl,fun hg=>g_addI rfl rfl (hk1 hg),rfl,rfl,rfl,rfl⟩ ?_
       refine .ite H rfl (fun H=>?_) (fun H=>?_)
       ·refine .A 4 [] rfl trivial ?_
        refine .R func49 results49 rfl ?_
        cases H
        exact .m rfl (.rfl' _)
       ·obtain ⟨y8,hy8,H⟩:=bind_some' H
        obtain ⟨y9,hy9,H⟩:=bind_some' H
        refine .A 14 [.b y8,.b y9] rfl ⟨rfl,rfl,fun hg=>g_call (en 32 rfl) rfl rfl (c_f_r09_in (gcall_some hy9 hg)),rfl,rfl,g_call (en 32 rfl) rfl rfl (c_f_r09_in (hy8))⟩ ?_
        refine .ite H rfl (fun H=>?_) (fun H=>?_)
        ·refine .A 4 [] rfl trivial ?_
         refine .R func49 results49 rfl ?_
         cases H
         exact .m rfl (.rfl' _)
        ·refine .B 16 [.b ((v0.part==0) != (v0.call==0))] rfl ⟨rfl,rfl,rfl,rfl,OpQ.g (q_bneq rfl underlying4 rfl)⟩ ?_
         refine .guardG (env':=[(98,_),(101,_)]) rfl rfl rfl ⟨.inr (.inl rfl),⟨.inr (.inr ⟨_,_,rfl,rfl⟩),trivial⟩⟩ rfl (fun hg=>OpQ.g (q_pickAndB rfl rfl rfl)) ?_
         refine .A 3 [] rfl rfl ?_
         refine .ite H rfl (fun H=>?_) (fun H=>?_)
         ·refine .A 4 [] rfl trivial ?_
          refine .R func49 results49 rfl ?_
          cases H
          exact .m rfl (.rfl' _)
         ·obtain ⟨y10,hy10,H⟩:=bind_some' H
          refine .A 8 [.b y10] rfl (g_call (en 32 rfl) rfl rfl (c_f_r09_in (hy10))) ?_
          refine .ite H rfl (fun H=>?_) (fun H=>?_)
          ·refine .A 4 [] rfl trivial ?_
           refine .R func49 results49 rfl ?_
           cases H
           exact .m rfl (.rfl' _)
          ·refine .A 11 [] rfl ⟨rfl,rfl,rfl⟩ ?_
           refine .ite H rfl (fun H=>?_) (fun H=>?_)
           ·refine .A 4 [] rfl trivial ?_
            refine .R func49 results49 rfl ?_
            cases H
            exact .m rfl (.rfl' _)
           ·refine .A 6 [] rfl trivial ?_
            refine .R func49 results49 rfl ?_
            cases H
            exact .m rfl (.rfl' _)
theorem c_f_r13_Check {v0r:Record} {r:Int} (H:f_r13_Check v0r=some r):ACall prog 26 [.agg (Record.row v0r)] (·=cI r):=by
 refine ACall.enter' func26 rfl ntmps26 rfl fun S hS=>?_
 unfold f_r13_Check at H
 obtain ⟨y1,hy1,H⟩:=bind_some' H
 refine .A 11 [.r 0,.i y1] rfl (g_call (en 34 rfl) rfl rfl (c_f_r09_Error (hy1))) ?_
 refine .R func26 results26 rfl ?_
 cases H
 exact .m rfl (.rfl' _)
theorem c_f_r15_call {v0a:Record} {v1b:Record} {r:Bool} (H:f_r15_call v0a v1b=some r):ACall prog 45 [.agg (Record.row v0a),.agg (Record.row v1b)] (·=cB r):=by
 refine ACall.enter' func45 rfl ntmps45 rfl fun S hS=>?_
 unfold f_r15_call at H
 refine .A 22 [.r 0,.r 1] rfl ⟨rfl,rfl,rfl,rfl,rfl⟩ ?_
 refine .R func45 results45 rfl ?_
 cases H
 exact .m rfl (.rfl' _)
set_option maxRecDepth 100000
set_option maxHeartbeats 1000000
theorem c_f_r15_whole {v0:List Record} {r:Record×Bool} (H:f_r15_whole v0=some r):ACall prog 47 [slOf 12 Record.row v0] (·=.tup [.agg (Record.row r.1),cB r.2]):=by
 obtain ⟨i32,hi32,hz32,hs32,hb32⟩:=in_32
 refine ACall.enter' func47 rfl ntmps47 rfl fun S hS=>?_
 unfold f_r15_whole at H
 refine .A 14 [.r 0,.r 1] rfl trivial ?_
 refine .blockJoin2 (ι:=Int×Int×Int×List UInt8×List UInt8×Int×Int×Int×Bool) (fun ⟨o1c0j1,o1c1j1,o1c2j1,o1c3j1,o1c4j1,o1c5j1,o1c6j1,o1c10j1,o1c11j1⟩=>[(0,.d (slOf 12 Record.row v0)),(2,.ref 0 0),(4,.ref 1 0)]) (fun ⟨o1c0j1,o1c1j1,o1c2j1,o1c3j1,o1c4j1,o1c5j1,o1c6j1,o1c10j1,o1c11j1⟩=>⟨[.row 32 [.d (cI 0),.d (cI 0),.d (cI 0),.d (cS ([]:List UInt8)),.d (cS ([]:List UInt8)),.d (cI 0),.d (cI 0),.d (cI 0),.d (cI 0),.d (cB false),.d (cI 0),.d (cB false)],.row 32 [.d (cI o1c0j1),.d (cI o1c1j1),.d (cI o1c2j1),.d (cS o1c3j1),.d (cS o1c4j1),.d (cI o1c5j1),.d (cI o1c6j1),.d (cI 0),.d (cI 0),.d (cB false),.d (cI o1c10j1),.d (cB o1c11j1)]],[]⟩) (fun s=>f_r15_whole_j1 v0 s.1 s.2.1 s.2.2.1 s.2.2.2.1 s.2.2.2.2.1 s.2.2.2.2.2.1 s.2.2.2.2.2.2.1 s.2.2.2.2.2.2.2.1 s.2.2.2.2.2.2.2.2=some r) ?_ ?_
 ·rintro ⟨o1c0j1,o1c1j1,o1c2j1,o1c3j1,o1c4j1,o1c5j1,o1c6j1,o1c10j1,o1c11j1⟩ H
  replace H:f_r15_whole_j1 v0 o1c0j1 o1c1j1 o1c2j1 o1c3j1 o1c4j1 o1c5j1 o1c6j1 o1c10j1 o1c11j1=some r:=H
  unfold f_r15_whole_j1 at H
  refine .A 9 [.i (v0.length:Int)] rfl (s22.n rfl rfl) ?_
  refine .R func47 results47 rfl ?_
  cases H
  exact .m rfl (.tupD rfl)
 ·intro hj1 hj1x
  obtain ⟨n1,H⟩:=loop_some H
  refine .loop (ι:=Nat×(Int×Int×Int×Int×List UInt8×List UInt8×Int×Int×Int×Bool)) (fun ⟨_,v5l1,o1c0l1,o1c1l1,o1c2l1,o1c3l1,o1c4l1,o1c5l1,o1c6l1,o1c10l1,o1c11l1⟩=>[(0,.d (slOf 12 Record.row v0)),(2,.ref 0 0),(4,.ref 1 0),(5,.d (cI v5l1))]) (fun ⟨_,v5l1,o1c0l1,o1c1l1,o1c2l1,o1c3l1,o1c4l1,o1c5l1,o1c6l1,o1c10l1,o1c11l1⟩=>⟨[.row 32 [.d (cI 0),.d (cI 0),.d (cI 0),.d (cS ([]:List UInt8)),.d (cS ([]:List UInt8)),.d (cI 0),.d (cI 0),.d (cI 0),.d (cI 0),.d (cB false),.d (cI 0),.d (cB false)],.row 32 [.d (cI o1c0l1),.d (cI o1c1l1),.d (cI o1c2l1),.d (cS o1c3l1),.d (cS o1c4l1),.d (cI o1c5l1),.d (cI o1c6l1),.d (cI 0),.d (cI 0),.d (cB false),.d (cI o1c10l1),.d (cB o1c11l1)]],[]⟩) (fun p=>iter (fun s=>f_r15_whole_l1 v0 s.1 s.2.1 s.2.2.1 s.2.2.2.1 s.2.2.2.2.1 s.2.2.2.2.2.1 s.2.2.2.2.2.2.1 s.2.2.2.2.2.2.2.1 s.2.2.2.2.2.2.2.2.1 s.2.2.2.2.2.2.2.2.2) p.1 p.2=some r) (·.1) (n1,(0,0,0,0,([]:List UInt8),([]:List UInt8),0,0,0,false)) H (.cons rfl (.rfl' _) (.cons rfl (.rfl' _) (.cons rfl (.rfl' _) (.cons rfl (.rfl' _) (.nil))))) rfl ?_
  rintro ⟨m1,v5l1,o1c0l1,o1c1l1,o1c2l1,o1c3l1,o1c4l1,o1c5l1,o1c6l1,o1c10l1,o1c11l1⟩ HI ih1
  obtain ⟨n1,q1,hm1,H,HK1⟩:=iter_succ HI
  clear HI
  replace H:f_r15_whole_l1 v0 v5l1 o1c0l1 o1c1l1 o1c2l1 o1c3l1 o1c4l1 o1c5l1 o1c6l1 o1c10l1 o1c11l1=some q1:=H
  unfold f_r15_whole_l1 at H
  refine .A 8 [.i (v0.length:Int)] rfl (s22.n rfl rfl) ?_
  refine .ite H rfl (fun H=>?_) (fun H=>?_)
  ·obtain ⟨hk1,H⟩:=ck_some H
   obtain ⟨y1,hy1,H⟩:=bind_some' H
   refine .A 24 [.d (.ro (Record.row (nth v0 v5l1.toNat))),.r 2,.i y1] rfl ⟨rfl,rfl,fun hg=>g_call (en 35 rfl) rfl rfl (c_f_r13_Check (gcall_some hy1 hg)),rfl,s22.ix rfl rfl rfl hk1⟩ ?_
   refine .ite H rfl (fun H=>?_) (fun H=>?_)
   ·refine .A 6 [.d (.agg (Record.row (⟨0,0,0,([]:List UInt8),([]:List UInt8),0,0,0,0,false,0,false⟩:Record)))] rfl (OpQ.g (q_buildP pl_32 hi32 hz32 rfl rfl)) ?_
    refine .R func47 results47 rfl ?_
    cases H
    cases HK1
    exact .m rfl (.tupD rfl)
   ·obtain ⟨hk2,H⟩:=ck_some H
    obtain ⟨hk3,H⟩:=ck_some H
    obtain ⟨y2,hy2,H⟩:=bind_some' H
    refine .A 61 [.i (o1c6l1+((nth v0 v5l1.toNat).units)),.d (.ro (Record.row (nth v0 (Int.toNat (0))))),.r 3,.b y2,.b (((nth v0 v5l1.toNat).inbound) != ((nth v0 (Int.toNat (0))).inbound))] rfl ⟨rfl,fun hg=>OpQ.g (q_bneq rfl underlying4 rfl),rfl,rfl,rfl,rfl,rfl,rfl,rfl,rfl,rfl,rfl,rfl,rfl,rfl,rfl,rfl,rfl,rfl,rfl,rfl,rfl,rfl,rfl,rfl,rfl,g_call (en 36 rfl) rfl rfl (c_f_r15_call (hy2)),s22.ix rfl rfl rfl hk3,g_addI rfl rfl hk2⟩ ?_
    refine .ite H rfl (fun H=>?_) (fun H=>?_)
    ·refine .A 6 [.d (.agg (Record.row (⟨0,0,0,([]:List UInt8),([]:List UInt8),0,0,0,0,false,0,false⟩:Record)))] rfl (OpQ.g (q_buildP pl_32 hi32 hz32 rfl rfl)) ?_
     refine .R func47 results47 rfl ?_
     cases H
     cases HK1
     exact .m rfl (.tupD rfl)
    ·obtain ⟨y3,hy3,H⟩:=bind_some' H
     refine .A 33 [.i y3] rfl (g_call (en 35 rfl) rfl rfl (c_f_r13_Check (hy3))) ?_
     refine .ite H rfl (fun H=>?_) (fun H=>?_)
     ·refine .A 6 [.d (.agg (Record.row (⟨0,0,0,([]:List UInt8),([]:List UInt8),0,0,0,0,false,0,false⟩:Record)))] rfl (OpQ.g (q_buildP pl_32 hi32 hz32 rfl rfl)) ?_
      refine .R func47 results47 rfl ?_
      cases H
      cases HK1
      exact .m rfl (.tupD rfl)
     ·obtain ⟨hk4,H⟩:=ck_some H
      refine .A 7 [.i (v5l1+1)] rfl (g_addI rfl rfl hk4) ?_
      cases H
      exact .t 2 0 (ih1 (n1,(v5l1+1,(nth v0 (Int.toNat (0))).source,(nth v0 (Int.toNat (0))).serial,(nth v0 (Int.toNat (0))).kind,(nth v0 (Int.toNat (0))).a,(nth v0 (Int.toNat (0))).b,(nth v0 (Int.toNat (0))).start,o1c6l1+((nth v0 v5l1.toNat).units),(nth v0 (Int.toNat (0))).trunk,(nth v0 (Int.toNat (0))).inbound)) HK1 hm1) rfl rfl rfl rfl rfl hS rfl
  ·refine .A 1 [] rfl trivial ?_
   obtain ⟨q0,H9,hq0⟩:=map_some' H; clear H; cases hq0
   cases HK1
   have H:=H9
   exact .z (hj1x (o1c0l1,o1c1l1,o1c2l1,o1c3l1,o1c4l1,o1c5l1,o1c6l1,o1c10l1,o1c11l1) H) rfl rfl
theorem c_f_r15_Complete {v0parts:List Record} {r:Record×Bool} (H:f_r15_Complete v0parts=some r):ACall prog 19 [slOf 12 Record.row v0parts] (·=.tup [.agg (Record.row r.1),cB r.2]):=by
 obtain ⟨i32,hi32,hz32,hs32,hb32⟩:=in_32
 refine ACall.enter' func19 rfl ntmps19 rfl fun S hS=>?_
 unfold f_r15_Complete at H
 refine .A 10 [.r 0] rfl trivial ?_
 refine .blockJoin2 (ι:=Unit) (fun _=>[(0,.d (slOf 12 Record.row v0parts)),(2,.ref 0 0)]) (fun _=>⟨[.row 32 [.d (cI 0),.d (cI 0),.d (cI 0),.d (cS ([]:List UInt8)),.d (cS ([]:List UInt8)),.d (cI 0),.d (cI 0),.d (cI 0),.d (cI 0),.d (cB false),.d (cI 0),.d (cB false)]],[]⟩) (fun s=>f_r15_Complete_j1 v0parts=some r) ?_ ?_
 ·rintro _ H
  replace H:f_r15_Complete_j1 v0parts=some r:=H
  unfold f_r15_Complete_j1 at H
  obtain ⟨y1,hy1,H⟩:=bind_some' H
  refine .A 9 [.d (.tup [.agg (Record.row y1.1),cB y1.2])] rfl (g_call (en 37 rfl) rfl rfl (c_f_r15_whole (hy1))) ?_
  refine .R func19 results19 rfl ?_
  cases H
  exact .m rfl (.tupD rfl)
 ·intro hj1 hj1x
  obtain ⟨n1,H⟩:=loop_some H
  refine .loop (ι:=Nat×(Int)) (fun ⟨_,v4il1⟩=>[(0,.d (slOf 12 Record.row v0parts)),(2,.ref 0 0),(4,.d (cI v4il1))]) (fun ⟨_,v4il1⟩=>⟨[.row 32 [.d (cI 0),.d (cI 0),.d (cI 0),.d (cS ([]:List UInt8)),.d (cS ([]:List UInt8)),.d (cI 0),.d (cI 0),.d (cI 0),.d (cI 0),.d (cB false),.d (cI 0),.d (cB false)]],[]⟩) (fun p=>iter (fun s=>f_r15_Complete_l1 v0parts s) p.1 p.2=some r) (·.1) (n1,0) H (.cons rfl (.rfl' _) (.cons rfl (.rfl' _) (.cons rfl (.rfl' _) (.nil)))) rfl ?_
  rintro ⟨m1,v4il1⟩ HI ih1
  obtain ⟨n1,q1,hm1,H,HK1⟩:=iter_succ HI
  clear HI
  replace H:f_r15_Complete_l1 v0parts v4il1=some q1:=H
  unfold f_r15_Complete_l1 at H
  refine .A 8 [.i (v0parts.length:Int)] rfl (s22.n rfl rfl) ?_
  refine .ite H rfl (fun H=>?_) (fun H=>?_)
  ·obtain ⟨hk1,H⟩:=ck_some H
   obtain ⟨hk2,H⟩:=ck_some H
   obtain ⟨hk3,H⟩:=ck_some H
   obtain ⟨hk4,H⟩:=ck_some H
   refine .A 27 [.d (.ro (Record.row (nth v0parts v4il1.toNat))),.i (v4il1+1),.d (.ro (Record.row (nth v0parts v4il1.toNat))),.i (v4il1+1),.i (v0parts.length:Int),.b (((nth v0parts v4il1.toNat).last) != ((v4il1+1)==(v0parts.length:Int)))] rfl ⟨rfl,fun hg=>OpQ.g (q_bneq rfl underlying4 rfl),rfl,rfl,rfl,rfl,fun hg=>s22.n rfl rfl,rfl,fun hg=>g_addI rfl rfl (hk4 hg),rfl,rfl,rfl,fun hg=>s22.ix rfl rfl rfl (hk3 hg),rfl,rfl,g_addI rfl rfl hk2,s22.ix rfl rfl rfl hk1⟩ ?_
   refine .ite H rfl (fun H=>?_) (fun H=>?_)
   ·refine .A 6 [.d (.agg (Record.row (⟨0,0,0,([]:List UInt8),([]:List UInt8),0,0,0,0,false,0,false⟩:Record)))] rfl (OpQ.g (q_buildP pl_32 hi32 hz32 rfl rfl)) ?_
    refine .R func19 results19 rfl ?_
    cases H
    cases HK1
    exact .m rfl (.tupD rfl)
   ·obtain ⟨hk5,H⟩:=ck_some H
    refine .A 7 [.i (v4il1+1)] rfl (g_addI rfl rfl hk5) ?_
    cases H
    exact .z (ih1 (n1,(v4il1+1)) HK1 hm1) rfl rfl
  ·refine .A 1 [] rfl trivial ?_
   obtain ⟨q0,H9,hq0⟩:=map_some' H; clear H; cases hq0
   cases HK1
   have H:=H9
   exact .z (hj1x () H) rfl rfl
theorem c_f_correlate_Units {v0list:List Record} {r:(List Int)} (H:f_correlate_Units v0list=some r):ACall prog 20 [slOf 12 Record.row v0list] (·=.agg [cI (nth r 0),cI (nth r 1),cI (nth r 2),cI (nth r 3),cI (nth r 4)]):=by
 obtain ⟨i3,hi3,hz3,hs3,hb3⟩:=in_3
 refine ACall.enter' func20 rfl ntmps20 rfl fun S hS=>?_
 unfold f_correlate_Units at H
 refine .A 16 [.r 0,.r 1,.i (v0list.length:Int)] rfl (s22.n rfl rfl) ?_
 obtain ⟨n1,H⟩:=loop_some H
 refine .loop (ι:=Nat×(Int×Int×Int×Int×Int×Int)) (fun ⟨_,v8l1,o1c0l1,o1c1l1,o1c2l1,o1c3l1,o1c4l1⟩=>[(2,.ref 0 0),(3,.ref 1 0),(6,.d (slOf 12 Record.row v0list)),(7,.d (cI (v0list.length:Int))),(8,.d (cI v8l1))]) (fun ⟨_,v8l1,o1c0l1,o1c1l1,o1c2l1,o1c3l1,o1c4l1⟩=>⟨[.row 35 [.d (cI 0),.d (cI 0),.d (cI 0),.d (cI 0),.d (cI 0)],.row 35 [.d (cI o1c0l1),.d (cI o1c1l1),.d (cI o1c2l1),.d (cI o1c3l1),.d (cI o1c4l1)]],[]⟩) (fun p=>iter (fun s=>f_correlate_Units_l1 v0list s.1 s.2.1 s.2.2.1 s.2.2.2.1 s.2.2.2.2.1 s.2.2.2.2.2) p.1 p.2=some r) (·.1) (n1,(0,0,0,0,0,0)) H (.cons rfl (.rfl' _) (.cons rfl (.rfl' _) (.cons rfl (.rfl' _) (.cons rfl (.rfl' _) (.cons rfl (.rfl' _) (.nil)))))) rfl ?_
 rintro ⟨m1,v8l1,o1c0l1,o1c1l1,o1c2l1,o1c3l1,o1c4l1⟩ HI ih1
 obtain ⟨n1,q1,hm1,H,HK1⟩:=iter_succ HI
 clear HI
 replace H:f_correlate_Units_l1 v0list v8l1 o1c0l1 o1c1l1 o1c2l1 o1c3l1 o1c4l1=some q1:=H
 unfold f_correlate_Units_l1 at H
 refine .A 5 [] rfl trivial ?_
 refine .ite H rfl (fun H=>?_) (fun H=>?_)
 ·obtain ⟨hk1,H⟩:=ck_some H
  refine .A 31 [.d (.ro (Record.row (nth v0list v8l1.toNat))),.r 2] rfl ⟨rfl,rfl,rfl,rfl,rfl,rfl,rfl,rfl,rfl,s22.ix rfl rfl rfl hk1⟩ ?_
  refine .ite H rfl (fun H=>?_) (fun H=>?_)
  ·obtain ⟨hk2,H⟩:=ck_some H
   obtain ⟨hk3,H⟩:=ck_some H
   obtain ⟨hk4,H⟩:=ck_some H
   obtain ⟨hk5,H⟩:=ck_some H
   obtain ⟨hk6,H⟩:=ck_some H
   obtain ⟨hk7,H⟩:=ck_some H
   refine .A 17 [.p 8,.g (.ref 1 (0+((nth v0list v8l1.toNat).kind).toNat)),.f 13 (.d (cI (nth ([o1c0l1,o1c1l1,o1c2l1,o1c3l1,o1c4l1]:List Int) ((nth v0list v8l1.toNat).kind).toNat))),.i ((nth ([o1c0l1,o1c1l1,o1c2l1,o1c3l1,o1c4l1]:List Int) ((nth v0list v8l1.toNat).kind).toNat)+((nth v0list v8l1.toNat).units)),.g (.ref 1 (0+((nth v0list v8l1.toNat).kind).toNat)),.w 7 ⟨[.row 35 [.d (cI 0),.d (cI 0),.d (cI 0),.d (cI 0),.d (cI 0)],.row 35 [.d (cI (nth (setN ([o1c0l1,o1c1l1,o1c2l1,o1c3l1,o1c4l1]:List Int) 5 ((nth v0list v8l1.toNat).kind).toNat ((nth ([o1c0l1,o1c1l1,o1c2l1,o1c3l1,o1c4l1]:List Int) ((nth v0list v8l1.toNat).kind).toNat)+((nth v0list v8l1.toNat).units))) 0)),.d (cI (nth (setN ([o1c0l1,o1c1l1,o1c2l1,o1c3l1,o1c4l1]:List Int) 5 ((nth v0list v8l1.toNat).kind).toNat ((nth ([o1c0l1,o1c1l1,o1c2l1,o1c3l1,o1c4l1]:List Int) ((nth v0list v8l1.toNat).kind).toNat)+((nth v0list v8l1.toNat).units))) 1)),.d (cI (nth (setN ([o1c0l1,o1c1l1,o1c2l1,o1c3l1,o1c4l1]:List Int) 5 ((nth v0list v8l1.toNat).kind).toNat ((nth ([o1c0l1,o1c1l1,o1c2l1,o1c3l1,o1c4l1]:List Int) ((nth v0list v8l1.toNat).kind).toNat)+((nth v0list v8l1.toNat).units))) 2)),.d (cI (nth (setN ([o1c0l1,o1c1l1,o1c2l1,o1c3l1,o1c4l1]:List Int) 5 ((nth v0list v8l1.toNat).kind).toNat ((nth ([o1c0l1,o1c1l1,o1c2l1,o1c3l1,o1c4l1]:List Int) ((nth v0list v8l1.toNat).kind).toNat)+((nth v0list v8l1.toNat).units))) 3)),.d (cI (nth (setN ([o1c0l1,o1c1l1,o1c2l1,o1c3l1,o1c4l1]:List Int) 5 ((nth v0list v8l1.toNat).kind).toNat ((nth ([o1c0l1,o1c1l1,o1c2l1,o1c3l1,o1c4l1]:List Int) ((nth v0list v8l1.toNat).kind).toNat)+((nth v0list v8l1.toNat).units))) 4))],.row 32 [.d (cI ((nth v0list v8l1.toNat).source)),.d (cI ((nth v0list v8l1.toNat).serial)),.d (cI ((nth v0list v8l1.toNat).kind)),.d (cS ((nth v0list v8l1.toNat).a)),.d (cS ((nth v0list v8l1.toNat).b)),.d (cI ((nth v0list v8l1.toNat).start)),.d (cI ((nth v0list v8l1.toNat).units)),.d (cI ((nth v0list v8l1.toNat).call)),.d (cI ((nth v0list v8l1.toNat).part)),.d (cB ((nth v0list v8l1.toNat).last)),.d (cI ((nth v0list v8l1.toNat).trunk)),.d (cB ((nth v0list v8l1.toNat).inbound))]],[]⟩,.i (v8l1+1)] rfl ⟨g_addI rfl rfl hk7,.e (u_storeK (n:=5) (off:=0) (i:=((nth v0list v8l1.toNat).kind).toNat) (l:=([o1c0l1,o1c1l1,o1c2l1,o1c3l1,o1c4l1]:List Int)) (c1:=cI) (a:=(nth ([o1c0l1,o1c1l1,o1c2l1,o1c3l1,o1c4l1]:List Int) ((nth v0list v8l1.toNat).kind).toNat)+((nth v0list v8l1.toNat).units)) rfl rfl rfl rfl rfl hk6 sz_3) rfl,OpQ.g (q_idxK (off:=0) (i:=(nth v0list v8l1.toNat).kind) underlying35 ⟨_,hi3,hs3⟩ rfl rfl hk5),g_addI rfl rfl hk4,OpQ.g (q_loadK (n:=5) (off:=0) (i:=((nth v0list v8l1.toNat).kind).toNat) (l:=([o1c0l1,o1c1l1,o1c2l1,o1c3l1,o1c4l1]:List Int)) (c1:=cI) one_3 rfl rfl rfl hk3),OpQ.g (q_idxK (off:=0) (i:=(nth v0list v8l1.toNat).kind) underlying35 ⟨_,hi3,hs3⟩ rfl rfl hk2),(show drawB _ _=true by kernel_rfl)⟩ ?_
   cases H
   exact .t 2 0 (ih1 (n1,(v8l1+1,nth (setN ([o1c0l1,o1c1l1,o1c2l1,o1c3l1,o1c4l1]:List Int) 5 ((nth v0list v8l1.toNat).kind).toNat ((nth ([o1c0l1,o1c1l1,o1c2l1,o1c3l1,o1c4l1]:List Int) ((nth v0list v8l1.toNat).kind).toNat)+((nth v0list v8l1.toNat).units))) 0,nth (setN ([o1c0l1,o1c1l1,o1c2l1,o1c3l1,o1c4l1]:List Int) 5 ((nth v0list v8l1.toNat).kind).toNat ((nth ([o1c0l1,o1c1l1,o1c2l1,o1c3l1,o1c4l1]:List Int) ((nth v0list v8l1.toNat).kind).toNat)+((nth v0list v8l1.toNat).units))) 1,nth (setN ([o1c0l1,o1c1l1,o1c2l1,o1c3l1,o1c4l1]:List Int) 5 ((nth v0list v8l1.toNat).kind).toNat ((nth ([o1c0l1,o1c1l1,o1c2l1,o1c3l1,o1c4l1]:List Int) ((nth v0list v8l1.toNat).kind).toNat)+((nth v0list v8l1.toNat).units))) 2,nth (setN ([o1c0l1,o1c1l1,o1c2l1,o1c3l1,o1c4l1]:List Int) 5 ((nth v0list v8l1.toNat).kind).toNat ((nth ([o1c0l1,o1c1l1,o1c2l1,o1c3l1,o1c4l1]:List Int) ((nth v0list v8l1.toNat).kind).toNat)+((nth v0list v8l1.toNat).units))) 3,nth (setN ([o1c0l1,o1c1l1,o1c2l1,o1c3l1,o1c4l1]:List Int) 5 ((nth v0list v8l1.toNat).kind).toNat ((nth ([o1c0l1,o1c1l1,o1c2l1,o1c3l1,o1c4l1]:List Int) ((nth v0list v8l1.toNat).kind).toNat)+((nth v0list v8l1.toNat).units))) 4)) HK1 hm1) rfl rfl rfl rfl rfl hS rfl
  ·obtain ⟨hk8,H⟩:=ck_some H
   refine .A 6 [.i (v8l1+1)] rfl (g_addI rfl rfl hk8) ?_
   cases H
   exact .t 2 0 (ih1 (n1,(v8l1+1,o1c0l1,o1c1l1,o1c2l1,o1c3l1,o1c4l1)) HK1 hm1) rfl rfl rfl rfl rfl hS rfl
 ·refine .A 6 [] rfl trivial ?_
  refine .R func20 results20 rfl ?_
  cases H
  cases HK1
  exact .m rfl (.rfl' _)
theorem c_f_r15_before {v0a:Record} {v1b:Record} {r:Bool} (H:f_r15_before v0a v1b=some r):ACall prog 37 [.agg (Record.row v0a),.agg (Record.row v1b)] (·=cB r):=by
 refine ACall.enter' func37 rfl ntmps37 rfl fun S hS=>?_
 unfold f_r15_before at H
 refine .A 15 [.r 0,.r 1] rfl trivial ?_
 refine .ite H rfl (fun H=>?_) (fun H=>?_)
 ·refine .A 9 [] rfl trivial ?_
  refine .R func37 results37 rfl ?_
  cases H
  exact .m rfl (.rfl' _)
 ·refine .A 10 [] rfl trivial ?_
  refine .ite H rfl (fun H=>?_) (fun H=>?_)
  ·refine .A 9 [] rfl trivial ?_
   refine .R func37 results37 rfl ?_
   cases H
   exact .m rfl (.rfl' _)
  ·refine .A 10 [] rfl trivial ?_
   refine .R func37 results37 rfl ?_
   cases H
   exact .m rfl (.rfl' _)
theorem c_f_r15_firsts {v0open:List Record} {v1x:Record} {v2last:Bool} {r:(List Int)} (H:f_r15_firsts v0open v1x v2last=some r):ACall prog 35 [slOf 12 Record.row v0open,.agg (Record.row v1x),cB v2last] (·=slOf 1 rI r):=by
 obtain ⟨i3,hi3,hz3,hs3,hb3⟩:=in_3
 refine ACall.enter' func35 rfl ntmps35 rfl fun S hS=>?_
 unfold f_r15_firsts at H
 refine .A 15 [.r 0] rfl trivial ?_
 refine .tok (i:=7) (e:=3) (sz:=1) rfl ?_
 obtain ⟨n1,H⟩:=loop_some H
 refine .loop (ι:=Nat×(List Int×Int)) (fun ⟨_,v7outl1,v8il1⟩=>[(0,.d (slOf 12 Record.row v0open)),(2,.d (cB v2last)),(4,.ref 0 0),(7,.tsl 1 (v7outl1.map rI) 0),(8,.d (cI v8il1))]) (fun ⟨_,v7outl1,v8il1⟩=>⟨[.row 32 [.d (cI v1x.source),.d (cI v1x.serial),.d (cI v1x.kind),.d (cS v1x.a),.d (cS v1x.b),.d (cI v1x.start),.d (cI v1x.units),.d (cI v1x.call),.d (cI v1x.part),.d (cB v1x.last),.d (cI v1x.trunk),.d (cB v1x.inbound)]],[⟨3,1,v7outl1.length,none⟩]⟩) (fun p=>iter (fun s=>f_r15_firsts_l1 v0open v1x v2last s.1 s.2) p.1 p.2=some r) (·.1) (n1,(([]:List Int),0)) H (.cons rfl (.rfl' _) (.cons rfl (.rfl' _) (.cons rfl (.rfl' _) (.cons rfl (.rfl' _) (.cons rfl (.rfl' _) (.nil)))))) rfl ?_
 rintro ⟨m1,v7outl1,v8il1⟩ HI ih1
 obtain ⟨n1,q1,hm1,H,HK1⟩:=iter_succ HI
 clear HI
 replace H:f_r15_firsts_l1 v0open v1x v2last v7outl1 v8il1=some q1:=H
 unfold f_r15_firsts_l1 at H
 refine .A 8 [.i (v0open.length:Int)] rfl (s22.n rfl rfl) ?_
 refine .ite H rfl (fun H=>?_) (fun H=>?_)
 ·obtain ⟨hk1,H⟩:=ck_some H
  obtain ⟨y1,hy1,H⟩:=bind_some' H
  obtain ⟨hk2,H⟩:=ck_some H
  obtain ⟨hk3,H⟩:=ck_some H
  refine .A 24 [.p 17,.d (.ro (Record.row (nth v0open v8il1.toNat))),.b y1,.d (.ro (Record.row (nth v0open v8il1.toNat))),.i (v7outl1.length:Int),.i ((v7outl1.length:Int)+1)] rfl ⟨rfl,rfl,rfl,fun hg=>g_addI rfl rfl (hk3 hg),rfl,fun hg=>s37.n rfl rfl,rfl,rfl,rfl,fun hg=>s22.ix rfl rfl rfl (hk2 hg),rfl,rfl,g_call (en 36 rfl) rfl rfl (c_f_r15_call (hy1)),s22.ix rfl rfl rfl hk1,(show drawB _ _=true by kernel_rfl)⟩ ?_
  refine .ite H rfl (fun H=>?_) (fun H=>?_)
  ·obtain ⟨hk4,H⟩:=ck_some H
   obtain ⟨hk5,H⟩:=ck_some H
   refine .A 19 [.d (slOf 1 rI ([v8il1]:List Int)),.a 0 3 1 rI (v7outl1++([v8il1]:List Int)),.d (.ro (Record.row (nth v0open v8il1.toNat)))] rfl ⟨rfl,rfl,rfl,fun hg=>s22.ix rfl rfl rfl (hk5 hg),rfl,rfl,s37.a rfl rfl rfl rfl hk4,g_buildSlice1 underlying37 hi3 hs3 hz3 rfl rfl rfl rfl rfl⟩ ?_
   refine .ite H rfl (fun H=>?_) (fun H=>?_)
   ·refine .A 6 [] rfl trivial ?_
    refine .R func35 results35 rfl ?_
    cases H
    cases HK1
    exact .m rfl (.tsl _ _ _)
   ·obtain ⟨hk6,H⟩:=ck_some H
    refine .A 7 [.i (v8il1+1)] rfl (g_addI rfl rfl hk6) ?_
    cases H
    exact .z (ih1 (n1,(v7outl1++([v8il1]:List Int),v8il1+1)) HK1 hm1) rfl rfl
  ·obtain ⟨hk7,H⟩:=ck_some H
   refine .A 7 [.i (v8il1+1)] rfl (g_addI rfl rfl hk7) ?_
   cases H
   exact .z (ih1 (n1,(v7outl1,v8il1+1)) HK1 hm1) rfl rfl
 ·refine .A 6 [] rfl trivial ?_
  refine .R func35 results35 rfl ?_
  cases H
  cases HK1
  exact .m rfl (.tsl _ _ _)
theorem c_f_r15_pick {v0list:List Record} {v1at:List Int} {r:(List Record)×(List Record)} (H:f_r15_pick v0list v1at=some r):ACall prog 34 [slOf 12 Record.row v0list,slOf 1 rI v1at] (·=.tup [slOf 12 Record.row r.1,slOf 12 Record.row r.2]):=by
 obtain ⟨i32,hi32,hz32,hs32,hb32⟩:=in_32
 refine ACall.enter' func34 rfl ntmps34 rfl fun S hS=>?_
 unfold f_r15_pick at H
 refine .A 20 [] rfl trivial ?_
 refine .tok (i:=6) (e:=32) (sz:=12) rfl ?_
 refine .tok (i:=7) (e:=32) (sz:=12) rfl ?_
 obtain ⟨n1,H⟩:=loop_some H
 refine .loop (ι:=Nat×(List Record×List Record×Int×Int)) (fun ⟨_,v6outl1,v7restl1,v8kl1,v9il1⟩=>[(0,.d (slOf 12 Record.row v0list)),(1,.d (slOf 1 rI v1at)),(6,.tsl 12 (v6outl1.map Record.row) 0),(7,.tsl 12 (v7restl1.map Record.row) 1),(8,.d (cI v8kl1)),(9,.d (cI v9il1))]) (fun ⟨_,v6outl1,v7restl1,v8kl1,v9il1⟩=>⟨[],[⟨32,12,v6outl1.length,none⟩,⟨32,12,v7restl1.length,none⟩]⟩) (fun p=>iter (fun s=>f_r15_pick_l1 v0list v1at s.1 s.2.1 s.2.2.1 s.2.2.2) p.1 p.2=some r) (·.1) (n1,(([]:List Record),([]:List Record),0,0)) H (.cons rfl (.rfl' _) (.cons rfl (.rfl' _) (.cons rfl (.rfl' _) (.cons rfl (.rfl' _) (.cons rfl (.rfl' _) (.cons rfl (.rfl' _) (.nil))))))) rfl ?_
 rintro ⟨m1,v6outl1,v7restl1,v8kl1,v9il1⟩ HI ih1
 obtain ⟨n1,q1,hm1,H,HK1⟩:=iter_succ HI
 clear HI
 replace H:f_r15_pick_l1 v0list v1at v6outl1 v7restl1 v8kl1 v9il1=some q1:=H
 unfold f_r15_pick_l1 at H
 refine .A 8 [.i (v0list.length:Int)] rfl (s22.n rfl rfl) ?_
 refine .ite H rfl (fun H=>?_) (fun H=>?_)
 ·obtain ⟨hk1,H⟩:=ck_some H
  refine .A 18 [.i (v1at.length:Int),.d (.ro (rI (nth v1at v8kl1.toNat)))] rfl ⟨rfl,rfl,rfl,rfl,fun hg=>s37.ix rfl rfl rfl (hk1 hg),rfl,rfl,s37.n rfl rfl⟩ ?_
  refine .ite H rfl (fun H=>?_) (fun H=>?_)
  ·obtain ⟨hk2,H⟩:=ck_some H
   obtain ⟨hk3,H⟩:=ck_some H
   obtain ⟨hk4,H⟩:=ck_some H
   obtain ⟨hk5,H⟩:=ck_some H
   refine .A 22 [.d (.ro (Record.row (nth v0list v9il1.toNat))),.d (slOf 12 Record.row ([nth v0list v9il1.toNat]:List Record)),.a 0 32 12 Record.row (v6outl1++([nth v0list v9il1.toNat]:List Record)),.i (v8kl1+1),.i (v9il1+1)] rfl ⟨g_addI rfl rfl hk5,g_addI rfl rfl hk4,s22.a rfl rfl rfl rfl hk3,g_buildSlice1 underlying22 hi32 hs32 hz32 rfl rfl rfl rfl rfl,s22.ix rfl rfl rfl hk2⟩ ?_
   cases H
   exact .z (ih1 (n1,(v6outl1++([nth v0list v9il1.toNat]:List Record),v7restl1,v8kl1+1,v9il1+1)) HK1 hm1) rfl rfl
  ·obtain ⟨hk6,H⟩:=ck_some H
   obtain ⟨hk7,H⟩:=ck_some H
   obtain ⟨hk8,H⟩:=ck_some H
   refine .A 16 [.d (.ro (Record.row (nth v0list v9il1.toNat))),.d (slOf 12 Record.row ([nth v0list v9il1.toNat]:List Record)),.a 1 32 12 Record.row (v7restl1++([nth v0list v9il1.toNat]:List Record)),.i (v9il1+1)] rfl ⟨g_addI rfl rfl hk8,s22.a rfl rfl rfl rfl hk7,g_buildSlice1 underlying22 hi32 hs32 hz32 rfl rfl rfl rfl rfl,s22.ix rfl rfl rfl hk6⟩ ?_
   cases H
   exact .z (ih1 (n1,(v6outl1,v7restl1++([nth v0list v9il1.toNat]:List Record),v8kl1,v9il1+1)) HK1 hm1) rfl rfl
 ·refine .A 8 [] rfl trivial ?_
  refine .R func34 results34 rfl ?_
  cases H
  cases HK1
  exact .m rfl (.tupL ⟨.tsl _ _ _,.tsl _ _ _,trivial⟩)
theorem c_f_r15_Open {v0:List Record} {r:Bool} (H:f_r15_Open v0=some r):ACall prog 14 [slOf 12 Record.row v0] (·=cB r):=by
 refine ACall.enter' func14 rfl ntmps14 rfl fun S hS=>?_
 unfold f_r15_Open at H
 refine .A 9 [] rfl trivial ?_
 refine .blockJoin2 (ι:=Unit) (fun _=>[(0,.d (slOf 12 Record.row v0))]) (fun _=>⟨[],[]⟩) (fun s=>f_r15_Open_j1 v0=some r) ?_ ?_
 ·rintro _ H
  replace H:f_r15_Open_j1 v0=some r:=H
  unfold f_r15_Open_j1 at H
  refine .A 6 [] rfl trivial ?_
  obtain ⟨n1,H⟩:=loop_some H
  refine .loop (ι:=Nat×(Int)) (fun ⟨_,v4l1⟩=>[(0,.d (slOf 12 Record.row v0)),(4,.d (cI v4l1))]) (fun ⟨_,v4l1⟩=>⟨[],[]⟩) (fun p=>iter (fun s=>f_r15_Open_l1 v0 s) p.1 p.2=some r) (·.1) (n1,0) H (.cons rfl (.rfl' _) (.cons rfl (.rfl' _) (.nil))) rfl ?_
  rintro ⟨m1,v4l1⟩ HI ih1
  obtain ⟨n1,q1,hm1,H,HK1⟩:=iter_succ HI
  clear HI
  replace H:f_r15_Open_l1 v0 v4l1=some q1:=H
  unfold f_r15_Open_l1 at H
  refine .A 8 [.i (v0.length:Int)] rfl (s22.n rfl rfl) ?_
  refine .ite H rfl (fun H=>?_) (fun H=>?_)
  ·obtain ⟨hk1,H⟩:=ck_some H
   obtain ⟨y1,hy1,H⟩:=bind_some' H
   obtain ⟨y2,hy2,H⟩:=bind_some' H
   obtain ⟨y3,hy3,H⟩:=bind_some' H
   refine .A 34 [.d (.ro (Record.row (nth v0 v4l1.toNat))),.d (slOf 1 rI y1),.d (.tup [slOf 12 Record.row y2.1,slOf 12 Record.row y2.2]),.d (.tup [.agg (Record.row y3.1),cB y3.2]),.r 0] rfl ⟨g_call (en 43 rfl) rfl rfl (c_f_r15_Complete (hy3)),g_call (en 44 rfl) rfl rfl (c_f_r15_pick (hy2)),g_call (en 45 rfl) rfl rfl (c_f_r15_firsts (hy1)),s22.ix rfl rfl rfl hk1⟩ ?_
   refine .ite H rfl (fun H=>?_) (fun H=>?_)
   ·refine .A 4 [] rfl trivial ?_
    refine .R func14 results14 rfl ?_
    cases H
    cases HK1
    exact .m rfl (.rfl' _)
   ·obtain ⟨hk2,H⟩:=ck_some H
    refine .A 7 [.i (v4l1+1)] rfl (g_addI rfl rfl hk2) ?_
    cases H
    exact .t 0 0 (ih1 (n1,(v4l1+1)) HK1 hm1) rfl rfl rfl rfl rfl hS rfl
  ·refine .A 5 [] rfl trivial ?_
   refine .R func14 results14 rfl ?_
   cases H
   cases HK1
   exact .m rfl (.rfl' _)
 ·intro hj1 hj1x
  obtain ⟨n2,H⟩:=loop_some H
  refine .loop (ι:=Nat×(Int)) (fun ⟨_,v3l2⟩=>[(0,.d (slOf 12 Record.row v0)),(3,.d (cI v3l2))]) (fun ⟨_,v3l2⟩=>⟨[],[]⟩) (fun p=>iter (fun s=>f_r15_Open_l2 v0 s) p.1 p.2=some r) (·.1) (n2,0) H (.cons rfl (.rfl' _) (.cons rfl (.rfl' _) (.nil))) rfl ?_
  rintro ⟨m1,v3l2⟩ HI ih1
  obtain ⟨n1,q1,hm1,H,HK1⟩:=iter_succ HI
  clear HI
  replace H:f_r15_Open_l2 v0 v3l2=some q1:=H
  unfold f_r15_Open_l2 at H
  refine .A 8 [.i (v0.length:Int)] rfl (s22.n rfl rfl) ?_
  refine .ite H rfl (fun H=>?_) (fun H=>?_)
  ·obtain ⟨hk3,H⟩:=ck_some H
   obtain ⟨hk4,H⟩:=ck_some H
   obtain ⟨y4,hy4,H⟩:=bind_some' H
   obtain ⟨hk5,H⟩:=ck_some H
   obtain ⟨hk6,H⟩:=ck_some H
   obtain ⟨hk7,H⟩:=ck_some H
   obtain ⟨y5,hy5,H⟩:=bind_some' H
   refine .C 33 [.p 30,.d (.ro (Record.row (nth v0 v3l2.toNat))),.d (.ro (Record.row (nth v0 v3l2.toNat))),.i y4,.d (.ro (Record.row (nth v0 v3l2.toNat))),.i (v3l2-1),.d (.ro (Record.row (nth v0 (v3l2-1).toNat))),.b y5] rfl ⟨fun hg=>g_call (en 46 rfl) rfl rfl (c_f_r15_before (gcall_some hy5 hg)),rfl,rfl,rfl,fun hg=>s22.ix rfl rfl rfl (hk7 hg),rfl,rfl,fun hg=>g_subI rfl rfl (hk6 hg),rfl,rfl,fun hg=>s22.ix rfl rfl rfl (hk5 hg),rfl,rfl,rfl,rfl,rfl,rfl,fun hg=>g_call (en 35 rfl) rfl rfl (c_f_r13_Check (gcall_some hy4 hg)),rfl,rfl,fun hg=>s22.ix rfl rfl rfl (hk4 hg),rfl,rfl,s22.ix rfl rfl rfl hk3,(show drawB _ _=true by kernel_rfl)⟩ ?_
   refine .guardG (env':=[(32,_),(42,_)]) rfl rfl rfl ⟨.inr (.inl rfl),⟨.inr (.inr ⟨_,_,rfl,rfl⟩),trivial⟩⟩ rfl (fun hg=>OpQ.g (q_pickAndB rfl rfl rfl)) ?_
   refine .A 3 [] rfl rfl ?_
   refine .ite H rfl (fun H=>?_) (fun H=>?_)
   ·refine .A 4 [] rfl trivial ?_
    refine .R func14 results14 rfl ?_
    cases H
    cases HK1
    exact .m rfl (.rfl' _)
   ·obtain ⟨hk8,H⟩:=ck_some H
    refine .A 7 [.i (v3l2+1)] rfl (g_addI rfl rfl hk8) ?_
    cases H
    exact .z (ih1 (n1,(v3l2+1)) HK1 hm1) rfl rfl
  ·refine .A 1 [] rfl trivial ?_
   obtain ⟨q0,H9,hq0⟩:=map_some' H; clear H; cases hq0
   cases HK1
   have H:=H9
   exact .z (hj1x () H) rfl rfl
set_option maxRecDepth 100000
set_option maxHeartbeats 1000000
theorem c_f_w15_light {v0open:List Record} {r:Bool} (H:f_w15_light v0open=some r):ACall prog 8 [slOf 12 Record.row v0open] (·=cB r):=by
 refine ACall.enter' func8 rfl ntmps8 rfl fun S hS=>?_
 unfold f_w15_light at H
 obtain ⟨y1,hy1,H⟩:=bind_some' H
 obtain ⟨y2,hy2,H⟩:=bind_some' H
 refine .A 14 [.b y1,.b y2] rfl ⟨rfl,fun hg=>g_call (en 47 rfl) rfl rfl (c_f_r15_Open (gcall_some hy2 hg)),rfl,g_call (en 39 rfl) rfl rfl (c_f_w15_few (hy1))⟩ ?_
 refine .R func8 results8 rfl ?_
 cases H
 exact .m rfl (.rfl' _)
theorem c_f_r09_Same {v0a:List Record} {v1b:List Record} {r:Bool} (H:f_r09_Same v0a v1b=some r):ACall prog 36 [slOf 12 Record.row v0a,slOf 12 Record.row v1b] (·=cB r):=by
 refine ACall.enter' func36 rfl ntmps36 rfl fun S hS=>?_
 unfold f_r09_Same at H
 refine .A 13 [.i (v0a.length:Int),.i (v1b.length:Int)] rfl ⟨s22.n rfl rfl,s22.n rfl rfl⟩ ?_
 refine .ite H rfl (fun H=>?_) (fun H=>?_)
 ·refine .A 4 [] rfl trivial ?_
  refine .R func36 results36 rfl ?_
  cases H
  exact .m rfl (.rfl' _)
 ·refine .A 7 [] rfl trivial ?_
  obtain ⟨n1,H⟩:=loop_some H
  refine .loop (ι:=Nat×(Int)) (fun ⟨_,v5il1⟩=>[(0,.d (slOf 12 Record.row v0a)),(1,.d (slOf 12 Record.row v1b)),(5,.d (cI v5il1))]) (fun ⟨_,v5il1⟩=>⟨[],[]⟩) (fun p=>iter (fun s=>f_r09_Same_l1 v0a v1b s) p.1 p.2=some r) (·.1) (n1,0) H (.cons rfl (.rfl' _) (.cons rfl (.rfl' _) (.cons rfl (.rfl' _) (.nil)))) rfl ?_
  rintro ⟨m1,v5il1⟩ HI ih1
  obtain ⟨n1,q1,hm1,H,HK1⟩:=iter_succ HI
  clear HI
  replace H:f_r09_Same_l1 v0a v1b v5il1=some q1:=H
  unfold f_r09_Same_l1 at H
  refine .A 8 [.i (v0a.length:Int)] rfl (s22.n rfl rfl) ?_
  refine .ite H rfl (fun H=>?_) (fun H=>?_)
  ·obtain ⟨hk1,H⟩:=ck_some H
   obtain ⟨hk2,H⟩:=ck_some H
   refine .A 16 [.p 9,.d (.ro (Record.row (nth v0a v5il1.toNat))),.d (.ro (Record.row (nth v1b v5il1.toNat))),.b (!(eqVs (Record.vals (nth v0a v5il1.toNat)) (Record.vals (nth v1b v5il1.toNat))))] rfl ⟨OpQ.g (q_stneq fk_32 rfl rfl (xs:=Record.vals (nth v0a v5il1.toNat)) (ys:=Record.vals (nth v1b v5il1.toNat)) rfl rfl rfl rfl),s22.ix rfl rfl rfl hk2,s22.ix rfl rfl rfl hk1,(show drawB _ _=true by kernel_rfl)⟩ ?_
   refine .ite H rfl (fun H=>?_) (fun H=>?_)
   ·refine .A 4 [] rfl trivial ?_
    refine .R func36 results36 rfl ?_
    cases H
    cases HK1
    exact .m rfl (.rfl' _)
   ·obtain ⟨hk3,H⟩:=ck_some H
    refine .A 7 [.i (v5il1+1)] rfl (g_addI rfl rfl hk3) ?_
    cases H
    exact .z (ih1 (n1,(v5il1+1)) HK1 hm1) rfl rfl
  ·refine .A 5 [] rfl trivial ?_
   refine .R func36 results36 rfl ?_
   cases H
   cases HK1
   exact .m rfl (.rfl' _)
theorem c_f_r13_Same {v0a:List Record} {v1b:List Record} {r:Bool} (H:f_r13_Same v0a v1b=some r):ACall prog 13 [slOf 12 Record.row v0a,slOf 12 Record.row v1b] (·=cB r):=by
 refine ACall.enter' func13 rfl ntmps13 rfl fun S hS=>?_
 unfold f_r13_Same at H
 obtain ⟨y1,hy1,H⟩:=bind_some' H
 refine .A 11 [.b y1] rfl (g_call (en 50 rfl) rfl rfl (c_f_r09_Same (hy1))) ?_
 refine .R func13 results13 rfl ?_
 cases H
 exact .m rfl (.rfl' _)
theorem c_f_w15_valid {v0l:List Record} {r:Bool} (H:f_w15_valid v0l=some r):ACall prog 9 [slOf 12 Record.row v0l] (·=cB r):=by
 refine ACall.enter' func9 rfl ntmps9 rfl fun S hS=>?_
 unfold f_w15_valid at H
 obtain ⟨y1,hy1,H⟩:=bind_some' H
 refine .A 11 [.b y1] rfl (g_call (en 39 rfl) rfl rfl (c_f_w15_few (hy1))) ?_
 refine .ite H rfl (fun H=>?_) (fun H=>?_)
 ·refine .A 4 [] rfl trivial ?_
  refine .R func9 results9 rfl ?_
  cases H
  exact .m rfl (.rfl' _)
 ·refine .A 7 [] rfl trivial ?_
  obtain ⟨n1,H⟩:=loop_some H
  refine .loop (ι:=Nat×(Int)) (fun ⟨_,v3il1⟩=>[(0,.d (slOf 12 Record.row v0l)),(3,.d (cI v3il1))]) (fun ⟨_,v3il1⟩=>⟨[],[]⟩) (fun p=>iter (fun s=>f_w15_valid_l1 v0l s) p.1 p.2=some r) (·.1) (n1,0) H (.cons rfl (.rfl' _) (.cons rfl (.rfl' _) (.nil))) rfl ?_
  rintro ⟨m1,v3il1⟩ HI ih1
  obtain ⟨n1,q1,hm1,H,HK1⟩:=iter_succ HI
  clear HI
  replace H:f_w15_valid_l1 v0l v3il1=some q1:=H
  unfold f_w15_valid_l1 at H
  refine .A 8 [.i (v0l.length:Int)] rfl (s22.n rfl rfl) ?_
  refine .ite H rfl (fun H=>?_) (fun H=>?_)
  ·obtain ⟨hk1,H⟩:=ck_some H
   obtain ⟨y2,hy2,H⟩:=bind_some' H
   refine .A 12 [.d (.ro (Record.row (nth v0l v3il1.toNat))),.i y2] rfl ⟨g_call (en 35 rfl) rfl rfl (c_f_r13_Check (hy2)),s22.ix rfl rfl rfl hk1⟩ ?_
   refine .ite H rfl (fun H=>?_) (fun H=>?_)
   ·refine .A 4 [] rfl trivial ?_
    refine .R func9 results9 rfl ?_
    cases H
    cases HK1
    exact .m rfl (.rfl' _)
   ·obtain ⟨hk2,H⟩:=ck_some H
    refine .A 7 [.i (v3il1+1)] rfl (g_addI rfl rfl hk2) ?_
    cases H
    exact .z (ih1 (n1,(v3il1+1)) HK1 hm1) rfl rfl
  ·refine .A 5 [] rfl trivial ?_
   refine .R func9 results9 rfl ?_
   cases H
   cases HK1
   exact .m rfl (.rfl' _)
set_option maxRecDepth 100000
set_option maxHeartbeats 1000000
theorem c_f_w15_sum {v0a:List Record} {v1b:List Record} {r:(List Int)} (H:f_w15_sum v0a v1b=some r):ACall prog 22 [slOf 12 Record.row v0a,slOf 12 Record.row v1b] (·=.agg [cI (nth r 0),cI (nth r 1),cI (nth r 2),cI (nth r 3),cI (nth r 4)]):=by
 obtain ⟨i3,hi3,hz3,hs3,hb3⟩:=in_3
 refine ACall.enter' func22 rfl ntmps22 rfl fun S hS=>?_
 unfold f_w15_sum at H
 obtain ⟨y1,hy1,H⟩:=bind_some' H
 obtain ⟨y2,hy2,H⟩:=bind_some' H
 refine .A 21 [.r 0,.d (.agg [cI (nth y1 0),cI (nth y1 1),cI (nth y1 2),cI (nth y1 3),cI (nth y1 4)]),.d (.agg [cI (nth y2 0),cI (nth y2 1),cI (nth y2 2),cI (nth y2 3),cI (nth y2 4)]),.r 1,.r 2] rfl ⟨g_call (en 42 rfl) rfl rfl (c_f_correlate_Units (hy2)),g_call (en 42 rfl) rfl rfl (c_f_correlate_Units (hy1))⟩ ?_
 obtain ⟨n1,H⟩:=loop_some H
 refine .loop (ι:=Nat×(Int×Int×Int×Int×Int×Int)) (fun ⟨_,v7kl1,o1c0l1,o1c1l1,o1c2l1,o1c3l1,o1c4l1⟩=>[(4,.ref 0 0),(5,.ref 1 0),(6,.ref 2 0),(7,.d (cI v7kl1))]) (fun ⟨_,v7kl1,o1c0l1,o1c1l1,o1c2l1,o1c3l1,o1c4l1⟩=>⟨[.row 35 [.d (cI 0),.d (cI 0),.d (cI 0),.d (cI 0),.d (cI 0)],.row 35 [.d (cI o1c0l1),.d (cI o1c1l1),.d (cI o1c2l1),.d (cI o1c3l1),.d (cI o1c4l1)],.row 35 [.d (cI (nth y2 0)),.d (cI (nth y2 1)),.d (cI (nth y2 2)),.d (cI (nth y2 3)),.d (cI (nth y2 4))]],[]⟩) (fun p=>iter (fun s=>f_w15_sum_l1 y2 s.1 s.2.1 s.2.2.1 s.2.2.2.1 s.2.2.2.2.1 s.2.2.2.2.2) p.1 p.2=some r) (·.1) (n1,(0,nth y1 0,nth y1 1,nth y1 2,nth y1 3,nth y1 4)) H (.cons rfl (.rfl' _) (.cons rfl (.rfl' _) (.cons rfl (.rfl' _) (.cons rfl (.rfl' _) (.nil))))) rfl ?_
 rintro ⟨m1,v7kl1,o1c0l1,o1c1l1,o1c2l1,o1c3l1,o1c4l1⟩ HI ih1
 obtain ⟨n1,q1,hm1,H,HK1⟩:=iter_succ HI
 clear HI
 replace H:f_w15_sum_l1 y2 v7kl1 o1c0l1 o1c1l1 o1c2l1 o1c3l1 o1c4l1=some q1:=H
 unfold f_w15_sum_l1 at H
 refine .A 6 [] rfl trivial ?_
 refine .ite H rfl (fun H=>?_) (fun H=>?_)
 ·obtain ⟨hk1,H⟩:=ck_some H
  obtain ⟨hk2,H⟩:=ck_some H
  obtain ⟨hk3,H⟩:=ck_some H
  obtain ⟨hk4,H⟩:=ck_some H
  obtain ⟨hk5,H⟩:=ck_some H
  obtain ⟨hk6,H⟩:=ck_some H
  obtain ⟨hk7,H⟩:=ck_some H
  obtain ⟨hk8,H⟩:=ck_some H
  refine .A 22 [.p 9,.g (.ref 1 (0+v7kl1.toNat)),.f 15 (.d (cI (nth ([o1c0l1,o1c1l1,o1c2l1,o1c3l1,o1c4l1]:List Int) v7kl1.toNat))),.g (.ref 2 (0+v7kl1.toNat)),.f 12 (.d (cI (nth y2 v7kl1.toNat))),.i ((nth ([o1c0l1,o1c1l1,o1c2l1,o1c3l1,o1c4l1]:List Int) v7kl1.toNat)+(nth y2 v7kl1.toNat)),.g (.ref 1 (0+v7kl1.toNat)),.w 8 ⟨[.row 35 [.d (cI 0),.d (cI 0),.d (cI 0),.d (cI 0),.d (cI 0)],.row 35 [.d (cI (nth (setN ([o1c0l1,o1c1l1,o1c2l1,o1c3l1,o1c4l1]:List Int) 5 v7kl1.toNat ((nth ([o1c0l1,o1c1l1,o1c2l1,o1c3l1,o1c4l1]:List Int) v7kl1.toNat)+(nth y2 v7kl1.toNat))) 0)),.d (cI (nth (setN ([o1c0l1,o1c1l1,o1c2l1,o1c3l1,o1c4l1]:List Int) 5 v7kl1.toNat ((nth ([o1c0l1,o1c1l1,o1c2l1,o1c3l1,o1c4l1]:List Int) v7kl1.toNat)+(nth y2 v7kl1.toNat))) 1)),.d (cI (nth (setN ([o1c0l1,o1c1l1,o1c2l1,o1c3l1,o1c4l1]:List Int) 5 v7kl1.toNat ((nth ([o1c0l1,o1c1l1,o1c2l1,o1c3l1,o1c4l1]:List Int) v7kl1.toNat)+(nth y2 v7kl1.toNat))) 2)),.d (cI (nth (setN ([o1c0l1,o1c1l1,o1c2l1,o1c3l1,o1c4l1]:List Int) 5 v7kl1.toNat ((nth ([o1c0l1,o1c1l1,o1c2l1,o1c3l1,o1c4l1]:List Int) v7kl1.toNat)+(nth y2 v7kl1.toNat))) 3)),.d (cI (nth (setN ([o1c0l1,o1c1l1,o1c2l1,o1c3l1,o1c4l1]:List Int) 5 v7kl1.toNat ((nth ([o1c0l1,o1c1l1,o1c2l1,o1c3l1,o1c4l1]:List Int) v7kl1.toNat)+(nth y2 v7kl1.toNat))) 4))],.row 35 [.d (cI (nth y2 0)),.d (cI (nth y2 1)),.d (cI (nth y2 2)),.d (cI (nth y2 3)),.d (cI (nth y2 4))]],[]⟩,.i (v7kl1+1)] rfl ⟨g_addI rfl rfl hk8,.e (u_storeK (n:=5) (off:=0) (i:=v7kl1.toNat) (l:=([o1c0l1,o1c1l1,o1c2l1,o1c3l1,o1c4l1]:List Int)) (c1:=cI) (a:=(nth ([o1c0l1,o1c1l1,o1c2l1,o1c3l1,o1c4l1]:List Int) v7kl1.toNat)+(nth y2 v7kl1.toNat)) rfl rfl rfl rfl rfl hk7 sz_3) rfl,OpQ.g (q_idxK (off:=0) (i:=v7kl1) underlying35 ⟨_,hi3,hs3⟩ rfl rfl hk6),g_addI rfl rfl hk5,OpQ.g (q_loadK (n:=5) (off:=0) (i:=v7kl1.toNat) (l:=y2) (c1:=cI) one_3 rfl rfl rfl hk4),OpQ.g (q_idxK (off:=0) (i:=v7kl1) underlying35 ⟨_,hi3,hs3⟩ rfl rfl hk3),OpQ.g (q_loadK (n:=5) (off:=0) (i:=v7kl1.toNat) (l:=([o1c0l1,o1c1l1,o1c2l1,o1c3l1,o1c4l1]:List Int)) (c1:=cI) one_3 rfl rfl rfl hk2),OpQ.g (q_idxK (off:=0) (i:=v7kl1) underlying35 ⟨_,hi3,hs3⟩ rfl rfl hk1),(show drawB _ _=true by kernel_rfl)⟩ ?_
  cases H
  exact .z (ih1 (n1,(v7kl1+1,nth (setN ([o1c0l1,o1c1l1,o1c2l1,o1c3l1,o1c4l1]:List Int) 5 v7kl1.toNat ((nth ([o1c0l1,o1c1l1,o1c2l1,o1c3l1,o1c4l1]:List Int) v7kl1.toNat)+(nth y2 v7kl1.toNat))) 0,nth (setN ([o1c0l1,o1c1l1,o1c2l1,o1c3l1,o1c4l1]:List Int) 5 v7kl1.toNat ((nth ([o1c0l1,o1c1l1,o1c2l1,o1c3l1,o1c4l1]:List Int) v7kl1.toNat)+(nth y2 v7kl1.toNat))) 1,nth (setN ([o1c0l1,o1c1l1,o1c2l1,o1c3l1,o1c4l1]:List Int) 5 v7kl1.toNat ((nth ([o1c0l1,o1c1l1,o1c2l1,o1c3l1,o1c4l1]:List Int) v7kl1.toNat)+(nth y2 v7kl1.toNat))) 2,nth (setN ([o1c0l1,o1c1l1,o1c2l1,o1c3l1,o1c4l1]:List Int) 5 v7kl1.toNat ((nth ([o1c0l1,o1c1l1,o1c2l1,o1c3l1,o1c4l1]:List Int) v7kl1.toNat)+(nth y2 v7kl1.toNat))) 3,nth (setN ([o1c0l1,o1c1l1,o1c2l1,o1c3l1,o1c4l1]:List Int) 5 v7kl1.toNat ((nth ([o1c0l1,o1c1l1,o1c2l1,o1c3l1,o1c4l1]:List Int) v7kl1.toNat)+(nth y2 v7kl1.toNat))) 4)) HK1 hm1) rfl rfl
 ·refine .A 6 [] rfl trivial ?_
  refine .R func22 results22 rfl ?_
  cases H
  cases HK1
  exact .m rfl (.rfl' _)
theorem c_f_w15_shuffled {v0l:List Record} {v1order:List Int} {r:(List Record)×Bool} (H:f_w15_shuffled v0l v1order=some r):ACall prog 23 [slOf 12 Record.row v0l,slOf 1 rI v1order] (·=.tup [slOf 12 Record.row r.1,cB r.2]):=by
 obtain ⟨i4,hi4,hz4,hs4,hb4⟩:=in_4
 obtain ⟨i32,hi32,hz32,hs32,hb32⟩:=in_32
 refine ACall.enter' func23 rfl ntmps23 rfl fun S hS=>?_
 unfold f_w15_shuffled at H
 obtain ⟨hk1,H⟩:=ck_some H
 refine .A 21 [.i (v0l.length:Int),.n (.vc 0 ((List.replicate ((v0l.length:Int)).toNat false:List Bool).length)) ⟨4,1,((List.replicate ((v0l.length:Int)).toNat false:List Bool).length),some ((List.replicate ((v0l.length:Int)).toNat false:List Bool).map rBo)⟩] rfl ⟨.e (v_makeV (row:=rBo) (a:=(v0l.length:Int)) (b:=(v0l.length:Int)) (a0:=false) underlying66 hi4 hz4 hs4 rfl (by rw [hb4]; decide) rfl rfl rfl hk1) rfl,s22.n rfl rfl⟩ ?_
 refine .tok (i:=6) (e:=32) (sz:=12) rfl ?_
 refine .blockJoin2 (ι:=List Bool×List Record) (fun ⟨y0tj1,v6outj1⟩=>[(0,.d (slOf 12 Record.row v0l)),(6,.tsl 12 (v6outj1.map Record.row) 1)]) (fun ⟨y0tj1,v6outj1⟩=>⟨[],[⟨4,1,y0tj1.length,some (y0tj1.map rBo)⟩,⟨32,12,v6outj1.length,none⟩]⟩) (fun s=>f_w15_shuffled_j1 v0l s.1 s.2=some r) ?_ ?_
 ·rintro ⟨y0tj1,v6outj1⟩ H
  replace H:f_w15_shuffled_j1 v0l y0tj1 v6outj1=some r:=H
  unfold f_w15_shuffled_j1 at H
  refine .A 11 [.i (v6outj1.length:Int),.i (v0l.length:Int)] rfl ⟨s22.n rfl rfl,s22.n rfl rfl⟩ ?_
  refine .R func23 results23 rfl ?_
  cases H
  exact .m rfl (.tupL ⟨.tsl _ _ _,.rfl' _,trivial⟩)
 ·intro hj1 hj1x
  obtain ⟨n1,H⟩:=loop_some H
  refine .loop (ι:=Nat×(List Bool×List Record×Int)) (fun ⟨_,y0tl1,v6outl1,v8il1⟩=>[(0,.d (slOf 12 Record.row v0l)),(1,.d (slOf 1 rI v1order)),(6,.tsl 12 (v6outl1.map Record.row) 1),(7,.vc 0 y0tl1.length),(8,.d (cI v8il1))]) (fun ⟨_,y0tl1,v6outl1,v8il1⟩=>⟨[],[⟨4,1,y0tl1.length,some (y0tl1.map rBo)⟩,⟨32,12,v6outl1.length,none⟩]⟩) (fun p=>iter (fun s=>f_w15_shuffled_l1 v0l v1order s.1 s.2.1 s.2.2) p.1 p.2=some r) (·.1) (n1,((List.replicate ((v0l.length:Int)).toNat false:List Bool),([]:List Record),0)) H (.cons rfl (.rfl' _) (.cons rfl (.rfl' _) (.cons rfl (.rfl' _) (.cons rfl (.rfl' _) (.cons rfl (.rfl' _) (.nil)))))) rfl ?_
  rintro ⟨m1,y0tl1,v6outl1,v8il1⟩ HI ih1
  obtain ⟨n1,q1,hm1,H,HK1⟩:=iter_succ HI
  clear HI
  replace H:f_w15_shuffled_l1 v0l v1order y0tl1 v6outl1 v8il1=some q1:=H
  unfold f_w15_shuffled_l1 at H
  refine .A 8 [.i (v1order.length:Int)] rfl (s37.n rfl rfl) ?_
  refine .ite H rfl (fun H=>?_) (fun H=>?_)
  ·obtain ⟨hk2,H⟩:=ck_some H
   obtain ⟨hk3,H⟩:=ck_some H
   obtain ⟨hk4,H⟩:=ck_some H
   obtain ⟨hk5,H⟩:=ck_some H
   obtain ⟨hk6,H⟩:=ck_some H
   refine .A 30 [.d (.ro (rI (nth v1order v8il1.toNat))),.d (.ro (rI (nth v1order v8il1.toNat))),.i (v0l.length:Int),.d (.ro (rI (nth v1order v8il1.toNat))),.g (.vp 0 y0tl1.length (nth v1order v8il1.toNat).toNat 0),.f 3 (.d (cB (nth y0tl1 (nth v1order v8il1.toNat).toNat)))] rfl ⟨rfl,fun hg=>OpQ.g (q_loadVp (l:=y0tl1) (row:=rBo) one_4 rfl rfl (hk6 hg) rfl),rfl,fun hg=>OpQ.g (q_idxV (l:=y0tl1) (row:=rBo) (i:=nth v1order v8il1.toNat) underlying66 hi4 hs4 rfl rfl rfl (hk5 hg)),rfl,rfl,rfl,fun hg=>s37.ix rfl rfl rfl (hk4 hg),rfl,rfl,rfl,rfl,rfl,fun hg=>s22.n rfl rfl,rfl,rfl,fun hg=>s37.ix rfl rfl rfl (hk3 hg),rfl,rfl,s37.ix rfl rfl rfl hk2⟩ ?_
   refine .ite H rfl (fun H=>?_) (fun H=>?_)
   ·refine .A 5 [] rfl trivial ?_
    refine .R func23 results23 rfl ?_
    cases H
    cases HK1
    exact .m rfl (.tupL ⟨.nil 12,.rfl' _,trivial⟩)
   ·obtain ⟨hk7,H⟩:=ck_some H
    obtain ⟨hk8,H⟩:=ck_some H
    obtain ⟨hk9,H⟩:=ck_some H
    obtain ⟨hk10,H⟩:=ck_some H
    obtain ⟨hk11,H⟩:=ck_some H
    obtain ⟨hk12,H⟩:=ck_some H
    obtain ⟨hk13,H⟩:=ck_some H
    refine .A 30 [.d (.ro (rI (nth v1order v8il1.toNat))),.g (.vp 0 y0tl1.length (nth v1order v8il1.toNat).toNat 0),.w 21 ⟨[],[⟨4,1,y0tl1.length,some ((y0tl1.set (nth v1order v8il1.toNat).toNat true).map rBo)⟩,⟨32,12,v6outl1.length,none⟩]⟩,.d (.ro (rI (nth v1order v8il1.toNat))),.d (.ro (Record.row (nth v0l (nth v1order v8il1.toNat).toNat))),.d (slOf 12 Record.row ([nth v0l (nth v1order v8il1.toNat).toNat]:List Record)),.a 1 32 12 Record.row (v6outl1++([nth v0l (nth v1order v8il1.toNat).toNat]:List Record)),.i (v8il1+1)] rfl ⟨g_addI rfl rfl hk13,s22.a rfl rfl rfl rfl hk12,g_buildSlice1 underlying22 hi32 hs32 hz32 rfl rfl rfl rfl rfl,s22.ix rfl rfl rfl hk11,s37.ix rfl rfl rfl hk10,.e (u_storeV (l:=y0tl1) (row:=rBo) (a:=true) rfl rfl hk9 rfl rfl sz_4 rfl (Nat.le_of_ble_eq_true rfl) rfl) rfl,OpQ.g (q_idxV (l:=y0tl1) (row:=rBo) (i:=nth v1order v8il1.toNat) underlying66 hi4 hs4 rfl rfl rfl hk8),s37.ix rfl rfl rfl hk7⟩ ?_
    cases H
    refine .normV (l:=y0tl1.set (nth v1order v8il1.toNat).toNat true) (row:=rBo) (tk:=0) (fun z=>[(0,.d (slOf 12 Record.row v0l)),(1,.d (slOf 1 rI v1order)),(6,.tsl 12 ((v6outl1++([nth v0l (nth v1order v8il1.toNat).toNat]:List Record)).map Record.row) 1),(7,.vc 0 z),(8,.d (cI (v8il1+1)))]) (fun z=>⟨[],[⟨4,1,z,some ((y0tl1.set (nth v1order v8il1.toNat).toNat true).map rBo)⟩,⟨32,12,(v6outl1++([nth v0l (nth v1order v8il1.toNat).toNat]:List Record)).length,none⟩]⟩) rfl (.cons rfl (.rfl' _) (.cons rfl (.rfl' _) (.cons rfl (.rfl' _) (.cons rfl (.rfl' _) (.cons rfl (.rfl' _) (.nil)))))) rfl ?_
    exact .z (ih1 (n1,(y0tl1.set (nth v1order v8il1.toNat).toNat true,v6outl1++([nth v0l (nth v1order v8il1.toNat).toNat]:List Record),v8il1+1)) HK1 hm1) rfl rfl
  ·refine .A 1 [] rfl trivial ?_
   obtain ⟨q0,H9,hq0⟩:=map_some' H; clear H; cases hq0
   cases HK1
   have H:=H9
   exact .z (hj1x (y0tl1,v6outl1) H) rfl rfl
theorem c_f_w15_distinct {v0l:List Record} {r:Bool} (H:f_w15_distinct v0l=some r):ACall prog 24 [slOf 12 Record.row v0l] (·=cB r):=by
 refine ACall.enter' func24 rfl ntmps24 rfl fun S hS=>?_
 unfold f_w15_distinct at H
 refine .A 10 [] rfl trivial ?_
 obtain ⟨n1,H⟩:=loop_some H
 refine .loop (ι:=Nat×(Int)) (fun ⟨_,v3il1⟩=>[(0,.d (slOf 12 Record.row v0l)),(3,.d (cI v3il1))]) (fun ⟨_,v3il1⟩=>⟨[],[]⟩) (fun p=>iter (fun s=>f_w15_distinct_l1 v0l s) p.1 p.2=some r) (·.1) (n1,0) H (.cons rfl (.rfl' _) (.cons rfl (.rfl' _) (.nil))) rfl ?_
 rintro ⟨m1,v3il1⟩ HI ih1
 obtain ⟨n1,q1,hm1,H,HK1⟩:=iter_succ HI
 clear HI
 replace H:f_w15_distinct_l1 v0l v3il1=some q1:=H
 unfold f_w15_distinct_l1 at H
 refine .A 8 [.i (v0l.length:Int)] rfl (s22.n rfl rfl) ?_
 refine .ite H rfl (fun H=>?_) (fun H=>?_)
 ·refine .A 8 [] rfl trivial ?_
  obtain ⟨n2,H⟩:=loop_some H
  refine .loop (ι:=Nat×(Int)) (fun ⟨_,v4kl2⟩=>[(0,.d (slOf 12 Record.row v0l)),(3,.d (cI v3il1)),(4,.d (cI v4kl2))]) (fun ⟨_,v4kl2⟩=>⟨[],[]⟩) (fun p=>iter (fun s=>f_w15_distinct_l2 v0l v3il1 s) p.1 p.2=some q1) (·.1) (n2,0) H (.cons rfl (.rfl' _) (.cons rfl (.rfl' _) (.cons rfl (.rfl' _) (.nil)))) rfl ?_
  rintro ⟨m2,v4kl2⟩ HI ih2
  obtain ⟨n2,q2,hm2,H,HK2⟩:=iter_succ HI
  clear HI
  replace H:f_w15_distinct_l2 v0l v3il1 v4kl2=some q2:=H
  unfold f_w15_distinct_l2 at H
  refine .A 7 [] rfl trivial ?_
  refine .ite H rfl (fun H=>?_) (fun H=>?_)
  ·obtain ⟨hk1,H⟩:=ck_some H
   obtain ⟨hk2,H⟩:=ck_some H
   obtain ⟨hk3,H⟩:=ck_some H
   obtain ⟨hk4,H⟩:=ck_some H
   obtain ⟨hk5,H⟩:=ck_some H
   obtain ⟨hk6,H⟩:=ck_some H
   obtain ⟨hk7,H⟩:=ck_some H
   refine .A 52 [.p 45,.d (.ro (Record.row (nth v0l v3il1.toNat))),.d (.ro (Record.row (nth v0l v3il1.toNat))),.d (.ro (Record.row (nth v0l v4kl2.toNat))),.d (.ro (Record.row (nth v0l v3il1.toNat))),.d (.ro (Record.row (nth v0l v4kl2.toNat))),.d (.ro (Record.row (nth v0l v3il1.toNat))),.d (.ro (Record.row (nth v0l v4kl2.toNat)))] rfl ⟨rfl,rfl,rfl,rfl,rfl,fun hg=>s22.ix rfl rfl rfl (hk7 hg),rfl,rfl,rfl,rfl,fun hg=>s22.ix rfl rfl rfl (hk6 hg),rfl,rfl,rfl,rfl,rfl,rfl,rfl,fun hg=>s22.ix rfl rfl rfl (hk5 hg),rfl,rfl,rfl,rfl,fun hg=>s22.ix rfl rfl rfl (hk4 hg),rfl,rfl,rfl,rfl,rfl,rfl,rfl,fun hg=>s22.ix rfl rfl rfl (hk3 hg),rfl,rfl,rfl,rfl,fun hg=>s22.ix rfl rfl rfl (hk2 hg),rfl,rfl,s22.ix rfl rfl rfl hk1,(show drawB _ _=true by kernel_rfl)⟩ ?_
   refine .ite H rfl (fun H=>?_) (fun H=>?_)
   ·refine .A 4 [] rfl trivial ?_
    refine .R func24 results24 rfl ?_
    cases H
    cases HK2
    cases HK1
    exact .m rfl (.rfl' _)
   ·obtain ⟨hk8,H⟩:=ck_some H
    refine .A 7 [.i (v4kl2+1)] rfl (g_addI rfl rfl hk8) ?_
    cases H
    exact .z (ih2 (n2,(v4kl2+1)) HK2 hm2) rfl rfl
  ·obtain ⟨hk9,H⟩:=ck_some H
   refine .A 7 [.i (v3il1+1)] rfl (g_addI rfl rfl hk9) ?_
   cases H
   cases HK2
   exact .z (ih1 (n1,(v3il1+1)) HK1 hm1) rfl rfl
 ·refine .A 5 [] rfl trivial ?_
  refine .R func24 results24 rfl ?_
  cases H
  cases HK1
  exact .m rfl (.rfl' _)
theorem c_f_w15_count {v0l:List Record} {v1r:Record} {r:Int} (H:f_w15_count v0l v1r=some r):ACall prog 25 [slOf 12 Record.row v0l,.agg (Record.row v1r)] (·=cI r):=by
 refine ACall.enter' func25 rfl ntmps25 rfl fun S hS=>?_
 unfold f_w15_count at H
 refine .A 15 [.r 0] rfl trivial ?_
 obtain ⟨n1,H⟩:=loop_some H
 refine .loop (ι:=Nat×(Int×Int)) (fun ⟨_,v5nl1,v6il1⟩=>[(0,.d (slOf 12 Record.row v0l)),(3,.ref 0 0),(5,.d (cI v5nl1)),(6,.d (cI v6il1))]) (fun ⟨_,v5nl1,v6il1⟩=>⟨[.row 32 [.d (cI v1r.source),.d (cI v1r.serial),.d (cI v1r.kind),.d (cS v1r.a),.d (cS v1r.b),.d (cI v1r.start),.d (cI v1r.units),.d (cI v1r.call),.d (cI v1r.part),.d (cB v1r.last),.d (cI v1r.trunk),.d (cB v1r.inbound)]],[]⟩) (fun p=>iter (fun s=>f_w15_count_l1 v0l v1r s.1 s.2) p.1 p.2=some r) (·.1) (n1,(0,0)) H (.cons rfl (.rfl' _) (.cons rfl (.rfl' _) (.cons rfl (.rfl' _) (.cons rfl (.rfl' _) (.nil))))) rfl ?_
 rintro ⟨m1,v5nl1,v6il1⟩ HI ih1
 obtain ⟨n1,q1,hm1,H,HK1⟩:=iter_succ HI
 clear HI
 replace H:f_w15_count_l1 v0l v1r v5nl1 v6il1=some q1:=H
 unfold f_w15_count_l1 at H
 refine .A 8 [.i (v0l.length:Int)] rfl (s22.n rfl rfl) ?_
 refine .ite H rfl (fun H=>?_) (fun H=>?_)
 ·obtain ⟨hk1,H⟩:=ck_some H
  refine .A 13 [.p 6,.d (.ro (Record.row (nth v0l v6il1.toNat))),.b (eqVs (Record.vals (nth v0l v6il1.toNat)) (Record.vals v1r))] rfl ⟨OpQ.g (q_steql fk_32 rfl rfl (xs:=Record.vals (nth v0l v6il1.toNat)) (ys:=Record.vals v1r) rfl rfl rfl rfl),s22.ix rfl rfl rfl hk1,(show drawB _ _=true by kernel_rfl)⟩ ?_
  refine .ite H rfl (fun H=>?_) (fun H=>?_)
  ·obtain ⟨hk2,H⟩:=ck_some H
   obtain ⟨hk3,H⟩:=ck_some H
   refine .A 11 [.i (v5nl1+1),.i (v6il1+1)] rfl ⟨g_addI rfl rfl hk3,g_addI rfl rfl hk2⟩ ?_
   cases H
   exact .z (ih1 (n1,(v5nl1+1,v6il1+1)) HK1 hm1) rfl rfl
  ·obtain ⟨hk4,H⟩:=ck_some H
   refine .A 7 [.i (v6il1+1)] rfl (g_addI rfl rfl hk4) ?_
   cases H
   exact .z (ih1 (n1,(v5nl1,v6il1+1)) HK1 hm1) rfl rfl
 ·refine .A 6 [] rfl trivial ?_
  refine .R func25 results25 rfl ?_
  cases H
  cases HK1
  exact .m rfl (.rfl' _)
theorem c_f_w15_CorrelateUnits {v0:List Record} {v1:List Record} {v2:List Int} {r:Bool} (H:f_w15_CorrelateUnits v0 v1 v2=some r):ACall prog 7 [slOf 12 Record.row v0,slOf 12 Record.row v1,slOf 1 rI v2] (·=cB r):=by
 obtain ⟨i32,hi32,hz32,hs32,hb32⟩:=in_32
 refine ACall.enter' func7 rfl ntmps7 rfl fun S hS=>?_
 unfold f_w15_CorrelateUnits at H
 obtain ⟨y1,hy1,H⟩:=bind_some' H
 obtain ⟨y2,hy2,H⟩:=bind_some' H
 refine .A 16 [.b y1,.b y2] rfl ⟨rfl,rfl,fun hg=>g_call (en 55 rfl) rfl rfl (c_f_w15_valid (gcall_some hy2 hg)),rfl,g_call (en 51 rfl) rfl rfl (c_f_w15_light (hy1))⟩ ?_
 refine .ite H rfl (fun H=>?_) (fun H=>?_)
 ·obtain ⟨y3,hy3,H⟩:=bind_some' H
  refine .A 5 [.b y3] rfl (g_call (en 40 rfl) rfl rfl (c_f_w15_awake (hy3))) ?_
  refine .R func7 results7 rfl ?_
  cases H
  exact .m rfl (.rfl' _)
 ·obtain ⟨y4,hy4,H⟩:=bind_some' H
  obtain ⟨y5,hy5,H⟩:=bind_some' H
  obtain ⟨y6,hy6,H⟩:=bind_some' H
  obtain ⟨y7,hy7,H⟩:=bind_some' H
  obtain ⟨y8,hy8,H⟩:=bind_some' H
  obtain ⟨y9,hy9,H⟩:=bind_some' H
  refine .A 41 [.d (.tup [slOf 12 Record.row y4.1,slOf 12 Record.row y4.2]),.d (.tup [slOf 12 Record.row y5.1,slOf 12 Record.row y5.2]),.d (.agg [cI (nth y6 0),cI (nth y6 1),cI (nth y6 2),cI (nth y6 3),cI (nth y6 4)]),.d (.agg [cI (nth y7 0),cI (nth y7 1),cI (nth y7 2),cI (nth y7 3),cI (nth y7 4)]),.b (!(eqVs [.int .i64 (nth y6 0),.int .i64 (nth y6 1),.int .i64 (nth y6 2),.int .i64 (nth y6 3),.int .i64 (nth y6 4)] [.int .i64 (nth y7 0),.int .i64 (nth y7 1),.int .i64 (nth y7 2),.int .i64 (nth y7 3),.int .i64 (nth y7 4)])),.d (.agg [cI (nth y8 0),cI (nth y8 1),cI (nth y8 2),cI (nth y8 3),cI (nth y8 4)]),.d (.agg [cI (nth y9 0),cI (nth y9 1),cI (nth y9 2),cI (nth y9 3),cI (nth y9 4)]),.b (!(eqVs [.int .i64 (nth y8 0),.int .i64 (nth y8 1),.int .i64 (nth y8 2),.int .i64 (nth y8 3),.int .i64 (nth y8 4)] [.int .i64 (nth y9 0),.int .i64 (nth y9 1),.int .i64 (nth y9 2),.int .i64 (nth y9 3),.int .i64 (nth y9 4)]))] rfl ⟨rfl,fun hg=>OpQ.g (q_gtneq fg_35 rfl rfl (xs:=[.int .i64 (nth y8 0),.int .i64 (nth y8 1),.int .i64 (nth y8 2),.int .i64 (nth y8 3),.int .i64 (nth y8 4)]) (ys:=[.int .i64 (nth y9 0),.int .i64 (nth y9 1),.int .i64 (nth y9 2),.int .i64 (nth y9 3),.int .i64 (nth y9 4)]) rfl rfl rfl rfl),rfl,rfl,fun hg=>g_call (en 42 rfl) rfl rfl (c_f_correlate_Units (gcall_some hy9 hg)),rfl,fun hg=>g_call (en 57 rfl) rfl rfl (c_f_w15_sum (gcall_some hy8 hg)),rfl,rfl,OpQ.g (q_gtneq fg_35 rfl rfl (xs:=[.int .i64 (nth y6 0),.int .i64 (nth y6 1),.int .i64 (nth y6 2),.int .i64 (nth y6 3),.int .i64 (nth y6 4)]) (ys:=[.int .i64 (nth y7 0),.int .i64 (nth y7 1),.int .i64 (nth y7 2),.int .i64 (nth y7 3),.int .i64 (nth y7 4)]) rfl rfl rfl rfl),g_call (en 57 rfl) rfl rfl (c_f_w15_sum (hy7)),g_call (en 57 rfl) rfl rfl (c_f_w15_sum (hy6)),g_call (en 31 rfl) rfl rfl (c_f_correlate_Expire (hy5)),g_call (en 29 rfl) rfl rfl (c_f_correlate_Join (hy4))⟩ ?_
  refine .ite H rfl (fun H=>?_) (fun H=>?_)
  ·refine .A 4 [] rfl trivial ?_
   refine .R func7 results7 rfl ?_
   cases H
   exact .m rfl (.rfl' _)
  ·obtain ⟨hk1,H⟩:=ck_some H
   obtain ⟨hk2,H⟩:=ck_some H
   obtain ⟨y10,hy10,H⟩:=bind_some' H
   obtain ⟨y11,hy11,H⟩:=bind_some' H
   refine .A 32 [.n (.tsl 12 (([]:List Record).map Record.row) 0) ⟨32,12,([]:List Record).length,none⟩,.a 0 32 12 Record.row (([]:List Record)++v0),.a 0 32 12 Record.row ((([]:List Record)++v0)++v1),.d (.tup [slOf 12 Record.row y10.1,cB y10.2]),.b y11] rfl ⟨rfl,rfl,fun hg=>g_call (en 58 rfl) rfl rfl (c_f_w15_distinct (gcall_some hy11 hg)),rfl,g_call (en 59 rfl) rfl rfl (c_f_w15_shuffled (hy10)),s22.a rfl rfl rfl rfl hk2,s22.a rfl rfl rfl rfl hk1,.e (v_build0T underlying22 hi32 hs32) rfl⟩ ?_
   refine .ite H rfl (fun H=>?_) (fun H=>?_)
   ·obtain ⟨y12,hy12,H⟩:=bind_some' H
    refine .A 5 [.b y12] rfl (g_call (en 40 rfl) rfl rfl (c_f_w15_awake (hy12))) ?_
    refine .R func7 results7 rfl ?_
    cases H
    exact .m rfl (.rfl' _)
   ·obtain ⟨y13,hy13,H⟩:=bind_some' H
    obtain ⟨y14,hy14,H⟩:=bind_some' H
    refine .A 27 [.d (.tup [slOf 12 Record.row y13.1,slOf 12 Record.row y13.2]),.b y14,.i (y4.1.length:Int),.i (y13.1.length:Int)] rfl ⟨rfl,rfl,rfl,fun hg=>s22.n rfl rfl,rfl,fun hg=>s22.n rfl rfl,rfl,g_call (en 52 rfl) rfl rfl (c_f_r13_Same (hy14)),g_call (en 29 rfl) rfl rfl (c_f_correlate_Join (hy13))⟩ ?_
    refine .ite H rfl (fun H=>?_) (fun H=>?_)
    ·refine .A 4 [] rfl trivial ?_
     refine .R func7 results7 rfl ?_
     cases H
     exact .m rfl (.rfl' _)
    ·refine .A 7 [] rfl trivial ?_
     obtain ⟨n1,H⟩:=loop_some H
     refine .loop (ι:=Nat×(Int)) (fun ⟨_,v16l1⟩=>[(7,.d (slOf 12 Record.row y4.1)),(14,.d (slOf 12 Record.row y13.1)),(16,.d (cI v16l1))]) (fun ⟨_,v16l1⟩=>⟨[],[⟨32,12,((([]:List Record)++v0)++v1).length,none⟩]⟩) (fun p=>iter (fun s=>f_w15_CorrelateUnits_l1 y4 y13 s) p.1 p.2=some r) (·.1) (n1,0) H (.cons rfl (.rfl' _) (.cons rfl (.rfl' _) (.cons rfl (.rfl' _) (.nil)))) rfl ?_
     rintro ⟨m1,v16l1⟩ HI ih1
     obtain ⟨n1,q1,hm1,H,HK1⟩:=iter_succ HI
     clear HI
     replace H:f_w15_CorrelateUnits_l1 y4 y13 v16l1=some q1:=H
     unfold f_w15_CorrelateUnits_l1 at H
     refine .A 8 [.i (y4.1.length:Int)] rfl (s22.n rfl rfl) ?_
     refine .ite H rfl (fun H=>?_) (fun H=>?_)
     ·obtain ⟨hk3,H⟩:=ck_some H
      obtain ⟨y15,hy15,H⟩:=bind_some' H
      obtain ⟨hk4,H⟩:=ck_some H
      obtain ⟨y16,hy16,H⟩:=bind_some' H
      refine .A 20 [.p 13,.d (.ro (Record.row (nth y4.1 v16l1.toNat))),.i y15,.d (.ro (Record.row (nth y4.1 v16l1.toNat))),.i y16] rfl ⟨g_call (en 60 rfl) rfl rfl (c_f_w15_count (hy16)),s22.ix rfl rfl rfl hk4,g_call (en 60 rfl) rfl rfl (c_f_w15_count (hy15)),s22.ix rfl rfl rfl hk3,(show drawB _ _=true by kernel_rfl)⟩ ?_
      refine .ite H rfl (fun H=>?_) (fun H=>?_)
      ·refine .A 4 [] rfl trivial ?_
       refine .R func7 results7 rfl ?_
       cases H
       cases HK1
       exact .m rfl (.rfl' _)
      ·obtain ⟨hk5,H⟩:=ck_some H
       refine .A 7 [.i (v16l1+1)] rfl (g_addI rfl rfl hk5) ?_
       cases H
       exact .z (ih1 (n1,(v16l1+1)) HK1 hm1) rfl rfl
     ·obtain ⟨y17,hy17,H⟩:=bind_some' H
      refine .A 6 [.b y17] rfl (g_call (en 40 rfl) rfl rfl (c_f_w15_awake (hy17))) ?_
      refine .R func7 results7 rfl ?_
      cases H
      cases HK1
      exact .m rfl (.rfl' _)
end Go.Proofs.YtajciinoiacpmaaDoor
namespace Go.Proofs.YtajciinoiacpmaaDoor
open Go.RowKit Go.Abs
theorem gcall_mk {α:Type} [Inhabited α] {b:Bool} {x:α}:gcall b (some x)=some (if b=true then x else default):=by
 unfold gcall; split <;> rfl
theorem loop_all {α R:Type} [Inhabited α] {step:Int→Option (Int ⊕ R)} (l:List α) (p:α→Bool) (fin bad:R) (hl:l.length < 18446744073709551616)
  (h1:∀ i:Int,0≤i→i < (l.length:Int)→step i=some (if p (nth l i.toNat)=true then .inl (i+1) else .inr bad)) (h2:∀ i:Int,i=(l.length:Int)→step i=some (.inr fin)):loop step 0=some (if l.all p=true then fin else bad):=by
 have:=loop_spec (step:=step) (fun i:Int=>some (if (l.drop i.toNat).all p=true then fin else bad)) (fun i=>0≤i∧i≤(l.length:Int)) (fun i=>((l.length:Int) - i).toNat) (fun i hI=>by
  by_cases hi:i < (l.length:Int)
  ·have hd:=drop_nth (l:=l) (k:=i.toNat) (by omega)
   rw [h1 i hI.1 hi]
   by_cases hp:p (nth l i.toNat)=true
   ·rw [if_pos hp]
    refine .inr ⟨i+1,rfl,⟨by omega,by omega⟩,by omega,?_⟩
    rw [show (i+1).toNat=i.toNat+1 from by omega,hd]
    simp [hp]
   ·rw [if_neg hp]
    refine .inl ⟨bad,rfl,?_⟩
    rw [hd]
    simp [hp]
  ·have:i=(l.length:Int):=by omega
   refine .inl ⟨fin,h2 i this,?_⟩
   rw [List.drop_of_length_le (by omega)]
   simp) (s:=0) ⟨by omega,by omega⟩ (by omega)
 simpa using this
def isDig (c:UInt8):Bool:=decide (48≤c) && decide (c≤57)
def validB (s:List UInt8):Bool:=s.all isDig && decide (1≤s.length) && decide (s.length≤15)
theorem p_Valid (s:List UInt8) (hl:s.length < 1000000000):f_digits_Valid s=some (validB s):=by
 unfold f_digits_Valid
 rw [loop_all s isDig (decide ((s.length:Int)≥1) && decide ((s.length:Int)≤15)) false (by omega) (fun i h0 h1=>?_) (fun i hi=>?_)]
 ·unfold validB
  cases s.all isDig <;> simp
  rw [Bool.eq_iff_iff]; simp; omega
 ·unfold f_digits_Valid_l1 f_digits_digit
  rw [if_pos (by simpa using h1),ck_pos (by omega)]
  simp only [Option.bind_some]
  rw [ck_pos (by omega)]
  unfold isDig
  simp only [ge_iff_le]
  cases decide (48≤nth s i.toNat) <;> cases decide (nth s i.toNat≤57) <;> rfl
 ·unfold f_digits_Valid_l1 f_digits_Valid_j1
  rw [if_neg (by simp; omega)]
  rfl
theorem p_rValid (s:List UInt8) (hl:s.length < 1000000000):f_r02_Valid s=some (validB s):=by
 unfold f_r02_Valid
 rw [loop_all s isDig (decide ((s.length:Int)≥1) && decide ((s.length:Int)≤15)) false (by omega) (fun i h0 h1=>?_) (fun i hi=>?_)]
 ·unfold validB
  cases s.all isDig <;> simp
  rw [Bool.eq_iff_iff]; simp; omega
 ·unfold f_r02_Valid_l1
  rw [if_pos (by simpa using h1),ck_pos (by omega),ck_pos (by omega),ck_pos (by omega)]
  unfold isDig
  have e1:decide (nth s i.toNat < 48)=!decide (48≤nth s i.toNat):=by rw [←decide_not]; simp
  have e2:decide (nth s i.toNat > 57)=!decide (nth s i.toNat≤57):=by rw [←decide_not]; simp
  rw [e1,e2]
  cases decide (48≤nth s i.toNat) <;> cases decide (nth s i.toNat≤57) <;> rfl
 ·unfold f_r02_Valid_l1 f_r02_Valid_j1
  rw [if_neg (by simp; omega)]
  rfl
def errF (r:Record):Int :=
 if ¬(1≤r.source∧r.source≤99∧1≤r.serial∧r.serial≤999999999) then 6
 else if ¬(1≤r.kind∧r.kind≤4) then 7
 else if validB r.a=false∨(validB r.b=false∧¬((r.kind=3∨r.kind=4)∧r.b=[])) then 12
 else if ¬(0≤r.start∧r.start≤12622780799) then 15
 else if ¬(0≤r.units∧r.units≤1099511627776)∨(r.kind=1∧r.units > 604800) then 6
 else if r.kind=1∧r.start+r.units > 12622780800 then 15
 else if ¬(0≤r.call∧r.call≤999999999∧0≤r.part∧r.part≤99) then 6
 else if ¬(r.part=0↔r.call=0)∨(r.last=true∧r.part=0) then 8
 else if ¬(0≤r.trunk∧r.trunk≤999) then 6
 else if r.inbound=true∧r.trunk=0 then 8
 else 0
theorem ite_same {α:Type} {b:Bool} {p:Prop} [Decidable p] {x y x' y':α} (h:b=true↔p) (hx:p→x=x') (hy:¬p→y=y'):(if b=true then x else y)=if p then x' else y':=by
 by_cases hp:p
 ·rw [if_pos hp,if_pos (h.2 hp),hx hp]
 ·rw [if_neg hp,if_neg (fun hb=>hp (h.1 hb)),hy hp]
theorem ite_some {α:Type} {p:Prop} [Decidable p] {x y:α}:(if p then some x else some y)=some (if p then x else y):=by split <;> rfl
theorem p_check (r:Record) (ha:r.a.length < 1000000000) (hb:r.b.length < 1000000000):f_textual_check r=some (errF r):=by
 have key:∀ m,(m=1099511627776∧r.kind≠1)∨(m=604800∧r.kind=1)→f_textual_check_j1 r m=some (errF r):=by
  intro m hm
  unfold f_textual_check_j1 errF
  simp only [f_textual_within,p_Valid _ ha,p_Valid _ hb,Option.bind_some,gcall_mk]
  simp only [←ite_some]
  refine ite_same (by simp; grind) (fun _=>rfl) (fun h1=>?_)
  refine ite_same (by simp; grind) (fun _=>rfl) (fun h2=>?_)
  refine ite_same (by simp; grind) (fun _=>rfl) (fun h3=>?_)
  refine ite_same (by simp; grind) (fun _=>rfl) (fun h4=>?_)
  refine ite_same (by simp; grind) (fun _=>rfl) (fun h5=>?_)
  rw [ck_pos (by omega)]
  refine ite_same (by simp) (fun _=>rfl) (fun h6=>?_)
  refine ite_same (by simp; grind) (fun _=>rfl) (fun h7=>?_)
  refine ite_same (by simp; grind) (fun _=>rfl) (fun h8=>?_)
  refine ite_same (by simp; grind) (fun _=>rfl) (fun h9=>?_)
  refine ite_same (by simp) (fun _=>rfl) (fun h10=>rfl)
 unfold f_textual_check
 split
 ·rename_i h
  exact key _ (.inr ⟨rfl,by simpa using h⟩)
 ·rename_i h
  exact key _ (.inl ⟨rfl,by simpa using h⟩)
theorem p_rError (r:Record) (ha:r.a.length < 1000000000) (hb:r.b.length < 1000000000):f_r09_Error r=some (errF r):=by
 unfold f_r09_Error errF
 simp only [f_r09_in,p_rValid _ ha,p_rValid _ hb,Option.bind_some,gcall_mk]
 simp only [←ite_some]
 refine ite_same (by simp; grind) (fun _=>rfl) (fun h1=>?_)
 refine ite_same (by simp; grind) (fun _=>rfl) (fun h2=>?_)
 by_cases hva:validB r.a=true
 ·rw [if_neg (by simp [hva])]
  refine ite_same (by simp [hva]; grind) (fun _=>rfl) (fun h3=>?_)
  refine ite_same (by simp; grind) (fun _=>rfl) (fun h4=>?_)
  refine ite_same (by simp; grind) (fun _=>rfl) (fun h5=>?_)
  rw [ck_pos (by omega)]
  refine ite_same (by simp) (fun _=>rfl) (fun h6=>?_)
  refine ite_same (by simp; grind) (fun _=>rfl) (fun h7=>?_)
  refine ite_same (by simp; grind) (fun _=>rfl) (fun h8=>?_)
  refine ite_same (by simp; grind) (fun _=>rfl) (fun h9=>?_)
  refine ite_same (by simp) (fun _=>rfl) (fun h10=>rfl)
 ·rw [if_pos (by simp [hva]),if_pos (by simp [hva])]
structure Good (r:Record):Prop where
 source:1≤r.source∧r.source≤99
 serial:1≤r.serial∧r.serial≤999999999
 kind:1≤r.kind∧r.kind≤4
 a:validB r.a=true
 b:validB r.b=true∨(r.kind=3∨r.kind=4)∧r.b=[]
 start:0≤r.start∧r.start≤12622780799
 units:0≤r.units∧r.units≤1099511627776
 call:0≤r.call∧r.call≤999999999
 part:0≤r.part∧r.part≤99
 trunk:0≤r.trunk∧r.trunk≤999
theorem errF_good {r:Record} (h:errF r=0):Good r:=by
 unfold errF at h
 split at h; · cases h
 split at h; · cases h
 split at h; · cases h
 split at h; · cases h
 split at h; · cases h
 split at h; · cases h
 split at h; · cases h
 split at h; · cases h
 split at h; · cases h
 split at h; · cases h
 rename_i h1 h2 h3 h4 h5 h6 h7 h8 h9 h10
 refine ⟨by omega,by omega,by omega,?_,?_,by omega,by omega,by omega,by omega,by omega⟩
 ·cases hv:validB r.a with
  | true=>rfl
  | false=>exact absurd (.inl hv) h3
 ·cases hv:validB r.b with
  | true=>exact .inl rfl
  | false =>
   right
   by_cases hh:(r.kind=3∨r.kind=4)∧r.b=[]
   ·exact hh
   ·exact absurd (.inr ⟨hv,hh⟩) h3
theorem validB_len {s:List UInt8} (h:validB s=true):s.length≤15:=by
 unfold validB at h
 simp at h
 exact h.2
def headF (r:Record):List (List UInt8):=[(([118,116,100,99]:List UInt8).take r.kind.toNat).drop (r.kind-1).toNat,Go.Lib.itoa r.source,Go.Lib.itoa r.serial,r.a,if r.b=[] then [45] else r.b,Go.Lib.itoa r.start,Go.Lib.itoa r.units]
def partF (r:Record):List (List UInt8):=if r.part=0 then [] else [[112,97,114,116],Go.Lib.itoa r.call,Go.Lib.itoa r.part]++if r.last=true then [[108,97,115,116]] else []
def trunkF (r:Record):List (List UInt8):=if r.trunk=0 then [] else [if r.inbound=true then [105,110] else [111,117,116],Go.Lib.itoa r.trunk]
def wordsF (r:Record):List (List UInt8):=headF r++partF r++trunkF r
def lineF (r:Record):List UInt8:=Go.Lib.join (wordsF r) [32]
theorem join_len (sep:List UInt8) (xs:List (List UInt8)) (m:Nat) (h:∀ x,x∈xs→x.length≤m):(Go.Lib.join xs sep).length≤xs.length*(m+sep.length):=by
 cases xs with
 | nil=>simp [Go.Lib.join]
 | cons x r =>
  rw [Go.Lib.join_cons]
  have h1:∀ (r:List (List UInt8)),(∀ x,x∈r→x.length≤m)→(Go.Lib.joinTail sep r).length≤r.length*(m+sep.length):=by
   intro r
   induction r with
   | nil=>simp [Go.Lib.joinTail]
   | cons y r ih =>
    intro hr
    have:=ih fun z hz=>hr z (List.mem_cons_of_mem _ hz)
    have h2:=hr y List.mem_cons_self
    simp only [Go.Lib.joinTail,List.map_cons,List.flatten_cons,List.length_append,List.length_cons,Nat.add_mul] at *
    omega
  have h3:=h1 r fun z hz=>h z (List.mem_cons_of_mem _ hz)
  have h4:=h x List.mem_cons_self
  simp only [List.length_append,List.length_cons,Nat.add_mul] at *
  omega
theorem itoa_le {n:Int} (h0:0≤n) (h1:n≤9223372036854775807):(Go.Lib.itoa n).length≤21:=Go.Lib.itoa_length_le n (by omega) h1
theorem words_le {r:Record} (g:Good r):(wordsF r).length≤13∧∀ x,x∈wordsF r→x.length≤21:=by
 have ha:=validB_len g.a
 have hb:r.b.length≤15:=by
  rcases g.b with h | h
  ·exact validB_len h
  ·rw [h.2]; simp
 obtain ⟨gs,ge,gk,_,_,gst,gu,gc,gp,gt⟩:=g
 refine ⟨?_,fun x hx=>?_⟩
 ·have h1:(partF r).length≤4:=by unfold partF; split; simp; split <;> simp
  have h2:(trunkF r).length≤2:=by unfold trunkF; split <;> simp
  have h3:(headF r).length=7:=rfl
  simp only [wordsF,List.length_append]; omega
 ·unfold wordsF at hx
  rcases List.mem_append.1 hx with hx | hx
  ·rcases List.mem_append.1 hx with hx | hx
   ·unfold headF at hx
    simp only [List.mem_cons,List.not_mem_nil,or_false] at hx
    rcases hx with rfl | rfl | rfl | rfl | rfl | rfl | rfl
    ·simp; omega
    ·exact itoa_le (by omega) (by omega)
    ·exact itoa_le (by omega) (by omega)
    ·omega
    ·split
     ·simp
     ·omega
    ·exact itoa_le (by omega) (by omega)
    ·exact itoa_le (by omega) (by omega)
   ·unfold partF at hx
    split at hx
    ·cases hx
    ·rcases List.mem_append.1 hx with hx | hx
     ·simp only [List.mem_cons,List.not_mem_nil,or_false] at hx
      rcases hx with rfl | rfl | rfl
      ·simp
      ·exact itoa_le (by omega) (by omega)
      ·exact itoa_le (by omega) (by omega)
     ·split at hx
      ·simp only [List.mem_cons,List.not_mem_nil,or_false] at hx
       subst hx; simp
      ·cases hx
  ·unfold trunkF at hx
   split at hx
   ·cases hx
   ·simp only [List.mem_cons,List.not_mem_nil,or_false] at hx
    rcases hx with rfl | rfl
    ·split <;> simp
    ·exact itoa_le (by omega) (by omega)
theorem p_Itoa {n:Int} (h0:0≤n) (h1:n≤9223372036854775807):x_Itoa n=some (Go.Lib.itoa n):=by
 unfold x_Itoa; rw [ck_pos (by omega)]
theorem p_Encode_ok (r:Record) (h:errF r=0):f_textual_Encode r=some (lineF r,0):=by
 have g:=errF_good h
 have ha:=validB_len g.a
 have hb:r.b.length≤15:=by
  rcases g.b with h | h
  ·exact validB_len h
  ·rw [h.2]; simp
 have hj3:∀ ws,ws=wordsF r→f_textual_Encode_j3 ws=some (lineF r,0):=by
  rintro ws rfl
  unfold f_textual_Encode_j3 x_Join
  obtain ⟨w1,w2⟩:=words_le g
  have:=join_len [32] (wordsF r) 21 w2
  simp only [List.length_cons,List.length_nil] at this
  have h3:(wordsF r).length*22≤13*22:=Nat.mul_le_mul_right _ w1
  rw [ck_pos ⟨by omega,by omega⟩]
  rfl
 have hj2:∀ ws,ws=headF r++partF r→ws.length≤11→f_textual_Encode_j2 r ws=some (lineF r,0):=by
  intro ws hw hl
  unfold f_textual_Encode_j2
  by_cases ht:r.trunk=0
  ·rw [if_neg (by simp [ht])]
   exact hj3 _ (by rw [hw,wordsF,trunkF,if_pos ht]; simp)
  ·rw [if_pos (by simp [ht])]
   unfold f_textual_Encode_j4
   rw [p_Itoa g.trunk.1 (by have:=g.trunk.2; omega)]
   simp only [Option.bind_some]
   split
   ·rename_i hi
    rw [ck_pos (by simp; omega)]
    exact hj3 _ (by rw [hw,wordsF,trunkF,if_neg ht,if_pos hi])
   ·rename_i hi
    rw [ck_pos (by simp; omega)]
    exact hj3 _ (by rw [hw,wordsF,trunkF,if_neg ht,if_neg hi])
 have hj1:∀ b,b=(if r.b=[] then [45] else r.b)→f_textual_Encode_j1 r b=some (lineF r,0):=by
  rintro b rfl
  unfold f_textual_Encode_j1
  have gk:=g.kind
  rw [ck_pos (by omega),ck_pos (by simp; omega),p_Itoa (by have:=g.source; omega) (by have:=g.source; omega),p_Itoa (by have:=g.serial; omega) (by have:=g.serial; omega),p_Itoa g.start.1 (by have:=g.start; omega),p_Itoa g.units.1 (by have:=g.units; omega)]
  simp only [Option.bind_some]
  by_cases hp:r.part=0
  ·rw [if_neg (by simp [hp])]
   exact hj2 _ (by rw [partF,if_pos hp]; simp [headF]) (by simp)
  ·rw [if_pos (by simp [hp]),p_Itoa g.call.1 (by have:=g.call; omega),p_Itoa g.part.1 (by have:=g.part; omega)]
   simp only [Option.bind_some]
   rw [ck_pos (by simp)]
   split
   ·rename_i hl
    rw [ck_pos (by simp)]
    exact hj2 _ (by rw [partF,if_neg hp,if_pos hl]; simp [headF]) (by simp)
   ·rename_i hl
    exact hj2 _ (by rw [partF,if_neg hp,if_neg hl]; simp [headF]) (by simp)
 unfold f_textual_Encode
 rw [p_check r (by omega) (by omega),h]
 simp only [Option.bind_some]
 rw [if_neg (by simp)]
 split
 ·rename_i hb0
  exact hj1 _ (by rw [if_pos (by simpa using hb0)])
 ·rename_i hb0
  exact hj1 _ (by rw [if_neg (by simpa using hb0)])
theorem p_Encode (r:Record) (ha:r.a.length < 1000000000) (hb:r.b.length < 1000000000):f_textual_Encode r=some (if errF r=0 then lineF r else [],errF r):=by
 by_cases h:errF r=0
 ·rw [p_Encode_ok r h,if_pos h,h]
 ·unfold f_textual_Encode
  rw [p_check r ha hb,if_neg h]
  simp only [Option.bind_some]
  rw [if_pos (by simpa using h)]
def okT (r:Record):Bool:=decide (1≤r.kind∧r.kind≤4∧0≤r.units∧r.units≤1099511627776)
def conT (r:Record) (k:Nat):Int:=if okT r=true∧r.kind.toNat=k then r.units else 0
def sumT:List Record→Nat→Int
 | [],_=>0
 | r :: l,k=>conT r k+sumT l k
theorem sumT_app:∀ (a b:List Record) (k:Nat),sumT (a++b) k=sumT a k+sumT b k
 | [],b,k=>by simp [sumT]
 | r :: a,b,k=>by simp only [List.cons_append,sumT,sumT_app a b k]; omega
def callB (a b:Record):Bool:=decide (a.source=b.source) && decide (a.call=b.call)
theorem callB_iff {a b:Record}:callB a b=true↔a.source=b.source∧a.call=b.call:=by simp [callB]
theorem callB_symm {a b:Record} (h:callB a b=true):callB b a=true:=by rw [callB_iff] at *; exact ⟨h.1.symm,h.2.symm⟩
theorem callB_tr {a b c:Record} (h:callB a b=true) (h':callB b c=true):callB a c=true:=by rw [callB_iff] at *; exact ⟨h.1.trans h'.1,h.2.trans h'.2⟩
theorem callB_eq {a x y:Record} (h:callB x y=true):callB a x=callB a y:=by
 rw [callB_iff] at h
 simp [callB,h.1,h.2]
def Lt (a b:Record):Prop:=a.source < b.source∨(a.source=b.source∧(a.call < b.call∨(a.call=b.call∧a.part < b.part)))
instance (a b:Record):Decidable (Lt a b):=by unfold Lt; infer_instance
def Le (a b:Record):Prop:=¬ Lt b a
instance (a b:Record):Decidable (Le a b):=by unfold Le; infer_instance
theorem Le_iff {a b:Record}:Le a b↔a.source < b.source∨(a.source=b.source∧(a.call < b.call∨(a.call=b.call∧a.part≤b.part))):=by
 unfold Le Lt; omega
theorem Le_trans {a b c:Record} (h:Le a b) (h':Le b c):Le a c:=by rw [Le_iff] at *; omega
theorem Le_of_Lt {a b:Record} (h:Lt a b):Le a b:=by rw [Le_iff]; unfold Lt at h; omega
theorem Le_part {a b:Record} (h:Le a b) (hc:callB a b=true):a.part≤b.part:=by rw [Le_iff] at h; rw [callB_iff] at hc; omega
abbrev Srt (l:List Record):Prop:=l.Pairwise Le
def insP:List Record→Record→List Record
 | [],p=>[p]
 | r :: l,p=>if Lt p r then p :: r :: l else r :: insP l p
theorem insP_perm:∀ (l:List Record) (p:Record),(insP l p).Perm (p :: l)
 | [],p=>.refl _
 | r :: l,p=>by
  unfold insP
  split
  ·exact .refl _
  ·exact ((insP_perm l p).cons r).trans (.swap _ _ _)
theorem insP_len (l:List Record) (p:Record):(insP l p).length=l.length+1:=(insP_perm l p).length_eq
theorem insP_mem {l:List Record} {p x:Record}:x∈insP l p↔x=p∨x∈l:=by rw [(insP_perm l p).mem_iff,List.mem_cons]
theorem insP_srt:∀ {l:List Record} {p:Record},Srt l→Srt (insP l p)
 | [],p,_=>by simp [insP,Srt]
 | r :: l,p,h=>by
  unfold insP
  have h2:=List.pairwise_cons.1 h
  split
  ·rename_i hp
   refine List.pairwise_cons.2 ⟨fun x hx=>?_,h⟩
   rcases List.mem_cons.1 hx with e | hx
   ·rw [e]; exact Le_of_Lt hp
   ·exact Le_trans (Le_of_Lt hp) (h2.1 x hx)
  ·rename_i hp
   refine List.pairwise_cons.2 ⟨fun x hx=>?_,insP_srt h2.2⟩
   rcases insP_mem.1 hx with e | hx
   ·rw [e]; exact hp
   ·exact h2.1 x hx
theorem insP_filter (q:Record→Bool) {p:Record} (hp:q p=false):∀ (l:List Record),(insP l p).filter q=l.filter q
 | []=>by simp [insP,hp]
 | r :: l=>by
  unfold insP
  split
  ·rw [List.filter_cons_of_neg (by simp [hp])]
  ·simp only [List.filter_cons,insP_filter q hp l]
def chn (last:Bool) (x:Record):Int→List Record→List Record×List Record
 | _,[]=>([],[])
 | n,r :: l=>if callB r x=true∧r.part=n then (if last=true∧r.last=true then ([r],l) else (r :: (chn last x (n+1) l).1,(chn last x (n+1) l).2)) else ((chn last x n l).1,r :: (chn last x n l).2)
theorem chn_perm (last:Bool) (x:Record):∀ (n:Int) (l:List Record),((chn last x n l).1++(chn last x n l).2).Perm l
 | _,[]=>.refl _
 | n,r :: l=>by
  unfold chn
  split
  ·split
   ·exact .refl _
   ·exact (chn_perm last x (n+1) l).cons r
  ·exact (List.perm_middle).trans ((chn_perm last x n l).cons r)
theorem chn_sub (last:Bool) (x:Record):∀ (n:Int) (l:List Record),(chn last x n l).2.Sublist l
 | _,[]=>.slnil
 | n,r :: l=>by
  unfold chn
  split
  ·split
   ·exact List.sublist_cons_self _ _
   ·exact (chn_sub last x (n+1) l).cons r
  ·exact (chn_sub last x n l).cons_cons r
theorem chn_filter (last:Bool) (x:Record) (q:Record→Bool) (hq:∀ r,callB r x=true→q r=false):∀ (n:Int) (l:List Record),(chn last x n l).2.filter q=l.filter q
 | _,[]=>rfl
 | n,r :: l=>by
  unfold chn
  split
  ·rename_i h
   split
   ·rw [List.filter_cons_of_neg (by simp [hq r h.1])]
   ·rw [List.filter_cons_of_neg (by simp [hq r h.1])]
    exact chn_filter last x q hq (n+1) l
  ·simp only [List.filter_cons,chn_filter last x q hq n l]
theorem chn_filter_l (last:Bool) (x:Record) (q:Record→Bool) (hq:∀ r,callB r x=true→q r=true):∀ (n:Int) (l:List Record),(chn last x n (l.filter q)).1=(chn last x n l).1
 | _,[]=>rfl
 | n,r :: l=>by
  by_cases h:q r=true
  ·rw [List.filter_cons_of_pos h]
   unfold chn
   simp only [chn_filter_l last x q hq (n+1) l,chn_filter_l last x q hq n l]
   split
   ·split <;> rfl
   ·rfl
  ·rw [List.filter_cons_of_neg h,chn_filter_l last x q hq n l]
   conv=>rhs; unfold chn
   rw [if_neg (fun hc=>h (hq r hc.1))]
theorem chn_eqx (last:Bool) {x y:Record} (h:callB x y=true):∀ (n:Int) (l:List Record),chn last x n l=chn last y n l
 | _,[]=>rfl
 | n,r :: l=>by
  unfold chn
  rw [callB_eq (a:=r) h,chn_eqx last h (n+1) l,chn_eqx last h n l]
theorem chn_none (last:Bool) {x:Record}:∀ {n:Int} {l:List Record},(∀ r,r∈l→¬(callB r x=true∧r.part=n))→chn last x n l=([],l)
 | _,[],_=>rfl
 | n,r :: l,h=>by
  unfold chn
  rw [if_neg (h r (List.mem_cons_self ..)),chn_none last (fun y hy=>h y (List.mem_cons_of_mem _ hy))]
theorem chn_pre (last:Bool) {x:Record} {n:Int} {l:List Record}:∀ {pre:List Record},(∀ r,r∈pre→¬(callB r x=true∧r.part=n))→chn last x n (pre++l)=((chn last x n l).1,pre++(chn last x n l).2)
 | [],_=>rfl
 | r :: pre,h=>by
  rw [List.cons_append]
  conv=>lhs; unfold chn
  rw [if_neg (h r (List.mem_cons_self ..)),chn_pre last (fun y hy=>h y (List.mem_cons_of_mem _ hy))]
  rfl
theorem chn_post (last:Bool) {x:Record} {post:List Record} (h:∀ r,r∈post→callB r x=false):∀ {n:Int} {l:List Record},chn last x n (l++post)=((chn last x n l).1,(chn last x n l).2++post)
 | n,[]=>by rw [List.nil_append,chn_none last (fun r hr hc=>by simp [h r hr] at hc)]; rfl
 | n,r :: l=>by
  rw [List.cons_append]
  unfold chn
  simp only [chn_post last h (n:=n+1) (l:=l),chn_post last h (n:=n) (l:=l)]
  split
  ·split <;> rfl
  ·rfl
theorem chn_unfold (last:Bool) (x:Record) (n:Int):∀ {l:List Record},Srt l→(chn last x n l).1=match l.find? (fun r=>callB r x && decide (r.part=n)) with
  | none=>[]
  | some r=>r :: if last=true∧r.last=true then [] else (chn last x (n+1) l).1
 | [],_=>rfl
 | r :: l,h=>by
  have h2:=List.pairwise_cons.1 h
  by_cases hr:callB r x=true∧r.part=n
  ·rw [List.find?_cons_of_pos (by simp [hr.1,hr.2])]
   conv=>lhs; unfold chn
   rw [if_pos hr]
   have:(chn last x (n+1) (r :: l)).1=(chn last x (n+1) l).1:=by
    conv=>lhs; unfold chn
    rw [if_neg (by omega)]
   simp only [this]
   split <;> rfl
  ·rw [List.find?_cons_of_neg (by simpa using hr)]
   have e:(chn last x n (r :: l)).1=(chn last x n l).1:=by
    conv=>lhs; unfold chn
    rw [if_neg hr]
   rw [e,chn_unfold last x n h2.2]
   cases hf:l.find? (fun r=>callB r x && decide (r.part=n)) with
   | none=>rfl
   | some y =>
    have hy:=List.find?_some hf
    have hm:=List.mem_of_find?_eq_some hf
    simp at hy
    have:(chn last x (n+1) (r :: l)).1=(chn last x (n+1) l).1:=by
     conv=>lhs; unfold chn
     rw [if_neg (fun hc=>by
      have:=Le_part (h2.1 y hm) (callB_tr hc.1 (callB_symm hy.1))
      omega)]
    simp only [this]
def sumU:List Record→Int
 | []=>0
 | r :: l=>r.units+sumU l
def whR (q:Record) (u:Int):Record:=⟨q.source,q.serial,q.kind,q.a,q.b,q.start,u,0,0,false,q.trunk,q.inbound⟩
def aloneF (q:Record):Record:=whR q q.units
def Comm (p q:Record):Prop:=p.source=q.source∧p.call=q.call∧p.kind=q.kind∧p.a=q.a∧p.b=q.b∧p.trunk=q.trunk∧p.inbound=q.inbound
instance (a b:Record):Decidable (Comm a b):=by unfold Comm; infer_instance
def wholeF:List Record→Option Record
 | []=>none
 | q :: l=>if ((q :: l).all fun p=>decide (p.part≠0∧errF p=0∧Comm p q))=true∧errF (whR q (sumU (q :: l)))=0 then some (whR q (sumU (q :: l))) else none
def numB:Int→List Record→Bool
 | _,[]=>true
 | n,r :: l=>decide (r.part=n) && decide (r.last=l.isEmpty) && numB (n+1) l
def complF (l:List Record):Option Record:=if numB 1 l=true then wholeF l else none
theorem complF_nil:complF []=none:=rfl
def joinL:Nat→List Record→Record→List Record×List Record
 | 0,now,_=>([],now)
 | m+1,now,x=>match complF (chn true x 1 now).1 with
  | none=>([],now)
  | some w=>(w :: (joinL m (chn true x 1 now).2 x).1,(joinL m (chn true x 1 now).2 x).2)
def stepJ (now:List Record) (r:Record):List Record×List Record:=if r.part=0 then ([r],now) else joinL (now.length+2) (insP now r) r
def joinF:List Record→List Record→List Record×List Record
 | now,[]=>([],now)
 | now,r :: l=>((stepJ now r).1++(joinF (stepJ now r).2 l).1,(joinF (stepJ now r).2 l).2)
structure Opn (l:List Record):Prop where
 srt:Srt l
 ok:∀ r,r∈l→errF r=0∧r.part≠0
 nc:∀ x,complF (chn true x 1 l).1=none
theorem chn_len {last:Bool} {x:Record} {n:Int} {l:List Record}:(chn last x n l).1.length+(chn last x n l).2.length=l.length:=by
 have:=(chn_perm last x n l).length_eq
 rwa [List.length_append] at this
theorem compl_pos {l:List Record} {w:Record} (h:complF l=some w):l≠[]:=by intro e; rw [e,complF_nil] at h; cases h
theorem joinL_spec (x:Record):∀ (m:Nat) (now:List Record),now.length < m→complF (chn true x 1 (joinL m now x).2).1=none∧(joinL m now x).2.Sublist now∧(∀ q:Record→Bool,(∀ r,callB r x=true→q r=false)→(joinL m now x).2.filter q=now.filter q)
 | 0,now,h=>by omega
 | m+1,now,h=>by
  unfold joinL
  split
  ·rename_i hc
   exact ⟨hc,List.Sublist.refl _,fun _ _=>rfl⟩
  ·rename_i w hc
   have hl:=chn_len (last:=true) (x:=x) (n:=1) (l:=now)
   have hp:0 < (chn true x 1 now).1.length:=List.length_pos_iff.2 (compl_pos hc)
   obtain ⟨h1,h2,h3⟩:=joinL_spec x m (chn true x 1 now).2 (by omega)
   refine ⟨h1,h2.trans (chn_sub _ _ _ _),fun q hq=>?_⟩
   rw [h3 q hq,chn_filter true x q hq]
theorem stepJ_opn {now:List Record} {r:Record} (h:Opn now) (hr:errF r=0):Opn (stepJ now r).2:=by
 unfold stepJ
 split
 ·exact h
 ·rename_i hp
  obtain ⟨h1,h2,h3⟩:=joinL_spec r (now.length+2) (insP now r) (by rw [insP_len]; omega)
  refine ⟨(insP_srt h.srt).sublist h2,fun y hy=>?_,fun x=>?_⟩
  ·rcases insP_mem.1 (h2.subset hy) with e | hy
   ·rw [e]; exact ⟨hr,hp⟩
   ·exact h.ok y hy
  ·by_cases hc:callB x r=true
   ·rw [chn_eqx true hc]; exact h1
   ·have hq:∀ y,callB y r=true→(fun y=>callB y x) y=false:=fun y hy=>by
     cases hyx:callB y x with
     | false=>simpa using hyx
     | true=>exact absurd (callB_tr (callB_symm hyx) hy) hc
    have e:=h3 (fun y=>callB y x) hq
    rw [insP_filter _ (by simpa using hq r (by simp [callB]))] at e
    rw [←chn_filter_l true x (fun y=>callB y x) (fun _ h=>h),e,chn_filter_l true x _ (fun _ h=>h)]
    exact h.nc x
theorem joinF_opn:∀ {l now:List Record},Opn now→(∀ r,r∈l→errF r=0)→Opn (joinF now l).2
 | [],_,h,_=>h
 | r :: l,_,h,hl=>by
  unfold joinF
  exact joinF_opn (stepJ_opn h (hl r (List.mem_cons_self ..))) (fun y hy=>hl y (List.mem_cons_of_mem _ hy))
abbrev Dist (l:List Record):Prop:=l.Pairwise fun a b=>¬(callB a b=true∧a.part=b.part)
def fnd (T:List Record) (x:Record) (n:Int):Option Record:=T.find? (fun r=>callB r x && decide (r.part=n))
theorem dist_symm {a b:Record} (h:¬(callB a b=true∧a.part=b.part)):¬(callB b a=true∧b.part=a.part):=fun h'=>h ⟨callB_symm h'.1,h'.2.symm⟩
theorem Dist.perm {l l':List Record} (h:Dist l) (p:l.Perm l'):Dist l':=(p.pairwise_iff (fun h=>dist_symm h)).1 h
theorem fnd_iff {T:List Record} (h:Dist T) {x:Record} {n:Int} {r:Record}:fnd T x n=some r↔r∈T∧callB r x=true∧r.part=n:=by
 constructor
 ·intro hf
  have h1:=List.find?_some hf
  simp at h1
  exact ⟨List.mem_of_find?_eq_some hf,h1⟩
 ·intro ⟨hm,hc,hn⟩
  induction T with
  | nil=>cases hm
  | cons y T ih =>
   have h2:=List.pairwise_cons.1 h
   unfold fnd
   rcases List.mem_cons.1 hm with e | hm
   ·rw [←e,List.find?_cons_of_pos (by simp [hc,hn])]
   ·rw [List.find?_cons_of_neg (by
     intro hy; simp at hy
     exact h2.1 r hm ⟨callB_tr hy.1 (callB_symm hc),by omega⟩)]
    exact ih h2.2 hm
theorem fnd_perm {T T':List Record} (h:Dist T) (p:T.Perm T') (x:Record) (n:Int):fnd T x n=fnd T' x n:=by
 apply Option.ext
 intro r
 rw [fnd_iff h,fnd_iff (h.perm p),p.mem_iff]
def chS (T:List Record) (x:Record):Nat→Int→List Record
 | 0,_=>[]
 | m+1,n=>match fnd T x n with
  | none=>[]
  | some r=>r :: if r.last=true then [] else chS T x m (n+1)
theorem chS_congr {T T':List Record} {x y:Record} (h:∀ n,fnd T x n=fnd T' y n):∀ (m:Nat) (n:Int),chS T x m n=chS T' y m n
 | 0,_=>rfl
 | m+1,n=>by
  unfold chS
  rw [h n,chS_congr h m (n+1)]
theorem chS_mem {T:List Record} {x:Record}:∀ (m:Nat) (n:Int) (r:Record),r∈chS T x m n→r∈T∧callB r x=true
 | 0,_,r,h=>by cases h
 | m+1,n,r,h=>by
  unfold chS at h
  split at h
  ·cases h
  ·rename_i y hy
   have h1:=List.find?_some hy
   simp at h1
   rcases List.mem_cons.1 h with e | h
   ·rw [e]; exact ⟨List.mem_of_find?_eq_some hy,h1.1⟩
   ·split at h
    ·cases h
    ·exact chS_mem m (n+1) r h
theorem chn_chS {l:List Record} (h:Srt l) (hp:∀ r,r∈l→r.part≤99) (x:Record):∀ (m:Nat) (n:Int),100≤(m:Int)+n→(chn true x n l).1=chS l x m n
 | 0,n,hm=>by
  rw [chn_none true (fun r hr hc=>by have:=hp r hr; omega)]; rfl
 | m+1,n,hm=>by
  rw [chn_unfold true x n h]
  unfold chS fnd
  cases l.find? (fun r=>callB r x && decide (r.part=n)) with
  | none=>rfl
  | some r=>simp only [true_and]; rw [chn_chS h hp x m (n+1) (by omega)]
abbrev chT (T:List Record) (x:Record):List Record:=chS T x 99 1
theorem chn_chT {l:List Record} (h:Srt l) (hp:∀ r,r∈l→r.part≤99) (x:Record):(chn true x 1 l).1=chT l x:=chn_chS h hp x 99 1 (by omega)
theorem chT_perm {T T':List Record} (h:Dist T) (p:T.Perm T') (x:Record):chT T x=chT T' x:=chS_congr (fnd_perm h p x) _ _
theorem chT_eqx {T:List Record} {x y:Record} (h:callB x y=true):chT T x=chT T y:=chS_congr (fun n=>by
 unfold fnd
 congr 1
 funext r
 rw [callB_eq (a:=r) h]) _ _
theorem fnd_app_right {C U:List Record} {x:Record} (h:∀ r,r∈C→callB r x=false) (n:Int):fnd (C++U) x n=fnd U x n:=by
 unfold fnd
 rw [List.find?_append,List.find?_eq_none.2 (fun r hr=>by simp [h r hr])]
 rfl
theorem chS_mono {T S:List Record} {x:Record}:∀ (m:Nat) (n:Int),chS T x m n≠[]→((chS T x m n).getLast?.map (·.last))=some true→chS (T++S) x m n=chS T x m n
 | 0,_,h,_=>absurd rfl h
 | m+1,n,h,hl=>by
  unfold chS at h hl ⊢
  have e:∀ r,fnd T x n=some r→fnd (T++S) x n=some r:=fun r hr=>by
   unfold fnd at hr ⊢
   rw [List.find?_append,hr]; rfl
  cases hf:fnd T x n with
  | none=>rw [hf] at h; exact absurd rfl h
  | some r =>
   rw [hf] at hl
   simp only [e r hf]
   by_cases hr:r.last=true
   ·simp [hr]
   ·simp only [hr] at hl ⊢
    congr 1
    have hne:chS T x m (n+1)≠[]:=by
     intro h0
     simp [h0,hr] at hl
    refine chS_mono m (n+1) hne ?_
    simp only [Bool.false_eq_true,if_false] at hl
    rw [List.getLast?_cons] at hl
    cases hg:(chS T x m (n+1)).getLast? with
    | none=>rw [List.getLast?_eq_none_iff] at hg; exact absurd hg hne
    | some y=>rw [hg] at hl; simpa using hl
theorem numB_last:∀ (n:Int) (l:List Record),l≠[]→numB n l=true→l.getLast?.map (·.last)=some true
 | _,[],h,_=>absurd rfl h
 | n,[r],_,h=>by simp [numB] at h; simp [h]
 | n,r :: y :: l,_,h=>by
  unfold numB at h
  simp only [Bool.and_eq_true] at h
  rw [List.getLast?_cons_cons]
  exact numB_last (n+1) (y :: l) (by simp) h.2
theorem complF_last {l:List Record} {w:Record} (h:complF l=some w):l≠[]∧l.getLast?.map (·.last)=some true:=by
 have h0:=compl_pos h
 refine ⟨h0,numB_last 1 l h0 ?_⟩
 unfold complF at h
 split at h
 ·assumption
 ·cases h
def Red (T:List Record) (w:Record) (U:List Record):Prop:=Dist T∧∃ x,complF (chT T x)=some w∧T.Perm (chT T x++U)
theorem Red.perm {T T':List Record} {w:Record} {U:List Record} (h:Red T w U) (p:T.Perm T'):Red T' w U:=by
 obtain ⟨h1,x,h2,h3⟩:=h
 refine ⟨h1.perm p,x,?_,?_⟩
 ·rw [←chT_perm h1 p]; exact h2
 ·rw [←chT_perm h1 p]; exact p.symm.trans h3
theorem Red.len {T:List Record} {w:Record} {U:List Record} (h:Red T w U):U.length < T.length:=by
 obtain ⟨h1,x,h2,h3⟩:=h
 have:=h3.length_eq
 have h4:0 < (chT T x).length:=List.length_pos_iff.2 (compl_pos h2)
 rw [List.length_append] at this
 omega
theorem Red.dist {T:List Record} {w:Record} {U:List Record} (h:Red T w U):Dist U:=by
 obtain ⟨h1,x,h2,h3⟩:=h
 exact (List.pairwise_append.1 (h1.perm h3)).2.1
theorem filter_none {p:Record→Bool} {l:List Record} (h:∀ r,r∈l→p r=false):l.filter p=[]:=List.filter_eq_nil_iff.2 (fun r hr=>by simp [h r hr])
theorem filter_all {p:Record→Bool} {l:List Record} (h:∀ r,r∈l→p r=true):l.filter p=l:=List.filter_eq_self.2 h
theorem filter_split (p:Record→Bool) (l:List Record):l.Perm (l.filter p++l.filter (fun r=>!p r)):=(List.filter_append_perm p l).symm
theorem Red.diamond {T:List Record} {w1 w2:Record} {U1 U2:List Record} (h1:Red T w1 U1) (h2:Red T w2 U2):(w1=w2∧U1.Perm U2)∨∃ V,Red U1 w2 V∧Red U2 w1 V:=by
 have d1:=h1.dist
 have d2:=h2.dist
 obtain ⟨hd,x,hx,px⟩:=h1
 obtain ⟨_,y,hy,py⟩:=h2
 by_cases hc:callB x y=true
 ·left
  rw [chT_eqx hc] at hx px
  rw [hx] at hy
  exact ⟨by injection hy,(List.perm_append_left_iff _).1 (px.symm.trans py)⟩
 ·right
  have nx:∀ r,r∈chT T x→callB r y=false:=fun r hr=>by
   cases hry:callB r y with
   | false=>rfl
   | true=>exact absurd (callB_tr (callB_symm (chS_mem _ _ r hr).2) hry) hc
  have ny:∀ r,r∈chT T y→callB r x=false:=fun r hr=>by
   cases hrx:callB r x with
   | false=>rfl
   | true=>exact absurd (callB_symm (callB_tr (callB_symm (chS_mem _ _ r hr).2) hrx)) hc
  have e1:chT U1 y=chT T y:=by
   rw [chT_perm hd px y]
   exact (chS_congr (fnd_app_right nx) _ _).symm
  have e2:chT U2 x=chT T x:=by
   rw [chT_perm hd py x]
   exact (chS_congr (fnd_app_right ny) _ _).symm
  have fy:=px.symm.trans py
  have q1:=fy.filter (fun r=>callB r y)
  rw [List.filter_append,List.filter_append,filter_none nx,filter_all (fun r hr=>(chS_mem _ _ r hr).2),List.nil_append] at q1
  have p1:U1.Perm (chT T y++(U2.filter (fun r=>callB r y)++U1.filter (fun r=>!callB r y))):=by
   refine (filter_split (fun r=>callB r y) U1).trans ?_
   rw [←List.append_assoc]
   exact q1.append_right _
  refine ⟨U2.filter (fun r=>callB r y)++U1.filter (fun r=>!callB r y),⟨d1,y,by rw [e1]; exact hy,by rw [e1]; exact p1⟩,⟨d2,x,by rw [e2]; exact hx,?_⟩⟩
  rw [e2]
  have k1:T.Perm (chT T y++(chT T x++(U2.filter (fun r=>callB r y)++U1.filter (fun r=>!callB r y)))):=by
   refine px.trans ((p1.append_left _).trans ?_)
   rw [←List.append_assoc,←List.append_assoc (chT T y)]
   exact List.perm_append_comm.append_right _
  exact (List.perm_append_left_iff _).1 (py.symm.trans k1)
inductive Reds:List Record→List Record→List Record→Prop where
 | nil {T U:List Record}:T.Perm U→Reds T [] U
 | cons {T U V:List Record} {w:Record} {o:List Record}:Red T w U→Reds U o V→Reds T (w :: o) V
def NF (T:List Record):Prop:=∀ w U,¬ Red T w U
theorem Reds.perm {T T' o U:List Record} (h:Reds T o U) (p:T.Perm T'):Reds T' o U:=by
 cases h with
 | nil q=>exact .nil (p.symm.trans q)
 | cons r s=>exact .cons (r.perm p) s
theorem Reds.ex:∀ (n:Nat) (T:List Record),T.length≤n→∃ o U,Reds T o U∧NF U
 | n,T,hn=>by
  by_cases h:NF T
  ·exact ⟨[],T,.nil (.refl _),h⟩
  ·simp only [NF,Classical.not_forall,Classical.not_not] at h
   obtain ⟨w,U,h⟩:=h
   have hl:=h.len
   match n,hn with
   | 0,hn=>omega
   | n+1,hn =>
    obtain ⟨o,V,h1,h2⟩:=Reds.ex n U (by omega)
    exact ⟨w :: o,V,.cons h h1,h2⟩
theorem Reds.uniq:∀ (n:Nat) {T o1 o2 U1 U2:List Record},T.length≤n→Reds T o1 U1→NF U1→Reds T o2 U2→NF U2→o1.Perm o2∧U1.Perm U2
 | n,T,o1,o2,U1,U2,hn,h1,n1,h2,n2=>by
  cases h1 with
  | nil p1 =>
   cases h2 with
   | nil p2=>exact ⟨.refl _,p1.symm.trans p2⟩
   | cons r s=>exact absurd (r.perm p1) (n1 _ _)
  | cons r1 s1 =>
   rename_i V1 w1 q1
   cases h2 with
   | nil p2=>exact absurd (r1.perm p2) (n2 _ _)
   | cons r2 s2 =>
    rename_i V2 w2 q2
    have l1:=r1.len
    have l2:=r2.len
    match n,hn with
    | 0,hn=>omega
    | n+1,hn =>
     rcases r1.diamond r2 with ⟨e,p⟩ | ⟨V,k1,k2⟩
     ·obtain ⟨a,b⟩:=Reds.uniq n (by omega) s1 n1 (s2.perm p.symm) n2
      rw [e]
      exact ⟨a.cons _,b⟩
     ·obtain ⟨o3,U3,s3,n3⟩:=Reds.ex V.length V (Nat.le_refl _)
      obtain ⟨a1,b1⟩:=Reds.uniq n (by omega) s1 n1 (.cons k1 s3) n3
      obtain ⟨a2,b2⟩:=Reds.uniq n (by omega) s2 n2 (.cons k2 s3) n3
      exact ⟨(a1.cons _).trans ((List.Perm.swap _ _ _).trans (a2.cons _).symm),b1.trans b2.symm⟩
theorem Red.app {T:List Record} {w:Record} {U S:List Record} (h:Red T w U) (hd:Dist (T++S)):Red (T++S) w (U++S):=by
 obtain ⟨h1,x,h2,h3⟩:=h
 obtain ⟨c1,c2⟩:=complF_last h2
 have e:chT (T++S) x=chT T x:=chS_mono _ _ c1 c2
 refine ⟨hd,x,by rw [e]; exact h2,?_⟩
 rw [e,←List.append_assoc]
 exact h3.append_right _
theorem Reds.app {T o U S:List Record} (h:Reds T o U) (hd:Dist (T++S)):Reds (T++S) o (U++S):=by
 induction h with
 | nil p=>exact .nil (p.append_right _)
 | cons r s ih =>
  rename_i T U V w o
  refine .cons (r.app hd) (ih ?_)
  obtain ⟨h1,x,h2,h3⟩:=r
  have:=hd.perm (h3.append_right S)
  rw [List.append_assoc] at this
  exact (List.pairwise_append.1 this).2.1
theorem Reds.trans {T o U o' V:List Record} (h:Reds T o U) (h':Reds U o' V):Reds T (o++o') V:=by
 induction h with
 | nil p=>exact h'.perm p.symm
 | cons r s ih=>exact .cons r (ih h')
theorem joinL_reds (x:Record):∀ (m:Nat) (now:List Record),Srt now→(∀ r,r∈now→r.part≤99)→Dist now→Reds now (joinL m now x).1 (joinL m now x).2
 | 0,now,_,_,_=>.nil (.refl _)
 | m+1,now,hs,hp,hd=>by
  unfold joinL
  split
  ·exact .nil (.refl _)
  ·rename_i w hc
   have hsub:=chn_sub true x 1 now
   rw [chn_chT hs hp] at hc
   have hr:Red now w (chn true x 1 now).2:=⟨hd,x,hc,by rw [←chn_chT hs hp]; exact (chn_perm true x 1 now).symm⟩
   exact .cons hr (joinL_reds x m _ (hs.sublist hsub) (fun r h=>hp r (hsub.subset h)) hr.dist)
def partsB (r:Record):Bool:=decide (r.part≠0)
theorem joinF_reds:∀ (l now:List Record),Opn now→(∀ r,r∈l→errF r=0)→Dist (now++l.filter partsB)→∃ ws,(joinF now l).1.Perm (l.filter (fun r=>!partsB r)++ws)∧Reds (now++l.filter partsB) ws (joinF now l).2
 | [],now,h,_,hd=>⟨[],.refl _,by simp only [List.filter_nil,List.append_nil]; exact .nil (.refl _)⟩
 | r :: l,now,h,hl,hd=>by
  have hr:=hl r (List.mem_cons_self ..)
  have hs:=stepJ_opn h hr
  by_cases hp:r.part=0
  ·have e:stepJ now r=([r],now):=by unfold stepJ; rw [if_pos hp]
   have f1:(r :: l).filter partsB=l.filter partsB:=List.filter_cons_of_neg (by simp [partsB,hp])
   have f2:(r :: l).filter (fun r=>!partsB r)=r :: l.filter (fun r=>!partsB r):=List.filter_cons_of_pos (by simp [partsB,hp])
   rw [f1] at hd ⊢
   rw [f2]
   obtain ⟨ws,h1,h2⟩:=joinF_reds l now h (fun y hy=>hl y (List.mem_cons_of_mem _ hy)) hd
   refine ⟨ws,?_,?_⟩
   ·unfold joinF
    rw [e]
    exact h1.cons r
   ·unfold joinF
    rw [e]
    exact h2
  ·have e:stepJ now r=joinL (now.length+2) (insP now r) r:=by unfold stepJ; rw [if_neg hp]
   have f1:(r :: l).filter partsB=r :: l.filter partsB:=List.filter_cons_of_pos (by simp [partsB,hp])
   have f2:(r :: l).filter (fun r=>!partsB r)=l.filter (fun r=>!partsB r):=List.filter_cons_of_neg (by simp [partsB,hp])
   rw [f1] at hd ⊢
   rw [f2]
   have pp:(now++r :: l.filter partsB).Perm (insP now r++l.filter partsB):=List.perm_middle.trans ((insP_perm now r).symm.append_right _)
   have hd':=hd.perm pp
   have hn:∀ y,y∈insP now r→y.part≤99:=fun y hy=>by
    rcases insP_mem.1 hy with e | hy
    ·rw [e]; exact (errF_good hr).part.2
    ·exact (errF_good (h.ok y hy).1).part.2
   have r1:=(joinL_reds r (now.length+2) (insP now r) (insP_srt h.srt) hn (List.pairwise_append.1 hd').1).app hd'
   rw [←e] at r1
   have hd2:Dist ((stepJ now r).2++l.filter partsB):=by
    have key:∀ {T o U:List Record},Reds T o U→Dist T→Dist U:=by
     intro T o U hh
     induction hh with
     | nil p=>exact fun h=>h.perm p
     | cons r s ih=>exact fun _=>ih r.dist
    exact key r1 hd'
   obtain ⟨ws,h1,h2⟩:=joinF_reds l (stepJ now r).2 hs (fun y hy=>hl y (List.mem_cons_of_mem _ hy)) hd2
   refine ⟨(stepJ now r).1++ws,?_,?_⟩
   ·unfold joinF
    refine (h1.append_left _).trans ?_
    rw [←List.append_assoc,←List.append_assoc]
    exact (List.perm_append_comm (l₁:=(stepJ now r).1)).append_right _
   ·unfold joinF
    exact (r1.trans h2).perm pp.symm
theorem srt_uniq:∀ {l l':List Record},Srt l→Srt l'→Dist l→l.Perm l'→l=l'
 | [],l',_,_,_,p=>p.nil_eq
 | a :: l,[],_,_,_,p=>absurd p.length_eq (by simp)
 | a :: l,b :: l',h,h',hd,p=>by
  have h1:=List.pairwise_cons.1 h
  have h2:=List.pairwise_cons.1 h'
  have d1:=List.pairwise_cons.1 hd
  have hab:a=b:=by
   have hb:b∈a :: l:=p.mem_iff.2 (List.mem_cons_self ..)
   have ha:a∈b :: l':=p.mem_iff.1 (List.mem_cons_self ..)
   rcases List.mem_cons.1 hb with e | hb
   ·exact e.symm
   ·rcases List.mem_cons.1 ha with e | ha
    ·exact e
    ·have k1:=h1.1 b hb
     have k2:=h2.1 a ha
     have k3:=d1.1 b hb
     rw [Le_iff] at k1 k2
     rw [callB_iff] at k3
     exfalso; omega
  subst hab
  rw [srt_uniq h1.2 h2.2 d1.2 ((List.perm_cons a).1 p)]
theorem opn_nf {l:List Record} (h:Opn l):NF l:=by
 intro w U ⟨hd,x,hx,_⟩
 rw [←chn_chT h.srt (fun r hr=>(errF_good (h.ok r hr).1).part.2) x,h.nc x] at hx
 cases hx
theorem joinF_order {now l l':List Record} (h:Opn now) (hl:∀ r,r∈l→errF r=0) (hd:Dist (now++l.filter partsB)) (p:l.Perm l'):(joinF now l).2=(joinF now l').2∧(joinF now l).1.Perm (joinF now l').1:=by
 have hl':∀ r,r∈l'→errF r=0:=fun r hr=>hl r (p.mem_iff.2 hr)
 have pf:=(p.filter partsB).append_left now
 obtain ⟨w1,a1,b1⟩:=joinF_reds l now h hl hd
 obtain ⟨w2,a2,b2⟩:=joinF_reds l' now h hl' (hd.perm pf)
 have o1:=joinF_opn h hl
 have o2:=joinF_opn h hl'
 obtain ⟨c1,c2⟩:=Reds.uniq _ (Nat.le_refl _) b1 (opn_nf o1) (b2.perm pf.symm) (opn_nf o2)
 have key:∀ {T o U:List Record},Reds T o U→Dist T→Dist U:=by
  intro T o U hh
  induction hh with
  | nil p=>exact fun h=>h.perm p
  | cons r s ih=>exact fun _=>ih r.dist
 refine ⟨srt_uniq o1.srt o2.srt (key b1 hd) c2,a1.trans (((p.filter _).append c1).trans a2.symm)⟩
def pickA:Int→List Int→List Record→List Record×List Record
 | _,_,[]=>([],[])
 | _,[],r :: l=>([],r :: l)
 | i,a :: at',r :: l=>if a=i then (r :: (pickA (i+1) at' l).1,(pickA (i+1) at' l).2) else ((pickA (i+1) (a :: at') l).1,r :: (pickA (i+1) (a :: at') l).2)
def posF (last:Bool) (x:Record):Int→Int→List Record→List Int
 | _,_,[]=>[]
 | n,i,r :: l=>if callB r x=true∧r.part=n then (if last=true∧r.last=true then [i] else i :: posF last x (n+1) (i+1) l) else posF last x n (i+1) l
theorem pickA_nil (i:Int) (l:List Record):pickA i [] l=([],l):=by cases l <;> rfl
theorem posF_ge (last:Bool) (x:Record):∀ (n i:Int) (l:List Record),∀ a,a∈posF last x n i l→i≤a∧a < i+l.length
 | _,_,[]=>by simp [posF]
 | n,i,r :: l=>by
  intro a h
  unfold posF at h
  simp only [List.length_cons]
  split at h
  ·split at h
   ·simp at h; omega
   ·rcases List.mem_cons.1 h with e | h
    ·omega
    ·have:=posF_ge last x (n+1) (i+1) l a h; omega
  ·have:=posF_ge last x n (i+1) l a h; omega
theorem posF_asc (last:Bool) (x:Record):∀ (n i:Int) (l:List Record),(posF last x n i l).Pairwise (· < ·)
 | _,_,[]=>.nil
 | n,i,r :: l=>by
  unfold posF
  split
  ·split
   ·simp
   ·refine List.pairwise_cons.2 ⟨fun a ha=>?_,posF_asc last x (n+1) (i+1) l⟩
    have:=posF_ge last x (n+1) (i+1) l a ha; omega
  ·exact posF_asc last x n (i+1) l
theorem pickA_skip {i:Int} {at':List Int} {r:Record} {l:List Record} (h:∀ a,a∈at'→i+1≤a):pickA i at' (r :: l)=((pickA (i+1) at' l).1,r :: (pickA (i+1) at' l).2):=by
 cases at' with
 | nil=>rw [pickA_nil,pickA_nil]
 | cons a at' =>
  conv=>lhs; unfold pickA
  rw [if_neg (by have:=h a (List.mem_cons_self ..); omega)]
theorem pickA_posF (last:Bool) (x:Record):∀ (n i:Int) (l:List Record),pickA i (posF last x n i l) l=chn last x n l
 | _,_,[]=>by simp [posF,pickA,chn]
 | n,i,r :: l=>by
  unfold posF chn
  split
  ·split
   ·unfold pickA
    rw [if_pos rfl,pickA_nil]
   ·unfold pickA
    rw [if_pos rfl,pickA_posF last x (n+1) (i+1) l]
  ·rw [pickA_skip (fun a ha=>(posF_ge _ _ _ _ _ a ha).1),pickA_posF last x n (i+1) l]
theorem pickA_perm:∀ (i:Int) (at':List Int) (l:List Record),((pickA i at' l).1++(pickA i at' l).2).Perm l
 | _,_,[]=>by simp [pickA]
 | _,[],r :: l=>.refl _
 | i,a :: at',r :: l=>by
  unfold pickA
  split
  ·exact (pickA_perm (i+1) at' l).cons r
  ·exact (List.perm_middle).trans ((pickA_perm (i+1) (a :: at') l).cons r)
def shrF (l:List Record) (at':List Int):Nat→List Int
 | 0=>[]
 | m+1=>if (wholeF (pickA 0 (at'.take (m+1)) l).1).isSome=true then at'.take (m+1) else shrF l at' m
def endF:List Record→List Record
 | []=>[]
 | x :: l=>(wholeF (pickA 0 (shrF (x :: l) (posF false x 1 0 (x :: l)) (posF false x 1 0 (x :: l)).length) (x :: l)).1).toList++(pickA 0 (shrF (x :: l) (posF false x 1 0 (x :: l)) (posF false x 1 0 (x :: l)).length) (x :: l)).2.map aloneF
def runF (x:Record) (l:List Record):List Record:=l.takeWhile (fun r=>callB r x)
def restF (x:Record) (l:List Record):List Record:=l.dropWhile (fun r=>callB r x)
def expF (b:Int):Nat→List Record→List Record×List Record
 | 0,_=>([],[])
 | _+1,[]=>([],[])
 | m+1,x :: l=>if (runF x (x :: l)).any (fun r=>decide (b≤r.start))=true then ((expF b m (restF x (x :: l))).1,runF x (x :: l)++(expF b m (restF x (x :: l))).2)
  else (endF (runF x (x :: l))++(expF b m (restF x (x :: l))).1,(expF b m (restF x (x :: l))).2)
theorem callB_refl (x:Record):callB x x=true:=by simp [callB]
theorem run_rest (x:Record) (l:List Record):runF x l++restF x l=l:=List.takeWhile_append_dropWhile
theorem run_call {x:Record} {l:List Record}:∀ r,r∈runF x l→callB r x=true:=fun r h=>by
 have:=List.all_takeWhile (p:=fun r=>callB r x) (l:=l)
 rw [List.all_eq_true] at this
 exact this r h
theorem rest_len (x:Record) (l:List Record):(restF x (x :: l)).length≤l.length:=by
 unfold restF
 rw [List.dropWhile_cons_of_pos (p:=fun r=>callB r x) (callB_refl x)]
 exact List.Sublist.length_le (List.dropWhile_sublist _)
theorem rest_call {x:Record} {l:List Record} (h:Srt (x :: l)):∀ r,r∈restF x (x :: l)→callB r x=false:=by
 intro r hr
 unfold restF at hr
 rw [List.dropWhile_cons_of_pos (p:=fun r=>callB r x) (callB_refl x)] at hr
 have h2:=List.pairwise_cons.1 h
 have hs:(l.dropWhile (fun r=>callB r x)).Sublist l:=List.dropWhile_sublist _
 have h3:=h2.2.sublist hs
 cases hd:l.dropWhile (fun r=>callB r x) with
 | nil=>rw [hd] at hr; cases hr
 | cons y t =>
  have hy:callB y x=false:=by
   have:=List.head?_dropWhile_not (fun r=>callB r x) l
   rw [hd] at this
   simpa using this
  rw [hd] at hr h3
  rcases List.mem_cons.1 hr with e | hr
  ·rw [e]; exact hy
  ·have k1:=h2.1 y (hs.subset (by rw [hd]; exact List.mem_cons_self ..))
   have k2:=(List.pairwise_cons.1 h3).1 r hr
   cases hc:callB r x with
   | false=>rfl
   | true =>
    exfalso
    rw [Le_iff] at k1 k2
    rw [callB_iff] at hc
    have:¬ callB y x=true:=by rw [hy]; simp
    rw [callB_iff] at this
    omega
theorem sumT_perm {l l':List Record} (p:l.Perm l') (k:Nat):sumT l k=sumT l' k:=by
 induction p with
 | nil=>rfl
 | cons x p ih=>simp only [sumT,ih]
 | swap x y l=>simp only [sumT]; omega
 | trans p q ih1 ih2=>exact ih1.trans ih2
theorem good_okT {r:Record} (h:errF r=0):okT r=true:=by
 have g:=errF_good h
 have:=g.kind
 have:=g.units
 unfold okT
 simp; omega
theorem sumT_parts {q:Record} (k:Nat):∀ (l:List Record),(∀ p,p∈l→errF p=0∧p.kind=q.kind)→sumT l k=if q.kind.toNat=k then sumU l else 0
 | [],_=>by simp [sumT,sumU]
 | r :: l,h=>by
  have hr:=h r (List.mem_cons_self ..)
  have ih:=sumT_parts k l (fun p hp=>h p (List.mem_cons_of_mem _ hp))
  simp only [sumT,sumU,ih,conT,good_okT hr.1,hr.2,true_and]
  split <;> omega
theorem conT_whole {l:List Record} {w:Record} (h:wholeF l=some w) (k:Nat):conT w k=sumT l k:=by
 unfold wholeF at h
 split at h
 ·cases h
 ·rename_i q l
  split at h
  ·rename_i hc
   cases h
   rw [sumT_parts (q:=q) k (q :: l) (fun p hp=>by
    have:=List.all_eq_true.1 hc.1 p hp
    simp only [decide_eq_true_eq] at this
    exact ⟨this.2.1,this.2.2.2.2.1⟩)]
   unfold conT
   rw [good_okT hc.2]
   simp [whR]
  ·cases h
theorem compl_whole {l:List Record} {w:Record} (h:complF l=some w):wholeF l=some w:=by
 unfold complF at h
 split at h
 ·exact h
 ·cases h
theorem joinL_sum (x:Record) (k:Nat):∀ (m:Nat) (now:List Record),sumT (joinL m now x).1 k+sumT (joinL m now x).2 k=sumT now k
 | 0,now=>by simp [joinL,sumT]
 | m+1,now=>by
  unfold joinL
  split
  ·simp [sumT]
  ·rename_i w hc
   have h1:=sumT_perm (chn_perm true x 1 now) k
   have h2:=conT_whole (compl_whole hc) k
   have h3:=joinL_sum x k m (chn true x 1 now).2
   rw [sumT_app] at h1
   simp only [sumT]
   omega
theorem joinF_sum (k:Nat):∀ (l now:List Record),sumT (joinF now l).1 k+sumT (joinF now l).2 k=sumT now k+sumT l k
 | [],now=>by simp [joinF,sumT]
 | r :: l,now=>by
  have ih:=joinF_sum k l (stepJ now r).2
  have hs:sumT (stepJ now r).1 k+sumT (stepJ now r).2 k=sumT now k+conT r k:=by
   unfold stepJ
   split
   ·simp [sumT]; omega
   ·have h1:=joinL_sum r k (now.length+2) (insP now r)
    have h2:=sumT_perm (insP_perm now r) k
    simp only [sumT] at h2
    omega
  simp only [joinF,sumT_app,sumT]
  omega
theorem shrF_nil_or (l:List Record) (at':List Int):∀ m,(wholeF (pickA 0 (shrF l at' m) l).1).isSome=true∨shrF l at' m=[]
 | 0=>.inr rfl
 | m+1=>by
  unfold shrF
  split
  ·left; assumption
  ·exact shrF_nil_or l at' m
theorem sumT_alone (k:Nat):∀ (l:List Record),sumT (l.map aloneF) k=sumT l k
 | []=>rfl
 | r :: l=>by simp only [List.map_cons,sumT,sumT_alone k l]; rfl
theorem endF_sum (k:Nat):∀ (l:List Record),sumT (endF l) k=sumT l k
 | []=>rfl
 | x :: l=>by
  unfold endF
  have hp:=sumT_perm (pickA_perm 0 (shrF (x :: l) (posF false x 1 0 (x :: l)) (posF false x 1 0 (x :: l)).length) (x :: l)) k
  rw [sumT_app] at hp ⊢
  rw [sumT_alone]
  rcases shrF_nil_or (x :: l) (posF false x 1 0 (x :: l)) (posF false x 1 0 (x :: l)).length with h | h
  ·rw [Option.isSome_iff_exists] at h
   obtain ⟨w,hw⟩:=h
   have:=conT_whole hw k
   have e:sumT [w] k=conT w k:=by simp [sumT]
   rw [hw,Option.toList_some,e]
   omega
  ·rw [h] at hp ⊢
   rw [pickA_nil]
   show (0:Int)+sumT (x :: l) k=sumT (x :: l) k
   omega
theorem expF_sum (b:Int) (k:Nat):∀ (m:Nat) (l:List Record),l.length≤m→sumT (expF b m l).1 k+sumT (expF b m l).2 k=sumT l k
 | 0,[],_=>rfl
 | m+1,[],_=>rfl
 | m+1,x :: l,hm=>by
  have hl:=rest_len x l
  have ih:=expF_sum b k m (restF x (x :: l)) (by simp only [List.length_cons] at hm; omega)
  have hd:sumT (x :: l) k=sumT (runF x (x :: l)) k+sumT (restF x (x :: l)) k:=by rw [←sumT_app,run_rest]
  unfold expF
  split
  ·simp only [sumT_app]; omega
  ·simp only [sumT_app,endF_sum]; omega
theorem loop_rec {S R α:Type} [Inhabited α] {step:S→Option (S ⊕ R)} (l:List α) (idx:S→Int) (F:S→List α→Option R) (I:S→List α→Prop) (hl:l.length < 1000000000)
  (h0:∀ s,I s []→idx s=(l.length:Int)→∃ r,step s=some (.inr r)∧F s []=some r)
  (h1:∀ s a t,I s (a :: t)→0≤idx s→idx s < (l.length:Int)→nth l (idx s).toNat=a→idx s+1+(t.length:Int)=(l.length:Int) →
   (∃ r,step s=some (.inr r)∧F s (a :: t)=some r)∨∃ s',step s=some (.inl s')∧I s' t∧idx s'=idx s+1∧F s' t=F s (a :: t))
  {s:S} (hi:0≤idx s∧idx s≤(l.length:Int)) (hI:I s (l.drop (idx s).toNat)):loop step s=F s (l.drop (idx s).toNat):=by
 refine loop_spec (step:=step) (fun s=>F s (l.drop (idx s).toNat)) (fun s=>(0≤idx s∧idx s≤(l.length:Int))∧I s (l.drop (idx s).toNat)) (fun s=>((l.length:Int) - idx s).toNat) (fun s hs=>?_) ⟨hi,hI⟩ (by omega)
 obtain ⟨⟨b0,b1⟩,hs⟩:=hs
 by_cases hlt:idx s < (l.length:Int)
 ·have hd:=drop_nth (l:=l) (k:=(idx s).toNat) (by omega)
  rw [hd] at hs ⊢
  rcases h1 s _ _ hs b0 hlt rfl (by rw [List.length_drop]; omega) with ⟨r,e1,e2⟩ | ⟨s',e1,e2,e3,e4⟩
  ·exact .inl ⟨r,e1,e2⟩
  ·refine .inr ⟨s',e1,⟨by omega,?_⟩,by omega,?_⟩
   ·rw [e3,show (idx s+1).toNat=(idx s).toNat+1 from by omega]; exact e2
   ·rw [e3,show (idx s+1).toNat=(idx s).toNat+1 from by omega]; exact e4
 ·have he:idx s=(l.length:Int):=by omega
  rw [List.drop_of_length_le (by omega)] at hs ⊢
  exact .inl (h0 s hs he)
theorem loop_rec0 {S R α:Type} [Inhabited α] {step:S→Option (S ⊕ R)} (l:List α) (idx:S→Int) (F:S→List α→Option R) (I:S→List α→Prop) (hl:l.length < 1000000000)
  (h0:∀ s,I s []→idx s=(l.length:Int)→∃ r,step s=some (.inr r)∧F s []=some r)
  (h1:∀ s a t,I s (a :: t)→0≤idx s→idx s < (l.length:Int)→nth l (idx s).toNat=a→idx s+1+(t.length:Int)=(l.length:Int) →
   (∃ r,step s=some (.inr r)∧F s (a :: t)=some r)∨∃ s',step s=some (.inl s')∧I s' t∧idx s'=idx s+1∧F s' t=F s (a :: t))
  {s:S} (hi:idx s=0) (hI:I s l):loop step s=F s l:=by
 have:=loop_rec l idx F I hl h0 h1 (s:=s) ⟨by omega,by omega⟩ (by rw [hi]; exact hI)
 rw [hi] at this
 exact this
def Sm (r:Record):Prop:=r.a.length≤200∧r.b.length≤200
instance (r:Record):Decidable (Sm r):=by unfold Sm; infer_instance
theorem p_Check (r:Record) (h:Sm r):f_validate_Check r=some (errF r):=by
 unfold f_validate_Check
 unfold Sm at h
 rw [p_Encode r (by omega) (by omega)]; rfl
theorem p_rCheck (r:Record) (h:Sm r):f_r13_Check r=some (errF r):=by
 unfold f_r13_Check
 unfold Sm at h
 rw [p_rError r (by omega) (by omega)]; rfl
theorem good_sm {r:Record} (h:errF r=0):Sm r:=by
 have g:=errF_good h
 have ha:=validB_len g.a
 unfold Sm
 rcases g.b with h | h
 ·have:=validB_len h; omega
 ·rw [h.2]; simp; omega
theorem Record.eq_refl (r:Record):eqVs r.vals r.vals=true:=by simp [Record.vals,eqVs,eqV]
theorem sm_wh {q:Record} (h:Sm q) (u:Int):Sm (whR q u):=h
def noR:Record×Bool:=((⟨0,0,0,([]:List UInt8),([]:List UInt8),0,0,0,0,false,0,false⟩:Record),false)
def optR:Option Record→Record×Bool
 | none=>noR
 | some w=>(w,true)
def okP (q p:Record):Prop:=p.part≠0∧errF p=0∧Comm p q
instance (q p:Record):Decidable (okP q p):=by unfold okP; infer_instance
theorem whole_fewer {q:Record} {u v:Int} (h:errF (whR q v)=0) (h0:0≤u) (h1:u≤v):errF (whR q u)=0:=by
 have g:=errF_good h
 unfold errF whR at h ⊢
 simp only at h ⊢
 split at h; · cases h
 split at h; · cases h
 split at h; · cases h
 split at h; · cases h
 split at h; · cases h
 split at h; · cases h
 rename_i q1 q2 q3 q4 q5 q6
 rw [if_neg q1,if_neg q2,if_neg q3,if_neg q4,if_neg (by omega),if_neg (by omega)]
 exact h
theorem sumU_pos {q:Record}:∀ {t:List Record},(∀ p,p∈t→okP q p)→0≤sumU t
 | [],_=>by simp [sumU]
 | r :: t,h=>by
  have:=sumU_pos (fun p hp=>h p (List.mem_cons_of_mem _ hp))
  have:=(errF_good (h r (List.mem_cons_self ..)).2.1).units
  simp only [sumU]; omega
def whW (q:Record) (u:Int) (t:List Record):Option Record:=if (t.all fun p=>decide (okP q p))=true∧errF (whR q (u+sumU t))=0 then some (whR q (u+sumU t)) else none
theorem wholeF_whW (q:Record) (l:List Record):wholeF (q :: l)=whW q 0 (q :: l):=by
 unfold wholeF whW
 rw [Int.zero_add]
 rfl
theorem whW_cons {q:Record} {u:Int} {r:Record} {t:List Record} (h:okP q r):whW q u (r :: t)=whW q (u+r.units) t:=by
 unfold whW
 have e:u+sumU (r :: t)=u+r.units+sumU t:=by simp only [sumU]; omega
 rw [e,List.all_cons,decide_eq_true h,Bool.true_and]
theorem whW_bad {q:Record} {u:Int} {r:Record} {t:List Record} (h:¬ okP q r):whW q u (r :: t)=none:=by
 unfold whW
 rw [List.all_cons,decide_eq_false h,Bool.false_and,if_neg (by simp)]
theorem whW_over {q:Record} {u:Int} {t:List Record} (h0:0≤u) (h:errF (whR q u)≠0):whW q u t=none:=by
 unfold whW
 rw [if_neg]
 rintro ⟨h1,h2⟩
 have hp:=sumU_pos (q:=q) (t:=t) (fun p hp=>by have:=List.all_eq_true.1 h1 p hp; simpa using this)
 exact h (whole_fewer h2 h0 (by omega))
theorem comm_vals (p q:Record):eqVs (CorrelateCommon.vals (⟨⟨p.source,p.call⟩,p.kind,p.a,p.b,p.trunk,p.inbound⟩:CorrelateCommon)) (CorrelateCommon.vals (⟨⟨q.source,q.call⟩,q.kind,q.a,q.b,q.trunk,q.inbound⟩:CorrelateCommon))=decide (Comm p q):=by
 rw [Bool.eq_iff_iff,decide_eq_true_iff]
 simp [CorrelateCommon.vals,eqVs,eqV,Comm]
theorem p_whole (l:List Record) (hs:∀ r,r∈l→Sm r) (hl:l.length≤1000):f_correlate_whole l=some (optR (wholeF l)):=by
 cases l with
 | nil=>rfl
 | cons q l =>
  rw [wholeF_whW]
  unfold f_correlate_whole
  have hq:=hs q (List.mem_cons_self ..)
  have e0:nth (q :: l) (Int.toNat 0)=q:=rfl
  rw [if_neg (by simp; omega),ck_pos (by simp),e0]
  simp only [f_correlate_alone,Option.bind_some]
  refine loop_rec0 (q :: l) (fun s:Int×Int=>s.1) (fun s t=>some (optR (whW q s.2 t))) (fun s t=>0≤s.2∧s.2≤1099511627776∧∀ r,r∈t→Sm r) (by omega) ?_ ?_ rfl ⟨by decide,by decide,hs⟩
  ·rintro ⟨i,u⟩ ⟨h0,h1,h2⟩ hi
   simp only at h0 h1 hi ⊢
   unfold f_correlate_whole_l1 f_correlate_whole_j1
   rw [if_neg (by simp only [decide_eq_true_eq]; omega)]
   change ∃ r,Option.map _ ((f_validate_Check (whR q u)).bind _)=_∧_
   rw [p_Check _ (sm_wh hq u)]
   simp only [Option.bind_some,whW,List.all_nil,sumU,true_and,Int.add_zero]
   by_cases he:errF (whR q u)=0
   ·rw [if_neg (by simp [he]),if_pos he]
    exact ⟨_,rfl,rfl⟩
   ·rw [if_pos (by simpa using he),if_neg he]
    exact ⟨_,rfl,rfl⟩
  ·rintro ⟨i,u⟩ r t ⟨h0,h1,h2⟩ hi0 hi1 hn hlen
   simp only at h0 h1 hi0 hi1 hn hlen ⊢
   unfold f_correlate_whole_l1
   have hr:=h2 r (List.mem_cons_self ..)
   rw [if_pos (by simpa using hi1),ck_pos ⟨hi0,hi1⟩,hn,p_Check r hr,e0]
   simp only [f_correlate_commonOf,f_correlate_callOf,gcall_mk,Option.bind_some]
   by_cases hk:r.part≠0∧errF r=0
   ·have b1:(r.part==0)=false:=by simpa using hk.1
    have b2:(errF r != 0)=false:=by simp [hk.2]
    simp only [b1,b2,Bool.not_false,Bool.or_false,if_true,Bool.false_or]
    rw [ck_pos (by simp),comm_vals]
    by_cases hc:Comm r q
    ·rw [ck_pos (by omega)]
     have gu:=(errF_good hk.2).units
     have hok:okP q r:=⟨hk.1,hk.2,hc⟩
     by_cases hu:r.units > 1099511627776-u
     ·rw [if_pos (by simp [hc]; omega)]
      refine .inl ⟨_,rfl,?_⟩
      rw [whW_cons hok,whW_over (by omega)]
      ·rfl
      ·intro he
       have:=(errF_good he).units
       simp only [whR] at this
       omega
     ·rw [if_neg (by simp [hc]; omega),ck_pos (by omega),ck_pos (by omega)]
      refine .inr ⟨_,rfl,⟨by simp only; omega,by simp only; omega,fun p hp=>h2 p (List.mem_cons_of_mem _ hp)⟩,rfl,?_⟩
      rw [whW_cons hok]
    ·rw [ck_pos (by simp [hc]),if_pos (by simp [hc])]
     refine .inl ⟨_,rfl,?_⟩
     rw [whW_bad (fun h=>hc h.2.2)]
     rfl
   ·have hb:((r.part==0) || ((if (!(r.part==0))=true then errF r else default) != 0))=true:=by
     by_cases hp:r.part=0
     ·simp [hp]
     ·simp [hp]
      intro he; exact hk ⟨hp,he⟩
    simp only [hb,Bool.not_true,Bool.true_or,Bool.false_eq_true,if_false]
    rw [ck_pos (by simp),ck_pos (by simp),if_pos trivial]
    refine .inl ⟨_,rfl,?_⟩
    rw [whW_bad (fun h=>hk ⟨h.1,h.2.1⟩)]
    rfl
end Go.Proofs.YtajciinoiacpmaaDoor
