/- Our own texts E1 E2 Sh LX LW0 LW1 LW2 LW3 LW4 LW5 LW6 LW7 LW8 LW9 LW10 LW11 LW12 LW13 of this seat in one. -/
import Derived.Test.YthoengcicaicoaaGreatDoorY2
import Derived.Sort.Grow
import Derived.Deep.Draws
import Derived.Shelf.Strings.Builder1
import Derived.Shelf.Strings.Builder2
import Derived.Shelf.Strings.OnBuilder
import Derived.Shelf.Small.Wraps
import Derived.Shelf.Strconv.Itoa0
import Derived.Shelf.Strconv.Itoa1
import Derived.Shelf.LaysM
import Derived.Shelf.Strconv.Itoa2
import Derived.Shelf.Strconv.Itoa3
import Derived.Shelf.Strings.Search1
import Derived.Shelf.Strings.Search2
import Derived.Shelf.Strings.Search3
import Derived.Shelf.Strings.Count
import Derived.Shelf.Strings.Shaped
import Derived.Shelf.Strings.Prefix
import Derived.Shelf.Strings.Split
import Derived.Shelf.Unicode.DecodeSlow
import Derived.Test.YthoengcicaicoaaGreatDoorProg
import Derived.Lib.SplitLaws
set_option linter.unusedSimpArgs false
set_option linter.unusedVariables false
set_option linter.unusedSectionVars false
namespace Go.Abs
open Go.RowKit
theorem DArgs.one {lim:Nat→Nat} {w:World} {d:D} {vs:Array Value} (h:DArgs lim w [d] vs):∃ v,vs=#[v]∧DRep lim w d v:=by
 obtain ⟨h1,h2⟩:=h
 match vs,h1 with
 | ⟨[v]⟩,_=>exact ⟨v,rfl,h2 0 d v rfl rfl⟩
theorem DArgs.two {lim:Nat→Nat} {w:World} {d e:D} {vs:Array Value} (h:DArgs lim w [d,e] vs):∃ v u,vs=#[v,u]∧DRep lim w d v∧DRep lim w e u:=by
 obtain ⟨h1,h2⟩:=h
 match vs,h1 with
 | ⟨[v,u]⟩,_=>exact ⟨v,u,rfl,h2 0 d v rfl rfl,h2 1 e u rfl rfl⟩
theorem below_grow (w:World) (k:Nat) (os:Array Obj):Below w.heap.size w (Go.Sort.grow (w.drewN k) os) :=
 ⟨rfl,rfl,rfl,by simp [Go.Sort.grow],fun b hb=>by
  show ((w.drewN k).heap++os)[b]?=_
  rw [Array.getElem?_append_left (show b < (w.drewN k).heap.size from hb)]
  rfl⟩
theorem ACall.lib {P:Program} {f:FuncId} {args:List D} {u:Value}
  (h:∀ lim w vs,Globs w.heap.size w→DArgs lim w args vs→Calls P f vs w fun e w'=>e=.returned u∧Below w.heap.size w w'):ACall P f args (·=.ex u):=by
 intro lim w vs hg ha
 refine (h lim w vs hg ha).mono ?_
 rintro e w' ⟨rfl,hb⟩
 exact ⟨u,.ex u,lim,rfl,rfl,.ex u,⟨hb.size,fun _ _=>Nat.le_refl _,fun b off hb' _=>hb.cell (p:=⟨b,off,none⟩) hb'⟩,hb,fun _ _=>rfl⟩
theorem strs_cells {lim:Nat→Nat} {w:World} {xs:List (List UInt8)} {v:Value} (h:DRep lim w (.sl 1 (xs.map rS)) v) :
  (∃ A c,v=.slice A 0 c∧xs=[])∨∃ b off c,v=.slice (some ⟨b,off,none⟩) xs.length c∧xs.length≤c∧b < w.heap.size∧∀ (j:Nat) x,xs[j]?=some x→w.cell? ⟨b,off+j,none⟩=some (.string ⟨x.toArray⟩):=by
 generalize hr:xs.map rS=rows at h
 cases h with
 | nil _ A =>
  have:xs=[]:=by simpa using hr
  exact .inl ⟨A,0,rfl,this⟩
 | sl _ _ b off c hc hrow hx hcell =>
  subst hr
  rw [List.length_map] at *
  by_cases h0:xs=[]
  ·subst h0; exact .inl ⟨_,c,rfl,rfl⟩
  ·refine .inr ⟨b,off,c,rfl,hc,?_,fun j x hj=>?_⟩
   ·have hl:0 < xs.length:=List.length_pos_iff.2 h0
    obtain ⟨_,u,hu,_⟩:=hx 0 (by omega)
    exact World.block_lt_of_cell? w _ hu
   ·have hjl:=(List.getElem?_eq_some_iff.1 hj).1
    obtain ⟨_,u,hu,_⟩:=hx j (by omega)
    have:=hcell j 0 (rS x) (.ex (.string ⟨x.toArray⟩)) u (by rw [List.getElem?_map,hj]; rfl) rfl (by rw [Nat.mul_one,Nat.add_zero]; exact hu)
    rw [hu,drep_ex this]
theorem ACall.libStrs {P:Program} {f:FuncId} {args:List D} {xs:List (List UInt8)} {T:TypeId}
  (h:∀ lim w vs,Globs w.heap.size w→DArgs lim w args vs→Calls P f vs w fun e w'=>e=.returned (.slice (some ⟨w.heap.size,0,none⟩) xs.length xs.length)∧w'=w.alloc (.cells (xs.map fun x=>Value.string ⟨x.toArray⟩).toArray T)):ACall P f args (·=slOf 1 rS xs):=by
 intro lim w vs hg ha
 refine (h lim w vs hg ha).mono ?_
 rintro e w' ⟨rfl,rfl⟩
 generalize hO:Obj.cells (xs.map fun x=>Value.string ⟨x.toArray⟩).toArray T=O
 have hb:Below w.heap.size w (w.alloc O):=(Below.refl _ w).alloc (Nat.le_refl _) _
 have hlim:∀ b,b < w.heap.size→(if b=w.heap.size then xs.length else lim b)=lim b:=fun b hb'=>if_neg (by omega)
 refine ⟨_,_,fun b=>if b=w.heap.size then xs.length else lim b,rfl,rfl,?_,⟨hb.size,fun b hb'=>by rw [hlim b hb']; exact Nat.le_refl _,fun b off hb' _=>hb.cell (p:=⟨b,off,none⟩) hb'⟩,hb,hlim⟩
 have hcell:∀ (j:Nat) x,xs[j]?=some x→(w.alloc O).cell? ⟨w.heap.size,j,none⟩=some (.string ⟨x.toArray⟩):=fun j x hj=>by
  subst hO
  simp only [World.cell?,heap_alloc_new]
  simp [hj]
 have hl:(xs.map rS).length=xs.length:=List.length_map _
 have:DRep (fun b=>if b=w.heap.size then xs.length else lim b) (w.alloc O) (.sl 1 (xs.map rS)) (.slice (some ⟨w.heap.size,0,none⟩) (xs.map rS).length xs.length):=by
  refine .sl 1 (xs.map rS) w.heap.size 0 _ (by simp) (fun row hrow=>by obtain ⟨x,_,rfl⟩:=List.mem_map.1 hrow; rfl) (fun k hk=>?_) (fun i j row c u hi hj hu=>?_)
  ·have hk':k < xs.length:=by simpa using hk
   refine ⟨by rw [if_pos rfl]; omega,.string ⟨xs[k].toArray⟩,?_,rfl⟩
   rw [Nat.zero_add]
   exact hcell k _ (List.getElem?_eq_getElem hk')
  ·rw [List.getElem?_map] at hi
   obtain ⟨x,hx,rfl⟩:=Option.map_eq_some_iff.1 hi
   match j with
   | 0 =>
    rw [Nat.mul_one,Nat.add_zero,Nat.zero_add,hcell i x hx] at hu
    cases hu
    simp [rS] at hj
    subst hj
    exact .ex _
   | j+1=>simp [rS] at hj
 rw [hl] at this
 exact this
theorem ACall.libPair {P:Program} {f:FuncId} {args:List D} {a b:Value}
  (h:∀ lim w vs,Globs w.heap.size w→DArgs lim w args vs→Calls P f vs w fun e w'=>e=.returned (.tuple #[a,b])∧Below w.heap.size w w'):ACall P f args (·=.tup [.ex a,.ex b]):=by
 intro lim w vs hg ha
 refine (h lim w vs hg ha).mono ?_
 rintro e w' ⟨rfl,hb⟩
 refine ⟨_,_,lim,rfl,rfl,.tup _ _ rfl fun i c u hc hu=>?_,⟨hb.size,fun _ _=>Nat.le_refl _,fun b off hb' _=>hb.cell (p:=⟨b,off,none⟩) hb'⟩,hb,fun _ _=>rfl⟩
 match i with
 | 0=>simp at hc hu; subst hc hu; exact .ex _
 | 1=>simp at hc hu; subst hc hu; exact .ex _
 | i+2=>simp at hc
end Go.Abs
namespace Go.Proofs.YthoengcicaicoaaGreatDoor
open Go.Shelf
def Tryz.lays156_ren:Go.Shelf.Ren:=⟨fun | 156=>74 | 165=>106 | 166=>107 | 169=>108 | 240=>130 | 241=>131 | 276=>149 | 277=>150 | n=>n,fun | 31=>109 | 9=>9 | 3=>3 | 4=>4 | 0=>0 | 20=>20 | 72=>132 | 76=>136 | 70=>130 | 37=>22 | 75=>135 | 127=>161 | 164=>176 | 5=>5 | 80=>138 | n=>n,fun | n=>n⟩
theorem Tryz.lays156:Go.Proofs.Lays.n156 Tryz.prog Tryz.lays156_ren:={
 mixed:=by kernel_rfl
 f156:=Tryz.func74.trans (congrArg some (by kernel_rfl))
 f165:=Tryz.func106.trans (congrArg some (by kernel_rfl))
 f166:=Tryz.func107.trans (congrArg some (by kernel_rfl))
 f169:=Tryz.func108.trans (congrArg some (by kernel_rfl))
 f240:=Tryz.func130.trans (congrArg some (by kernel_rfl))
 f241:=Tryz.func131.trans (congrArg some (by kernel_rfl))
 f276:=Tryz.func149.trans (congrArg some (by kernel_rfl))
 f277:=Tryz.func150.trans (congrArg some (by kernel_rfl))
 t0:=Tryz.underlying0
 a0:=Tryz.isAgg0
 z0:=Tryz.sizeOf0
 v0:=Tryz.zeroValue0
 t3:=Tryz.underlying3
 a3:=Tryz.isAgg3
 z3:=Tryz.sizeOf3
 v3:=Tryz.zeroValue3
 t4:=Tryz.underlying4
 a4:=Tryz.isAgg4
 z4:=Tryz.sizeOf4
 v4:=Tryz.zeroValue4
 t9:=Tryz.underlying9
 a9:=Tryz.isAgg9
 z9:=Tryz.sizeOf9
 v9:=Tryz.zeroValue9
 t20:=Tryz.underlying20
 a20:=Tryz.isAgg20
 z20:=Tryz.sizeOf20
 v20:=Tryz.zeroValue20
 t31:=Tryz.underlying109
 a31:=Tryz.isAgg109
 z31:=Tryz.sizeOf109
 v31:=Tryz.zeroValue109
 t37:=Tryz.underlying22
 a37:=Tryz.isAgg22
 z37:=Tryz.sizeOf22
 v37:=Tryz.zeroValue22
 t70:=Tryz.underlying130
 a70:=Tryz.isAgg130
 z70:=Tryz.sizeOf130
 v70:=Tryz.zeroValue130
 t72:=Tryz.underlying132
 a72:=Tryz.isAgg132
 z72:=Tryz.sizeOf132
 v72:=Tryz.zeroValue132
 t75:=Tryz.underlying135
 a75:=Tryz.isAgg135
 z75:=Tryz.sizeOf135
 v75:=Tryz.zeroValue135
 t76:=Tryz.underlying136
 a76:=Tryz.isAgg136
 z76:=Tryz.sizeOf136
 v76:=Tryz.zeroValue136
 t127:=Tryz.underlying161
 a127:=Tryz.isAgg161
 z127:=Tryz.sizeOf161
 v127:=Tryz.zeroValue161
 t164:=Tryz.underlying176
 a164:=Tryz.isAgg176
 z164:=Tryz.sizeOf176
 v164:=Tryz.zeroValue176 }
theorem Tryz.Builder_Extra_156:Builder.Extra Tryz.prog Tryz.lays156_ren:={
 sizeBuilder:=by kernel_rfl
 liesBuilder:=by kernel_rfl
 t5:=Tryz.underlying5
 a5:=Tryz.isAgg5
 z5:=Tryz.sizeOf5
 v5:=Tryz.zeroValue5
 infoByte:=by kernel_rfl
 cellsByte:=by kernel_rfl
 sizeByte:=by kernel_rfl
 neB5:=by decide }
open Go.RowKit in
theorem Tryz.strings_Join_none (a:Option Addr) (c:Nat) (sep:ByteArray) (w:World) :
  Calls Tryz.prog 74 #[.slice a 0 c,.string sep] w fun e w'=>e=.returned (.string ⟨#[]⟩)∧w'=w:=Any.strings_Join_none Tryz.lays156 Tryz.Builder_Extra_156 a c sep w
open Go.RowKit in
theorem Tryz.strings_Join (bk o c:Nat) (xs:List ByteArray) (sep:ByteArray) (w:World) (hcells:∀ (j:Nat) x,xs[j]?=some x→w.cell? ⟨bk,o+j,none⟩=some (.string x)) (hbk:bk < w.heap.size) (hN:xs.length≤140737488355328) (hcap:xs.length≤c) (hlen:(Lib.join (xs.map (·.data.toList)) sep.data.toList).length≤140737488355328) :
  Calls Tryz.prog 74 #[.slice (some ⟨bk,o,none⟩) xs.length c,.string sep] w fun e w'=>e=.returned (.string ⟨(Lib.join (xs.map (·.data.toList)) sep.data.toList).toArray⟩)∧Below w.heap.size w w':=Any.strings_Join Tryz.lays156 Tryz.Builder_Extra_156 bk o c xs sep w hcells hbk hN hcap hlen
def Tryz.lays104_ren:Go.Shelf.Ren:=⟨fun | 104=>115 | 211=>137 | 207=>151 | n=>n,fun | 9=>9 | 4=>4 | 24=>144 | 3=>3 | n=>n,fun | n=>n⟩
theorem Tryz.lays104:Go.Proofs.Lays.n104 Tryz.prog Tryz.lays104_ren:={
 mixed:=by kernel_rfl
 f104:=Tryz.func115.trans (congrArg some (by kernel_rfl))
 f207:=Tryz.func151.trans (congrArg some (by kernel_rfl))
 f211:=Tryz.func137.trans (congrArg some (by kernel_rfl))
 t3:=Tryz.underlying3
 a3:=Tryz.isAgg3
 z3:=Tryz.sizeOf3
 v3:=Tryz.zeroValue3
 t4:=Tryz.underlying4
 a4:=Tryz.isAgg4
 z4:=Tryz.sizeOf4
 v4:=Tryz.zeroValue4
 t9:=Tryz.underlying9
 a9:=Tryz.isAgg9
 z9:=Tryz.sizeOf9
 v9:=Tryz.zeroValue9
 t24:=Tryz.underlying144
 a24:=Tryz.isAgg144
 z24:=Tryz.sizeOf144
 v24:=Tryz.zeroValue144 }
open Go.RowKit in
theorem Tryz.strings_CutSuffix (s p:ByteArray) (w:World) (hs:s.size≤9223372036854775807) :
  Calls Tryz.prog 115 #[.string s,.string p] w fun e w'=>e=.returned (.tuple #[.string ⟨(Lib.trimSuffix s.data.toList p.data.toList).toArray⟩,.bool (Lib.hasSuffix s.data.toList p.data.toList)])∧w'=w:=Any.strings_CutSuffix Tryz.lays104 s p w hs
def Tryz.laysM171_ren:Go.Shelf.Ren:=⟨fun | 171=>73 | 243=>105 | 246=>129 | 283=>145 | 284=>146 | 285=>147 | 286=>148 | 129=>159 | 317=>158 | 318=>160 | 319=>161 | 320=>162 | 337=>168 | 338=>169 | n=>n,fun | 3=>3 | 9=>9 | 2=>2 | 4=>4 | 171=>172 | 0=>0 | 53=>122 | 37=>22 | 5=>5 | 173=>174 | 212=>182 | 51=>90 | 20=>20 | 213=>183 | 46=>91 | 232=>191 | 233=>192 | n=>n,fun | 17=>1 | 18=>2 | 19=>3 | n=>n⟩
theorem Tryz.laysM171:Go.Proofs.LaysM.n171 Tryz.prog Tryz.laysM171_ren:={
 mixed:=by kernel_rfl
 f129:=Tryz.func159.trans (congrArg some (by kernel_rfl))
 f171:=Tryz.func73.trans (congrArg some (by kernel_rfl))
 f243:=Tryz.func105.trans (congrArg some (by kernel_rfl))
 f246:=Tryz.func129.trans (congrArg some (by kernel_rfl))
 f283:=Tryz.func145.trans (congrArg some (by kernel_rfl))
 f284:=Tryz.func146.trans (congrArg some (by kernel_rfl))
 f285:=Tryz.func147.trans (congrArg some (by kernel_rfl))
 f286:=Tryz.func148.trans (congrArg some (by kernel_rfl))
 f317:=Tryz.func158.trans (congrArg some (by kernel_rfl))
 f318:=Tryz.func160.trans (congrArg some (by kernel_rfl))
 f319:=Tryz.func161.trans (congrArg some (by kernel_rfl))
 f320:=Tryz.func162.trans (congrArg some (by kernel_rfl))
 f337:=Tryz.func168.trans (congrArg some (by kernel_rfl))
 f338:=Tryz.func169.trans (congrArg some (by kernel_rfl))
 t0:=Tryz.underlying0
 a0:=Tryz.isAgg0
 z0:=Tryz.sizeOf0
 v0:=Tryz.zeroValue0
 t2:=Tryz.underlying2
 a2:=Tryz.isAgg2
 z2:=Tryz.sizeOf2
 v2:=Tryz.zeroValue2
 t3:=Tryz.underlying3
 a3:=Tryz.isAgg3
 z3:=Tryz.sizeOf3
 v3:=Tryz.zeroValue3
 t4:=Tryz.underlying4
 a4:=Tryz.isAgg4
 z4:=Tryz.sizeOf4
 v4:=Tryz.zeroValue4
 t5:=Tryz.underlying5
 a5:=Tryz.isAgg5
 z5:=Tryz.sizeOf5
 v5:=Tryz.zeroValue5
 t9:=Tryz.underlying9
 a9:=Tryz.isAgg9
 z9:=Tryz.sizeOf9
 v9:=Tryz.zeroValue9
 t20:=Tryz.underlying20
 a20:=Tryz.isAgg20
 z20:=Tryz.sizeOf20
 v20:=Tryz.zeroValue20
 t37:=Tryz.underlying22
 a37:=Tryz.isAgg22
 z37:=Tryz.sizeOf22
 v37:=Tryz.zeroValue22
 t46:=Tryz.underlying91
 a46:=Tryz.isAgg91
 z46:=Tryz.sizeOf91
 v46:=Tryz.zeroValue91
 t51:=Tryz.underlying90
 a51:=Tryz.isAgg90
 z51:=Tryz.sizeOf90
 v51:=Tryz.zeroValue90
 t53:=Tryz.underlying122
 a53:=Tryz.isAgg122
 z53:=Tryz.sizeOf122
 v53:=Tryz.zeroValue122
 t171:=Tryz.underlying172
 a171:=Tryz.isAgg172
 z171:=Tryz.sizeOf172
 v171:=Tryz.zeroValue172
 t173:=Tryz.underlying174
 a173:=Tryz.isAgg174
 z173:=Tryz.sizeOf174
 v173:=Tryz.zeroValue174
 t212:=Tryz.underlying182
 a212:=Tryz.isAgg182
 z212:=Tryz.sizeOf182
 v212:=Tryz.zeroValue182
 t213:=Tryz.underlying183
 a213:=Tryz.isAgg183
 z213:=Tryz.sizeOf183
 t232:=Tryz.underlying191
 a232:=Tryz.isAgg191
 z232:=Tryz.sizeOf191
 v232:=Tryz.zeroValue191
 t233:=Tryz.underlying192
 a233:=Tryz.isAgg192
 z233:=Tryz.sizeOf192
 v233:=Tryz.zeroValue192
 g17:=by kernel_rfl
 g18:=by kernel_rfl
 g19:=by kernel_rfl
 i0:=by kernel_rfl
 i2:=by kernel_rfl
 i3:=by kernel_rfl
 i4:=by kernel_rfl
 i5:=by kernel_rfl
 i9:=by kernel_rfl
 i20:=by kernel_rfl
 i37:=by kernel_rfl
 i46:=by kernel_rfl
 i51:=by kernel_rfl
 i53:=by kernel_rfl
 i171:=by kernel_rfl
 i173:=by kernel_rfl
 i212:=by kernel_rfl
 i232:=by kernel_rfl
 i233:=by kernel_rfl
 m17:=by kernel_rfl
 m18:=by kernel_rfl
 m19:=by kernel_rfl }
open Go.RowKit Go.Sort Go.Lib in
theorem Tryz.strconv_Itoa (n:Int) (h0:-9223372036854775808≤n) (h1:n≤9223372036854775807) (w:World) (htab:Lib.TabIs Tryz.prog w "internal/strconv.uint64pow10" .u64 Lib.pow10Tab) :
  Calls Tryz.prog 73 #[.int .i64 n] w fun e w'=>e=.returned (.string ⟨(Lib.itoa n).toArray⟩)∧∃ k os,w'=grow (w.drewN k) os:=Any.strconv_Itoa Tryz.laysM171 n h0 h1 w htab
def Tryz.lays143_ren:Go.Shelf.Ren:=⟨fun | 143=>118 | 219=>139 | 217=>154 | 225=>155 | 224=>156 | 267=>157 | 266=>166 | 314=>167 | n=>n,fun | 9=>9 | 3=>3 | 4=>4 | 5=>5 | 46=>91 | 146=>188 | 51=>90 | n=>n,fun | 1=>0 | n=>n⟩
theorem Tryz.lays143:Go.Proofs.Lays.n143 Tryz.prog Tryz.lays143_ren:={
 mixed:=by kernel_rfl
 f143:=Tryz.func118.trans (congrArg some (by kernel_rfl))
 f217:=Tryz.func154.trans (congrArg some (by kernel_rfl))
 f219:=Tryz.func139.trans (congrArg some (by kernel_rfl))
 f224:=Tryz.func156.trans (congrArg some (by kernel_rfl))
 f225:=Tryz.func155.trans (congrArg some (by kernel_rfl))
 f266:=Tryz.func166.trans (congrArg some (by kernel_rfl))
 f267:=Tryz.func157.trans (congrArg some (by kernel_rfl))
 f314:=Tryz.func167.trans (congrArg some (by kernel_rfl))
 t3:=Tryz.underlying3
 a3:=Tryz.isAgg3
 z3:=Tryz.sizeOf3
 v3:=Tryz.zeroValue3
 t4:=Tryz.underlying4
 a4:=Tryz.isAgg4
 z4:=Tryz.sizeOf4
 v4:=Tryz.zeroValue4
 t5:=Tryz.underlying5
 a5:=Tryz.isAgg5
 z5:=Tryz.sizeOf5
 v5:=Tryz.zeroValue5
 t9:=Tryz.underlying9
 a9:=Tryz.isAgg9
 z9:=Tryz.sizeOf9
 v9:=Tryz.zeroValue9
 t46:=Tryz.underlying91
 a46:=Tryz.isAgg91
 z46:=Tryz.sizeOf91
 v46:=Tryz.zeroValue91
 t51:=Tryz.underlying90
 a51:=Tryz.isAgg90
 z51:=Tryz.sizeOf90
 v51:=Tryz.zeroValue90
 t146:=Tryz.underlying188
 a146:=Tryz.isAgg188
 z146:=Tryz.sizeOf188
 v146:=Tryz.zeroValue188
 g1:=by kernel_rfl }
open Go.RowKit Go.Lib in
theorem Tryz.strings_Index (s sub:ByteArray) (m:Int) (w:World) (hs:s.size < 4294967281) (hm:w.cell? ⟨0,0,none⟩=some (.int .i64 m)) :
  Calls Tryz.prog 118 #[.string s,.string sub] w fun e w'=>e=.returned (.int .i64 (Lib.index s.data.toList sub.data.toList))∧w'=w:=Any.strings_Index Tryz.lays143 s sub m w hs hm
def Tryz.lays146_ren:Go.Shelf.Ren:=⟨fun | 146=>116 | 221=>138 | 268=>152 | 138=>153 | 143=>118 | 195=>163 | 197=>164 | 218=>165 | 219=>139 | 260=>170 | 217=>154 | 225=>155 | 224=>156 | 267=>157 | 266=>166 | 314=>167 | n=>n,fun | 9=>9 | 31=>109 | 3=>3 | 4=>4 | 0=>0 | 105=>186 | 21=>21 | 5=>5 | 46=>91 | 119=>193 | 139=>196 | 138=>195 | 146=>188 | 51=>90 | n=>n,fun | 1=>0 | 3=>4 | 4=>5 | n=>n⟩
theorem Tryz.lays146:Go.Proofs.Lays.n146 Tryz.prog Tryz.lays146_ren:={
 mixed:=by kernel_rfl
 f138:=Tryz.func153.trans (congrArg some (by kernel_rfl))
 f143:=Tryz.func118.trans (congrArg some (by kernel_rfl))
 f146:=Tryz.func116.trans (congrArg some (by kernel_rfl))
 f195:=Tryz.func163.trans (congrArg some (by kernel_rfl))
 f197:=Tryz.func164.trans (congrArg some (by kernel_rfl))
 f217:=Tryz.func154.trans (congrArg some (by kernel_rfl))
 f218:=Tryz.func165.trans (congrArg some (by kernel_rfl))
 f219:=Tryz.func139.trans (congrArg some (by kernel_rfl))
 f221:=Tryz.func138.trans (congrArg some (by kernel_rfl))
 f224:=Tryz.func156.trans (congrArg some (by kernel_rfl))
 f225:=Tryz.func155.trans (congrArg some (by kernel_rfl))
 f260:=Tryz.func170.trans (congrArg some (by kernel_rfl))
 f266:=Tryz.func166.trans (congrArg some (by kernel_rfl))
 f267:=Tryz.func157.trans (congrArg some (by kernel_rfl))
 f268:=Tryz.func152.trans (congrArg some (by kernel_rfl))
 f314:=Tryz.func167.trans (congrArg some (by kernel_rfl))
 t0:=Tryz.underlying0
 a0:=Tryz.isAgg0
 z0:=Tryz.sizeOf0
 v0:=Tryz.zeroValue0
 t3:=Tryz.underlying3
 a3:=Tryz.isAgg3
 z3:=Tryz.sizeOf3
 v3:=Tryz.zeroValue3
 t4:=Tryz.underlying4
 a4:=Tryz.isAgg4
 z4:=Tryz.sizeOf4
 v4:=Tryz.zeroValue4
 t5:=Tryz.underlying5
 a5:=Tryz.isAgg5
 z5:=Tryz.sizeOf5
 v5:=Tryz.zeroValue5
 t9:=Tryz.underlying9
 a9:=Tryz.isAgg9
 z9:=Tryz.sizeOf9
 v9:=Tryz.zeroValue9
 t21:=Tryz.underlying21
 a21:=Tryz.isAgg21
 z21:=Tryz.sizeOf21
 v21:=Tryz.zeroValue21
 t31:=Tryz.underlying109
 a31:=Tryz.isAgg109
 z31:=Tryz.sizeOf109
 v31:=Tryz.zeroValue109
 t46:=Tryz.underlying91
 a46:=Tryz.isAgg91
 z46:=Tryz.sizeOf91
 v46:=Tryz.zeroValue91
 t51:=Tryz.underlying90
 a51:=Tryz.isAgg90
 z51:=Tryz.sizeOf90
 v51:=Tryz.zeroValue90
 t105:=Tryz.underlying186
 a105:=Tryz.isAgg186
 z105:=Tryz.sizeOf186
 v105:=Tryz.zeroValue186
 t119:=Tryz.underlying193
 a119:=Tryz.isAgg193
 z119:=Tryz.sizeOf193
 t138:=Tryz.underlying195
 a138:=Tryz.isAgg195
 z138:=Tryz.sizeOf195
 v138:=Tryz.zeroValue195
 t139:=Tryz.underlying196
 a139:=Tryz.isAgg196
 z139:=Tryz.sizeOf196
 v139:=Tryz.zeroValue196
 t146:=Tryz.underlying188
 a146:=Tryz.isAgg188
 z146:=Tryz.sizeOf188
 v146:=Tryz.zeroValue188
 g1:=by kernel_rfl
 g3:=by kernel_rfl
 g4:=by kernel_rfl }
open Go.RowKit Go.Lib in
theorem Tryz.strings_Split (s sep:ByteArray) (m:Int) (w:World) (hs:s.size < 4294967281) (hm:w.cell? ⟨0,0,none⟩=some (.int .i64 m)) (h1:1≤sep.size) :
  Calls Tryz.prog 116 #[.string s,.string sep] w fun e w' =>
   e=.returned (.slice (some ⟨w.heap.size,0,none⟩) (Lib.countB s sep+1) (Lib.countB s sep+1))∧w'=w.alloc (.cells ((Lib.splitB sep 0 (Lib.countB s sep) s).map Value.string).toArray 9):=Any.strings_Split Tryz.lays146 (by kernel_rfl) s sep m w hs hm h1
end Go.Proofs.YthoengcicaicoaaGreatDoor
namespace Go.Proofs.YthoengcicaicoaaGreatDoor
open Go.RowKit Go.Abs
theorem tab_is {w:World} (h:Globs w.heap.size w):Go.Lib.TabIs Tryz.prog w "internal/strconv.uint64pow10" .u64 Go.Lib.pow10Tab:=by
 obtain ⟨_,ty,fr,h2⟩:=h.1 (1,(Go.Lib.pow10Tab.map fun z=>Value.int .u64 z).toArray) (by simp [GL])
 have hn:Tryz.prog.globalNamed "internal/strconv.uint64pow10" = some 1:=by kernel_rfl
 unfold Go.Lib.TabIs World.var?
 rw [hn]
 simp only [Option.bind_some]
 simp only at h2
 rw [h2]
theorem max_is {w:World} (h:Globs w.heap.size w):∃ m,w.cell? ⟨0,0,none⟩=some (.int .i64 m):=(h.2 0 (by simp [GI])).2
theorem c_x_Itoa {n:Int} {r:List UInt8} (H:x_Itoa n=some r):ACall Tryz.prog 73 [cI n] (·=cS r):=by
 obtain ⟨h,H⟩:=ck_some H; cases H
 refine ACall.lib fun lim w vs hg ha=>?_
 obtain ⟨v,rfl,hv⟩:=ha.one
 rw [drep_ex hv]
 refine (Tryz.strconv_Itoa n h.1 h.2 w (tab_is hg)).mono ?_
 rintro e w' ⟨rfl,k,os,rfl⟩
 exact ⟨rfl,below_grow w k os⟩
theorem c_x_Join {xs:List (List UInt8)} {sep r:List UInt8} (H:x_Join xs sep=some r):ACall Tryz.prog 74 [slOf 1 rS xs,cS sep] (·=cS r):=by
 obtain ⟨h,H⟩:=ck_some H; cases H
 refine ACall.lib fun lim w vs hg ha=>?_
 obtain ⟨v,u,rfl,hv,hu⟩:=ha.two
 rw [drep_ex hu]
 rcases strs_cells hv with ⟨A,c,rfl,rfl⟩ | ⟨b,off,c,rfl,hc,hb,hcell⟩
 ·exact (Tryz.strings_Join_none A c ⟨sep.toArray⟩ w).mono fun e w' ⟨he,hw⟩=>⟨he,hw▸Below.refl _ _⟩
 ·have hm:(xs.map fun x=>(⟨x.toArray⟩:ByteArray)).map (·.data.toList)=xs:=by simp [Function.comp_def]
  have:=Tryz.strings_Join b off c (xs.map fun x=>(⟨x.toArray⟩:ByteArray)) ⟨sep.toArray⟩ w (fun j x hj=>by
   rw [List.getElem?_map] at hj
   obtain ⟨y,hy,rfl⟩:=Option.map_eq_some_iff.1 hj
   exact hcell j y hy) hb (by simp; omega) (by simpa using hc) (by rw [hm]; simp; omega)
  rw [hm,List.length_map] at this
  exact this
theorem c_x_Index {s sub:List UInt8} {r:Int} (H:x_Index s sub=some r):ACall Tryz.prog 118 [cS s,cS sub] (·=cI r):=by
 obtain ⟨h,H⟩:=ck_some H; cases H
 refine ACall.lib fun lim w vs hg ha=>?_
 obtain ⟨v,u,rfl,hv,hu⟩:=ha.two
 rw [drep_ex hv,drep_ex hu]
 obtain ⟨m,hm⟩:=max_is hg
 refine (Tryz.strings_Index ⟨s.toArray⟩ ⟨sub.toArray⟩ m w (by simp [ByteArray.size]; omega) hm).mono ?_
 rintro e w' ⟨rfl,rfl⟩
 exact ⟨by simp,Below.refl _ _⟩
theorem c_x_CutSuffix {s p:List UInt8} {r:List UInt8×Bool} (H:x_CutSuffix s p=some r):ACall Tryz.prog 115 [cS s,cS p] (·=.tup [cS r.1,cB r.2]):=by
 obtain ⟨h,H⟩:=ck_some H; cases H
 refine ACall.libPair fun lim w vs hg ha=>?_
 obtain ⟨v,u,rfl,hv,hu⟩:=ha.two
 rw [drep_ex hv,drep_ex hu]
 refine (Tryz.strings_CutSuffix ⟨s.toArray⟩ ⟨p.toArray⟩ w (by simp [ByteArray.size]; omega)).mono ?_
 rintro e w' ⟨rfl,rfl⟩
 exact ⟨by simp,Below.refl _ _⟩
theorem c_x_Split {s sep:List UInt8} {r:List (List UInt8)} (H:x_Split s sep=some r):ACall Tryz.prog 116 [cS s,cS sep] (·=slOf 1 rS r):=by
 obtain ⟨h,H⟩:=ck_some H; cases H
 refine ACall.libStrs (T:=9) fun lim w vs hg ha=>?_
 obtain ⟨v,u,rfl,hv,hu⟩:=ha.two
 rw [drep_ex hv,drep_ex hu]
 obtain ⟨m,hm⟩:=max_is hg
 have h1:1≤(⟨sep.toArray⟩:ByteArray).size:=by simp [ByteArray.size]; omega
 have hlen:=Go.Lib.splitB_all ⟨sep.toArray⟩ h1 0 _ (⟨s.toArray⟩:ByteArray) rfl
 have e1:(Go.Lib.splitB ⟨sep.toArray⟩ 0 (Go.Lib.countB ⟨s.toArray⟩ ⟨sep.toArray⟩) ⟨s.toArray⟩).map (·.data.toList)=Go.Lib.split s sep:=by
  rw [Go.Lib.splitB_data]
  simp [Go.Lib.split,Go.Lib.countB]
 have e3:(Go.Lib.split s sep).length=Go.Lib.countB ⟨s.toArray⟩ ⟨sep.toArray⟩+1:=by rw [←e1,List.length_map,hlen]
 have e2:(Go.Lib.splitB ⟨sep.toArray⟩ 0 (Go.Lib.countB ⟨s.toArray⟩ ⟨sep.toArray⟩) ⟨s.toArray⟩).map Value.string=(Go.Lib.split s sep).map fun x=>Value.string ⟨x.toArray⟩:=by
  rw [←e1,List.map_map]
  apply List.map_congr_left
  intro x _
  simp
 refine (Tryz.strings_Split ⟨s.toArray⟩ ⟨sep.toArray⟩ m w (by simp [ByteArray.size]; omega) hm h1).mono ?_
 rintro e w' ⟨rfl,rfl⟩
 exact ⟨by rw [e3],by rw [e2]⟩
end Go.Proofs.YthoengcicaicoaaGreatDoor
set_option maxRecDepth 100000
set_option maxHeartbeats 1000000
namespace Go.Proofs.YthoengcicaicoaaGreatDoor
open Go.RowKit Go.Abs Go.Proofs.Tryz
theorem c_f_batch_within {v0n:Int} {v1lo:Int} {v2hi:Int} {r:Bool} (H:f_batch_within v0n v1lo v2hi=some r):ACall prog 41 [cI v0n,cI v1lo,cI v2hi] (·=cB r):=by
 refine ACall.enter' func41 rfl ntmps41 rfl fun S hS=>?_
 unfold f_batch_within at H
 refine .A 16 [] rfl ⟨rfl,rfl,rfl⟩ ?_
 refine .R func41 results41 rfl ?_
 cases H
 exact .m rfl (.rfl' _)
theorem c_f_batch_Totals {v0records:List Record} {r:Totals} (H:f_batch_Totals v0records=some r):ACall prog 18 [slOf 12 Record.row v0records] (·=.agg (Totals.row r)):=by
 obtain ⟨i3,hi3,hz3,hs3,hb3⟩:=in_3
 obtain ⟨i52,hi52,hz52,hs52,hb52⟩:=in_52
 refine ACall.enter' func18 rfl ntmps18 rfl fun S hS=>?_
 unfold f_batch_Totals at H
 refine .A 20 [.r 0,.i (v0records.length:Int),.d (.agg (Totals.row (⟨(v0records.length:Int),([0,0,0,0,0]:List Int)⟩:Totals))),.r 1,.i (v0records.length:Int)] rfl ⟨s29.n rfl rfl,OpQ.g (q_buildP pl_52 hi52 hz52 rfl rfl),s29.n rfl rfl⟩ ?_
 obtain ⟨n1,H⟩:=loop_some H
 refine .loop (ι:=Nat×(Int×Int×Int×Int×Int×Int)) (fun ⟨_,v11l1,o1c1l1,o1c2l1,o1c3l1,o1c4l1,o1c5l1⟩=>[(2,.ref 0 0),(3,.ref 1 0),(9,.d (slOf 12 Record.row v0records)),(10,.d (cI (v0records.length:Int))),(11,.d (cI v11l1))]) (fun ⟨_,v11l1,o1c1l1,o1c2l1,o1c3l1,o1c4l1,o1c5l1⟩=>⟨[.row 52 [.d (cI 0),.d (cI 0),.d (cI 0),.d (cI 0),.d (cI 0),.d (cI 0)],.row 52 [.d (cI (v0records.length:Int)),.d (cI o1c1l1),.d (cI o1c2l1),.d (cI o1c3l1),.d (cI o1c4l1),.d (cI o1c5l1)]],[]⟩) (fun p=>iter (fun s=>f_batch_Totals_l1 v0records s.1 s.2.1 s.2.2.1 s.2.2.2.1 s.2.2.2.2.1 s.2.2.2.2.2) p.1 p.2=some r) (·.1) (n1,(0,0,0,0,0,0)) H (.cons rfl (.rfl' _) (.cons rfl (.rfl' _) (.cons rfl (.rfl' _) (.cons rfl (.rfl' _) (.cons rfl (.rfl' _) (.nil)))))) rfl ?_
 rintro ⟨m1,v11l1,o1c1l1,o1c2l1,o1c3l1,o1c4l1,o1c5l1⟩ HI ih1
 obtain ⟨n1,q1,hm1,H,HK1⟩:=iter_succ HI
 clear HI
 replace H:f_batch_Totals_l1 v0records v11l1 o1c1l1 o1c2l1 o1c3l1 o1c4l1 o1c5l1=some q1:=H
 unfold f_batch_Totals_l1 at H
 refine .A 5 [] rfl trivial ?_
 refine .ite H rfl (fun H=>?_) (fun H=>?_)
 ·obtain ⟨hk1,H⟩:=ck_some H
  obtain ⟨y1,hy1,H⟩:=bind_some' H
  obtain ⟨y2,hy2,H⟩:=bind_some' H
  refine .A 21 [.d (.ro (Record.row (nth v0records v11l1.toNat))),.r 2,.b y1,.b y2] rfl ⟨rfl,fun hg=>g_call (en 0 rfl) rfl rfl (c_f_batch_within (gcall_some hy2 hg)),rfl,rfl,g_call (en 0 rfl) rfl rfl (c_f_batch_within (hy1)),s29.ix rfl rfl rfl hk1⟩ ?_
  refine .ite H rfl (fun H=>?_) (fun H=>?_)
  ·obtain ⟨hk2,H⟩:=ck_some H
   obtain ⟨hk3,H⟩:=ck_some H
   obtain ⟨hk4,H⟩:=ck_some H
   obtain ⟨hk5,H⟩:=ck_some H
   obtain ⟨hk6,H⟩:=ck_some H
   obtain ⟨hk7,H⟩:=ck_some H
   refine .A 19 [.p 10,.g (.ref 1 (1+((nth v0records v11l1.toNat).kind).toNat)),.f 14 (.d (cI (nth ([o1c1l1,o1c2l1,o1c3l1,o1c4l1,o1c5l1]:List Int) ((nth v0records v11l1.toNat).kind).toNat))),.i ((nth ([o1c1l1,o1c2l1,o1c3l1,o1c4l1,o1c5l1]:List Int) ((nth v0records v11l1.toNat).kind).toNat)+((nth v0records v11l1.toNat).units)),.g (.ref 1 (1+((nth v0records v11l1.toNat).kind).toNat)),.w 7 ⟨[.row 52 [.d (cI 0),.d (cI 0),.d (cI 0),.d (cI 0),.d (cI 0),.d (cI 0)],.row 52 [.d (cI (v0records.length:Int)),.d (cI (nth (setN ([o1c1l1,o1c2l1,o1c3l1,o1c4l1,o1c5l1]:List Int) 5 ((nth v0records v11l1.toNat).kind).toNat ((nth ([o1c1l1,o1c2l1,o1c3l1,o1c4l1,o1c5l1]:List Int) ((nth v0records v11l1.toNat).kind).toNat)+((nth v0records v11l1.toNat).units))) 0)),.d (cI (nth (setN ([o1c1l1,o1c2l1,o1c3l1,o1c4l1,o1c5l1]:List Int) 5 ((nth v0records v11l1.toNat).kind).toNat ((nth ([o1c1l1,o1c2l1,o1c3l1,o1c4l1,o1c5l1]:List Int) ((nth v0records v11l1.toNat).kind).toNat)+((nth v0records v11l1.toNat).units))) 1)),.d (cI (nth (setN ([o1c1l1,o1c2l1,o1c3l1,o1c4l1,o1c5l1]:List Int) 5 ((nth v0records v11l1.toNat).kind).toNat ((nth ([o1c1l1,o1c2l1,o1c3l1,o1c4l1,o1c5l1]:List Int) ((nth v0records v11l1.toNat).kind).toNat)+((nth v0records v11l1.toNat).units))) 2)),.d (cI (nth (setN ([o1c1l1,o1c2l1,o1c3l1,o1c4l1,o1c5l1]:List Int) 5 ((nth v0records v11l1.toNat).kind).toNat ((nth ([o1c1l1,o1c2l1,o1c3l1,o1c4l1,o1c5l1]:List Int) ((nth v0records v11l1.toNat).kind).toNat)+((nth v0records v11l1.toNat).units))) 3)),.d (cI (nth (setN ([o1c1l1,o1c2l1,o1c3l1,o1c4l1,o1c5l1]:List Int) 5 ((nth v0records v11l1.toNat).kind).toNat ((nth ([o1c1l1,o1c2l1,o1c3l1,o1c4l1,o1c5l1]:List Int) ((nth v0records v11l1.toNat).kind).toNat)+((nth v0records v11l1.toNat).units))) 4))],.row 49 [.d (cI ((nth v0records v11l1.toNat).source)),.d (cI ((nth v0records v11l1.toNat).serial)),.d (cI ((nth v0records v11l1.toNat).kind)),.d (cS ((nth v0records v11l1.toNat).a)),.d (cS ((nth v0records v11l1.toNat).b)),.d (cI ((nth v0records v11l1.toNat).start)),.d (cI ((nth v0records v11l1.toNat).units)),.d (cI ((nth v0records v11l1.toNat).call)),.d (cI ((nth v0records v11l1.toNat).part)),.d (cB ((nth v0records v11l1.toNat).last)),.d (cI ((nth v0records v11l1.toNat).trunk)),.d (cB ((nth v0records v11l1.toNat).inbound))]],[]⟩,.i (v11l1+1)] rfl ⟨g_addI rfl rfl hk7,.e (u_storeK (n:=5) (off:=1) (i:=((nth v0records v11l1.toNat).kind).toNat) (l:=([o1c1l1,o1c2l1,o1c3l1,o1c4l1,o1c5l1]:List Int)) (c1:=cI) (a:=(nth ([o1c1l1,o1c2l1,o1c3l1,o1c4l1,o1c5l1]:List Int) ((nth v0records v11l1.toNat).kind).toNat)+((nth v0records v11l1.toNat).units)) rfl rfl rfl rfl rfl hk6 sz_3) rfl,OpQ.g (q_idxK (off:=1) (i:=(nth v0records v11l1.toNat).kind) underlying50 ⟨_,hi3,hs3⟩ rfl rfl hk5),g_addI rfl rfl hk4,OpQ.g (q_loadK (n:=5) (off:=1) (i:=((nth v0records v11l1.toNat).kind).toNat) (l:=([o1c1l1,o1c2l1,o1c3l1,o1c4l1,o1c5l1]:List Int)) (c1:=cI) one_3 rfl rfl rfl hk3),OpQ.g (q_idxK (off:=1) (i:=(nth v0records v11l1.toNat).kind) underlying50 ⟨_,hi3,hs3⟩ rfl rfl hk2),(show drawB _ _=true by kernel_rfl)⟩ ?_
   cases H
   exact .t 2 0 (ih1 (n1,(v11l1+1,nth (setN ([o1c1l1,o1c2l1,o1c3l1,o1c4l1,o1c5l1]:List Int) 5 ((nth v0records v11l1.toNat).kind).toNat ((nth ([o1c1l1,o1c2l1,o1c3l1,o1c4l1,o1c5l1]:List Int) ((nth v0records v11l1.toNat).kind).toNat)+((nth v0records v11l1.toNat).units))) 0,nth (setN ([o1c1l1,o1c2l1,o1c3l1,o1c4l1,o1c5l1]:List Int) 5 ((nth v0records v11l1.toNat).kind).toNat ((nth ([o1c1l1,o1c2l1,o1c3l1,o1c4l1,o1c5l1]:List Int) ((nth v0records v11l1.toNat).kind).toNat)+((nth v0records v11l1.toNat).units))) 1,nth (setN ([o1c1l1,o1c2l1,o1c3l1,o1c4l1,o1c5l1]:List Int) 5 ((nth v0records v11l1.toNat).kind).toNat ((nth ([o1c1l1,o1c2l1,o1c3l1,o1c4l1,o1c5l1]:List Int) ((nth v0records v11l1.toNat).kind).toNat)+((nth v0records v11l1.toNat).units))) 2,nth (setN ([o1c1l1,o1c2l1,o1c3l1,o1c4l1,o1c5l1]:List Int) 5 ((nth v0records v11l1.toNat).kind).toNat ((nth ([o1c1l1,o1c2l1,o1c3l1,o1c4l1,o1c5l1]:List Int) ((nth v0records v11l1.toNat).kind).toNat)+((nth v0records v11l1.toNat).units))) 3,nth (setN ([o1c1l1,o1c2l1,o1c3l1,o1c4l1,o1c5l1]:List Int) 5 ((nth v0records v11l1.toNat).kind).toNat ((nth ([o1c1l1,o1c2l1,o1c3l1,o1c4l1,o1c5l1]:List Int) ((nth v0records v11l1.toNat).kind).toNat)+((nth v0records v11l1.toNat).units))) 4)) HK1 hm1) rfl rfl rfl rfl rfl hS rfl
  ·obtain ⟨hk8,H⟩:=ck_some H
   refine .A 6 [.i (v11l1+1)] rfl (g_addI rfl rfl hk8) ?_
   cases H
   exact .t 2 0 (ih1 (n1,(v11l1+1,o1c1l1,o1c2l1,o1c3l1,o1c4l1,o1c5l1)) HK1 hm1) rfl rfl rfl rfl rfl hS rfl
 ·refine .A 6 [] rfl trivial ?_
  refine .R func18 results18 rfl ?_
  cases H
  cases HK1
  exact .m rfl (.rfl' _)
theorem c_f_batch_headOf {v0b:Batch} {r:Head} (H:f_batch_headOf v0b=some r):ACall prog 29 [.agg (Batch.row v0b)] (·=.agg (Head.row r)):=by
 obtain ⟨i25,hi25,hz25,hs25,hb25⟩:=in_25
 refine ACall.enter' func29 rfl ntmps29 rfl fun S hS=>?_
 unfold f_batch_headOf at H
 refine .A 19 [.r 0,.r 1,.i (v0b.records.length:Int),.d (.agg (Head.row (⟨v0b.source,v0b.number,v0b.format,(v0b.records.length:Int)⟩:Head)))] rfl ⟨OpQ.g (q_buildP pl_25 hi25 hz25 rfl rfl),s29.n rfl rfl⟩ ?_
 refine .R func29 results29 rfl ?_
 cases H
 exact .m rfl (.rfl' _)
theorem c_f_batch_checkHead {v0h:Head} {r:Int} (H:f_batch_checkHead v0h=some r):ACall prog 39 [.agg (Head.row v0h)] (·=cI r):=by
 refine ACall.enter' func39 rfl ntmps39 rfl fun S hS=>?_
 unfold f_batch_checkHead at H
 obtain ⟨y1,hy1,H⟩:=bind_some' H
 obtain ⟨y2,hy2,H⟩:=bind_some' H
 refine .A 21 [.r 0,.b y1,.b y2] rfl ⟨rfl,rfl,fun hg=>g_call (en 0 rfl) rfl rfl (c_f_batch_within (gcall_some hy2 hg)),rfl,rfl,g_call (en 0 rfl) rfl rfl (c_f_batch_within (hy1))⟩ ?_
 refine .ite H rfl (fun H=>?_) (fun H=>?_)
 ·refine .A 4 [] rfl trivial ?_
  refine .R func39 results39 rfl ?_
  cases H
  exact .m rfl (.rfl' _)
 ·obtain ⟨y3,hy3,H⟩:=bind_some' H
  refine .A 8 [.b y3] rfl (g_call (en 0 rfl) rfl rfl (c_f_batch_within (hy3))) ?_
  refine .ite H rfl (fun H=>?_) (fun H=>?_)
  ·refine .A 4 [] rfl trivial ?_
   refine .R func39 results39 rfl ?_
   cases H
   exact .m rfl (.rfl' _)
  ·obtain ⟨y4,hy4,H⟩:=bind_some' H
   refine .A 8 [.b y4] rfl (g_call (en 0 rfl) rfl rfl (c_f_batch_within (hy4))) ?_
   refine .ite H rfl (fun H=>?_) (fun H=>?_)
   ·refine .A 4 [] rfl trivial ?_
    refine .R func39 results39 rfl ?_
    cases H
    exact .m rfl (.rfl' _)
   ·refine .A 6 [] rfl trivial ?_
    refine .R func39 results39 rfl ?_
    cases H
    exact .m rfl (.rfl' _)
theorem c_f_textual_within {v0n:Int} {v1lo:Int} {v2hi:Int} {r:Bool} (H:f_textual_within v0n v1lo v2hi=some r):ACall prog 103 [cI v0n,cI v1lo,cI v2hi] (·=cB r):=by
 refine ACall.enter' func103 rfl ntmps103 rfl fun S hS=>?_
 unfold f_textual_within at H
 refine .A 16 [] rfl ⟨rfl,rfl,rfl⟩ ?_
 refine .R func103 results103 rfl ?_
 cases H
 exact .m rfl (.rfl' _)
theorem c_f_digits_digit {v0c:UInt8} {r:Bool} (H:f_digits_digit v0c=some r):ACall prog 128 [cU8 v0c] (·=cB r):=by
 refine ACall.enter' func128 rfl ntmps128 rfl fun S hS=>?_
 unfold f_digits_digit at H
 refine .A 14 [.b (decide (v0c≥48)),.b (decide (v0c≤57))] rfl ⟨rfl,fun hg=>OpQ.g (q8_leq (a:=v0c) (b:=57) rfl rfl),rfl,OpQ.g (q8_geq (a:=v0c) (b:=48) rfl rfl)⟩ ?_
 refine .R func128 results128 rfl ?_
 cases H
 exact .m rfl (.rfl' _)
theorem c_f_digits_Valid {v0s:List UInt8} {r:Bool} (H:f_digits_Valid v0s=some r):ACall prog 104 [cS v0s] (·=cB r):=by
 refine ACall.enter' func104 rfl ntmps104 rfl fun S hS=>?_
 unfold f_digits_Valid at H
 refine .A 11 [.i (v0s.length:Int)] rfl (OpQ.g (q_lenS underlying9 rfl)) ?_
 refine .blockJoin2 (ι:=Unit) (fun _=>[(0,.d (cS v0s))]) (fun _=>⟨[],[]⟩) (fun s=>f_digits_Valid_j1 v0s=some r) ?_ ?_
 ·rintro _ H
  replace H:f_digits_Valid_j1 v0s=some r:=H
  unfold f_digits_Valid_j1 at H
  refine .A 12 [.i (v0s.length:Int),.i (v0s.length:Int)] rfl ⟨rfl,rfl,fun hg=>OpQ.g (q_lenS underlying9 rfl),rfl,OpQ.g (q_lenS underlying9 rfl)⟩ ?_
  refine .R func104 results104 rfl ?_
  cases H
  exact .m rfl (.rfl' _)
 ·intro hj1 hj1x
  obtain ⟨n1,H⟩:=loop_some H
  refine .loop (ι:=Nat×(Int)) (fun ⟨_,v6l1⟩=>[(0,.d (cS v0s)),(5,.d (cI (v0s.length:Int))),(6,.d (cI v6l1))]) (fun ⟨_,v6l1⟩=>⟨[],[]⟩) (fun p=>iter (fun s=>f_digits_Valid_l1 v0s s) p.1 p.2=some r) (·.1) (n1,0) H (.cons rfl (.rfl' _) (.cons rfl (.rfl' _) (.cons rfl (.rfl' _) (.nil)))) rfl ?_
  rintro ⟨m1,v6l1⟩ HI ih1
  obtain ⟨n1,q1,hm1,H,HK1⟩:=iter_succ HI
  clear HI
  replace H:f_digits_Valid_l1 v0s v6l1=some q1:=H
  unfold f_digits_Valid_l1 at H
  refine .A 5 [] rfl trivial ?_
  refine .ite H rfl (fun H=>?_) (fun H=>?_)
  ·obtain ⟨hk1,H⟩:=ck_some H
   obtain ⟨y1,hy1,H⟩:=bind_some' H
   refine .A 16 [.c (nth v0s v6l1.toNat),.b y1] rfl ⟨g_call (en 1 rfl) rfl rfl (c_f_digits_digit (hy1)),OpQ.g (q_indexL (i:=v6l1) underlying9 rfl rfl hk1)⟩ ?_
   refine .ite H rfl (fun H=>?_) (fun H=>?_)
   ·refine .A 4 [] rfl trivial ?_
    refine .R func104 results104 rfl ?_
    cases H
    cases HK1
    exact .m rfl (.rfl' _)
   ·obtain ⟨hk2,H⟩:=ck_some H
    refine .A 6 [.i (v6l1+1)] rfl (g_addI rfl rfl hk2) ?_
    cases H
    exact .z (ih1 (n1,(v6l1+1)) HK1 hm1) rfl rfl
  ·refine .A 1 [] rfl trivial ?_
   obtain ⟨q0,H9,hq0⟩:=map_some' H; clear H; cases hq0
   cases HK1
   have H:=H9
   exact .z (hj1x () H) rfl rfl
theorem c_f_textual_check {v0:Record} {r:Int} (H:f_textual_check v0=some r):ACall prog 72 [.agg (Record.row v0)] (·=cI r):=by
 refine ACall.enter' func72 rfl ntmps72 rfl fun S hS=>?_
 unfold f_textual_check at H
 refine .A 21 [.r 0] rfl ⟨rfl,rfl,rfl⟩ ?_
 refine .seqJoin (ι:=Int) (fun v4j1=>[(1,.ref 0 0),(3,.d (cB ((v0.kind==3) || (v0.kind==4)))),(4,.d (cI v4j1))]) (fun v4j1=>⟨[.row 49 [.d (cI v0.source),.d (cI v0.serial),.d (cI v0.kind),.d (cS v0.a),.d (cS v0.b),.d (cI v0.start),.d (cI v0.units),.d (cI v0.call),.d (cI v0.part),.d (cB v0.last),.d (cI v0.trunk),.d (cB v0.inbound)]],[]⟩) (fun s=>f_textual_check_j1 v0 s=some r) ?_ ?_
 ·rintro v4j1 H
  replace H:f_textual_check_j1 v0 v4j1=some r:=H
  unfold f_textual_check_j1 at H
  obtain ⟨y1,hy1,H⟩:=bind_some' H
  obtain ⟨y2,hy2,H⟩:=bind_some' H
  refine .A 16 [.b y1,.b y2] rfl ⟨rfl,rfl,fun hg=>g_call (en 2 rfl) rfl rfl (c_f_textual_within (gcall_some hy2 hg)),rfl,rfl,g_call (en 2 rfl) rfl rfl (c_f_textual_within (hy1))⟩ ?_
  refine .ite H rfl (fun H=>?_) (fun H=>?_)
  ·refine .A 4 [] rfl trivial ?_
   refine .R func72 results72 rfl ?_
   cases H
   exact .m rfl (.rfl' _)
  ·obtain ⟨y3,hy3,H⟩:=bind_some' H
   refine .A 8 [.b y3] rfl (g_call (en 2 rfl) rfl rfl (c_f_textual_within (hy3))) ?_
   refine .ite H rfl (fun H=>?_) (fun H=>?_)
   ·refine .A 4 [] rfl trivial ?_
    refine .R func72 results72 rfl ?_
    cases H
    exact .m rfl (.rfl' _)
   ·obtain ⟨y4,hy4,H⟩:=bind_some' H
    obtain ⟨y5,hy5,H⟩:=bind_some' H
    refine .B 17 [.b y4,.b y5] rfl ⟨rfl,rfl,rfl,rfl,rfl,fun hg=>g_call (en 3 rfl) rfl rfl (c_f_digits_Valid (gcall_some hy5 hg)),rfl,rfl,g_call (en 3 rfl) rfl rfl (c_f_digits_Valid (hy4))⟩ ?_
    refine .guardG (env':=[(44,_),(47,_)]) rfl rfl rfl ⟨.inr (.inl rfl),⟨.inr (.inr ⟨_,_,rfl,rfl⟩),trivial⟩⟩ rfl (fun hg=>OpQ.g (q_pickAndB rfl rfl rfl)) ?_
    refine .B 1 [] rfl rfl ?_
    refine .guardG (env':=[(42,_),(49,_)]) rfl rfl rfl ⟨.inr (.inl rfl),⟨.inr (.inr ⟨_,_,rfl,rfl⟩),trivial⟩⟩ rfl (fun hg=>OpQ.g (q_pickAndB rfl rfl rfl)) ?_
    refine .A 3 [] rfl rfl ?_
    refine .ite H rfl (fun H=>?_) (fun H=>?_)
    ·refine .A 4 [] rfl trivial ?_
     refine .R func72 results72 rfl ?_
     cases H
     exact .m rfl (.rfl' _)
    ·obtain ⟨y6,hy6,H⟩:=bind_some' H
     refine .A 8 [.b y6] rfl (g_call (en 2 rfl) rfl rfl (c_f_textual_within (hy6))) ?_
     refine .ite H rfl (fun H=>?_) (fun H=>?_)
     ·refine .A 4 [] rfl trivial ?_
      refine .R func72 results72 rfl ?_
      cases H
      exact .m rfl (.rfl' _)
     ·obtain ⟨y7,hy7,H⟩:=bind_some' H
      refine .A 9 [.b y7] rfl (g_call (en 2 rfl) rfl rfl (c_f_textual_within (hy7))) ?_
      refine .ite H rfl (fun H=>?_) (fun H=>?_)
      ·refine .A 4 [] rfl trivial ?_
       refine .R func72 results72 rfl ?_
       cases H
       exact .m rfl (.rfl' _)
      ·obtain ⟨hk1,H⟩:=ck_some H
       refine .A 15 [.i (v0.start+v0.units)] rfl ⟨rfl,rfl,fun hg=>g_addI rfl rfl (hk1 hg),rfl,rfl,rfl,rfl⟩ ?_
       refine .ite H rfl (fun H=>?_) (fun H=>?_)
       ·refine .A 4 [] rfl trivial ?_
        refine .R func72 results72 rfl ?_
        cases H
        exact .m rfl (.rfl' _)
       ·obtain ⟨y8,hy8,H⟩:=bind_some' H
        obtain ⟨y9,hy9,H⟩:=bind_some' H
        refine .A 14 [.b y8,.b y9] rfl ⟨rfl,rfl,fun hg=>g_call (en 2 rfl) rfl rfl (c_f_textual_within (gcall_some hy9 hg)),rfl,rfl,g_call (en 2 rfl) rfl rfl (c_f_textual_within (hy8))⟩ ?_
        refine .ite H rfl (fun H=>?_) (fun H=>?_)
        ·refine .A 4 [] rfl trivial ?_
         refine .R func72 results72 rfl ?_
         cases H
         exact .m rfl (.rfl' _)
        ·refine .B 16 [.b ((v0.part==0) != (v0.call==0))] rfl ⟨rfl,rfl,rfl,rfl,OpQ.g (q_bneq rfl underlying4 rfl)⟩ ?_
         refine .guardG (env':=[(97,_),(100,_)]) rfl rfl rfl ⟨.inr (.inl rfl),⟨.inr (.inr ⟨_,_,rfl,rfl⟩),trivial⟩⟩ rfl (fun hg=>OpQ.g (q_pickAndB rfl rfl rfl)) ?_
         refine .A 3 [] rfl rfl ?_
         refine .ite H rfl (fun H=>?_) (fun H=>?_)
         ·refine .A 4 [] rfl trivial ?_
          refine .R func72 results72 rfl ?_
          cases H
          exact .m rfl (.rfl' _)
         ·obtain ⟨y10,hy10,H⟩:=bind_some' H
          refine .A 8 [.b y10] rfl (g_call (en 2 rfl) rfl rfl (c_f_textual_within (hy10))) ?_
          refine .ite H rfl (fun H=>?_) (fun H=>?_)
          ·refine .A 4 [] rfl trivial ?_
           refine .R func72 results72 rfl ?_
           cases H
           exact .m rfl (.rfl' _)
          ·refine .A 11 [] rfl ⟨rfl,rfl,rfl⟩ ?_
           refine .ite H rfl (fun H=>?_) (fun H=>?_)
           ·refine .A 4 [] rfl trivial ?_
            refine .R func72 results72 rfl ?_
            cases H
            exact .m rfl (.rfl' _)
           ·refine .A 6 [] rfl trivial ?_
            refine .R func72 results72 rfl ?_
            cases H
            exact .m rfl (.rfl' _)
 ·intro hj1
  refine .A 6 [] rfl trivial ?_
  refine .ite H rfl (fun H=>?_) (fun H=>?_)
  ·refine .A 3 [] rfl trivial ?_
   exact .z (hj1 604800 H) rfl rfl
  ·refine .A 1 [] rfl trivial ?_
   exact .z (hj1 1099511627776 H) rfl rfl
theorem c_f_textual_Encode {v0:Record} {r:(List UInt8)×Int} (H:f_textual_Encode v0=some r):ACall prog 40 [.agg (Record.row v0)] (·=.tup [cS r.1,cI r.2]):=by
 obtain ⟨i9,hi9,hz9,hs9,hb9⟩:=in_9
 refine ACall.enter' func40 rfl ntmps40 rfl fun S hS=>?_
 unfold f_textual_Encode at H
 obtain ⟨y1,hy1,H⟩:=bind_some' H
 refine .A 18 [.r 0,.i y1] rfl (g_call (en 4 rfl) rfl rfl (c_f_textual_check (hy1))) ?_
 refine .ite H rfl (fun H=>?_) (fun H=>?_)
 ·refine .A 6 [] rfl trivial ?_
  refine .R func40 results40 rfl ?_
  cases H
  exact .m rfl (.tupD rfl)
 ·refine .A 11 [] rfl trivial ?_
  refine .seqJoin (ι:=List UInt8) (fun v6j1=>[(1,.ref 0 0),(5,.d (.ex (.func (.func 73) #[] #[]))),(6,.d (cS v6j1))]) (fun v6j1=>⟨[.row 49 [.d (cI v0.source),.d (cI v0.serial),.d (cI v0.kind),.d (cS v0.a),.d (cS v0.b),.d (cI v0.start),.d (cI v0.units),.d (cI v0.call),.d (cI v0.part),.d (cB v0.last),.d (cI v0.trunk),.d (cB v0.inbound)]],[]⟩) (fun s=>f_textual_Encode_j1 v0 s=some r) ?_ ?_
  ·rintro v6j1 H
   replace H:f_textual_Encode_j1 v0 v6j1=some r:=H
   unfold f_textual_Encode_j1 at H
   obtain ⟨hk1,H⟩:=ck_some H
   obtain ⟨hk2,H⟩:=ck_some H
   obtain ⟨y2,hy2,H⟩:=bind_some' H
   obtain ⟨y3,hy3,H⟩:=bind_some' H
   obtain ⟨y4,hy4,H⟩:=bind_some' H
   obtain ⟨y5,hy5,H⟩:=bind_some' H
   refine .A 31 [.p 25,.i (v0.kind-1),.s ((([118,116,100,99]:List UInt8).take v0.kind.toNat).drop (v0.kind-1).toNat),.s y2,.s y3,.s y4,.s y5,.n (.tsl 1 (([(([118,116,100,99]:List UInt8).take v0.kind.toNat).drop (v0.kind-1).toNat,y2,y3,v0.a,v6j1,y4,y5]:List (List UInt8)).map rS) 0) ⟨9,1,([(([118,116,100,99]:List UInt8).take v0.kind.toNat).drop (v0.kind-1).toNat,y2,y3,v0.a,v6j1,y4,y5]:List (List UInt8)).length,none⟩] rfl ⟨.e (v_buildSliceT (n:=7) underlying109 hi9 hs9 hz9 rfl rfl rfl rfl rfl) rfl,g_callF (en 5 rfl) rfl rfl rfl (c_x_Itoa (hy5)),g_callF (en 5 rfl) rfl rfl rfl (c_x_Itoa (hy4)),g_callF (en 5 rfl) rfl rfl rfl (c_x_Itoa (hy3)),g_callF (en 5 rfl) rfl rfl rfl (c_x_Itoa (hy2)),OpQ.g (q_strLHL underlying9 rfl rfl rfl hk2),g_subI rfl rfl hk1,(show drawB _ _=true by kernel_rfl)⟩ ?_
   refine .seqJoin (ι:=List (List UInt8)) (fun v7j2=>[(1,.ref 0 0),(5,.d (.ex (.func (.func 73) #[] #[]))),(7,.tsl 1 (v7j2.map rS) 0)]) (fun v7j2=>⟨[.row 49 [.d (cI v0.source),.d (cI v0.serial),.d (cI v0.kind),.d (cS v0.a),.d (cS v0.b),.d (cI v0.start),.d (cI v0.units),.d (cI v0.call),.d (cI v0.part),.d (cB v0.last),.d (cI v0.trunk),.d (cB v0.inbound)]],[⟨9,1,v7j2.length,none⟩]⟩) (fun s=>f_textual_Encode_j2 v0 s=some r) ?_ ?_
   ·rintro v7j2 H
    replace H:f_textual_Encode_j2 v0 v7j2=some r:=H
    unfold f_textual_Encode_j2 at H
    refine .seqJoin (ι:=List (List UInt8)) (fun v7j3=>[(7,.tsl 1 (v7j3.map rS) 0)]) (fun v7j3=>⟨[.row 49 [.d (cI v0.source),.d (cI v0.serial),.d (cI v0.kind),.d (cS v0.a),.d (cS v0.b),.d (cI v0.start),.d (cI v0.units),.d (cI v0.call),.d (cI v0.part),.d (cB v0.last),.d (cI v0.trunk),.d (cB v0.inbound)]],[⟨9,1,v7j3.length,none⟩]⟩) (fun s=>f_textual_Encode_j3 s=some r) ?_ ?_
    ·rintro v7j3 H
     replace H:f_textual_Encode_j3 v7j3=some r:=H
     unfold f_textual_Encode_j3 at H
     obtain ⟨y6,hy6,H⟩:=bind_some' H
     refine .A 7 [.s y6] rfl (g_call (en 6 rfl) rfl rfl (c_x_Join (hy6))) ?_
     refine .R func40 results40 rfl ?_
     cases H
     exact .m rfl (.tupD rfl)
    ·intro hj3
     refine .A 6 [] rfl trivial ?_
     refine .ite H rfl (fun H=>?_) (fun H=>?_)
     ·refine .A 4 [] rfl trivial ?_
      refine .seqJoin (ι:=List UInt8) (fun v8j4=>[(1,.ref 0 0),(5,.d (.ex (.func (.func 73) #[] #[]))),(7,.tsl 1 (v7j2.map rS) 0),(8,.d (cS v8j4))]) (fun v8j4=>⟨[.row 49 [.d (cI v0.source),.d (cI v0.serial),.d (cI v0.kind),.d (cS v0.a),.d (cS v0.b),.d (cI v0.start),.d (cI v0.units),.d (cI v0.call),.d (cI v0.part),.d (cB v0.last),.d (cI v0.trunk),.d (cB v0.inbound)]],[⟨9,1,v7j2.length,none⟩]⟩) (fun s=>f_textual_Encode_j4 v0 v7j2 s=some r) ?_ ?_
      ·rintro v8j4 H
       replace H:f_textual_Encode_j4 v0 v7j2 v8j4=some r:=H
       unfold f_textual_Encode_j4 at H
       obtain ⟨y7,hy7,H⟩:=bind_some' H
       obtain ⟨hk3,H⟩:=ck_some H
       refine .A 11 [.s y7,.d (slOf 1 rS ([v8j4,y7]:List (List UInt8))),.a 0 9 1 rS (v7j2++([v8j4,y7]:List (List UInt8)))] rfl ⟨s109.a rfl rfl rfl rfl hk3,g_buildSliceN (n:=2) (rows:=([v8j4,y7]:List (List UInt8)).map rS) underlying109 hi9 hs9 hz9 rfl rfl rfl rfl rfl,g_callF (en 5 rfl) rfl rfl rfl (c_x_Itoa (hy7))⟩ ?_
       exact .z (hj3 (v7j2++([v8j4,y7]:List (List UInt8))) H) rfl rfl
      ·intro hj4
       refine .A 5 [] rfl trivial ?_
       refine .ite H rfl (fun H=>?_) (fun H=>?_)
       ·refine .A 3 [] rfl trivial ?_
        exact .z (hj4 ([105,110]:List UInt8) H) rfl rfl
       ·refine .A 1 [] rfl trivial ?_
        exact .z (hj4 ([111,117,116]:List UInt8) H) rfl rfl
     ·refine .A 1 [] rfl trivial ?_
      exact .z (hj3 v7j2 H) rfl rfl
   ·intro hj2
    refine .A 6 [] rfl trivial ?_
    refine .ite H rfl (fun H=>?_) (fun H=>?_)
    ·obtain ⟨y8,hy8,H⟩:=bind_some' H
     obtain ⟨y9,hy9,H⟩:=bind_some' H
     obtain ⟨hk4,H⟩:=ck_some H
     refine .A 21 [.p 10,.s y8,.s y9,.d (slOf 1 rS ([([112,97,114,116]:List UInt8),y8,y9]:List (List UInt8))),.a 0 9 1 rS (([(([118,116,100,99]:List UInt8).take v0.kind.toNat).drop (v0.kind-1).toNat,y2,y3,v0.a,v6j1,y4,y5]:List (List UInt8))++([([112,97,114,116]:List UInt8),y8,y9]:List (List UInt8)))] rfl ⟨s109.a rfl rfl rfl rfl hk4,g_buildSliceN (n:=3) (rows:=([([112,97,114,116]:List UInt8),y8,y9]:List (List UInt8)).map rS) underlying109 hi9 hs9 hz9 rfl rfl rfl rfl rfl,g_callF (en 5 rfl) rfl rfl rfl (c_x_Itoa (hy9)),g_callF (en 5 rfl) rfl rfl rfl (c_x_Itoa (hy8)),(show drawB _ _=true by kernel_rfl)⟩ ?_
     refine .ite H rfl (fun H=>?_) (fun H=>?_)
     ·obtain ⟨hk5,H⟩:=ck_some H
      refine .A 6 [.d (slOf 1 rS ([([108,97,115,116]:List UInt8)]:List (List UInt8))),.a 0 9 1 rS ((([(([118,116,100,99]:List UInt8).take v0.kind.toNat).drop (v0.kind-1).toNat,y2,y3,v0.a,v6j1,y4,y5]:List (List UInt8))++([([112,97,114,116]:List UInt8),y8,y9]:List (List UInt8)))++([([108,97,115,116]:List UInt8)]:List (List UInt8)))] rfl ⟨s109.a rfl rfl rfl rfl hk5,g_buildSlice1 underlying109 hi9 hs9 hz9 rfl rfl rfl rfl rfl⟩ ?_
      exact .z (hj2 ((([(([118,116,100,99]:List UInt8).take v0.kind.toNat).drop (v0.kind-1).toNat,y2,y3,v0.a,v6j1,y4,y5]:List (List UInt8))++([([112,97,114,116]:List UInt8),y8,y9]:List (List UInt8)))++([([108,97,115,116]:List UInt8)]:List (List UInt8))) H) rfl rfl
     ·refine .A 1 [] rfl trivial ?_
      exact .z (hj2 (([(([118,116,100,99]:List UInt8).take v0.kind.toNat).drop (v0.kind-1).toNat,y2,y3,v0.a,v6j1,y4,y5]:List (List UInt8))++([([112,97,114,116]:List UInt8),y8,y9]:List (List UInt8))) H) rfl rfl
    ·refine .A 1 [] rfl trivial ?_
     exact .z (hj2 ([(([118,116,100,99]:List UInt8).take v0.kind.toNat).drop (v0.kind-1).toNat,y2,y3,v0.a,v6j1,y4,y5]:List (List UInt8)) H) rfl rfl
  ·intro hj1
   refine .A 5 [] rfl trivial ?_
   refine .ite H rfl (fun H=>?_) (fun H=>?_)
   ·refine .A 3 [] rfl trivial ?_
    exact .z (hj1 ([45]:List UInt8) H) rfl rfl
   ·refine .A 1 [] rfl trivial ?_
    exact .z (hj1 v0.b H) rfl rfl
theorem c_f_batch_Check {v0b:Batch} {r:Int} (H:f_batch_Check v0b=some r):ACall prog 17 [.agg (Batch.row v0b)] (·=cI r):=by
 refine ACall.enter' func17 rfl ntmps17 rfl fun S hS=>?_
 unfold f_batch_Check at H
 obtain ⟨y1,hy1,H⟩:=bind_some' H
 obtain ⟨y2,hy2,H⟩:=bind_some' H
 refine .A 18 [.r 0,.d (.agg (Head.row y1)),.i y2] rfl ⟨g_call (en 7 rfl) rfl rfl (c_f_batch_checkHead (hy2)),g_call (en 8 rfl) rfl rfl (c_f_batch_headOf (hy1))⟩ ?_
 refine .ite H rfl (fun H=>?_) (fun H=>?_)
 ·refine .A 5 [] rfl trivial ?_
  refine .R func17 results17 rfl ?_
  cases H
  exact .m rfl (.rfl' _)
 ·refine .A 10 [.i (v0b.records.length:Int)] rfl (s29.n rfl rfl) ?_
  obtain ⟨n1,H⟩:=loop_some H
  refine .loop (ι:=Nat×(Int)) (fun ⟨_,v17l1⟩=>[(1,.ref 0 0),(15,.d (slOf 12 Record.row v0b.records)),(16,.d (cI (v0b.records.length:Int))),(17,.d (cI v17l1))]) (fun ⟨_,v17l1⟩=>⟨[.row 31 [.d (cI v0b.source),.d (cI v0b.number),.d (cI v0b.format),.d (slOf 12 Record.row v0b.records)]],[]⟩) (fun p=>iter (fun s=>f_batch_Check_l1 v0b s) p.1 p.2=some r) (·.1) (n1,0) H (.cons rfl (.rfl' _) (.cons rfl (.rfl' _) (.cons rfl (.rfl' _) (.cons rfl (.rfl' _) (.nil))))) rfl ?_
  rintro ⟨m1,v17l1⟩ HI ih1
  obtain ⟨n1,q1,hm1,H,HK1⟩:=iter_succ HI
  clear HI
  replace H:f_batch_Check_l1 v0b v17l1=some q1:=H
  unfold f_batch_Check_l1 at H
  refine .A 5 [] rfl trivial ?_
  refine .ite H rfl (fun H=>?_) (fun H=>?_)
  ·obtain ⟨hk1,H⟩:=ck_some H
   obtain ⟨y3,hy3,H⟩:=bind_some' H
   refine .A 26 [.d (.ro (Record.row (nth v0b.records v17l1.toNat))),.r 1,.d (.tup [cS y3.1,cI y3.2])] rfl ⟨g_call (en 9 rfl) rfl rfl (c_f_textual_Encode (hy3)),s29.ix rfl rfl rfl hk1⟩ ?_
   refine .ite H rfl (fun H=>?_) (fun H=>?_)
   ·refine .A 5 [] rfl trivial ?_
    refine .R func17 results17 rfl ?_
    cases H
    cases HK1
    exact .m rfl (.rfl' _)
   ·refine .A 9 [] rfl trivial ?_
    refine .ite H rfl (fun H=>?_) (fun H=>?_)
    ·refine .A 4 [] rfl trivial ?_
     refine .R func17 results17 rfl ?_
     cases H
     cases HK1
     exact .m rfl (.rfl' _)
    ·obtain ⟨hk2,H⟩:=ck_some H
     refine .A 6 [.i (v17l1+1)] rfl (g_addI rfl rfl hk2) ?_
     cases H
     exact .t 1 0 (ih1 (n1,(v17l1+1)) HK1 hm1) rfl rfl rfl rfl rfl hS rfl
  ·refine .A 5 [] rfl trivial ?_
   refine .R func17 results17 rfl ?_
   cases H
   cases HK1
   exact .m rfl (.rfl' _)
set_option maxRecDepth 100000
set_option maxHeartbeats 1000000
theorem c_f_codec_zigzag {v0n:Int} {r:Int} (H:f_codec_zigzag v0n=some r):ACall prog 127 [cI v0n] (·=cK .u64 r):=by
 refine ACall.enter' func127 rfl ntmps127 rfl fun S hS=>?_
 unfold f_codec_zigzag at H
 obtain ⟨hk1,H⟩:=ck_some H
 refine .A 15 [.d (cK .u64 (IntKind.wrap .u64 v0n)),.d (cK .u64 (IntKind.wrap .u64 ((IntKind.wrap .u64 v0n)*2 ^ (min (Int.toNat (1)) 64)))),.i (v0n / 2 ^ (Int.toNat (63))),.d (cK .u64 (IntKind.wrap .u64 (v0n / 2 ^ (Int.toNat (63))))),.d (cK .u64 (bXor .u64 (IntKind.wrap .u64 ((IntKind.wrap .u64 v0n)*2 ^ (min (Int.toNat (1)) 64))) (IntKind.wrap .u64 (v0n / 2 ^ (Int.toNat (63))))))] rfl ⟨OpQ.g (q_xor rfl rfl),OpQ.g (q_conv underlying3 underlying122 rfl rfl),OpQ.g (q_shrI63 rfl rfl (by decide)),OpQ.g (q_shl (a:=IntKind.wrap .u64 v0n) (b:=1) rfl rfl hk1 rfl),OpQ.g (q_conv underlying3 underlying122 rfl rfl)⟩ ?_
 refine .R func127 results127 rfl ?_
 cases H
 exact .m rfl (.rfl' _)
theorem c_g_codec_grown {v0b:List UInt8} {v1n:Int} {r:(List UInt8)} (H:f_codec_grown v0b v1n=some r):ACallS prog 89 [.d (slOf 1 rB8 v0b),.d (cI v1n)] ⟨[],[]⟩ (QE (.tsl 1 (r.map rB8) 0) ⟨[],[⟨5,1,r.length,none⟩]⟩):=by
 obtain ⟨i5,hi5,hz5,hs5,hb5⟩:=in_5
 refine ACallS.keep ?_
 refine ACallS.enter func89 rfl ntmps89 rfl fun S hS=>?_
 unfold f_codec_grown at H
 obtain ⟨hk1,H⟩:=ck_some H
 obtain ⟨hk2,H⟩:=ck_some H
 refine .A 26 [.i (v0b.length:Int),.i (v0b.length:Int),.i ((v0b.length:Int)+v1n),.n (.vc 0 ((List.replicate ((v0b.length:Int)).toNat 0:List UInt8).length)) ⟨5,1,((List.replicate ((v0b.length:Int)).toNat 0:List UInt8).length),some ((List.replicate ((v0b.length:Int)).toNat 0:List UInt8).map rB8)⟩,.t (.d (cI ((min v0b.length (List.replicate ((v0b.length:Int)).toNat 0:List UInt8).length:Nat):Int))) 0 ⟨5,1,((List.replicate ((v0b.length:Int)).toNat 0:List UInt8).length),some ((v0b.take (min v0b.length (List.replicate ((v0b.length:Int)).toNat 0:List UInt8).length)++(List.replicate ((v0b.length:Int)).toNat 0:List UInt8).drop (min v0b.length (List.replicate ((v0b.length:Int)).toNat 0:List UInt8).length)).map rB8)⟩] rfl ⟨.e (v_copyV (l:=(List.replicate ((v0b.length:Int)).toNat 0:List UInt8)) (l':=v0b) (row:=rB8) underlying22 hi5 hs5 rfl rfl rfl rfl) rfl,.e (v_makeV (row:=rB8) (a:=(v0b.length:Int)) (b:=(v0b.length:Int)+v1n) (a0:=0) underlying22 hi5 hz5 hs5 rfl (by rw [hb5]; decide) rfl rfl rfl hk2) rfl,g_addI rfl rfl hk1,s22.n rfl rfl,s22.n rfl rfl⟩ ?_
 refine .freezeL (l:=v0b.take (min v0b.length (List.replicate ((v0b.length:Int)).toNat 0:List UInt8).length)++(List.replicate ((v0b.length:Int)).toNat 0:List UInt8).drop (min v0b.length (List.replicate ((v0b.length:Int)).toNat 0:List UInt8).length)) (row:=rB8) (i:=4) rfl rfl ?_
 refine .R func89 results89 rfl ?_
 cases H
 exact ⟨[],[0],rfl,rfl,rfl,rfl,rfl,rfl,rfl,rfl,.rfl' _⟩
theorem c_g_codec_add {v1n:Int} {y0t0p:List UInt8} {r:(List UInt8)} (H:g_codec_add v1n y0t0p=some r):ACallS prog 88 [.tsl 1 (y0t0p.map rB8) 0,.d (cI v1n)] ⟨[],[⟨5,1,y0t0p.length,none⟩]⟩ (QE (.tsl 1 (r.map rB8) 0) ⟨[],[⟨5,1,r.length,none⟩]⟩):=by
 obtain ⟨i5,hi5,hz5,hs5,hb5⟩:=in_5
 refine ACallS.keep ?_
 refine ACallS.enter func88 rfl ntmps88 rfl fun S hS=>?_
 unfold g_codec_add at H
 obtain ⟨y1,hy1,H⟩:=bind_some' H
 refine .A 11 [.d (cK .u64 y1)] rfl (g_call (en 10 rfl) rfl rfl (c_f_codec_zigzag (hy1))) ?_
 refine .blockJoin2 (ι:=List UInt8×Int) (fun ⟨v0bj1,v5uj1⟩=>[(0,.tsl 1 (v0bj1.map rB8) 0),(5,.d (cK .u64 v5uj1))]) (fun ⟨v0bj1,v5uj1⟩=>⟨[],[⟨5,1,v0bj1.length,none⟩]⟩) (fun s=>g_codec_add_j1 s.1 s.2=some r) ?_ ?_
 ·rintro ⟨v0bj1,v5uj1⟩ H
  replace H:g_codec_add_j1 v0bj1 v5uj1=some r:=H
  unfold g_codec_add_j1 at H
  obtain ⟨hk1,H⟩:=ck_some H
  refine .A 9 [.c (UInt8.ofInt v5uj1),.d (slOf 1 rB8 ([UInt8.ofInt v5uj1]:List UInt8)),.a 0 5 1 rB8 (v0bj1++([UInt8.ofInt v5uj1]:List UInt8))] rfl ⟨s22.a rfl rfl rfl rfl hk1,g_buildSlice1 underlying22 hi5 hs5 hz5 rfl rfl rfl rfl rfl,OpQ.g (q_conv8 underlying122 underlying5 rfl)⟩ ?_
  refine .R func88 results88 rfl ?_
  cases H
  exact ⟨[],[0],rfl,rfl,rfl,rfl,rfl,rfl,rfl,rfl,.rfl' _⟩
 ·intro hj1 hj1x
  obtain ⟨n1,H⟩:=loop_some H
  refine .loop (ι:=Nat×(List UInt8×Int)) (fun ⟨_,v0bl1,v5ul1⟩=>[(0,.tsl 1 (v0bl1.map rB8) 0),(5,.d (cK .u64 v5ul1))]) (fun ⟨_,v0bl1,v5ul1⟩=>⟨[],[⟨5,1,v0bl1.length,none⟩]⟩) (fun p=>iter (fun s=>g_codec_add_l1 s.1 s.2) p.1 p.2=some r) (·.1) (n1,(y0t0p,y1)) H (.cons rfl (.rfl' _) (.cons rfl (.rfl' _) (.nil))) rfl ?_
  rintro ⟨m1,v0bl1,v5ul1⟩ HI ih1
  obtain ⟨n1,q1,hm1,H,HK1⟩:=iter_succ HI
  clear HI
  replace H:g_codec_add_l1 v0bl1 v5ul1=some q1:=H
  unfold g_codec_add_l1 at H
  refine .A 6 [] rfl trivial ?_
  refine .ite H rfl (fun H=>?_) (fun H=>?_)
  ·obtain ⟨hk2,H⟩:=ck_some H
   obtain ⟨hk3,H⟩:=ck_some H
   refine .A 18 [.c (UInt8.ofInt v5ul1),.c ((UInt8.ofInt v5ul1) ||| 128),.d (slOf 1 rB8 ([(UInt8.ofInt v5ul1) ||| 128]:List UInt8)),.a 0 5 1 rB8 (v0bl1++([(UInt8.ofInt v5ul1) ||| 128]:List UInt8)),.d (cK .u64 (Int.fdiv v5ul1 (2 ^ (min (Int.toNat (7)) 64))))] rfl ⟨OpQ.g (q_shr (a:=v5ul1) (b:=7) rfl rfl hk3 rfl),s22.a rfl rfl rfl rfl hk2,g_buildSlice1 underlying22 hi5 hs5 hz5 rfl rfl rfl rfl rfl,OpQ.g (q8_or (a:=UInt8.ofInt v5ul1) (b:=128) rfl rfl),OpQ.g (q_conv8 underlying122 underlying5 rfl)⟩ ?_
   cases H
   exact .z (ih1 (n1,(v0bl1++([(UInt8.ofInt v5ul1) ||| 128]:List UInt8),Int.fdiv v5ul1 (2 ^ (min (Int.toNat (7)) 64)))) HK1 hm1) rfl rfl
  ·refine .A 1 [] rfl trivial ?_
   obtain ⟨q0,H9,hq0⟩:=map_some' H; clear H; cases hq0
   cases HK1
   have H:=H9
   exact .z (hj1x (v0bl1,v5ul1) H) rfl rfl
theorem c_f_codec_PutNumber {v0b:List UInt8} {v1n:Int} {r:(List UInt8)} (H:f_codec_PutNumber v0b v1n=some r):ACall prog 56 [slOf 1 rB8 v0b,cI v1n] (·=slOf 1 rB8 r):=by
 refine ACall.enter' func56 rfl ntmps56 rfl fun S hS=>?_
 unfold f_codec_PutNumber at H
 obtain ⟨y1,hy1,H⟩:=bind_some' H
 refine .B 7 [] rfl trivial ?_
 refine .callF (en 11 rfl) rfl [] [] (x:=.tsl 1 (y1.map rB8) 0) (st':=⟨[],[⟨5,1,y1.length,none⟩]⟩) rfl (c_g_codec_grown (hy1)) ⟨.rfl' _,.rfl' _,trivial⟩ rfl rfl rfl rfl rfl rfl ?_
 obtain ⟨y2,hy2,H⟩:=bind_some' H
 refine .B 1 [] rfl trivial ?_
 refine .callF (en 12 rfl) rfl [] [0] (x:=.tsl 1 (y2.map rB8) 0) (st':=⟨[],[⟨5,1,y2.length,none⟩]⟩) rfl (c_g_codec_add (hy2)) ⟨.rfl' _,.rfl' _,trivial⟩ rfl rfl rfl rfl rfl rfl ?_
 refine .A 2 [] rfl trivial ?_
 refine .R func56 results56 rfl ?_
 cases H
 exact .m rfl (.tsl _ _ _)
theorem c_f_batch_number {v0n:Int} {r:(List UInt8)×Int} (H:f_batch_number v0n=some r):ACall prog 32 [cI v0n] (·=.tup [slOf 1 rB8 r.1,cI r.2]):=by
 refine ACall.enter' func32 rfl ntmps32 rfl fun S hS=>?_
 unfold f_batch_number at H
 obtain ⟨y1,hy1,H⟩:=bind_some' H
 refine .A 12 [.d (slOf 1 rB8 y1)] rfl (g_call (en 13 rfl) rfl rfl ((c_f_codec_PutNumber (hy1)).le ⟨.nil 1,.rfl' _,trivial⟩)) ?_
 refine .R func32 results32 rfl ?_
 cases H
 exact .m rfl (.tupD rfl)
theorem c_f_digits_Pack {v0s:List UInt8} {r:(List UInt8)×Int} (H:f_digits_Pack v0s=some r):ACall prog 90 [cS v0s] (·=.tup [slOf 1 rB8 r.1,cI r.2]):=by
 obtain ⟨i5,hi5,hz5,hs5,hb5⟩:=in_5
 refine ACall.enter' func90 rfl ntmps90 rfl fun S hS=>?_
 unfold f_digits_Pack at H
 obtain ⟨y1,hy1,H⟩:=bind_some' H
 refine .A 12 [.b y1] rfl (g_call (en 3 rfl) rfl rfl (c_f_digits_Valid (hy1))) ?_
 refine .ite H rfl (fun H=>?_) (fun H=>?_)
 ·refine .A 5 [] rfl trivial ?_
  refine .R func90 results90 rfl ?_
  cases H
  exact .m rfl (.tupL ⟨.nil 1,.rfl' _,trivial⟩)
 ·refine .A 11 [] rfl trivial ?_
  refine .tok (i:=4) (e:=5) (sz:=1) rfl ?_
  obtain ⟨n1,H⟩:=loop_some H
  refine .loop (ι:=Nat×(List UInt8×Int)) (fun ⟨_,v4bl1,v5il1⟩=>[(0,.d (cS v0s)),(4,.tsl 1 (v4bl1.map rB8) 0),(5,.d (cI v5il1))]) (fun ⟨_,v4bl1,v5il1⟩=>⟨[],[⟨5,1,v4bl1.length,none⟩]⟩) (fun p=>iter (fun s=>f_digits_Pack_l1 v0s s.1 s.2) p.1 p.2=some r) (·.1) (n1,(([]:List UInt8),0)) H (.cons rfl (.rfl' _) (.cons rfl (.rfl' _) (.cons rfl (.rfl' _) (.nil)))) rfl ?_
  rintro ⟨m1,v4bl1,v5il1⟩ HI ih1
  obtain ⟨n1,q1,hm1,H,HK1⟩:=iter_succ HI
  clear HI
  replace H:f_digits_Pack_l1 v0s v4bl1 v5il1=some q1:=H
  unfold f_digits_Pack_l1 at H
  refine .A 8 [.i (v0s.length:Int)] rfl (OpQ.g (q_lenS underlying9 rfl)) ?_
  refine .ite H rfl (fun H=>?_) (fun H=>?_)
  ·refine .A 7 [] rfl trivial ?_
   refine .seqJoin (ι:=UInt8) (fun v6lowj1=>[(0,.d (cS v0s)),(4,.tsl 1 (v4bl1.map rB8) 0),(5,.d (cI v5il1)),(6,.d (cU8 v6lowj1))]) (fun v6lowj1=>⟨[],[⟨5,1,v4bl1.length,none⟩]⟩) (fun s=>f_digits_Pack_j1 v0s v4bl1 v5il1 s=some q1) ?_ ?_
   ·rintro v6lowj1 H
    replace H:f_digits_Pack_j1 v0s v4bl1 v5il1 v6lowj1=some q1:=H
    unfold f_digits_Pack_j1 at H
    obtain ⟨hk1,H⟩:=ck_some H
    obtain ⟨hk2,H⟩:=ck_some H
    obtain ⟨hk3,H⟩:=ck_some H
    obtain ⟨hk4,H⟩:=ck_some H
    refine .A 19 [.c (nth v0s v5il1.toNat),.c ((nth v0s v5il1.toNat) - 48),.c (u8shl ((nth v0s v5il1.toNat) - 48) 4),.c ((u8shl ((nth v0s v5il1.toNat) - 48) 4) ||| v6lowj1),.d (slOf 1 rB8 ([(u8shl ((nth v0s v5il1.toNat) - 48) 4) ||| v6lowj1]:List UInt8)),.a 0 5 1 rB8 (v4bl1++([(u8shl ((nth v0s v5il1.toNat) - 48) 4) ||| v6lowj1]:List UInt8)),.i (v5il1+2)] rfl ⟨g_addI rfl rfl hk4,s22.a rfl rfl rfl rfl hk3,g_buildSlice1 underlying22 hi5 hs5 hz5 rfl rfl rfl rfl rfl,OpQ.g (q8_or (a:=u8shl ((nth v0s v5il1.toNat) - 48) 4) (b:=v6lowj1) rfl rfl),OpQ.g (q8_shl (a:=(nth v0s v5il1.toNat) - 48) (n:=4) rfl rfl hk2),OpQ.g (q8_sub (a:=nth v0s v5il1.toNat) (b:=48) rfl rfl),OpQ.g (q_indexL (i:=v5il1) underlying9 rfl rfl hk1)⟩ ?_
    cases H
    exact .z (ih1 (n1,(v4bl1++([(u8shl ((nth v0s v5il1.toNat) - 48) 4) ||| v6lowj1]:List UInt8),v5il1+2)) HK1 hm1) rfl rfl
   ·intro hj1
    obtain ⟨hk5,H⟩:=ck_some H
    refine .A 8 [.i (v5il1+1),.i (v0s.length:Int)] rfl ⟨OpQ.g (q_lenS underlying9 rfl),g_addI rfl rfl hk5⟩ ?_
    refine .ite H rfl (fun H=>?_) (fun H=>?_)
    ·obtain ⟨hk6,H⟩:=ck_some H
     obtain ⟨hk7,H⟩:=ck_some H
     refine .A 8 [.i (v5il1+1),.c (nth v0s (v5il1+1).toNat),.c ((nth v0s (v5il1+1).toNat) - 48)] rfl ⟨OpQ.g (q8_sub (a:=nth v0s (v5il1+1).toNat) (b:=48) rfl rfl),OpQ.g (q_indexL (i:=v5il1+1) underlying9 rfl rfl hk7),g_addI rfl rfl hk6⟩ ?_
     exact .z (hj1 ((nth v0s (v5il1+1).toNat) - 48) H) rfl rfl
    ·refine .A 1 [] rfl trivial ?_
     exact .z (hj1 15 H) rfl rfl
  ·refine .A 7 [] rfl trivial ?_
   refine .R func90 results90 rfl ?_
   cases H
   cases HK1
   exact .m rfl (.tupL ⟨.tsl _ _ _,.rfl' _,trivial⟩)
theorem c_f_tagged_bytes {v0n:Int} {r:(List UInt8)} (H:f_tagged_bytes v0n=some r):ACall prog 93 [cI v0n] (·=slOf 1 rB8 r):=by
 obtain ⟨i5,hi5,hz5,hs5,hb5⟩:=in_5
 refine ACall.enter' func93 rfl ntmps93 rfl fun S hS=>?_
 unfold f_tagged_bytes at H
 refine .A 10 [] rfl trivial ?_
 obtain ⟨n1,H⟩:=loop_some H
 refine .loop (ι:=Nat×(Int×List UInt8)) (fun ⟨_,v0nl1,v3outl1⟩=>[(0,.d (cI v0nl1)),(3,.d (slOf 1 rB8 v3outl1))]) (fun ⟨_,v0nl1,v3outl1⟩=>⟨[],[]⟩) (fun p=>iter (fun s=>f_tagged_bytes_l1 s.1 s.2) p.1 p.2=some r) (·.1) (n1,(v0n,[])) H (.cons rfl (.rfl' _) (.cons rfl (.nil 1) (.nil))) rfl ?_
 rintro ⟨m1,v0nl1,v3outl1⟩ HI ih1
 obtain ⟨n1,q1,hm1,H,HK1⟩:=iter_succ HI
 clear HI
 replace H:f_tagged_bytes_l1 v0nl1 v3outl1=some q1:=H
 unfold f_tagged_bytes_l1 at H
 refine .A 6 [] rfl trivial ?_
 refine .ite H rfl (fun H=>?_) (fun H=>?_)
 ·obtain ⟨hk1,H⟩:=ck_some H
  obtain ⟨hk2,H⟩:=ck_some H
  refine .A 17 [.c (UInt8.ofInt v0nl1),.n (.tsl 1 (([UInt8.ofInt v0nl1]:List UInt8).map rB8) 0) ⟨5,1,([UInt8.ofInt v0nl1]:List UInt8).length,none⟩,.a 0 5 1 rB8 (([UInt8.ofInt v0nl1]:List UInt8)++v3outl1),.i (v0nl1 / 2 ^ (Int.toNat (8)))] rfl ⟨OpQ.g (q_shrI rfl rfl hk2),s22.a rfl rfl rfl rfl hk1,.e (v_buildSliceT (n:=1) underlying22 hi5 hs5 hz5 rfl rfl rfl rfl rfl) rfl,OpQ.g (q_conv8 underlying3 underlying5 rfl)⟩ ?_
  cases H
  exact .to 0 0 (env':=[(0,.d (cI (v0nl1 / 2 ^ (Int.toNat (8))))),(3,.d (slOf 1 rB8 (([UInt8.ofInt v0nl1]:List UInt8)++v3outl1)))]) (st':=⟨[],[]⟩) (.cons rfl (.rfl' _) (.cons rfl (.tsl _ _ _) .nil)) rfl rfl rfl rfl rfl (by rw [hS]; exact Nat.le_of_ble_eq_true rfl) (by rw [hS]; exact Nat.le_of_ble_eq_true rfl) <| .sub (.cons rfl (.rfl' _) (.cons rfl (.rfl' _) (.nil))) (ih1 (n1,(v0nl1 / 2 ^ (Int.toNat (8)),([UInt8.ofInt v0nl1]:List UInt8)++v3outl1)) HK1 hm1)
 ·refine .A 6 [] rfl trivial ?_
  refine .R func93 results93 rfl ?_
  cases H
  cases HK1
  exact .m rfl (.rfl' _)
theorem c_f_tagged_flag {v0holds:Bool} {v1n:Int} {r:Int} (H:f_tagged_flag v0holds v1n=some r):ACall prog 94 [cB v0holds,cI v1n] (·=cI r):=by
 refine ACall.enter' func94 rfl ntmps94 rfl fun S hS=>?_
 unfold f_tagged_flag at H
 refine .A 9 [] rfl trivial ?_
 refine .ite H rfl (fun H=>?_) (fun H=>?_)
 ·refine .A 5 [] rfl trivial ?_
  refine .R func94 results94 rfl ?_
  cases H
  exact .m rfl (.rfl' _)
 ·refine .A 5 [] rfl trivial ?_
  refine .R func94 results94 rfl ?_
  cases H
  exact .m rfl (.rfl' _)
theorem c_g_tagged_put {v1tag:Int} {v2value:List UInt8} {y0t0p:List UInt8} {n0p:Nat} {r:(List UInt8)} (H:g_tagged_put v1tag v2value y0t0p=some r):ACallS prog 92 [.vc 0 n0p,.d (cI v1tag),.d (slOf 1 rB8 v2value)] ⟨[],[⟨5,1,n0p,some (y0t0p.map rB8)⟩]⟩ (QE (.vc 0 ((r).length)) ⟨[],[⟨5,1,r.length,some (r.map rB8)⟩]⟩):=by
 obtain ⟨i5,hi5,hz5,hs5,hb5⟩:=in_5
 refine ACallS.keep ?_
 refine ACallS.enter func92 rfl ntmps92 rfl fun S hS=>?_
 unfold g_tagged_put at H
 obtain ⟨hk1,H⟩:=ck_some H
 obtain ⟨hk2,H⟩:=ck_some H
 refine .A 23 [.c (UInt8.ofInt v1tag),.i (v2value.length:Int),.c (UInt8.ofInt (v2value.length:Int)),.d (slOf 1 rB8 ([UInt8.ofInt v1tag,UInt8.ofInt (v2value.length:Int)]:List UInt8)),.t (.vc 0 ((y0t0p++([UInt8.ofInt v1tag,UInt8.ofInt (v2value.length:Int)]:List UInt8)).length)) 0 ⟨5,1,((y0t0p++([UInt8.ofInt v1tag,UInt8.ofInt (v2value.length:Int)]:List UInt8)).length),some ((y0t0p++([UInt8.ofInt v1tag,UInt8.ofInt (v2value.length:Int)]:List UInt8)).map rB8)⟩,.t (.vc 0 (((y0t0p++([UInt8.ofInt v1tag,UInt8.ofInt (v2value.length:Int)]:List UInt8))++v2value).length)) 0 ⟨5,1,(((y0t0p++([UInt8.ofInt v1tag,UInt8.ofInt (v2value.length:Int)]:List UInt8))++v2value).length),some (((y0t0p++([UInt8.ofInt v1tag,UInt8.ofInt (v2value.length:Int)]:List UInt8))++v2value).map rB8)⟩] rfl ⟨.e (v_appendV (l:=y0t0p++([UInt8.ofInt v1tag,UInt8.ofInt (v2value.length:Int)]:List UInt8)) (l':=v2value) (row:=rB8) underlying22 hi5 hz5 hs5 rfl (by rw [hb5]; decide) rfl rfl rfl rfl hk2) rfl,.e (v_appendV (l:=y0t0p) (l':=([UInt8.ofInt v1tag,UInt8.ofInt (v2value.length:Int)]:List UInt8)) (row:=rB8) underlying22 hi5 hz5 hs5 rfl (by rw [hb5]; decide) rfl rfl rfl rfl hk1) rfl,g_buildSliceN (n:=2) (rows:=([UInt8.ofInt v1tag,UInt8.ofInt (v2value.length:Int)]:List UInt8).map rB8) underlying22 hi5 hs5 hz5 rfl rfl rfl rfl rfl,OpQ.g (q_conv8 underlying3 underlying5 rfl),s22.n rfl rfl,OpQ.g (q_conv8 underlying3 underlying5 rfl)⟩ ?_
 refine .R func92 results92 rfl ?_
 cases H
 exact ⟨[],[0],rfl,rfl,rfl,rfl,rfl,rfl,rfl,rfl,.rfl' _⟩
set_option maxRecDepth 100000
set_option maxHeartbeats 1000000
theorem c_g_tagged_Encode_1 {v0tag:Int} {v1value:List UInt8} {y0t0p:List UInt8} {n0p:Nat} {r:(List UInt8)} (H:g_tagged_Encode_1 v0tag v1value y0t0p=some r):ACallS prog 91 [.d (cI v0tag),.d (slOf 1 rB8 v1value),.ref 0 0] ⟨[.row 22 [.vc 0 n0p]],[⟨5,1,n0p,some (y0t0p.map rB8)⟩]⟩ (QE (.d (.tup [])) ⟨[.row 22 [.vc 0 r.length]],[⟨5,1,r.length,some (r.map rB8)⟩]⟩):=by
 refine ACallS.keep ?_
 refine ACallS.enter func91 rfl ntmps91 rfl fun S hS=>?_
 unfold g_tagged_Encode_1 at H
 refine .A 6 [.i (v1value.length:Int)] rfl (s22.n rfl rfl) ?_
 refine .ite H rfl (fun H=>?_) (fun H=>?_)
 ·obtain ⟨y1,hy1,H⟩:=bind_some' H
  refine .B 4 [] rfl trivial ?_
  refine .callF (en 14 rfl) rfl [] [0] (x:=.vc 0 ((y1).length)) (st':=⟨[.row 22 [.vc 0 n0p]],[⟨5,1,y1.length,some (y1.map rB8)⟩]⟩) rfl (c_g_tagged_put (hy1)) ⟨.rfl' _,.rfl' _,.rfl' _,trivial⟩ rfl rfl rfl rfl rfl rfl ?_
  refine .A 2 [] rfl trivial ?_
  refine .fin0 func91 results91 ?_
  cases H
  exact ⟨[0],[0],rfl,rfl,rfl,rfl,rfl,rfl,rfl,rfl,EVle.tupL (ds:=[]) trivial⟩
 ·refine .A 1 [] rfl trivial ?_
  refine .normV (l:=y0t0p) (row:=rB8) (tk:=0) (fun z=>[]) (fun z=>⟨[.row 22 [.vc 0 z]],[⟨5,1,z,some (y0t0p.map rB8)⟩]⟩) rfl (.nil) rfl ?_
  refine .fin0 func91 results91 ?_
  cases H
  exact ⟨[0],[0],rfl,rfl,rfl,rfl,rfl,rfl,rfl,rfl,EVle.tupL (ds:=[]) trivial⟩
theorem c_f_tagged_Encode {v0:Record} {r:(List UInt8)×Int} (H:f_tagged_Encode v0=some r):ACall prog 58 [.agg (Record.row v0)] (·=.tup [slOf 1 rB8 r.1,cI r.2]):=by
 obtain ⟨i5,hi5,hz5,hs5,hb5⟩:=in_5
 refine ACall.enter' func58 rfl ntmps58 rfl fun S hS=>?_
 unfold f_tagged_Encode at H
 obtain ⟨y1,hy1,H⟩:=bind_some' H
 refine .A 22 [.r 0,.d (.tup [cS y1.1,cI y1.2])] rfl (g_call (en 9 rfl) rfl rfl (c_f_textual_Encode (hy1))) ?_
 refine .ite H rfl (fun H=>?_) (fun H=>?_)
 ·refine .A 6 [] rfl trivial ?_
  refine .R func58 results58 rfl ?_
  cases H
  exact .m rfl (.tupL ⟨.nil 1,.rfl' _,trivial⟩)
 ·obtain ⟨y2,hy2,H⟩:=bind_some' H
  obtain ⟨y3,hy3,H⟩:=bind_some' H
  obtain ⟨hk1,H⟩:=ck_some H
  obtain ⟨y4,hy4,H⟩:=bind_some' H
  obtain ⟨y5,hy5,H⟩:=bind_some' H
  refine .B 40 [.d (.tup [slOf 1 rB8 y2.1,cI y2.2]),.d (.tup [slOf 1 rB8 y3.1,cI y3.2]),.n (.vc 0 ((List.replicate (Int.toNat (2)) 0:List UInt8).length)) ⟨5,1,((List.replicate (Int.toNat (2)) 0:List UInt8).length),some ((List.replicate (Int.toNat (2)) 0:List UInt8).map rB8)⟩,.r 1,.g (.clo 91 [.ref 1 0]),.d (slOf 1 rB8 y4)] rfl ⟨g_call (en 15 rfl) rfl rfl (c_f_tagged_bytes (hy4)),OpQ.g (q_makeFunc rfl),.e (v_makeV (row:=rB8) (a:=2) (b:=2) (a0:=0) underlying22 hi5 hz5 hs5 rfl (by rw [hb5]; decide) rfl rfl rfl hk1) rfl,g_call (en 16 rfl) rfl rfl (c_f_digits_Pack (hy3)),g_call (en 16 rfl) rfl rfl (c_f_digits_Pack (hy2))⟩ ?_
  refine .callFC (en 17 rfl) rfl rfl [1] [0] (x:=.d (.tup [])) (st':=⟨[.row 49 [.d (cI v0.source),.d (cI v0.serial),.d (cI v0.kind),.d (cS v0.a),.d (cS v0.b),.d (cI v0.start),.d (cI v0.units),.d (cI v0.call),.d (cI v0.part),.d (cB v0.last),.d (cI v0.trunk),.d (cB v0.inbound)],.row 22 [.vc 0 y5.length]],[⟨5,1,y5.length,some (y5.map rB8)⟩]⟩) rfl (c_g_tagged_Encode_1 (hy5)) ⟨.rfl' _,.rfl' _,.rfl' _,trivial⟩ rfl rfl rfl rfl rfl rfl ?_
  obtain ⟨y6,hy6,H⟩:=bind_some' H
  obtain ⟨y7,hy7,H⟩:=bind_some' H
  refine .B 7 [.d (slOf 1 rB8 y6)] rfl (g_call (en 15 rfl) rfl rfl (c_f_tagged_bytes (hy6))) ?_
  refine .callFC (en 17 rfl) rfl rfl [1] [0] (x:=.d (.tup [])) (st':=⟨[.row 49 [.d (cI v0.source),.d (cI v0.serial),.d (cI v0.kind),.d (cS v0.a),.d (cS v0.b),.d (cI v0.start),.d (cI v0.units),.d (cI v0.call),.d (cI v0.part),.d (cB v0.last),.d (cI v0.trunk),.d (cB v0.inbound)],.row 22 [.vc 0 y7.length]],[⟨5,1,y7.length,some (y7.map rB8)⟩]⟩) rfl (c_g_tagged_Encode_1 (hy7)) ⟨.rfl' _,.rfl' _,.rfl' _,trivial⟩ rfl rfl rfl rfl rfl rfl ?_
  obtain ⟨y8,hy8,H⟩:=bind_some' H
  obtain ⟨y9,hy9,H⟩:=bind_some' H
  refine .B 7 [.d (slOf 1 rB8 y8)] rfl (g_call (en 15 rfl) rfl rfl (c_f_tagged_bytes (hy8))) ?_
  refine .callFC (en 17 rfl) rfl rfl [1] [0] (x:=.d (.tup [])) (st':=⟨[.row 49 [.d (cI v0.source),.d (cI v0.serial),.d (cI v0.kind),.d (cS v0.a),.d (cS v0.b),.d (cI v0.start),.d (cI v0.units),.d (cI v0.call),.d (cI v0.part),.d (cB v0.last),.d (cI v0.trunk),.d (cB v0.inbound)],.row 22 [.vc 0 y9.length]],[⟨5,1,y9.length,some (y9.map rB8)⟩]⟩) rfl (c_g_tagged_Encode_1 (hy9)) ⟨.rfl' _,.rfl' _,.rfl' _,trivial⟩ rfl rfl rfl rfl rfl rfl ?_
  obtain ⟨y10,hy10,H⟩:=bind_some' H
  refine .B 5 [] rfl trivial ?_
  refine .callFC (en 17 rfl) rfl rfl [1] [0] (x:=.d (.tup [])) (st':=⟨[.row 49 [.d (cI v0.source),.d (cI v0.serial),.d (cI v0.kind),.d (cS v0.a),.d (cS v0.b),.d (cI v0.start),.d (cI v0.units),.d (cI v0.call),.d (cI v0.part),.d (cB v0.last),.d (cI v0.trunk),.d (cB v0.inbound)],.row 22 [.vc 0 y10.length]],[⟨5,1,y10.length,some (y10.map rB8)⟩]⟩) rfl (c_g_tagged_Encode_1 (hy10)) ⟨.rfl' _,.rfl' _,.rfl' _,trivial⟩ rfl rfl rfl rfl rfl rfl ?_
  obtain ⟨y11,hy11,H⟩:=bind_some' H
  refine .B 5 [] rfl trivial ?_
  refine .callFC (en 17 rfl) rfl rfl [1] [0] (x:=.d (.tup [])) (st':=⟨[.row 49 [.d (cI v0.source),.d (cI v0.serial),.d (cI v0.kind),.d (cS v0.a),.d (cS v0.b),.d (cI v0.start),.d (cI v0.units),.d (cI v0.call),.d (cI v0.part),.d (cB v0.last),.d (cI v0.trunk),.d (cB v0.inbound)],.row 22 [.vc 0 y11.length]],[⟨5,1,y11.length,some (y11.map rB8)⟩]⟩) rfl (c_g_tagged_Encode_1 (hy11)) ⟨.rfl' _,.rfl' _,.rfl' _,trivial⟩ rfl rfl rfl rfl rfl rfl ?_
  obtain ⟨y12,hy12,H⟩:=bind_some' H
  obtain ⟨y13,hy13,H⟩:=bind_some' H
  refine .B 7 [.d (slOf 1 rB8 y12)] rfl (g_call (en 15 rfl) rfl rfl (c_f_tagged_bytes (hy12))) ?_
  refine .callFC (en 17 rfl) rfl rfl [1] [0] (x:=.d (.tup [])) (st':=⟨[.row 49 [.d (cI v0.source),.d (cI v0.serial),.d (cI v0.kind),.d (cS v0.a),.d (cS v0.b),.d (cI v0.start),.d (cI v0.units),.d (cI v0.call),.d (cI v0.part),.d (cB v0.last),.d (cI v0.trunk),.d (cB v0.inbound)],.row 22 [.vc 0 y13.length]],[⟨5,1,y13.length,some (y13.map rB8)⟩]⟩) rfl (c_g_tagged_Encode_1 (hy13)) ⟨.rfl' _,.rfl' _,.rfl' _,trivial⟩ rfl rfl rfl rfl rfl rfl ?_
  obtain ⟨y14,hy14,H⟩:=bind_some' H
  obtain ⟨y15,hy15,H⟩:=bind_some' H
  refine .B 7 [.d (slOf 1 rB8 y14)] rfl (g_call (en 15 rfl) rfl rfl (c_f_tagged_bytes (hy14))) ?_
  refine .callFC (en 17 rfl) rfl rfl [1] [0] (x:=.d (.tup [])) (st':=⟨[.row 49 [.d (cI v0.source),.d (cI v0.serial),.d (cI v0.kind),.d (cS v0.a),.d (cS v0.b),.d (cI v0.start),.d (cI v0.units),.d (cI v0.call),.d (cI v0.part),.d (cB v0.last),.d (cI v0.trunk),.d (cB v0.inbound)],.row 22 [.vc 0 y15.length]],[⟨5,1,y15.length,some (y15.map rB8)⟩]⟩) rfl (c_g_tagged_Encode_1 (hy15)) ⟨.rfl' _,.rfl' _,.rfl' _,trivial⟩ rfl rfl rfl rfl rfl rfl ?_
  obtain ⟨y16,hy16,H⟩:=bind_some' H
  obtain ⟨y17,hy17,H⟩:=bind_some' H
  refine .B 7 [.d (slOf 1 rB8 y16)] rfl (g_call (en 15 rfl) rfl rfl (c_f_tagged_bytes (hy16))) ?_
  refine .callFC (en 17 rfl) rfl rfl [1] [0] (x:=.d (.tup [])) (st':=⟨[.row 49 [.d (cI v0.source),.d (cI v0.serial),.d (cI v0.kind),.d (cS v0.a),.d (cS v0.b),.d (cI v0.start),.d (cI v0.units),.d (cI v0.call),.d (cI v0.part),.d (cB v0.last),.d (cI v0.trunk),.d (cB v0.inbound)],.row 22 [.vc 0 y17.length]],[⟨5,1,y17.length,some (y17.map rB8)⟩]⟩) rfl (c_g_tagged_Encode_1 (hy17)) ⟨.rfl' _,.rfl' _,.rfl' _,trivial⟩ rfl rfl rfl rfl rfl rfl ?_
  obtain ⟨y18,hy18,H⟩:=bind_some' H
  obtain ⟨y19,hy19,H⟩:=bind_some' H
  refine .B 7 [.d (slOf 1 rB8 y18)] rfl (g_call (en 15 rfl) rfl rfl (c_f_tagged_bytes (hy18))) ?_
  refine .callFC (en 17 rfl) rfl rfl [1] [0] (x:=.d (.tup [])) (st':=⟨[.row 49 [.d (cI v0.source),.d (cI v0.serial),.d (cI v0.kind),.d (cS v0.a),.d (cS v0.b),.d (cI v0.start),.d (cI v0.units),.d (cI v0.call),.d (cI v0.part),.d (cB v0.last),.d (cI v0.trunk),.d (cB v0.inbound)],.row 22 [.vc 0 y19.length]],[⟨5,1,y19.length,some (y19.map rB8)⟩]⟩) rfl (c_g_tagged_Encode_1 (hy19)) ⟨.rfl' _,.rfl' _,.rfl' _,trivial⟩ rfl rfl rfl rfl rfl rfl ?_
  obtain ⟨y20,hy20,H⟩:=bind_some' H
  obtain ⟨y21,hy21,H⟩:=bind_some' H
  refine .B 7 [.d (slOf 1 rB8 y20)] rfl (g_call (en 15 rfl) rfl rfl (c_f_tagged_bytes (hy20))) ?_
  refine .callFC (en 17 rfl) rfl rfl [1] [0] (x:=.d (.tup [])) (st':=⟨[.row 49 [.d (cI v0.source),.d (cI v0.serial),.d (cI v0.kind),.d (cS v0.a),.d (cS v0.b),.d (cI v0.start),.d (cI v0.units),.d (cI v0.call),.d (cI v0.part),.d (cB v0.last),.d (cI v0.trunk),.d (cB v0.inbound)],.row 22 [.vc 0 y21.length]],[⟨5,1,y21.length,some (y21.map rB8)⟩]⟩) rfl (c_g_tagged_Encode_1 (hy21)) ⟨.rfl' _,.rfl' _,.rfl' _,trivial⟩ rfl rfl rfl rfl rfl rfl ?_
  obtain ⟨y22,hy22,H⟩:=bind_some' H
  obtain ⟨y23,hy23,H⟩:=bind_some' H
  obtain ⟨hk2,H⟩:=ck_some H
  obtain ⟨y24,hy24,H⟩:=bind_some' H
  obtain ⟨y25,hy25,H⟩:=bind_some' H
  refine .B 13 [.p 9,.i y22,.i y23,.i (y22+y23),.d (slOf 1 rB8 y24)] rfl ⟨g_call (en 15 rfl) rfl rfl (c_f_tagged_bytes (hy24)),g_addI rfl rfl hk2,g_call (en 18 rfl) rfl rfl (c_f_tagged_flag (hy23)),g_call (en 18 rfl) rfl rfl (c_f_tagged_flag (hy22)),(show drawB _ _=true by kernel_rfl)⟩ ?_
  refine .callFC (en 17 rfl) rfl rfl [1] [0] (x:=.d (.tup [])) (st':=⟨[.row 49 [.d (cI v0.source),.d (cI v0.serial),.d (cI v0.kind),.d (cS v0.a),.d (cS v0.b),.d (cI v0.start),.d (cI v0.units),.d (cI v0.call),.d (cI v0.part),.d (cB v0.last),.d (cI v0.trunk),.d (cB v0.inbound)],.row 22 [.vc 0 y25.length]],[⟨5,1,y25.length,some (y25.map rB8)⟩]⟩) rfl (c_g_tagged_Encode_1 (hy25)) ⟨.rfl' _,.rfl' _,.rfl' _,trivial⟩ rfl rfl rfl rfl rfl rfl ?_
  obtain ⟨hk3,H⟩:=ck_some H
  refine .A 9 [.i (y25.length:Int),.i ((y25.length:Int) - 2)] rfl ⟨g_subI rfl rfl hk3,OpQ.g (q_lenV (l:=y25) (row:=rB8) underlying22 rfl rfl)⟩ ?_
  obtain ⟨hk4,H⟩:=ck_some H
  obtain ⟨hk5,H⟩:=ck_some H
  obtain ⟨hk6,H⟩:=ck_some H
  refine .orders1 9 8 [⟨[.row 49 [.d (cI v0.source),.d (cI v0.serial),.d (cI v0.kind),.d (cS v0.a),.d (cS v0.b),.d (cI v0.start),.d (cI v0.units),.d (cI v0.call),.d (cI v0.part),.d (cB v0.last),.d (cI v0.trunk),.d (cB v0.inbound)],.row 22 [.vc 0 y25.length]],[⟨5,1,y25.length,some (y25.map rB8)⟩]⟩,⟨[.row 49 [.d (cI v0.source),.d (cI v0.serial),.d (cI v0.kind),.d (cS v0.a),.d (cS v0.b),.d (cI v0.start),.d (cI v0.units),.d (cI v0.call),.d (cI v0.part),.d (cB v0.last),.d (cI v0.trunk),.d (cB v0.inbound)],.row 22 [.vc 0 y25.length]],[⟨5,1,y25.length,some ((y25.set (Int.toNat (0)) (UInt8.ofInt (((y25.length:Int) - 2) / 2 ^ (Int.toNat (8))))).map rB8)⟩]⟩] hMix (by kernel_rfl) (by decide) rfl ?_
  show XOps _ _ _ _ _ _ _ _ _ _ (_ :: _) _ _
  refine .g (x:=.vc 0 y25.length) 0 0 ⟨OpQ.g (q_loadO one_22 rfl rfl rfl),trivial⟩ rfl (by kernel_rfl) rfl ?_
  refine .g (x:=.vc 0 y25.length) 0 1 ⟨OpQ.g (q_loadO one_22 rfl rfl rfl),OpQ.g (q_loadO one_22 rfl rfl rfl),trivial⟩ rfl (by kernel_rfl) rfl ?_
  refine .g (x:=.d (cI ((y25.length:Int) - 2))) 0 0 ⟨OpQ.g (q_move rfl),trivial⟩ rfl (by kernel_rfl) rfl ?_
  refine .g (x:=.d (cI (((y25.length:Int) - 2) / 2 ^ (Int.toNat (8))))) 0 0 ⟨OpQ.g (q_shrI rfl rfl hk4),trivial⟩ rfl (by kernel_rfl) rfl ?_
  refine .g (x:=.d (cU8 (UInt8.ofInt (((y25.length:Int) - 2) / 2 ^ (Int.toNat (8)))))) 0 0 ⟨OpQ.g (q_conv8 underlying3 underlying5 rfl),trivial⟩ rfl (by kernel_rfl) rfl ?_
  refine .g (x:=.d (cI ((y25.length:Int) - 2))) 0 1 ⟨OpQ.g (q_move rfl),OpQ.g (q_move rfl),trivial⟩ rfl (by kernel_rfl) rfl ?_
  refine .g (x:=.d (cU8 (UInt8.ofInt ((y25.length:Int) - 2)))) 0 1 ⟨OpQ.g (q_conv8 underlying3 underlying5 rfl),OpQ.g (q_conv8 underlying3 underlying5 rfl),trivial⟩ rfl (by kernel_rfl) rfl ?_
  refine .g (x:=.vp 0 y25.length (Int.toNat (0)) 0) 0 0 ⟨OpQ.g (q_idxV (l:=y25) (row:=rB8) (i:=0) underlying22 hi5 hs5 rfl rfl rfl hk5),trivial⟩ rfl (by kernel_rfl) rfl ?_
  refine .u 0 (u_storeV (l:=y25) (row:=rB8) (a:=UInt8.ofInt (((y25.length:Int) - 2) / 2 ^ (Int.toNat (8)))) rfl rfl hk6 rfl rfl sz_5 rfl (Nat.le_of_ble_eq_true rfl) rfl) rfl rfl rfl rfl ?_
  refine .nil rfl ?_
  show AOps _ _ _ _ _ _ (_ :: _) _ _ _
  obtain ⟨hk7,H⟩:=ck_some H
  obtain ⟨hk8,H⟩:=ck_some H
  refine .A 9 [.g (.vp 0 y25.length (Int.toNat (1)) 0),.w 8 ⟨[.row 49 [.d (cI v0.source),.d (cI v0.serial),.d (cI v0.kind),.d (cS v0.a),.d (cS v0.b),.d (cI v0.start),.d (cI v0.units),.d (cI v0.call),.d (cI v0.part),.d (cB v0.last),.d (cI v0.trunk),.d (cB v0.inbound)],.row 22 [.vc 0 y25.length]],[⟨5,1,y25.length,some (((y25.set (Int.toNat (0)) (UInt8.ofInt (((y25.length:Int) - 2) / 2 ^ (Int.toNat (8))))).set (Int.toNat (1)) (UInt8.ofInt ((y25.length:Int) - 2))).map rB8)⟩]⟩] rfl ⟨.e (u_storeV (l:=y25.set (Int.toNat (0)) (UInt8.ofInt (((y25.length:Int) - 2) / 2 ^ (Int.toNat (8))))) (row:=rB8) (a:=UInt8.ofInt ((y25.length:Int) - 2)) rfl rfl hk8 rfl rfl sz_5 rfl (Nat.le_of_ble_eq_true rfl) rfl) rfl,OpQ.g (q_idxV (l:=y25.set (Int.toNat (0)) (UInt8.ofInt (((y25.length:Int) - 2) / 2 ^ (Int.toNat (8))))) (row:=rB8) (i:=1) underlying22 hi5 hs5 rfl rfl rfl hk7)⟩ ?_
  refine .freezeL (l:=(y25.set (Int.toNat (0)) (UInt8.ofInt (((y25.length:Int) - 2) / 2 ^ (Int.toNat (8))))).set (Int.toNat (1)) (UInt8.ofInt ((y25.length:Int) - 2))) (row:=rB8) (i:=2) rfl rfl ?_
  refine .R func58 results58 rfl ?_
  cases H
  exact .m rfl (.tupL ⟨.tsl _ _ _,.rfl' _,trivial⟩)
theorem c_f_packed_bit {v0holds:Bool} {v1n:UInt8} {r:UInt8} (H:f_packed_bit v0holds v1n=some r):ACall prog 97 [cB v0holds,cU8 v1n] (·=cU8 r):=by
 refine ACall.enter' func97 rfl ntmps97 rfl fun S hS=>?_
 unfold f_packed_bit at H
 refine .A 9 [] rfl trivial ?_
 refine .ite H rfl (fun H=>?_) (fun H=>?_)
 ·refine .A 5 [] rfl trivial ?_
  refine .R func97 results97 rfl ?_
  cases H
  exact .m rfl (.rfl' _)
 ·refine .A 5 [] rfl trivial ?_
  refine .R func97 results97 rfl ?_
  cases H
  exact .m rfl (.rfl' _)
theorem c_f_packed_sum {v0b:List UInt8} {r:UInt8} (H:f_packed_sum v0b=some r):ACall prog 99 [slOf 1 rB8 v0b] (·=cU8 r):=by
 refine ACall.enter' func99 rfl ntmps99 rfl fun S hS=>?_
 unfold f_packed_sum at H
 refine .A 16 [.i (v0b.length:Int)] rfl (s22.n rfl rfl) ?_
 obtain ⟨n1,H⟩:=loop_some H
 refine .loop (ι:=Nat×(UInt8×Int)) (fun ⟨_,v3nl1,v8l1⟩=>[(3,.d (cU8 v3nl1)),(6,.d (slOf 1 rB8 v0b)),(7,.d (cI (v0b.length:Int))),(8,.d (cI v8l1))]) (fun ⟨_,v3nl1,v8l1⟩=>⟨[],[]⟩) (fun p=>iter (fun s=>f_packed_sum_l1 v0b s.1 s.2) p.1 p.2=some r) (·.1) (n1,(0,0)) H (.cons rfl (.rfl' _) (.cons rfl (.rfl' _) (.cons rfl (.rfl' _) (.cons rfl (.rfl' _) (.nil))))) rfl ?_
 rintro ⟨m1,v3nl1,v8l1⟩ HI ih1
 obtain ⟨n1,q1,hm1,H,HK1⟩:=iter_succ HI
 clear HI
 replace H:f_packed_sum_l1 v0b v3nl1 v8l1=some q1:=H
 unfold f_packed_sum_l1 at H
 refine .A 5 [] rfl trivial ?_
 refine .ite H rfl (fun H=>?_) (fun H=>?_)
 ·obtain ⟨hk1,H⟩:=ck_some H
  obtain ⟨hk2,H⟩:=ck_some H
  refine .A 20 [.d (.ro (rB8 (nth v0b v8l1.toNat))),.c (v3nl1+(nth v0b v8l1.toNat)),.i (v8l1+1)] rfl ⟨g_addI rfl rfl hk2,OpQ.g (q8_add (a:=v3nl1) (b:=nth v0b v8l1.toNat) rfl rfl),s22.ix rfl rfl rfl hk1⟩ ?_
  cases H
  exact .z (ih1 (n1,(v3nl1+(nth v0b v8l1.toNat),v8l1+1)) HK1 hm1) rfl rfl
 ·refine .A 6 [] rfl trivial ?_
  refine .R func99 results99 rfl ?_
  cases H
  cases HK1
  exact .m rfl (.rfl' _)
theorem c_g_packed_PutDecimal {v0b:List UInt8} {v1n:Int} {v2size:Int} {r:(List UInt8)×Int} (H:f_packed_PutDecimal v0b v1n v2size=some r):ACallS prog 96 [.d (slOf 1 rB8 v0b),.d (cI v1n),.d (cI v2size)] ⟨[],[]⟩ (QE (.tup [.tsl 1 (r.1.map rB8) 0,.d (cI r.2)]) ⟨[],[⟨5,1,r.1.length,none⟩]⟩):=by
 obtain ⟨i5,hi5,hz5,hs5,hb5⟩:=in_5
 refine ACallS.keep ?_
 refine ACallS.enter func96 rfl ntmps96 rfl fun S hS=>?_
 unfold f_packed_PutDecimal at H
 refine .A 19 [] rfl ⟨rfl,rfl,rfl,rfl⟩ ?_
 refine .ite H rfl (fun H=>?_) (fun H=>?_)
 ·refine .A 5 [] rfl trivial ?_
  refine .tok (i:=6) (e:=5) (sz:=1) rfl ?_
  refine .R func96 results96 rfl ?_
  cases H
  exact ⟨[],[0],rfl,rfl,rfl,rfl,rfl,rfl,rfl,rfl,.tupE ⟨.rfl' _,.rfl' _,trivial⟩⟩
 ·obtain ⟨hk1,H⟩:=ck_some H
  obtain ⟨hk2,H⟩:=ck_some H
  obtain ⟨hk3,H⟩:=ck_some H
  refine .A 24 [.i (v0b.length:Int),.i ((v0b.length:Int)+v2size),.n (.vc 0 ((List.replicate ((v0b.length:Int)+v2size).toNat 0:List UInt8).length)) ⟨5,1,((List.replicate ((v0b.length:Int)+v2size).toNat 0:List UInt8).length),some ((List.replicate ((v0b.length:Int)+v2size).toNat 0:List UInt8).map rB8)⟩,.t (.d (cI ((min v0b.length (List.replicate ((v0b.length:Int)+v2size).toNat 0:List UInt8).length:Nat):Int))) 0 ⟨5,1,((List.replicate ((v0b.length:Int)+v2size).toNat 0:List UInt8).length),some ((v0b.take (min v0b.length (List.replicate ((v0b.length:Int)+v2size).toNat 0:List UInt8).length)++(List.replicate ((v0b.length:Int)+v2size).toNat 0:List UInt8).drop (min v0b.length (List.replicate ((v0b.length:Int)+v2size).toNat 0:List UInt8).length)).map rB8)⟩,.i ((v0b.take (min v0b.length (List.replicate ((v0b.length:Int)+v2size).toNat 0:List UInt8).length)++(List.replicate ((v0b.length:Int)+v2size).toNat 0:List UInt8).drop (min v0b.length (List.replicate ((v0b.length:Int)+v2size).toNat 0:List UInt8).length)).length:Int),.i (((v0b.take (min v0b.length (List.replicate ((v0b.length:Int)+v2size).toNat 0:List UInt8).length)++(List.replicate ((v0b.length:Int)+v2size).toNat 0:List UInt8).drop (min v0b.length (List.replicate ((v0b.length:Int)+v2size).toNat 0:List UInt8).length)).length:Int) - 1)] rfl ⟨g_subI rfl rfl hk3,OpQ.g (q_lenV (l:=v0b.take (min v0b.length (List.replicate ((v0b.length:Int)+v2size).toNat 0:List UInt8).length)++(List.replicate ((v0b.length:Int)+v2size).toNat 0:List UInt8).drop (min v0b.length (List.replicate ((v0b.length:Int)+v2size).toNat 0:List UInt8).length)) (row:=rB8) underlying22 rfl rfl),.e (v_copyV (l:=(List.replicate ((v0b.length:Int)+v2size).toNat 0:List UInt8)) (l':=v0b) (row:=rB8) underlying22 hi5 hs5 rfl rfl rfl rfl) rfl,.e (v_makeV (row:=rB8) (a:=(v0b.length:Int)+v2size) (b:=(v0b.length:Int)+v2size) (a0:=0) underlying22 hi5 hz5 hs5 rfl (by rw [hb5]; decide) rfl rfl rfl hk2) rfl,g_addI rfl rfl hk1,s22.n rfl rfl⟩ ?_
  refine .blockJoin2 (ι:=List UInt8×Int) (fun ⟨y0tj1,v1nj1⟩=>[(1,.d (cI v1nj1)),(8,.vc 0 y0tj1.length)]) (fun ⟨y0tj1,v1nj1⟩=>⟨[],[⟨5,1,y0tj1.length,some (y0tj1.map rB8)⟩]⟩) (fun s=>f_packed_PutDecimal_j1 s.1 s.2=some r) ?_ ?_
  ·rintro ⟨y0tj1,v1nj1⟩ H
   replace H:f_packed_PutDecimal_j1 y0tj1 v1nj1=some r:=H
   unfold f_packed_PutDecimal_j1 at H
   refine .A 6 [] rfl trivial ?_
   refine .ite H rfl (fun H=>?_) (fun H=>?_)
   ·refine .A 5 [] rfl trivial ?_
    refine .tok (i:=6) (e:=5) (sz:=1) rfl ?_
    refine .R func96 results96 rfl ?_
    cases H
    exact ⟨[],[1],rfl,rfl,rfl,rfl,rfl,rfl,rfl,rfl,.tupE ⟨.rfl' _,.rfl' _,trivial⟩⟩
   ·refine .A 7 [] rfl trivial ?_
    refine .freezeL (l:=y0tj1) (row:=rB8) (i:=6) rfl rfl ?_
    refine .R func96 results96 rfl ?_
    cases H
    exact ⟨[],[0],rfl,rfl,rfl,rfl,rfl,rfl,rfl,rfl,.tupE ⟨.rfl' _,.rfl' _,trivial⟩⟩
  ·intro hj1 hj1x
   obtain ⟨n1,H⟩:=loop_some H
   refine .normV (l:=v0b.take (min v0b.length (List.replicate ((v0b.length:Int)+v2size).toNat 0:List UInt8).length)++(List.replicate ((v0b.length:Int)+v2size).toNat 0:List UInt8).drop (min v0b.length (List.replicate ((v0b.length:Int)+v2size).toNat 0:List UInt8).length)) (row:=rB8) (tk:=0) (fun z=>[(0,.d (slOf 1 rB8 v0b)),(1,.d (cI v1n)),(8,.vc 0 z),(9,.d (cI (((v0b.take (min v0b.length (List.replicate ((v0b.length:Int)+v2size).toNat 0:List UInt8).length)++(List.replicate ((v0b.length:Int)+v2size).toNat 0:List UInt8).drop (min v0b.length (List.replicate ((v0b.length:Int)+v2size).toNat 0:List UInt8).length)).length:Int) - 1)))]) (fun z=>⟨[],[⟨5,1,z,some ((v0b.take (min v0b.length (List.replicate ((v0b.length:Int)+v2size).toNat 0:List UInt8).length)++(List.replicate ((v0b.length:Int)+v2size).toNat 0:List UInt8).drop (min v0b.length (List.replicate ((v0b.length:Int)+v2size).toNat 0:List UInt8).length)).map rB8)⟩]⟩) rfl (.cons rfl (.rfl' _) (.cons rfl (.rfl' _) (.cons rfl (.rfl' _) (.cons rfl (.rfl' _) (.nil))))) rfl ?_
   refine .loop (ι:=Nat×(List UInt8×Int×Int)) (fun ⟨_,y0tl1,v1nl1,v9il1⟩=>[(0,.d (slOf 1 rB8 v0b)),(1,.d (cI v1nl1)),(8,.vc 0 y0tl1.length),(9,.d (cI v9il1))]) (fun ⟨_,y0tl1,v1nl1,v9il1⟩=>⟨[],[⟨5,1,y0tl1.length,some (y0tl1.map rB8)⟩]⟩) (fun p=>iter (fun s=>f_packed_PutDecimal_l1 v0b s.1 s.2.1 s.2.2) p.1 p.2=some r) (·.1) (n1,(v0b.take (min v0b.length (List.replicate ((v0b.length:Int)+v2size).toNat 0:List UInt8).length)++(List.replicate ((v0b.length:Int)+v2size).toNat 0:List UInt8).drop (min v0b.length (List.replicate ((v0b.length:Int)+v2size).toNat 0:List UInt8).length),v1n,((v0b.take (min v0b.length (List.replicate ((v0b.length:Int)+v2size).toNat 0:List UInt8).length)++(List.replicate ((v0b.length:Int)+v2size).toNat 0:List UInt8).drop (min v0b.length (List.replicate ((v0b.length:Int)+v2size).toNat 0:List UInt8).length)).length:Int) - 1)) H (.cons rfl (.rfl' _) (.cons rfl (.rfl' _) (.cons rfl (.rfl' _) (.cons rfl (.rfl' _) (.nil))))) rfl ?_
   rintro ⟨m1,y0tl1,v1nl1,v9il1⟩ HI ih1
   obtain ⟨n1,q1,hm1,H,HK1⟩:=iter_succ HI
   clear HI
   replace H:f_packed_PutDecimal_l1 v0b y0tl1 v1nl1 v9il1=some q1:=H
   unfold f_packed_PutDecimal_l1 at H
   refine .A 8 [.i (v0b.length:Int)] rfl (s22.n rfl rfl) ?_
   refine .ite H rfl (fun H=>?_) (fun H=>?_)
   ·obtain ⟨hk4,H⟩:=ck_some H
    obtain ⟨hk5,H⟩:=ck_some H
    obtain ⟨hk6,H⟩:=ck_some H
    obtain ⟨hk7,H⟩:=ck_some H
    obtain ⟨hk8,H⟩:=ck_some H
    obtain ⟨hk9,H⟩:=ck_some H
    obtain ⟨hk10,H⟩:=ck_some H
    obtain ⟨hk11,H⟩:=ck_some H
    refine .A 29 [.i (Int.tdiv v1nl1 10),.i (Int.tmod (Int.tdiv v1nl1 10) 10),.i ((Int.tmod (Int.tdiv v1nl1 10) 10)*2 ^ (Int.toNat (4))),.i (Int.tmod v1nl1 10),.i (bOr .i64 ((Int.tmod (Int.tdiv v1nl1 10) 10)*2 ^ (Int.toNat (4))) (Int.tmod v1nl1 10)),.c (UInt8.ofInt (bOr .i64 ((Int.tmod (Int.tdiv v1nl1 10) 10)*2 ^ (Int.toNat (4))) (Int.tmod v1nl1 10))),.g (.vp 0 y0tl1.length v9il1.toNat 0),.w 13 ⟨[],[⟨5,1,y0tl1.length,some ((y0tl1.set v9il1.toNat (UInt8.ofInt (bOr .i64 ((Int.tmod (Int.tdiv v1nl1 10) 10)*2 ^ (Int.toNat (4))) (Int.tmod v1nl1 10)))).map rB8)⟩]⟩,.i (Int.tdiv v1nl1 100),.i (v9il1-1)] rfl ⟨g_subI rfl rfl hk11,OpQ.g (q_quoT rfl rfl hk10),.e (u_storeV (l:=y0tl1) (row:=rB8) (a:=UInt8.ofInt (bOr .i64 ((Int.tmod (Int.tdiv v1nl1 10) 10)*2 ^ (Int.toNat (4))) (Int.tmod v1nl1 10))) rfl rfl hk9 rfl rfl sz_5 rfl (Nat.le_of_ble_eq_true rfl) rfl) rfl,OpQ.g (q_idxV (l:=y0tl1) (row:=rB8) (i:=v9il1) underlying22 hi5 hs5 rfl rfl rfl hk8),OpQ.g (q_conv8 underlying3 underlying5 rfl),OpQ.g (q_or rfl rfl),OpQ.g (q_remT rfl rfl hk7),OpQ.g (q_shlI rfl rfl hk6),OpQ.g (q_remT rfl rfl hk5),OpQ.g (q_quoT rfl rfl hk4)⟩ ?_
    cases H
    refine .normV (l:=y0tl1.set v9il1.toNat (UInt8.ofInt (bOr .i64 ((Int.tmod (Int.tdiv v1nl1 10) 10)*2 ^ (Int.toNat (4))) (Int.tmod v1nl1 10)))) (row:=rB8) (tk:=0) (fun z=>[(0,.d (slOf 1 rB8 v0b)),(1,.d (cI (Int.tdiv v1nl1 100))),(8,.vc 0 z),(9,.d (cI (v9il1-1)))]) (fun z=>⟨[],[⟨5,1,z,some ((y0tl1.set v9il1.toNat (UInt8.ofInt (bOr .i64 ((Int.tmod (Int.tdiv v1nl1 10) 10)*2 ^ (Int.toNat (4))) (Int.tmod v1nl1 10)))).map rB8)⟩]⟩) rfl (.cons rfl (.rfl' _) (.cons rfl (.rfl' _) (.cons rfl (.rfl' _) (.cons rfl (.rfl' _) (.nil))))) rfl ?_
    exact .z (ih1 (n1,(y0tl1.set v9il1.toNat (UInt8.ofInt (bOr .i64 ((Int.tmod (Int.tdiv v1nl1 10) 10)*2 ^ (Int.toNat (4))) (Int.tmod v1nl1 10))),Int.tdiv v1nl1 100,v9il1-1)) HK1 hm1) rfl rfl
   ·refine .A 1 [] rfl trivial ?_
    obtain ⟨q0,H9,hq0⟩:=map_some' H; clear H; cases hq0
    cases HK1
    have H:=H9
    exact .z (hj1x (y0tl1,v1nl1) H) rfl rfl
theorem c_g_packed_Encode_1 {v0n:Int} {v1size:Int} {r:(List UInt8)} (H:g_packed_Encode_1 v0n v1size=some r):ACallS prog 95 [.d (cI v0n),.d (cI v1size),.ref 0 0] ⟨[.row 22 [.d (nilD)]],[]⟩ (QE (.d (.tup [])) ⟨[.row 22 [.tsl 1 (r.map rB8) 0]],[⟨5,1,r.length,none⟩]⟩):=by
 refine ACallS.keep ?_
 refine ACallS.enter func95 rfl ntmps95 rfl fun S hS=>?_
 unfold g_packed_Encode_1 at H
 obtain ⟨y1,hy1,H⟩:=bind_some' H
 refine .B 4 [] rfl trivial ?_
 refine .callF (en 19 rfl) rfl [] [] (x:=.tup [.tsl 1 (y1.1.map rB8) 0,.d (cI y1.2)]) (st':=⟨[.row 22 [.d (nilD)]],[⟨5,1,y1.1.length,none⟩]⟩) rfl (c_g_packed_PutDecimal (hy1)) ⟨.nil 1,.rfl' _,.rfl' _,trivial⟩ rfl rfl rfl rfl rfl rfl ?_
 refine .A 5 [] rfl trivial ?_
 refine .fin0 func95 results95 ?_
 cases H
 exact ⟨[0],[0],rfl,rfl,rfl,rfl,rfl,rfl,rfl,rfl,EVle.tupL (ds:=[]) trivial⟩
theorem c_g_packed_Encode_1_v1 {v0n:Int} {v1size:Int} {y0t0p:List UInt8} {r:(List UInt8)} (H:g_packed_Encode_1_v1 v0n v1size y0t0p=some r):ACallS prog 95 [.d (cI v0n),.d (cI v1size),.ref 0 0] ⟨[.row 22 [.tsl 1 (y0t0p.map rB8) 0]],[⟨5,1,y0t0p.length,none⟩]⟩ (QE (.d (.tup [])) ⟨[.row 22 [.tsl 1 (r.map rB8) 1]],[⟨5,1,y0t0p.length,none⟩,⟨5,1,r.length,none⟩]⟩):=by
 refine ACallS.keep ?_
 refine ACallS.enter func95 rfl ntmps95 rfl fun S hS=>?_
 unfold g_packed_Encode_1_v1 at H
 obtain ⟨y1,hy1,H⟩:=bind_some' H
 refine .B 4 [] rfl trivial ?_
 refine .callF (en 19 rfl) rfl [] [] (x:=.tup [.tsl 1 (y1.1.map rB8) 1,.d (cI y1.2)]) (st':=⟨[.row 22 [.tsl 1 (y0t0p.map rB8) 0]],[⟨5,1,y0t0p.length,none⟩,⟨5,1,y1.1.length,none⟩]⟩) rfl (c_g_packed_PutDecimal (hy1)) ⟨.tsl _ _ _,.rfl' _,.rfl' _,trivial⟩ rfl rfl rfl rfl rfl rfl ?_
 refine .A 5 [] rfl trivial ?_
 refine .fin0 func95 results95 ?_
 cases H
 exact ⟨[0],[0,1],rfl,rfl,rfl,rfl,rfl,rfl,rfl,rfl,EVle.tupL (ds:=[]) trivial⟩
theorem c_g_packed_putNumber {v1s:List UInt8} {y0t0p:List UInt8} {r:(List UInt8)} (H:g_packed_putNumber v1s y0t0p=some r):ACallS prog 98 [.tsl 1 (y0t0p.map rB8) 0,.d (cS v1s)] ⟨[],[⟨5,1,y0t0p.length,none⟩]⟩ (QE (.tsl 1 (r.map rB8) 0) ⟨[],[⟨5,1,r.length,none⟩]⟩):=by
 obtain ⟨i5,hi5,hz5,hs5,hb5⟩:=in_5
 refine ACallS.keep ?_
 refine ACallS.enter func98 rfl ntmps98 rfl fun S hS=>?_
 unfold g_packed_putNumber at H
 obtain ⟨hk1,H⟩:=ck_some H
 obtain ⟨hk2,H⟩:=ck_some H
 obtain ⟨hk3,H⟩:=ck_some H
 refine .A 24 [.v (.ref 0 0) ⟨[.row 158 ((List.replicate 8 0:List UInt8).map fun b=>EV.d (cU8 b))],[⟨5,1,y0t0p.length,none⟩]⟩,.i (v1s.length:Int),.i ((v1s.length:Int)*2 ^ (Int.toNat (4))),.c (UInt8.ofInt ((v1s.length:Int)*2 ^ (Int.toNat (4)))),.g (.ref 0 (Int.toNat (0))),.w 9 ⟨[.row 158 (((List.replicate 8 0:List UInt8).set (Int.toNat (0)) (UInt8.ofInt ((v1s.length:Int)*2 ^ (Int.toNat (4))))).map fun b=>EV.d (cU8 b))],[⟨5,1,y0t0p.length,none⟩]⟩,.i (v1s.length:Int)] rfl ⟨OpQ.g (q_lenS underlying9 rfl),.e (u_storeArr (l:=(List.replicate 8 0:List UInt8)) (c1:=cU8) (a:=UInt8.ofInt ((v1s.length:Int)*2 ^ (Int.toNat (4)))) rfl rfl rfl rfl hk3 sz_5) rfl,OpQ.g (q_idxArrS (i:=0) underlying158 ⟨_,hi5,hs5⟩ rfl rfl hk2),OpQ.g (q_conv8 underlying3 underlying5 rfl),OpQ.g (q_shlI rfl rfl hk1),OpQ.g (q_lenS underlying9 rfl),.e (v_alloc zr_158 rfl) rfl⟩ ?_
 refine .blockJoin2 (ι:=List UInt8) (fun o0c0j1=>[(0,.tsl 1 (y0t0p.map rB8) 0),(5,.ref 0 0)]) (fun o0c0j1=>⟨[.row 158 (o0c0j1.map fun b=>EV.d (cU8 b))],[⟨5,1,y0t0p.length,none⟩]⟩) (fun s=>g_packed_putNumber_j1 y0t0p s=some r) ?_ ?_
 ·rintro o0c0j1 H
  replace H:g_packed_putNumber_j1 y0t0p o0c0j1=some r:=H
  unfold g_packed_putNumber_j1 at H
  obtain ⟨hk4,H⟩:=ck_some H
  refine .A 7 [.g (.osl 0 0 8 8),.t (.tsl 1 ((y0t0p++o0c0j1).map rB8) 0) 0 ⟨5,1,(y0t0p++o0c0j1).length,none⟩] rfl ⟨.e (v_appendOsl (l:=y0t0p) (l':=o0c0j1) (c1:=cU8) underlying22 hi5 hz5 hs5 rfl (by rw [hb5]; decide) rfl rfl rfl rfl hk4) rfl,OpQ.g (q_arrAll underlying158 ⟨_,hi5,hs5⟩ rfl)⟩ ?_
  refine .R func98 results98 rfl ?_
  cases H
  exact ⟨[],[0],rfl,rfl,(by first | rfl | (simp only [List.map_cons,List.map_nil,renMap,renArr,mergeSt]; rfl)),(by first | rfl | (simp only [List.map_cons,List.map_nil,renMap,renArr,mergeSt]; rfl)),(by first | rfl | (simp only [List.map_cons,List.map_nil,renMap,renArr,mergeSt]; rfl)),(by first | rfl | (simp only [List.map_cons,List.map_nil,renMap,renArr,mergeSt]; rfl)),(by first | rfl | (simp only [List.map_cons,List.map_nil,renMap,renArr,mergeSt]; rfl)),(by first | rfl | (simp only [List.map_cons,List.map_nil,renMap,renArr,mergeSt]; rfl)),.rfl' _⟩
 ·intro hj1 hj1x
  obtain ⟨n1,H⟩:=loop_some H
  refine .loop (ι:=Nat×(Int×List UInt8)) (fun ⟨_,v15l1,o0c0l1⟩=>[(0,.tsl 1 (y0t0p.map rB8) 0),(1,.d (cS v1s)),(5,.ref 0 0),(14,.d (cI (v1s.length:Int))),(15,.d (cI v15l1))]) (fun ⟨_,v15l1,o0c0l1⟩=>⟨[.row 158 (o0c0l1.map fun b=>EV.d (cU8 b))],[⟨5,1,y0t0p.length,none⟩]⟩) (fun p=>iter (fun s=>g_packed_putNumber_l1 v1s y0t0p s.1 s.2) p.1 p.2=some r) (·.1) (n1,(0,(List.replicate 8 0:List UInt8).set (Int.toNat (0)) (UInt8.ofInt ((v1s.length:Int)*2 ^ (Int.toNat (4)))))) H (.cons rfl (.rfl' _) (.cons rfl (.rfl' _) (.cons rfl (.rfl' _) (.cons rfl (.rfl' _) (.cons rfl (.rfl' _) (.nil)))))) rfl ?_
  rintro ⟨m1,v15l1,o0c0l1⟩ HI ih1
  obtain ⟨n1,q1,hm1,H,HK1⟩:=iter_succ HI
  clear HI
  replace H:g_packed_putNumber_l1 v1s y0t0p v15l1 o0c0l1=some q1:=H
  unfold g_packed_putNumber_l1 at H
  refine .A 5 [] rfl trivial ?_
  refine .ite H rfl (fun H=>?_) (fun H=>?_)
  ·obtain ⟨hk5,H⟩:=ck_some H
   obtain ⟨hk6,H⟩:=ck_some H
   refine .A 22 [.c (nth v1s v15l1.toNat),.c ((nth v1s v15l1.toNat) - 48),.i (Int.tmod v15l1 2)] rfl ⟨OpQ.g (q_remT rfl rfl hk6),OpQ.g (q8_sub (a:=nth v1s v15l1.toNat) (b:=48) rfl rfl),OpQ.g (q_indexL (i:=v15l1) underlying9 rfl rfl hk5)⟩ ?_
   refine .ite H rfl (fun H=>?_) (fun H=>?_)
   ·obtain ⟨hk7,H⟩:=ck_some H
    obtain ⟨hk8,H⟩:=ck_some H
    obtain ⟨hk9,H⟩:=ck_some H
    obtain ⟨hk10,H⟩:=ck_some H
    obtain ⟨hk11,H⟩:=ck_some H
    obtain ⟨hk12,H⟩:=ck_some H
    refine .A 15 [.i (Int.tdiv v15l1 2),.g (.ref 0 (Int.tdiv v15l1 2).toNat),.f 11 (.d (cU8 (nth o0c0l1 (Int.tdiv v15l1 2).toNat))),.c ((nth o0c0l1 (Int.tdiv v15l1 2).toNat) ||| ((nth v1s v15l1.toNat) - 48)),.g (.ref 0 (Int.tdiv v15l1 2).toNat),.w 7 ⟨[.row 158 ((o0c0l1.set (Int.tdiv v15l1 2).toNat ((nth o0c0l1 (Int.tdiv v15l1 2).toNat) ||| ((nth v1s v15l1.toNat) - 48))).map fun b=>EV.d (cU8 b))],[⟨5,1,y0t0p.length,none⟩]⟩,.i (v15l1+1)] rfl ⟨g_addI rfl rfl hk12,.e (u_storeArr (l:=o0c0l1) (c1:=cU8) (a:=(nth o0c0l1 (Int.tdiv v15l1 2).toNat) ||| ((nth v1s v15l1.toNat) - 48)) rfl rfl rfl rfl hk11 sz_5) rfl,OpQ.g (q_idxArrS (i:=Int.tdiv v15l1 2) underlying158 ⟨_,hi5,hs5⟩ rfl rfl hk10),OpQ.g (q8_or (a:=nth o0c0l1 (Int.tdiv v15l1 2).toNat) (b:=(nth v1s v15l1.toNat) - 48) rfl rfl),OpQ.g (q_loadArr (l:=o0c0l1) (c1:=cU8) one_5 rfl rfl hk9),OpQ.g (q_idxArrS (i:=Int.tdiv v15l1 2) underlying158 ⟨_,hi5,hs5⟩ rfl rfl hk8),OpQ.g (q_quoT rfl rfl hk7)⟩ ?_
    cases H
    exact .z (ih1 (n1,(v15l1+1,o0c0l1.set (Int.tdiv v15l1 2).toNat ((nth o0c0l1 (Int.tdiv v15l1 2).toNat) ||| ((nth v1s v15l1.toNat) - 48)))) HK1 hm1) rfl rfl
   ·obtain ⟨hk13,H⟩:=ck_some H
    obtain ⟨hk14,H⟩:=ck_some H
    obtain ⟨hk15,H⟩:=ck_some H
    obtain ⟨hk16,H⟩:=ck_some H
    obtain ⟨hk17,H⟩:=ck_some H
    obtain ⟨hk18,H⟩:=ck_some H
    refine .A 14 [.i (v15l1+1),.i (Int.tdiv (v15l1+1) 2),.c (u8shl ((nth v1s v15l1.toNat) - 48) 4),.g (.ref 0 (Int.tdiv (v15l1+1) 2).toNat),.w 7 ⟨[.row 158 ((o0c0l1.set (Int.tdiv (v15l1+1) 2).toNat (u8shl ((nth v1s v15l1.toNat) - 48) 4)).map fun b=>EV.d (cU8 b))],[⟨5,1,y0t0p.length,none⟩]⟩,.i (v15l1+1)] rfl ⟨g_addI rfl rfl hk18,.e (u_storeArr (l:=o0c0l1) (c1:=cU8) (a:=u8shl ((nth v1s v15l1.toNat) - 48) 4) rfl rfl rfl rfl hk17 sz_5) rfl,OpQ.g (q_idxArrS (i:=Int.tdiv (v15l1+1) 2) underlying158 ⟨_,hi5,hs5⟩ rfl rfl hk16),OpQ.g (q8_shl (a:=(nth v1s v15l1.toNat) - 48) (n:=4) rfl rfl hk15),OpQ.g (q_quoT rfl rfl hk14),g_addI rfl rfl hk13⟩ ?_
    cases H
    exact .z (ih1 (n1,(v15l1+1,o0c0l1.set (Int.tdiv (v15l1+1) 2).toNat (u8shl ((nth v1s v15l1.toNat) - 48) 4))) HK1 hm1) rfl rfl
  ·refine .A 1 [] rfl trivial ?_
   obtain ⟨q0,H9,hq0⟩:=map_some' H; clear H; cases hq0
   cases HK1
   have H:=H9
   exact .z (hj1x o0c0l1 H) rfl rfl
theorem c_f_packed_Encode {v0:Record} {r:(List UInt8)×Int} (H:f_packed_Encode v0=some r):ACall prog 59 [.agg (Record.row v0)] (·=.tup [slOf 1 rB8 r.1,cI r.2]):=by
 obtain ⟨i5,hi5,hz5,hs5,hb5⟩:=in_5
 refine ACall.enter' func59 rfl ntmps59 rfl fun S hS=>?_
 unfold f_packed_Encode at H
 obtain ⟨y1,hy1,H⟩:=bind_some' H
 refine .A 22 [.r 0,.d (.tup [cS y1.1,cI y1.2])] rfl (g_call (en 9 rfl) rfl rfl (c_f_textual_Encode (hy1))) ?_
 refine .ite H rfl (fun H=>?_) (fun H=>?_)
 ·refine .A 6 [] rfl trivial ?_
  refine .R func59 results59 rfl ?_
  cases H
  exact .m rfl (.tupL ⟨.nil 1,.rfl' _,trivial⟩)
 ·obtain ⟨y2,hy2,H⟩:=bind_some' H
  refine .B 15 [.r 1,.g (.clo 95 [.ref 1 0])] rfl (OpQ.g (q_makeFunc rfl)) ?_
  refine .callFC (en 20 rfl) rfl rfl [1] [] (x:=.d (.tup [])) (st':=⟨[.row 49 [.d (cI v0.source),.d (cI v0.serial),.d (cI v0.kind),.d (cS v0.a),.d (cS v0.b),.d (cI v0.start),.d (cI v0.units),.d (cI v0.call),.d (cI v0.part),.d (cB v0.last),.d (cI v0.trunk),.d (cB v0.inbound)],.row 22 [.tsl 1 (y2.map rB8) 0]],[⟨5,1,y2.length,none⟩]⟩) rfl (c_g_packed_Encode_1 (hy2)) ⟨.rfl' _,.rfl' _,.rfl' _,trivial⟩ rfl rfl rfl rfl rfl rfl ?_
  obtain ⟨y3,hy3,H⟩:=bind_some' H
  refine .B 6 [] rfl trivial ?_
  refine .callFC (en 20 rfl) rfl rfl [1] [0] (x:=.d (.tup [])) (st':=⟨[.row 49 [.d (cI v0.source),.d (cI v0.serial),.d (cI v0.kind),.d (cS v0.a),.d (cS v0.b),.d (cI v0.start),.d (cI v0.units),.d (cI v0.call),.d (cI v0.part),.d (cB v0.last),.d (cI v0.trunk),.d (cB v0.inbound)],.row 22 [.tsl 1 (y3.map rB8) 1]],[⟨5,1,y2.length,none⟩,⟨5,1,y3.length,none⟩]⟩) rfl (c_g_packed_Encode_1_v1 (hy3)) ⟨.rfl' _,.rfl' _,.rfl' _,trivial⟩ rfl rfl rfl rfl rfl rfl ?_
  obtain ⟨hk1,H⟩:=ck_some H
  obtain ⟨y4,hy4,H⟩:=bind_some' H
  obtain ⟨y5,hy5,H⟩:=bind_some' H
  obtain ⟨hk2,H⟩:=ck_some H
  obtain ⟨y6,hy6,H⟩:=bind_some' H
  refine .B 26 [.p 14,.i (v0.kind*2 ^ (Int.toNat (4))),.c (UInt8.ofInt (v0.kind*2 ^ (Int.toNat (4)))),.c y4,.c ((UInt8.ofInt (v0.kind*2 ^ (Int.toNat (4)))) ||| y4),.c y5,.c (((UInt8.ofInt (v0.kind*2 ^ (Int.toNat (4)))) ||| y4) ||| y5),.d (slOf 1 rB8 ([((UInt8.ofInt (v0.kind*2 ^ (Int.toNat (4)))) ||| y4) ||| y5]:List UInt8)),.a 1 5 1 rB8 (y3++([((UInt8.ofInt (v0.kind*2 ^ (Int.toNat (4)))) ||| y4) ||| y5]:List UInt8))] rfl ⟨s22.a rfl rfl rfl rfl hk2,g_buildSlice1 underlying22 hi5 hs5 hz5 rfl rfl rfl rfl rfl,OpQ.g (q8_or (a:=(UInt8.ofInt (v0.kind*2 ^ (Int.toNat (4)))) ||| y4) (b:=y5) rfl rfl),g_call (en 21 rfl) rfl rfl (c_f_packed_bit (hy5)),OpQ.g (q8_or (a:=UInt8.ofInt (v0.kind*2 ^ (Int.toNat (4)))) (b:=y4) rfl rfl),g_call (en 21 rfl) rfl rfl (c_f_packed_bit (hy4)),OpQ.g (q_conv8 underlying3 underlying5 rfl),OpQ.g (q_shlI rfl rfl hk1),(show drawB _ _=true by kernel_rfl)⟩ ?_
  refine .callF (en 22 rfl) rfl [] [1] (x:=.tsl 1 (y6.map rB8) 1) (st':=⟨[.row 49 [.d (cI v0.source),.d (cI v0.serial),.d (cI v0.kind),.d (cS v0.a),.d (cS v0.b),.d (cI v0.start),.d (cI v0.units),.d (cI v0.call),.d (cI v0.part),.d (cB v0.last),.d (cI v0.trunk),.d (cB v0.inbound)],.row 22 [.tsl 1 ((y3++([((UInt8.ofInt (v0.kind*2 ^ (Int.toNat (4)))) ||| y4) ||| y5]:List UInt8)).map rB8) 1]],[⟨5,1,y2.length,none⟩,⟨5,1,y6.length,none⟩]⟩) rfl (c_g_packed_putNumber (hy6)) ⟨.rfl' _,.rfl' _,trivial⟩ rfl rfl rfl rfl rfl rfl ?_
  obtain ⟨y7,hy7,H⟩:=bind_some' H
  refine .B 7 [] rfl trivial ?_
  refine .callF (en 22 rfl) rfl [] [1] (x:=.tsl 1 (y7.map rB8) 1) (st':=⟨[.row 49 [.d (cI v0.source),.d (cI v0.serial),.d (cI v0.kind),.d (cS v0.a),.d (cS v0.b),.d (cI v0.start),.d (cI v0.units),.d (cI v0.call),.d (cI v0.part),.d (cB v0.last),.d (cI v0.trunk),.d (cB v0.inbound)],.row 22 [.tsl 1 (y6.map rB8) 1]],[⟨5,1,y2.length,none⟩,⟨5,1,y7.length,none⟩]⟩) rfl (c_g_packed_putNumber (hy7)) ⟨.rfl' _,.rfl' _,trivial⟩ rfl rfl rfl rfl rfl rfl ?_
  obtain ⟨y8,hy8,H⟩:=bind_some' H
  refine .B 7 [] rfl trivial ?_
  refine .callFC (en 20 rfl) rfl rfl [1] [1] (x:=.d (.tup [])) (st':=⟨[.row 49 [.d (cI v0.source),.d (cI v0.serial),.d (cI v0.kind),.d (cS v0.a),.d (cS v0.b),.d (cI v0.start),.d (cI v0.units),.d (cI v0.call),.d (cI v0.part),.d (cB v0.last),.d (cI v0.trunk),.d (cB v0.inbound)],.row 22 [.tsl 1 (y8.map rB8) 2]],[⟨5,1,y2.length,none⟩,⟨5,1,y7.length,none⟩,⟨5,1,y8.length,none⟩]⟩) rfl (c_g_packed_Encode_1_v1 (hy8)) ⟨.rfl' _,.rfl' _,.rfl' _,trivial⟩ rfl rfl rfl rfl rfl rfl ?_
  obtain ⟨y9,hy9,H⟩:=bind_some' H
  refine .B 6 [] rfl trivial ?_
  refine .callFC (en 20 rfl) rfl rfl [1] [2] (x:=.d (.tup [])) (st':=⟨[.row 49 [.d (cI v0.source),.d (cI v0.serial),.d (cI v0.kind),.d (cS v0.a),.d (cS v0.b),.d (cI v0.start),.d (cI v0.units),.d (cI v0.call),.d (cI v0.part),.d (cB v0.last),.d (cI v0.trunk),.d (cB v0.inbound)],.row 22 [.tsl 1 (y9.map rB8) 3]],[⟨5,1,y2.length,none⟩,⟨5,1,y7.length,none⟩,⟨5,1,y8.length,none⟩,⟨5,1,y9.length,none⟩]⟩) rfl (c_g_packed_Encode_1_v1 (hy9)) ⟨.rfl' _,.rfl' _,.rfl' _,trivial⟩ rfl rfl rfl rfl rfl rfl ?_
  obtain ⟨y10,hy10,H⟩:=bind_some' H
  refine .B 6 [] rfl trivial ?_
  refine .callFC (en 20 rfl) rfl rfl [1] [3] (x:=.d (.tup [])) (st':=⟨[.row 49 [.d (cI v0.source),.d (cI v0.serial),.d (cI v0.kind),.d (cS v0.a),.d (cS v0.b),.d (cI v0.start),.d (cI v0.units),.d (cI v0.call),.d (cI v0.part),.d (cB v0.last),.d (cI v0.trunk),.d (cB v0.inbound)],.row 22 [.tsl 1 (y10.map rB8) 4]],[⟨5,1,y2.length,none⟩,⟨5,1,y7.length,none⟩,⟨5,1,y8.length,none⟩,⟨5,1,y9.length,none⟩,⟨5,1,y10.length,none⟩]⟩) rfl (c_g_packed_Encode_1_v1 (hy10)) ⟨.rfl' _,.rfl' _,.rfl' _,trivial⟩ rfl rfl rfl rfl rfl rfl ?_
  obtain ⟨y11,hy11,H⟩:=bind_some' H
  refine .B 6 [] rfl trivial ?_
  refine .callFC (en 20 rfl) rfl rfl [1] [4] (x:=.d (.tup [])) (st':=⟨[.row 49 [.d (cI v0.source),.d (cI v0.serial),.d (cI v0.kind),.d (cS v0.a),.d (cS v0.b),.d (cI v0.start),.d (cI v0.units),.d (cI v0.call),.d (cI v0.part),.d (cB v0.last),.d (cI v0.trunk),.d (cB v0.inbound)],.row 22 [.tsl 1 (y11.map rB8) 5]],[⟨5,1,y2.length,none⟩,⟨5,1,y7.length,none⟩,⟨5,1,y8.length,none⟩,⟨5,1,y9.length,none⟩,⟨5,1,y10.length,none⟩,⟨5,1,y11.length,none⟩]⟩) rfl (c_g_packed_Encode_1_v1 (hy11)) ⟨.rfl' _,.rfl' _,.rfl' _,trivial⟩ rfl rfl rfl rfl rfl rfl ?_
  obtain ⟨y12,hy12,H⟩:=bind_some' H
  refine .B 6 [] rfl trivial ?_
  refine .callFC (en 20 rfl) rfl rfl [1] [5] (x:=.d (.tup [])) (st':=⟨[.row 49 [.d (cI v0.source),.d (cI v0.serial),.d (cI v0.kind),.d (cS v0.a),.d (cS v0.b),.d (cI v0.start),.d (cI v0.units),.d (cI v0.call),.d (cI v0.part),.d (cB v0.last),.d (cI v0.trunk),.d (cB v0.inbound)],.row 22 [.tsl 1 (y12.map rB8) 6]],[⟨5,1,y2.length,none⟩,⟨5,1,y7.length,none⟩,⟨5,1,y8.length,none⟩,⟨5,1,y9.length,none⟩,⟨5,1,y10.length,none⟩,⟨5,1,y11.length,none⟩,⟨5,1,y12.length,none⟩]⟩) rfl (c_g_packed_Encode_1_v1 (hy12)) ⟨.rfl' _,.rfl' _,.rfl' _,trivial⟩ rfl rfl rfl rfl rfl rfl ?_
  obtain ⟨y13,hy13,H⟩:=bind_some' H
  obtain ⟨hk3,H⟩:=ck_some H
  refine .A 12 [.p 4,.c y13,.d (slOf 1 rB8 ([y13]:List UInt8)),.a 6 5 1 rB8 (y12++([y13]:List UInt8))] rfl ⟨s22.a rfl rfl rfl rfl hk3,g_buildSlice1 underlying22 hi5 hs5 hz5 rfl rfl rfl rfl rfl,g_call (en 23 rfl) rfl rfl (c_f_packed_sum (hy13)),(show drawB _ _=true by kernel_rfl)⟩ ?_
  refine .R func59 results59 rfl ?_
  cases H
  exact .m rfl (.tupL ⟨.tsl _ _ _,.rfl' _,trivial⟩)
set_option maxRecDepth 100000
set_option maxHeartbeats 1000000
theorem c_f_batch_line {v0r:Record} {r:(List UInt8)×Int} (H:f_batch_line v0r=some r):ACall prog 61 [.agg (Record.row v0r)] (·=.tup [cS r.1,cI r.2]):=by
 refine ACall.enter' func61 rfl ntmps61 rfl fun S hS=>?_
 unfold f_batch_line at H
 obtain ⟨y1,hy1,H⟩:=bind_some' H
 obtain ⟨hk1,H⟩:=ck_some H
 refine .A 24 [.r 0,.d (.tup [cS y1.1,cI y1.2]),.s (y1.1++([10]:List UInt8))] rfl ⟨OpQ.g (q_sadd rfl rfl hk1),g_call (en 9 rfl) rfl rfl (c_f_textual_Encode (hy1))⟩ ?_
 refine .R func61 results61 rfl ?_
 cases H
 exact .m rfl (.tupD rfl)
theorem c_g_api_Record_byte {v0list:List Record} {r:(List UInt8)} (H:g_api_Record_byte v0list=some r):ACallS prog 57 [.d (slOf 12 Record.row v0list),.d (.ex (.func (.func 58) #[] #[]))] ⟨[],[]⟩ (QE (.d (slOf 1 rB8 r)) ⟨[],[]⟩):=by
 refine ACallS.keep ?_
 refine ACallS.enter func57 rfl ntmps57 rfl fun S hS=>?_
 unfold g_api_Record_byte at H
 refine .A 16 [.i (v0list.length:Int)] rfl (s29.n rfl rfl) ?_
 refine .tok (i:=5) (e:=5) (sz:=1) rfl ?_
 obtain ⟨n1,H⟩:=loop_some H
 refine .loop (ι:=Nat×(List UInt8×Int)) (fun ⟨_,v5outl1,v12l1⟩=>[(1,.d (.ex (.func (.func 58) #[] #[]))),(5,.tsl 1 (v5outl1.map rB8) 0),(10,.d (slOf 12 Record.row v0list)),(11,.d (cI (v0list.length:Int))),(12,.d (cI v12l1))]) (fun ⟨_,v5outl1,v12l1⟩=>⟨[],[⟨5,1,v5outl1.length,none⟩]⟩) (fun p=>iter (fun s=>g_api_Record_byte_l1 v0list s.1 s.2) p.1 p.2=some r) (·.1) (n1,(([]:List UInt8),0)) H (.cons rfl (.rfl' _) (.cons rfl (.rfl' _) (.cons rfl (.rfl' _) (.cons rfl (.rfl' _) (.cons rfl (.rfl' _) (.nil)))))) rfl ?_
 rintro ⟨m1,v5outl1,v12l1⟩ HI ih1
 obtain ⟨n1,q1,hm1,H,HK1⟩:=iter_succ HI
 clear HI
 replace H:g_api_Record_byte_l1 v0list v5outl1 v12l1=some q1:=H
 unfold g_api_Record_byte_l1 at H
 refine .A 5 [] rfl trivial ?_
 refine .ite H rfl (fun H=>?_) (fun H=>?_)
 ·obtain ⟨hk1,H⟩:=ck_some H
  obtain ⟨y1,hy1,H⟩:=bind_some' H
  obtain ⟨hk2,H⟩:=ck_some H
  obtain ⟨hk3,H⟩:=ck_some H
  refine .A 32 [.d (.ro (Record.row (nth v0list v12l1.toNat))),.r 0,.d (.tup [slOf 1 rB8 y1.1,cI y1.2]),.a 0 5 1 rB8 (v5outl1++y1.1),.i (v12l1+1)] rfl ⟨g_addI rfl rfl hk3,s22.a rfl rfl rfl rfl hk2,g_callF (en 24 rfl) rfl rfl rfl (c_f_tagged_Encode (hy1)),s29.ix rfl rfl rfl hk1⟩ ?_
  cases H
  exact .t 0 1 (ih1 (n1,(v5outl1++y1.1,v12l1+1)) HK1 hm1) rfl rfl rfl rfl rfl hS rfl
 ·refine .A 6 [] rfl trivial ?_
  refine .R func57 results57 rfl ?_
  cases H
  cases HK1
  exact ⟨[],[],rfl,rfl,rfl,rfl,rfl,rfl,rfl,rfl,.tsl _ _ _⟩
theorem c_g_api_Record_byte_v1 {v0list:List Record} {r:(List UInt8)} (H:g_api_Record_byte_v1 v0list=some r):ACallS prog 57 [.d (slOf 12 Record.row v0list),.d (.ex (.func (.func 59) #[] #[]))] ⟨[],[]⟩ (QE (.d (slOf 1 rB8 r)) ⟨[],[]⟩):=by
 refine ACallS.keep ?_
 refine ACallS.enter func57 rfl ntmps57 rfl fun S hS=>?_
 unfold g_api_Record_byte_v1 at H
 refine .A 16 [.i (v0list.length:Int)] rfl (s29.n rfl rfl) ?_
 refine .tok (i:=5) (e:=5) (sz:=1) rfl ?_
 obtain ⟨n1,H⟩:=loop_some H
 refine .loop (ι:=Nat×(List UInt8×Int)) (fun ⟨_,v5outl1,v12l1⟩=>[(1,.d (.ex (.func (.func 59) #[] #[]))),(5,.tsl 1 (v5outl1.map rB8) 0),(10,.d (slOf 12 Record.row v0list)),(11,.d (cI (v0list.length:Int))),(12,.d (cI v12l1))]) (fun ⟨_,v5outl1,v12l1⟩=>⟨[],[⟨5,1,v5outl1.length,none⟩]⟩) (fun p=>iter (fun s=>g_api_Record_byte_v1_l1 v0list s.1 s.2) p.1 p.2=some r) (·.1) (n1,(([]:List UInt8),0)) H (.cons rfl (.rfl' _) (.cons rfl (.rfl' _) (.cons rfl (.rfl' _) (.cons rfl (.rfl' _) (.cons rfl (.rfl' _) (.nil)))))) rfl ?_
 rintro ⟨m1,v5outl1,v12l1⟩ HI ih1
 obtain ⟨n1,q1,hm1,H,HK1⟩:=iter_succ HI
 clear HI
 replace H:g_api_Record_byte_v1_l1 v0list v5outl1 v12l1=some q1:=H
 unfold g_api_Record_byte_v1_l1 at H
 refine .A 5 [] rfl trivial ?_
 refine .ite H rfl (fun H=>?_) (fun H=>?_)
 ·obtain ⟨hk1,H⟩:=ck_some H
  obtain ⟨y1,hy1,H⟩:=bind_some' H
  obtain ⟨hk2,H⟩:=ck_some H
  obtain ⟨hk3,H⟩:=ck_some H
  refine .A 32 [.d (.ro (Record.row (nth v0list v12l1.toNat))),.r 0,.d (.tup [slOf 1 rB8 y1.1,cI y1.2]),.a 0 5 1 rB8 (v5outl1++y1.1),.i (v12l1+1)] rfl ⟨g_addI rfl rfl hk3,s22.a rfl rfl rfl rfl hk2,g_callF (en 25 rfl) rfl rfl rfl (c_f_packed_Encode (hy1)),s29.ix rfl rfl rfl hk1⟩ ?_
  cases H
  exact .t 0 1 (ih1 (n1,(v5outl1++y1.1,v12l1+1)) HK1 hm1) rfl rfl rfl rfl rfl hS rfl
 ·refine .A 6 [] rfl trivial ?_
  refine .R func57 results57 rfl ?_
  cases H
  cases HK1
  exact ⟨[],[],rfl,rfl,rfl,rfl,rfl,rfl,rfl,rfl,.tsl _ _ _⟩
theorem c_g_api_Record_string {v0list:List Record} {r:(List UInt8)} (H:g_api_Record_string v0list=some r):ACallS prog 60 [.d (slOf 12 Record.row v0list),.d (.ex (.func (.func 61) #[] #[]))] ⟨[],[]⟩ (QE (.d (slOf 1 rB8 r)) ⟨[],[]⟩):=by
 obtain ⟨i5,hi5,hz5,hs5,hb5⟩:=in_5
 refine ACallS.keep ?_
 refine ACallS.enter func60 rfl ntmps60 rfl fun S hS=>?_
 unfold g_api_Record_string at H
 refine .A 16 [.i (v0list.length:Int)] rfl (s29.n rfl rfl) ?_
 refine .tok (i:=5) (e:=5) (sz:=1) rfl ?_
 obtain ⟨n1,H⟩:=loop_some H
 refine .loop (ι:=Nat×(List UInt8×Int)) (fun ⟨_,v5outl1,v12l1⟩=>[(1,.d (.ex (.func (.func 61) #[] #[]))),(5,.tsl 1 (v5outl1.map rB8) 0),(10,.d (slOf 12 Record.row v0list)),(11,.d (cI (v0list.length:Int))),(12,.d (cI v12l1))]) (fun ⟨_,v5outl1,v12l1⟩=>⟨[],[⟨5,1,v5outl1.length,none⟩]⟩) (fun p=>iter (fun s=>g_api_Record_string_l1 v0list s.1 s.2) p.1 p.2=some r) (·.1) (n1,(([]:List UInt8),0)) H (.cons rfl (.rfl' _) (.cons rfl (.rfl' _) (.cons rfl (.rfl' _) (.cons rfl (.rfl' _) (.cons rfl (.rfl' _) (.nil)))))) rfl ?_
 rintro ⟨m1,v5outl1,v12l1⟩ HI ih1
 obtain ⟨n1,q1,hm1,H,HK1⟩:=iter_succ HI
 clear HI
 replace H:g_api_Record_string_l1 v0list v5outl1 v12l1=some q1:=H
 unfold g_api_Record_string_l1 at H
 refine .A 5 [] rfl trivial ?_
 refine .ite H rfl (fun H=>?_) (fun H=>?_)
 ·obtain ⟨hk1,H⟩:=ck_some H
  obtain ⟨y1,hy1,H⟩:=bind_some' H
  obtain ⟨hk2,H⟩:=ck_some H
  obtain ⟨hk3,H⟩:=ck_some H
  refine .A 32 [.d (.ro (Record.row (nth v0list v12l1.toNat))),.r 0,.d (.tup [cS y1.1,cI y1.2]),.t (.tsl 1 ((v5outl1++y1.1).map rB8) 0) 0 ⟨5,1,(v5outl1++y1.1).length,none⟩,.i (v12l1+1)] rfl ⟨g_addI rfl rfl hk3,.e (v_appendStrL (l:=v5outl1) (a:=y1.1) underlying22 underlying9 hi5 hz5 hs5 rfl (by rw [hb5]; decide) rfl rfl rfl hk2) rfl,g_callF (en 26 rfl) rfl rfl rfl (c_f_batch_line (hy1)),s29.ix rfl rfl rfl hk1⟩ ?_
  cases H
  exact .t 0 1 (ih1 (n1,(v5outl1++y1.1,v12l1+1)) HK1 hm1) rfl rfl rfl rfl rfl hS rfl
 ·refine .A 6 [] rfl trivial ?_
  refine .R func60 results60 rfl ?_
  cases H
  cases HK1
  exact ⟨[],[],rfl,rfl,rfl,rfl,rfl,rfl,rfl,rfl,.tsl _ _ _⟩
theorem c_f_batch_payload {v0format:Int} {v1records:List Record} {r:(List UInt8)} (H:f_batch_payload v0format v1records=some r):ACall prog 33 [cI v0format,slOf 12 Record.row v1records] (·=slOf 1 rB8 r):=by
 refine ACall.enter' func33 rfl ntmps33 rfl fun S hS=>?_
 unfold f_batch_payload at H
 refine .A 15 [] rfl trivial ?_
 refine .ite H rfl (fun H=>?_) (fun H=>?_)
 ·obtain ⟨y1,hy1,H⟩:=bind_some' H
  refine .A 6 [.d (slOf 1 rB8 y1)] rfl (g_call (en 27 rfl) rfl rfl (ACall.ofE (ds:=[slOf 12 Record.row v1records,.ex (.func (.func 58) #[] #[])]) (c_g_api_Record_byte (hy1)))) ?_
  refine .R func33 results33 rfl ?_
  cases H
  exact .m rfl (.rfl' _)
 ·refine .A 5 [] rfl trivial ?_
  refine .ite H rfl (fun H=>?_) (fun H=>?_)
  ·obtain ⟨y2,hy2,H⟩:=bind_some' H
   refine .A 6 [.d (slOf 1 rB8 y2)] rfl (g_call (en 27 rfl) rfl rfl (ACall.ofE (ds:=[slOf 12 Record.row v1records,.ex (.func (.func 59) #[] #[])]) (c_g_api_Record_byte_v1 (hy2)))) ?_
   refine .R func33 results33 rfl ?_
   cases H
   exact .m rfl (.rfl' _)
  ·obtain ⟨y3,hy3,H⟩:=bind_some' H
   refine .A 8 [.d (slOf 1 rB8 y3)] rfl (g_call (en 28 rfl) rfl rfl (ACall.ofE (ds:=[slOf 12 Record.row v1records,.ex (.func (.func 61) #[] #[])]) (c_g_api_Record_string (hy3)))) ?_
   refine .R func33 results33 rfl ?_
   cases H
   exact .m rfl (.rfl' _)
theorem c_f_frame_Sum {v0b:List UInt8} {r:Int} (H:f_frame_Sum v0b=some r):ACall prog 76 [slOf 1 rB8 v0b] (·=cK .u32 r):=by
 refine ACall.enter' func76 rfl ntmps76 rfl fun S hS=>?_
 unfold f_frame_Sum at H
 refine .A 16 [.i (v0b.length:Int)] rfl (s22.n rfl rfl) ?_
 obtain ⟨n1,H⟩:=loop_some H
 refine .loop (ι:=Nat×(Int×Int)) (fun ⟨_,v3nl1,v8l1⟩=>[(3,.d (cK .u32 v3nl1)),(6,.d (slOf 1 rB8 v0b)),(7,.d (cI (v0b.length:Int))),(8,.d (cI v8l1))]) (fun ⟨_,v3nl1,v8l1⟩=>⟨[],[]⟩) (fun p=>iter (fun s=>f_frame_Sum_l1 v0b s.1 s.2) p.1 p.2=some r) (·.1) (n1,(2166136261,0)) H (.cons rfl (.rfl' _) (.cons rfl (.rfl' _) (.cons rfl (.rfl' _) (.cons rfl (.rfl' _) (.nil))))) rfl ?_
 rintro ⟨m1,v3nl1,v8l1⟩ HI ih1
 obtain ⟨n1,q1,hm1,H,HK1⟩:=iter_succ HI
 clear HI
 replace H:f_frame_Sum_l1 v0b v3nl1 v8l1=some q1:=H
 unfold f_frame_Sum_l1 at H
 refine .A 5 [] rfl trivial ?_
 refine .ite H rfl (fun H=>?_) (fun H=>?_)
 ·obtain ⟨hk1,H⟩:=ck_some H
  obtain ⟨hk2,H⟩:=ck_some H
  refine .A 27 [.d (.ro (rB8 (nth v0b v8l1.toNat))),.d (cK .u32 (IntKind.wrap .u32 ((nth v0b v8l1.toNat).toNat:Int))),.d (cK .u32 (bXor .u32 v3nl1 (IntKind.wrap .u32 ((nth v0b v8l1.toNat).toNat:Int)))),.d (cK .u32 (IntKind.wrap .u32 ((bXor .u32 v3nl1 (IntKind.wrap .u32 ((nth v0b v8l1.toNat).toNat:Int)))*16777619))),.i (v8l1+1)] rfl ⟨g_addI rfl rfl hk2,OpQ.g (q_mul rfl rfl rfl),OpQ.g (q_xor rfl rfl),OpQ.g (q_conv (n:=((nth v0b v8l1.toNat).toNat:Int)) underlying5 underlying90 rfl rfl),s22.ix rfl rfl rfl hk1⟩ ?_
  cases H
  exact .z (ih1 (n1,(IntKind.wrap .u32 ((bXor .u32 v3nl1 (IntKind.wrap .u32 ((nth v0b v8l1.toNat).toNat:Int)))*16777619),v8l1+1)) HK1 hm1) rfl rfl
 ·refine .A 6 [] rfl trivial ?_
  refine .R func76 results76 rfl ?_
  cases H
  cases HK1
  exact .m rfl (.rfl' _)
theorem c_g_frame_wrap_v1 {v1payload:List UInt8} {y0t0p:List UInt8} {r:(List UInt8)} (H:g_frame_wrap_v1 v1payload y0t0p=some r):ACallS prog 55 [.tsl 1 (y0t0p.map rB8) 0,.d (slOf 1 rB8 v1payload)] ⟨[],[⟨5,1,y0t0p.length,none⟩]⟩ (QE (.tsl 1 (r.map rB8) 0) ⟨[],[⟨5,1,r.length,none⟩]⟩):=by
 obtain ⟨i5,hi5,hz5,hs5,hb5⟩:=in_5
 refine ACallS.keep ?_
 refine ACallS.enter func55 rfl ntmps55 rfl fun S hS=>?_
 unfold g_frame_wrap_v1 at H
 obtain ⟨y1,hy1,H⟩:=bind_some' H
 obtain ⟨y2,hy2,H⟩:=bind_some' H
 obtain ⟨hk1,H⟩:=ck_some H
 obtain ⟨hk2,H⟩:=ck_some H
 obtain ⟨hk3,H⟩:=ck_some H
 obtain ⟨hk4,H⟩:=ck_some H
 obtain ⟨hk5,H⟩:=ck_some H
 obtain ⟨hk6,H⟩:=ck_some H
 refine .A 44 [.d (cK .u32 y1),.i (v1payload.length:Int),.d (slOf 1 rB8 y2),.a 0 5 1 rB8 (y0t0p++y2),.d (cK .u32 (Int.fdiv y1 (2 ^ (min (Int.toNat (24)) 32)))),.c (UInt8.ofInt (Int.fdiv y1 (2 ^ (min (Int.toNat (24)) 32)))),.d (cK .u32 (Int.fdiv y1 (2 ^ (min (Int.toNat (16)) 32)))),.c (UInt8.ofInt (Int.fdiv y1 (2 ^ (min (Int.toNat (16)) 32)))),.d (cK .u32 (Int.fdiv y1 (2 ^ (min (Int.toNat (8)) 32)))),.c (UInt8.ofInt (Int.fdiv y1 (2 ^ (min (Int.toNat (8)) 32)))),.c (UInt8.ofInt y1),.d (slOf 1 rB8 ([UInt8.ofInt (Int.fdiv y1 (2 ^ (min (Int.toNat (24)) 32))),UInt8.ofInt (Int.fdiv y1 (2 ^ (min (Int.toNat (16)) 32))),UInt8.ofInt (Int.fdiv y1 (2 ^ (min (Int.toNat (8)) 32))),UInt8.ofInt y1]:List UInt8)),.a 0 5 1 rB8 ((y0t0p++y2)++([UInt8.ofInt (Int.fdiv y1 (2 ^ (min (Int.toNat (24)) 32))),UInt8.ofInt (Int.fdiv y1 (2 ^ (min (Int.toNat (16)) 32))),UInt8.ofInt (Int.fdiv y1 (2 ^ (min (Int.toNat (8)) 32))),UInt8.ofInt y1]:List UInt8)),.a 0 5 1 rB8 (((y0t0p++y2)++([UInt8.ofInt (Int.fdiv y1 (2 ^ (min (Int.toNat (24)) 32))),UInt8.ofInt (Int.fdiv y1 (2 ^ (min (Int.toNat (16)) 32))),UInt8.ofInt (Int.fdiv y1 (2 ^ (min (Int.toNat (8)) 32))),UInt8.ofInt y1]:List UInt8))++v1payload)] rfl ⟨s22.a rfl rfl rfl rfl hk6,s22.a rfl rfl rfl rfl hk5,g_buildSliceN (n:=4) (rows:=([UInt8.ofInt (Int.fdiv y1 (2 ^ (min (Int.toNat (24)) 32))),UInt8.ofInt (Int.fdiv y1 (2 ^ (min (Int.toNat (16)) 32))),UInt8.ofInt (Int.fdiv y1 (2 ^ (min (Int.toNat (8)) 32))),UInt8.ofInt y1]:List UInt8).map rB8) underlying22 hi5 hs5 hz5 rfl rfl rfl rfl rfl,OpQ.g (q_conv8 underlying90 underlying5 rfl),OpQ.g (q_conv8 underlying90 underlying5 rfl),OpQ.g (q_shr (a:=y1) (b:=8) rfl rfl hk4 rfl),OpQ.g (q_conv8 underlying90 underlying5 rfl),OpQ.g (q_shr (a:=y1) (b:=16) rfl rfl hk3 rfl),OpQ.g (q_conv8 underlying90 underlying5 rfl),OpQ.g (q_shr (a:=y1) (b:=24) rfl rfl hk2 rfl),s22.a rfl rfl rfl rfl hk1,g_call (en 13 rfl) rfl rfl ((c_f_codec_PutNumber (hy2)).le ⟨.nil 1,.rfl' _,trivial⟩),s22.n rfl rfl,g_call (en 29 rfl) rfl rfl (c_f_frame_Sum (hy1))⟩ ?_
 refine .R func55 results55 rfl ?_
 cases H
 exact ⟨[],[0],rfl,rfl,rfl,rfl,rfl,rfl,rfl,rfl,.rfl' _⟩
theorem c_f_frame_Join {v0list:List (List UInt8)} {r:(List UInt8)×Int} (H:f_frame_Join v0list=some r):ACall prog 30 [slOf 1 (rSl 1 rB8) v0list] (·=.tup [slOf 1 rB8 r.1,cI r.2]):=by
 obtain ⟨i22,hi22,hz22,hs22,hb22⟩:=in_22
 refine ACall.enter' func30 rfl ntmps30 rfl fun S hS=>?_
 unfold f_frame_Join at H
 refine .A 17 [.i (v0list.length:Int)] rfl (s44.n rfl rfl) ?_
 refine .tok (i:=4) (e:=5) (sz:=1) rfl ?_
 obtain ⟨n1,H⟩:=loop_some H
 refine .loop (ι:=Nat×(List UInt8×Int)) (fun ⟨_,v4outl1,v9l1⟩=>[(4,.tsl 1 (v4outl1.map rB8) 0),(7,.d (slOf 1 (rSl 1 rB8) v0list)),(8,.d (cI (v0list.length:Int))),(9,.d (cI v9l1))]) (fun ⟨_,v4outl1,v9l1⟩=>⟨[],[⟨5,1,v4outl1.length,none⟩]⟩) (fun p=>iter (fun s=>f_frame_Join_l1 v0list s.1 s.2) p.1 p.2=some r) (·.1) (n1,(([]:List UInt8),0)) H (.cons rfl (.rfl' _) (.cons rfl (.rfl' _) (.cons rfl (.rfl' _) (.cons rfl (.rfl' _) (.nil))))) rfl ?_
 rintro ⟨m1,v4outl1,v9l1⟩ HI ih1
 obtain ⟨n1,q1,hm1,H,HK1⟩:=iter_succ HI
 clear HI
 replace H:f_frame_Join_l1 v0list v4outl1 v9l1=some q1:=H
 unfold f_frame_Join_l1 at H
 refine .A 5 [] rfl trivial ?_
 refine .ite H rfl (fun H=>?_) (fun H=>?_)
 ·obtain ⟨hk1,H⟩:=ck_some H
  refine .A 16 [.d (.ro ((rSl 1 rB8) (nth v0list v9l1.toNat))),.i ((nth v0list v9l1.toNat).length:Int)] rfl ⟨s22.n rfl rfl,s44.ix rfl rfl rfl hk1⟩ ?_
  refine .ite H rfl (fun H=>?_) (fun H=>?_)
  ·refine .A 5 [] rfl trivial ?_
   refine .R func30 results30 rfl ?_
   cases H
   cases HK1
   exact .m rfl (.tupL ⟨.nil 1,.rfl' _,trivial⟩)
  ·obtain ⟨y1,hy1,H⟩:=bind_some' H
   refine .B 4 [] rfl trivial ?_
   refine .callF (en 30 rfl) rfl [] [0] (x:=.tsl 1 (y1.map rB8) 0) (st':=⟨[],[⟨5,1,y1.length,none⟩]⟩) rfl (c_g_frame_wrap_v1 (hy1)) ⟨.rfl' _,.rfl' _,trivial⟩ rfl rfl rfl rfl rfl rfl ?_
   obtain ⟨hk2,H⟩:=ck_some H
   refine .A 7 [.i (v9l1+1)] rfl (g_addI rfl rfl hk2) ?_
   cases H
   exact .z (ih1 (n1,(y1,v9l1+1)) HK1 hm1) rfl rfl
 ·refine .A 7 [] rfl trivial ?_
  refine .R func30 results30 rfl ?_
  cases H
  cases HK1
  exact .m rfl (.tupL ⟨.tsl _ _ _,.rfl' _,trivial⟩)
theorem c_g_batch_all_int_byte {v0list:List Int} {r:(List UInt8)} (H:g_batch_all_int_byte v0list=some r):ACallS prog 31 [.d (slOf 1 rI v0list),.d (.ex (.func (.func 32) #[] #[]))] ⟨[],[]⟩ (QE (.d (slOf 1 rB8 r)) ⟨[],[]⟩):=by
 refine ACallS.keep ?_
 refine ACallS.enter func31 rfl ntmps31 rfl fun S hS=>?_
 unfold g_batch_all_int_byte at H
 refine .A 16 [.i (v0list.length:Int)] rfl (s68.n rfl rfl) ?_
 refine .tok (i:=5) (e:=5) (sz:=1) rfl ?_
 obtain ⟨n1,H⟩:=loop_some H
 refine .loop (ι:=Nat×(List UInt8×Int)) (fun ⟨_,v5outl1,v12l1⟩=>[(1,.d (.ex (.func (.func 32) #[] #[]))),(5,.tsl 1 (v5outl1.map rB8) 0),(10,.d (slOf 1 rI v0list)),(11,.d (cI (v0list.length:Int))),(12,.d (cI v12l1))]) (fun ⟨_,v5outl1,v12l1⟩=>⟨[],[⟨5,1,v5outl1.length,none⟩]⟩) (fun p=>iter (fun s=>g_batch_all_int_byte_l1 v0list s.1 s.2) p.1 p.2=some r) (·.1) (n1,(([]:List UInt8),0)) H (.cons rfl (.rfl' _) (.cons rfl (.rfl' _) (.cons rfl (.rfl' _) (.cons rfl (.rfl' _) (.cons rfl (.rfl' _) (.nil)))))) rfl ?_
 rintro ⟨m1,v5outl1,v12l1⟩ HI ih1
 obtain ⟨n1,q1,hm1,H,HK1⟩:=iter_succ HI
 clear HI
 replace H:g_batch_all_int_byte_l1 v0list v5outl1 v12l1=some q1:=H
 unfold g_batch_all_int_byte_l1 at H
 refine .A 5 [] rfl trivial ?_
 refine .ite H rfl (fun H=>?_) (fun H=>?_)
 ·obtain ⟨hk1,H⟩:=ck_some H
  obtain ⟨y1,hy1,H⟩:=bind_some' H
  obtain ⟨hk2,H⟩:=ck_some H
  obtain ⟨hk3,H⟩:=ck_some H
  refine .A 31 [.d (.ro (rI (nth v0list v12l1.toNat))),.d (.tup [slOf 1 rB8 y1.1,cI y1.2]),.a 0 5 1 rB8 (v5outl1++y1.1),.i (v12l1+1)] rfl ⟨g_addI rfl rfl hk3,s22.a rfl rfl rfl rfl hk2,g_callF (en 31 rfl) rfl rfl rfl (c_f_batch_number (hy1)),s68.ix rfl rfl rfl hk1⟩ ?_
  cases H
  exact .z (ih1 (n1,(v5outl1++y1.1,v12l1+1)) HK1 hm1) rfl rfl
 ·refine .A 6 [] rfl trivial ?_
  refine .R func31 results31 rfl ?_
  cases H
  cases HK1
  exact ⟨[],[],rfl,rfl,rfl,rfl,rfl,rfl,rfl,rfl,.tsl _ _ _⟩
set_option maxRecDepth 100000
set_option maxHeartbeats 1000000
theorem c_f_batch_Write {v0b:Batch} {r:(List UInt8)×Int} (H:f_batch_Write v0b=some r):ACall prog 14 [.agg (Batch.row v0b)] (·=.tup [slOf 1 rB8 r.1,cI r.2]):=by
 obtain ⟨i3,hi3,hz3,hs3,hb3⟩:=in_3
 obtain ⟨i22,hi22,hz22,hs22,hb22⟩:=in_22
 refine ACall.enter' func14 rfl ntmps14 rfl fun S hS=>?_
 unfold f_batch_Write at H
 obtain ⟨y1,hy1,H⟩:=bind_some' H
 refine .A 18 [.r 0,.i y1] rfl (g_call (en 32 rfl) rfl rfl (c_f_batch_Check (hy1))) ?_
 refine .ite H rfl (fun H=>?_) (fun H=>?_)
 ·refine .A 6 [] rfl trivial ?_
  refine .R func14 results14 rfl ?_
  cases H
  exact .m rfl (.tupL ⟨.nil 1,.rfl' _,trivial⟩)
 ·refine .A 2 [] rfl trivial ?_
  obtain ⟨y2,hy2,H⟩:=bind_some' H
  obtain ⟨y3,hy3,H⟩:=bind_some' H
  refine .ordersX (E0:=[(0,.d (.agg (Batch.row v0b))),(1,.ref 0 0),(2,.d (nilD)),(3,.d (cI 0)),(4,.d (cI y1)),(5,.ref 1 0),(6,.ref 2 0),(7,.d (.agg (Batch.row v0b))),(8,.d (cI y1)),(9,.d (cI y1)),(10,.d (cB (y1 != 0))),(12,.d (.agg (Batch.row v0b))),(13,.d (.agg (Head.row y2))),(14,.ref 0 3),(15,.d (slOf 12 Record.row v0b.records)),(16,.d (.agg (Totals.row y3)))]) (st0:=⟨[.row 31 [.d (cI v0b.source),.d (cI v0b.number),.d (cI v0b.format),.d (slOf 12 Record.row v0b.records)],.row 25 [.d (cI 0),.d (cI 0),.d (cI 0),.d (cI 0)],.row 52 [.d (cI 0),.d (cI 0),.d (cI 0),.d (cI 0),.d (cI 0),.d (cI 0)]],[]⟩) 7 5 6 [⟨[.row 31 [.d (cI v0b.source),.d (cI v0b.number),.d (cI v0b.format),.d (slOf 12 Record.row v0b.records)]],[]⟩,⟨[.row 31 [.d (cI v0b.source),.d (cI v0b.number),.d (cI v0b.format),.d (slOf 12 Record.row v0b.records)],.row 25 [.d (cI 0),.d (cI 0),.d (cI 0),.d (cI 0)]],[]⟩,⟨[.row 31 [.d (cI v0b.source),.d (cI v0b.number),.d (cI v0b.format),.d (slOf 12 Record.row v0b.records)],.row 25 [.d (cI 0),.d (cI 0),.d (cI 0),.d (cI 0)],.row 52 [.d (cI 0),.d (cI 0),.d (cI 0),.d (cI 0),.d (cI 0),.d (cI 0)]],[]⟩] [⟨[.row 31 [.d (cI v0b.source),.d (cI v0b.number),.d (cI v0b.format),.d (slOf 12 Record.row v0b.records)]],[]⟩,⟨[.row 31 [.d (cI v0b.source),.d (cI v0b.number),.d (cI v0b.format),.d (slOf 12 Record.row v0b.records)],.row 52 [.d (cI 0),.d (cI 0),.d (cI 0),.d (cI 0),.d (cI 0),.d (cI 0)]],[]⟩,⟨[.row 31 [.d (cI v0b.source),.d (cI v0b.number),.d (cI v0b.format),.d (slOf 12 Record.row v0b.records)],.row 52 [.d (cI 0),.d (cI 0),.d (cI 0),.d (cI 0),.d (cI 0),.d (cI 0)],.row 25 [.d (cI 0),.d (cI 0),.d (cI 0),.d (cI 0)]],[]⟩] hMix (by kernel_rfl) (by decide) (by decide) (by decide) rfl rfl (fun hrest=>?_) (fun hrest=>?_) ?_
  ·show XOps _ _ _ _ _ _ _ _ _ _ (_ :: _) _ _
   refine .g (x:=.d (.agg (Batch.row v0b))) 0 2 ⟨OpQ.g (q_loadOA one_31 sz_31 rfl rfl (Nat.le_of_ble_eq_true rfl) rfl),OpQ.g (q_loadOA one_31 sz_31 rfl rfl (Nat.le_of_ble_eq_true rfl) rfl),OpQ.g (q_loadOA one_31 sz_31 rfl rfl (Nat.le_of_ble_eq_true rfl) rfl),trivial⟩ rfl (by kernel_rfl) rfl ?_
   refine .g (x:=.d (.agg (Head.row y2))) 0 2 ⟨(g_call (en 8 rfl) rfl rfl (c_f_batch_headOf (hy2))),(g_call (en 8 rfl) rfl rfl (c_f_batch_headOf (hy2))),(g_call (en 8 rfl) rfl rfl (c_f_batch_headOf (hy2))),trivial⟩ rfl (by kernel_rfl) rfl ?_
   refine .g (x:=.ref 0 3) 0 2 ⟨OpQ.g (q_fieldRef fo_31_3 rfl),OpQ.g (q_fieldRef fo_31_3 rfl),OpQ.g (q_fieldRef fo_31_3 rfl),trivial⟩ rfl (by kernel_rfl) rfl ?_
   refine .g (x:=.d (slOf 12 Record.row v0b.records)) 0 2 ⟨OpQ.g (q_loadO one_29 rfl rfl rfl),OpQ.g (q_loadO one_29 rfl rfl rfl),OpQ.g (q_loadO one_29 rfl rfl rfl),trivial⟩ rfl (by kernel_rfl) rfl ?_
   refine .g (x:=.d (.agg (Totals.row y3))) 0 2 ⟨(g_call (en 33 rfl) rfl rfl (c_f_batch_Totals (hy3))),(g_call (en 33 rfl) rfl rfl (c_f_batch_Totals (hy3))),(g_call (en 33 rfl) rfl rfl (c_f_batch_Totals (hy3))),trivial⟩ rfl (by kernel_rfl) rfl ?_
   refine .v (x:=.ref 1 0) 0 (v_alloc zr_25 rfl) rfl rfl rfl rfl ?_
   refine .v (x:=.ref 2 0) 1 (v_alloc zr_52 rfl) rfl rfl rfl rfl ?_
   refine .nil rfl ?_
   exact .sub (.cons rfl (.rfl' _) (.cons rfl (.rfl' _) (.cons rfl (.rfl' _) (.cons rfl (.rfl' _) (.cons rfl (.rfl' _) (.cons rfl (.rfl' _) (.cons rfl (.rfl' _) (.cons rfl (.rfl' _) (.cons rfl (.rfl' _) (.cons rfl (.rfl' _) (.cons rfl (.rfl' _) (.cons rfl (.rfl' _) (.cons rfl (.rfl' _) (.cons rfl (.rfl' _) (.cons rfl (.rfl' _) (.cons rfl (.rfl' _) (.nil))))))))))))))))) hrest
  ·show XOps _ _ _ _ _ _ _ _ _ _ (_ :: _) _ _
   refine .g (x:=.d (.agg (Batch.row v0b))) 0 2 ⟨OpQ.g (q_loadOA one_31 sz_31 rfl rfl (Nat.le_of_ble_eq_true rfl) rfl),OpQ.g (q_loadOA one_31 sz_31 rfl rfl (Nat.le_of_ble_eq_true rfl) rfl),OpQ.g (q_loadOA one_31 sz_31 rfl rfl (Nat.le_of_ble_eq_true rfl) rfl),trivial⟩ rfl (by kernel_rfl) rfl ?_
   refine .g (x:=.d (.agg (Head.row y2))) 0 2 ⟨(g_call (en 8 rfl) rfl rfl (c_f_batch_headOf (hy2))),(g_call (en 8 rfl) rfl rfl (c_f_batch_headOf (hy2))),(g_call (en 8 rfl) rfl rfl (c_f_batch_headOf (hy2))),trivial⟩ rfl (by kernel_rfl) rfl ?_
   refine .g (x:=.ref 0 3) 0 2 ⟨OpQ.g (q_fieldRef fo_31_3 rfl),OpQ.g (q_fieldRef fo_31_3 rfl),OpQ.g (q_fieldRef fo_31_3 rfl),trivial⟩ rfl (by kernel_rfl) rfl ?_
   refine .g (x:=.d (slOf 12 Record.row v0b.records)) 0 2 ⟨OpQ.g (q_loadO one_29 rfl rfl rfl),OpQ.g (q_loadO one_29 rfl rfl rfl),OpQ.g (q_loadO one_29 rfl rfl rfl),trivial⟩ rfl (by kernel_rfl) rfl ?_
   refine .g (x:=.d (.agg (Totals.row y3))) 0 2 ⟨(g_call (en 33 rfl) rfl rfl (c_f_batch_Totals (hy3))),(g_call (en 33 rfl) rfl rfl (c_f_batch_Totals (hy3))),(g_call (en 33 rfl) rfl rfl (c_f_batch_Totals (hy3))),trivial⟩ rfl (by kernel_rfl) rfl ?_
   refine .v (x:=.ref 2 0) 1 (v_alloc zr_25 rfl) rfl rfl rfl rfl ?_
   refine .v (x:=.ref 1 0) 0 (v_alloc zr_52 rfl) rfl rfl rfl rfl ?_
   refine .nil rfl ?_
   exact .reorder [0,2,1] [] rfl rfl rfl (by rw [hS]; rfl) (by rw [hS]; rfl) (by rw [hS]; rfl) rfl rfl (.cons rfl (.rfl' _) (.cons rfl (.rfl' _) (.cons rfl (.rfl' _) (.cons rfl (.rfl' _) (.cons rfl (.rfl' _) (.cons rfl (.rfl' _) (.cons rfl (.rfl' _) (.cons rfl (.rfl' _) (.cons rfl (.rfl' _) (.cons rfl (.rfl' _) (.cons rfl (.rfl' _) (.cons rfl (.rfl' _) (.cons rfl (.rfl' _) (.cons rfl (.rfl' _) (.cons rfl (.rfl' _) (.cons rfl (.rfl' _) (.nil))))))))))))))))) hrest
  show AOps _ _ _ _ _ _ (_ :: _) _ _ _
  refine .A 4 [] rfl trivial ?_
  obtain ⟨y4,hy4,H⟩:=bind_some' H
  obtain ⟨y5,hy5,H⟩:=bind_some' H
  obtain ⟨hk1,H⟩:=ck_some H
  obtain ⟨y6,hy6,H⟩:=bind_some' H
  obtain ⟨y7,hy7,H⟩:=bind_some' H
  refine .orders2 26 17 20 [⟨[.row 31 [.d (cI v0b.source),.d (cI v0b.number),.d (cI v0b.format),.d (slOf 12 Record.row v0b.records)],.row 25 [.d (cI y2.source),.d (cI y2.number),.d (cI y2.format),.d (cI y2.count)],.row 52 [.d (cI y3.count),.d (cI (nth y3.units 0)),.d (cI (nth y3.units 1)),.d (cI (nth y3.units 2)),.d (cI (nth y3.units 3)),.d (cI (nth y3.units 4))]],[]⟩,⟨[.row 31 [.d (cI v0b.source),.d (cI v0b.number),.d (cI v0b.format),.d (slOf 12 Record.row v0b.records)],.row 25 [.d (cI y2.source),.d (cI y2.number),.d (cI y2.format),.d (cI y2.count)],.row 52 [.d (cI y3.count),.d (cI (nth y3.units 0)),.d (cI (nth y3.units 1)),.d (cI (nth y3.units 2)),.d (cI (nth y3.units 3)),.d (cI (nth y3.units 4))]],[⟨3,1,([y3.count]:List Int).length,none⟩]⟩,⟨[.row 31 [.d (cI v0b.source),.d (cI v0b.number),.d (cI v0b.format),.d (slOf 12 Record.row v0b.records)],.row 25 [.d (cI y2.source),.d (cI y2.number),.d (cI y2.format),.d (cI y2.count)],.row 52 [.d (cI y3.count),.d (cI (nth y3.units 0)),.d (cI (nth y3.units 1)),.d (cI (nth y3.units 2)),.d (cI (nth y3.units 3)),.d (cI (nth y3.units 4))]],[⟨3,1,(([y3.count]:List Int)++([nth y3.units 1,nth y3.units 2,nth y3.units 3,nth y3.units 4]:List Int)).length,none⟩]⟩] hMix (by kernel_rfl) (by decide) (by decide) (by kernel_rfl) rfl ?_
  show XOps _ _ _ _ _ _ _ _ _ _ (_ :: _) _ _
  refine .g (x:=.ref 1 0) 0 1 ⟨OpQ.g (q_fieldRef fo_25_0 rfl),OpQ.g (q_fieldRef fo_25_0 rfl),trivial⟩ rfl (by kernel_rfl) rfl ?_
  refine .g (x:=.d (cI y2.source)) 0 1 ⟨OpQ.g (q_loadO one_3 rfl rfl rfl),OpQ.g (q_loadO one_3 rfl rfl rfl),trivial⟩ rfl (by kernel_rfl) rfl ?_
  refine .g (x:=.ref 1 1) 0 1 ⟨OpQ.g (q_fieldRef fo_25_1 rfl),OpQ.g (q_fieldRef fo_25_1 rfl),trivial⟩ rfl (by kernel_rfl) rfl ?_
  refine .g (x:=.d (cI y2.number)) 0 1 ⟨OpQ.g (q_loadO one_3 rfl rfl rfl),OpQ.g (q_loadO one_3 rfl rfl rfl),trivial⟩ rfl (by kernel_rfl) rfl ?_
  refine .g (x:=.ref 1 2) 0 1 ⟨OpQ.g (q_fieldRef fo_25_2 rfl),OpQ.g (q_fieldRef fo_25_2 rfl),trivial⟩ rfl (by kernel_rfl) rfl ?_
  refine .g (x:=.d (cI y2.format)) 0 1 ⟨OpQ.g (q_loadO one_3 rfl rfl rfl),OpQ.g (q_loadO one_3 rfl rfl rfl),trivial⟩ rfl (by kernel_rfl) rfl ?_
  refine .g (x:=.ref 1 3) 0 1 ⟨OpQ.g (q_fieldRef fo_25_3 rfl),OpQ.g (q_fieldRef fo_25_3 rfl),trivial⟩ rfl (by kernel_rfl) rfl ?_
  refine .g (x:=.d (cI y2.count)) 0 1 ⟨OpQ.g (q_loadO one_3 rfl rfl rfl),OpQ.g (q_loadO one_3 rfl rfl rfl),trivial⟩ rfl (by kernel_rfl) rfl ?_
  refine .g (x:=.d (slOf 1 rI ([y2.source,y2.number,y2.format,y2.count]:List Int))) 0 1 ⟨(g_buildSliceN (n:=4) (rows:=([y2.source,y2.number,y2.format,y2.count]:List Int).map rI) underlying68 hi3 hs3 hz3 rfl rfl rfl rfl rfl),(g_buildSliceN (n:=4) (rows:=([y2.source,y2.number,y2.format,y2.count]:List Int).map rI) underlying68 hi3 hs3 hz3 rfl rfl rfl rfl rfl),trivial⟩ rfl (by kernel_rfl) rfl ?_
  refine .g (x:=.d (slOf 1 rB8 y4)) 0 1 ⟨(g_call (en 34 rfl) rfl rfl (ACall.ofE (ds:=[slOf 1 rI ([y2.source,y2.number,y2.format,y2.count]:List Int),.ex (.func (.func 32) #[] #[])]) (c_g_batch_all_int_byte (hy4)))),(g_call (en 34 rfl) rfl rfl (ACall.ofE (ds:=[slOf 1 rI ([y2.source,y2.number,y2.format,y2.count]:List Int),.ex (.func (.func 32) #[] #[])]) (c_g_batch_all_int_byte (hy4)))),trivial⟩ rfl (by kernel_rfl) rfl ?_
  refine .g (x:=.ref 0 2) 0 1 ⟨OpQ.g (q_fieldRef fo_31_2 rfl),OpQ.g (q_fieldRef fo_31_2 rfl),trivial⟩ rfl (by kernel_rfl) rfl ?_
  refine .g (x:=.d (cI v0b.format)) 0 1 ⟨OpQ.g (q_loadO one_3 rfl rfl rfl),OpQ.g (q_loadO one_3 rfl rfl rfl),trivial⟩ rfl (by kernel_rfl) rfl ?_
  refine .g (x:=.ref 0 3) 0 1 ⟨OpQ.g (q_fieldRef fo_31_3 rfl),OpQ.g (q_fieldRef fo_31_3 rfl),trivial⟩ rfl (by kernel_rfl) rfl ?_
  refine .g (x:=.d (slOf 12 Record.row v0b.records)) 0 1 ⟨OpQ.g (q_loadO one_29 rfl rfl rfl),OpQ.g (q_loadO one_29 rfl rfl rfl),trivial⟩ rfl (by kernel_rfl) rfl ?_
  refine .g (x:=.d (slOf 1 rB8 y5)) 0 1 ⟨(g_call (en 35 rfl) rfl rfl (c_f_batch_payload (hy5))),(g_call (en 35 rfl) rfl rfl (c_f_batch_payload (hy5))),trivial⟩ rfl (by kernel_rfl) rfl ?_
  refine .g (x:=.ref 2 0) 0 0 ⟨OpQ.g (q_fieldRef fo_52_0 rfl),trivial⟩ rfl (by kernel_rfl) rfl ?_
  refine .g (x:=.d (cI y3.count)) 0 0 ⟨OpQ.g (q_loadO one_3 rfl rfl rfl),trivial⟩ rfl (by kernel_rfl) rfl ?_
  refine .v (x:=.tsl 1 (([y3.count]:List Int).map rI) 0) 0 (v_buildSliceT (n:=1) underlying68 hi3 hs3 hz3 rfl rfl rfl rfl rfl) rfl rfl rfl rfl ?_
  refine .g (x:=.ref 2 1) 0 1 ⟨OpQ.g (q_fieldRef fo_52_1 rfl),OpQ.g (q_fieldRef fo_52_1 rfl),trivial⟩ rfl (by kernel_rfl) rfl ?_
  refine .g (x:=.osl 2 2 4 4) 0 1 ⟨OpQ.g (q_arrL (m:=1) (sz:=1) underlying50 ⟨_,hi3,hs3⟩ rfl rfl rfl (by decide)),OpQ.g (q_arrL (m:=1) (sz:=1) underlying50 ⟨_,hi3,hs3⟩ rfl rfl rfl (by decide)),trivial⟩ rfl (by kernel_rfl) rfl ?_
  refine .v (x:=.tsl 1 ((([y3.count]:List Int)++([nth y3.units 1,nth y3.units 2,nth y3.units 3,nth y3.units 4]:List Int)).map rI) 0) 1 (v_appendOslK (l:=([y3.count]:List Int)) (l':=([nth y3.units 1,nth y3.units 2,nth y3.units 3,nth y3.units 4]:List Int)) (c1:=cI) underlying68 hi3 hz3 hs3 rfl (by rw [hb3]; decide) rfl rfl rfl rfl rfl hk1) rfl rfl rfl rfl ?_
  refine .g (x:=.d (slOf 1 rB8 y6)) 2 2 ⟨(g_call (en 34 rfl) rfl rfl (ACall.ofE (ds:=[slOf 1 rI (([y3.count]:List Int)++([nth y3.units 1,nth y3.units 2,nth y3.units 3,nth y3.units 4]:List Int)),.ex (.func (.func 32) #[] #[])]) (c_g_batch_all_int_byte (hy6)))),trivial⟩ rfl (by kernel_rfl) rfl ?_
  refine .g (x:=.d (slOf 1 (rSl 1 rB8) ([y4,y5,y6]:List (List UInt8)))) 2 2 ⟨(g_buildSliceN (n:=3) (rows:=([y4,y5,y6]:List (List UInt8)).map (rSl 1 rB8)) underlying44 hi22 hs22 hz22 rfl rfl rfl rfl rfl),trivial⟩ rfl (by kernel_rfl) rfl ?_
  refine .g (x:=.d (.tup [slOf 1 rB8 y7.1,cI y7.2])) 2 2 ⟨(g_call (en 36 rfl) rfl rfl (c_f_frame_Join (hy7))),trivial⟩ rfl (by kernel_rfl) rfl ?_
  refine .g (x:=.d (slOf 1 rB8 y7.1)) 2 2 ⟨OpQ.g (q_extract rfl rfl),trivial⟩ rfl (by kernel_rfl) rfl ?_
  refine .g (x:=.d (cI y7.2)) 2 2 ⟨OpQ.g (q_extract rfl rfl),trivial⟩ rfl (by kernel_rfl) rfl ?_
  refine .nil rfl ?_
  show AOps _ _ _ _ _ _ (_ :: _) _ _ _
  refine .A 3 [] rfl trivial ?_
  refine .R func14 results14 rfl ?_
  cases H
  exact .m rfl (.tupD rfl)
theorem c_f_codec_back {v0u:Int} {r:Int} (H:f_codec_back v0u=some r):ACall prog 132 [cK .u64 v0u] (·=cI r):=by
 refine ACall.enter' func132 rfl ntmps132 rfl fun S hS=>?_
 unfold f_codec_back at H
 obtain ⟨hk1,H⟩:=ck_some H
 obtain ⟨hk2,H⟩:=ck_some H
 refine .A 16 [.d (cK .u64 (Int.fdiv v0u (2 ^ (min (Int.toNat (1)) 64)))),.i (IntKind.wrap .i64 (Int.fdiv v0u (2 ^ (min (Int.toNat (1)) 64)))),.d (cK .u64 (bAnd .u64 v0u 1)),.i (IntKind.wrap .i64 (bAnd .u64 v0u 1)),.i (-(IntKind.wrap .i64 (bAnd .u64 v0u 1))),.i (bXor .i64 (IntKind.wrap .i64 (Int.fdiv v0u (2 ^ (min (Int.toNat (1)) 64)))) (-(IntKind.wrap .i64 (bAnd .u64 v0u 1))))] rfl ⟨OpQ.g (q_xor rfl rfl),OpQ.g (q_negI rfl hk2.1 hk2.2),OpQ.g (q_conv underlying122 underlying3 rfl rfl),OpQ.g (q_and rfl rfl),OpQ.g (q_conv underlying122 underlying3 rfl rfl),OpQ.g (q_shr (a:=v0u) (b:=1) rfl rfl hk1 rfl)⟩ ?_
 refine .R func132 results132 rfl ?_
 cases H
 exact .m rfl (.rfl' _)
theorem c_f_codec_scan {v0b:List UInt8} {r:Int×Int×Int} (H:f_codec_scan v0b=some r):ACall prog 109 [slOf 1 rB8 v0b] (·=.tup [cI r.1,cI r.2.1,cI r.2.2]):=by
 refine ACall.enter' func109 rfl ntmps109 rfl fun S hS=>?_
 unfold f_codec_scan at H
 refine .A 16 [] rfl trivial ?_
 obtain ⟨n1,H⟩:=loop_some H
 refine .loop (ι:=Nat×(Int×Int)) (fun ⟨_,v5ul1,v6il1⟩=>[(0,.d (slOf 1 rB8 v0b)),(5,.d (cK .u64 v5ul1)),(6,.d (cI v6il1))]) (fun ⟨_,v5ul1,v6il1⟩=>⟨[],[]⟩) (fun p=>iter (fun s=>f_codec_scan_l1 v0b s.1 s.2) p.1 p.2=some r) (·.1) (n1,(0,0)) H (.cons rfl (.rfl' _) (.cons rfl (.rfl' _) (.cons rfl (.rfl' _) (.nil)))) rfl ?_
 rintro ⟨m1,v5ul1,v6il1⟩ HI ih1
 obtain ⟨n1,q1,hm1,H,HK1⟩:=iter_succ HI
 clear HI
 replace H:f_codec_scan_l1 v0b v5ul1 v6il1=some q1:=H
 unfold f_codec_scan_l1 at H
 refine .A 8 [.i (v0b.length:Int)] rfl (s22.n rfl rfl) ?_
 refine .ite H rfl (fun H=>?_) (fun H=>?_)
 ·obtain ⟨hk1,H⟩:=ck_some H
  refine .B 26 [.d (.ro (rB8 (nth v0b v6il1.toNat))),.b ((nth v0b v6il1.toNat) != 1),.b ((nth v0b v6il1.toNat)==0)] rfl ⟨fun hg=>OpQ.g (q8_eql (a:=nth v0b v6il1.toNat) (b:=0) rfl rfl),rfl,rfl,rfl,rfl,fun hg=>OpQ.g (q8_neq (a:=nth v0b v6il1.toNat) (b:=1) rfl rfl),rfl,s22.ix rfl rfl rfl hk1⟩ ?_
  refine .guardG (env':=[(27,_),(29,_)]) rfl rfl rfl ⟨.inr (.inl rfl),⟨.inr (.inr ⟨_,_,rfl,rfl⟩),trivial⟩⟩ rfl (fun hg=>OpQ.g (q_pickAndB rfl rfl rfl)) ?_
  refine .A 2 [] rfl rfl ?_
  refine .ite H rfl (fun H=>?_) (fun H=>?_)
  ·refine .A 6 [] rfl trivial ?_
   refine .R func109 results109 rfl ?_
   cases H
   cases HK1
   exact .m rfl (.tupD rfl)
  ·obtain ⟨hk2,H⟩:=ck_some H
   obtain ⟨hk3,H⟩:=ck_some H
   refine .A 18 [.c ((nth v0b v6il1.toNat) &&& 127),.d (cK .u64 (IntKind.wrap .u64 (((nth v0b v6il1.toNat) &&& 127).toNat:Int))),.i (7*v6il1),.d (cK .u64 (IntKind.wrap .u64 ((IntKind.wrap .u64 (((nth v0b v6il1.toNat) &&& 127).toNat:Int))*2 ^ (min (7*v6il1).toNat 64)))),.d (cK .u64 (bOr .u64 v5ul1 (IntKind.wrap .u64 ((IntKind.wrap .u64 (((nth v0b v6il1.toNat) &&& 127).toNat:Int))*2 ^ (min (7*v6il1).toNat 64))))),.b (decide ((nth v0b v6il1.toNat) < 128))] rfl ⟨OpQ.g (q8_lss (a:=nth v0b v6il1.toNat) (b:=128) rfl rfl),OpQ.g (q_or rfl rfl),OpQ.g (q_shl (a:=IntKind.wrap .u64 (((nth v0b v6il1.toNat) &&& 127).toNat:Int)) (b:=7*v6il1) rfl rfl hk3 rfl),g_mulI rfl rfl hk2,OpQ.g (q_conv (n:=(((nth v0b v6il1.toNat) &&& 127).toNat:Int)) underlying5 underlying122 rfl rfl),OpQ.g (q8_and (a:=nth v0b v6il1.toNat) (b:=127) rfl rfl)⟩ ?_
   refine .ite H rfl (fun H=>?_) (fun H=>?_)
   ·obtain ⟨y1,hy1,H⟩:=bind_some' H
    obtain ⟨hk4,H⟩:=ck_some H
    refine .A 10 [.i y1,.i (v6il1+1)] rfl ⟨g_addI rfl rfl hk4,g_call (en 37 rfl) rfl rfl (c_f_codec_back (hy1))⟩ ?_
    refine .R func109 results109 rfl ?_
    cases H
    cases HK1
    exact .m rfl (.tupD rfl)
   ·obtain ⟨hk5,H⟩:=ck_some H
    refine .A 7 [.i (v6il1+1)] rfl (g_addI rfl rfl hk5) ?_
    cases H
    exact .z (ih1 (n1,(bOr .u64 v5ul1 (IntKind.wrap .u64 ((IntKind.wrap .u64 (((nth v0b v6il1.toNat) &&& 127).toNat:Int))*2 ^ (min (7*v6il1).toNat 64))),v6il1+1)) HK1 hm1) rfl rfl
 ·refine .A 7 [] rfl trivial ?_
  refine .R func109 results109 rfl ?_
  cases H
  cases HK1
  exact .m rfl (.tupD rfl)
theorem c_f_codec_rest {v0b:List UInt8} {v1i:Int} {r:(List UInt8)} (H:f_codec_rest v0b v1i=some r):ACall prog 110 [slOf 1 rB8 v0b,cI v1i] (·=slOf 1 rB8 r):=by
 obtain ⟨i5,hi5,hz5,hs5,hb5⟩:=in_5
 refine ACall.enter' func110 rfl ntmps110 rfl fun S hS=>?_
 unfold f_codec_rest at H
 obtain ⟨hk1,H⟩:=ck_some H
 obtain ⟨hk2,H⟩:=ck_some H
 obtain ⟨hk3,H⟩:=ck_some H
 refine .A 30 [.i (v0b.length:Int),.i ((v0b.length:Int) - v1i),.n (.vc 0 ((List.replicate ((v0b.length:Int) - v1i).toNat 0:List UInt8).length)) ⟨5,1,((List.replicate ((v0b.length:Int) - v1i).toNat 0:List UInt8).length),some ((List.replicate ((v0b.length:Int) - v1i).toNat 0:List UInt8).map rB8)⟩,.i (v0b.length:Int),.i (v0b.length:Int),.d (slOf 1 rB8 ((v0b.take ((v0b.length:Int)).toNat).drop v1i.toNat)),.t (.d (cI ((min ((v0b.take ((v0b.length:Int)).toNat).drop v1i.toNat).length (List.replicate ((v0b.length:Int) - v1i).toNat 0:List UInt8).length:Nat):Int))) 0 ⟨5,1,((List.replicate ((v0b.length:Int) - v1i).toNat 0:List UInt8).length),some ((((v0b.take ((v0b.length:Int)).toNat).drop v1i.toNat).take (min ((v0b.take ((v0b.length:Int)).toNat).drop v1i.toNat).length (List.replicate ((v0b.length:Int) - v1i).toNat 0:List UInt8).length)++(List.replicate ((v0b.length:Int) - v1i).toNat 0:List UInt8).drop (min ((v0b.take ((v0b.length:Int)).toNat).drop v1i.toNat).length (List.replicate ((v0b.length:Int) - v1i).toNat 0:List UInt8).length)).map rB8)⟩] rfl ⟨.e (v_copyV (l:=(List.replicate ((v0b.length:Int) - v1i).toNat 0:List UInt8)) (l':=(v0b.take ((v0b.length:Int)).toNat).drop v1i.toNat) (row:=rB8) underlying22 hi5 hs5 rfl rfl rfl rfl) rfl,OpQ.g (q_slLHML (l:=v0b) (row:=rB8) underlying22 hi5 hs5 rfl rfl rfl rfl rfl hk3),s22.n rfl rfl,s22.n rfl rfl,.e (v_makeV (row:=rB8) (a:=(v0b.length:Int) - v1i) (b:=(v0b.length:Int) - v1i) (a0:=0) underlying22 hi5 hz5 hs5 rfl (by rw [hb5]; decide) rfl rfl rfl hk2) rfl,g_subI rfl rfl hk1,s22.n rfl rfl⟩ ?_
 refine .freezeL (l:=((v0b.take ((v0b.length:Int)).toNat).drop v1i.toNat).take (min ((v0b.take ((v0b.length:Int)).toNat).drop v1i.toNat).length (List.replicate ((v0b.length:Int) - v1i).toNat 0:List UInt8).length)++(List.replicate ((v0b.length:Int) - v1i).toNat 0:List UInt8).drop (min ((v0b.take ((v0b.length:Int)).toNat).drop v1i.toNat).length (List.replicate ((v0b.length:Int) - v1i).toNat 0:List UInt8).length)) (row:=rB8) (i:=4) rfl rfl ?_
 refine .R func110 results110 rfl ?_
 cases H
 exact .m rfl (.tsl _ _ _)
theorem c_f_codec_Number {v0b:List UInt8} {r:Int×(List UInt8)×Int} (H:f_codec_Number v0b=some r):ACall prog 75 [slOf 1 rB8 v0b] (·=.tup [cI r.1,slOf 1 rB8 r.2.1,cI r.2.2]):=by
 refine ACall.enter' func75 rfl ntmps75 rfl fun S hS=>?_
 unfold f_codec_Number at H
 obtain ⟨y1,hy1,H⟩:=bind_some' H
 refine .A 24 [.d (.tup [cI y1.1,cI y1.2.1,cI y1.2.2])] rfl (g_call (en 38 rfl) rfl rfl (c_f_codec_scan (hy1))) ?_
 refine .ite H rfl (fun H=>?_) (fun H=>?_)
 ·refine .A 7 [] rfl trivial ?_
  refine .R func75 results75 rfl ?_
  cases H
  exact .m rfl (.tupL ⟨.rfl' _,.nil 1,.rfl' _,trivial⟩)
 ·obtain ⟨y2,hy2,H⟩:=bind_some' H
  refine .A 11 [.d (slOf 1 rB8 y2)] rfl (g_call (en 39 rfl) rfl rfl (c_f_codec_rest (hy2))) ?_
  refine .R func75 results75 rfl ?_
  cases H
  exact .m rfl (.tupD rfl)
theorem c_f_frame_locate {v0:List UInt8} {r:Int×Int×Int} (H:f_frame_locate v0=some r):ACall prog 45 [slOf 1 rB8 v0] (·=.tup [cI r.1,cI r.2.1,cI r.2.2]):=by
 obtain ⟨i5,hi5,hz5,hs5,hb5⟩:=in_5
 refine ACall.enter' func45 rfl ntmps45 rfl fun S hS=>?_
 unfold f_frame_locate at H
 obtain ⟨hk1,H⟩:=ck_some H
 obtain ⟨y1,hy1,H⟩:=bind_some' H
 refine .A 38 [.i (v0.length:Int),.i (if 10 < (v0.length:Int) then 10 else (v0.length:Int)),.i (v0.length:Int),.i (if 10 < (v0.length:Int) then 10 else (v0.length:Int)),.d (slOf 1 rB8 (v0.take ((if 10 < (v0.length:Int) then 10 else (v0.length:Int))).toNat)),.d (.tup [cI y1.1,slOf 1 rB8 y1.2.1,cI y1.2.2])] rfl ⟨g_call (en 40 rfl) rfl rfl (c_f_codec_Number (hy1)),OpQ.g (q_slHML (l:=v0) (row:=rB8) underlying22 hi5 hs5 rfl rfl rfl rfl hk1),OpQ.g (q_minI rfl rfl),s22.n rfl rfl,OpQ.g (q_minI rfl rfl),s22.n rfl rfl⟩ ?_
 refine .ite H rfl (fun H=>?_) (fun H=>?_)
 ·refine .A 7 [] rfl trivial ?_
  refine .R func45 results45 rfl ?_
  cases H
  exact .m rfl (.tupD rfl)
 ·refine .A 6 [] rfl trivial ?_
  refine .ite H rfl (fun H=>?_) (fun H=>?_)
  ·refine .A 6 [] rfl trivial ?_
   refine .R func45 results45 rfl ?_
   cases H
   exact .m rfl (.tupD rfl)
  ·refine .A 6 [] rfl trivial ?_
   refine .ite H rfl (fun H=>?_) (fun H=>?_)
   ·refine .A 6 [] rfl trivial ?_
    refine .R func45 results45 rfl ?_
    cases H
    exact .m rfl (.tupD rfl)
   ·obtain ⟨hk2,H⟩:=ck_some H
    obtain ⟨hk3,H⟩:=ck_some H
    obtain ⟨hk4,H⟩:=ck_some H
    refine .A 22 [.i ((v0.take ((if 10 < (v0.length:Int) then 10 else (v0.length:Int))).toNat).length:Int),.i (y1.2.1.length:Int),.i (((v0.take ((if 10 < (v0.length:Int) then 10 else (v0.length:Int))).toNat).length:Int) - (y1.2.1.length:Int)),.i (v0.length:Int),.i ((v0.length:Int) - (((v0.take ((if 10 < (v0.length:Int) then 10 else (v0.length:Int))).toNat).length:Int) - (y1.2.1.length:Int))),.i (4+y1.1)] rfl ⟨g_addI rfl rfl hk4,g_subI rfl rfl hk3,s22.n rfl rfl,g_subI rfl rfl hk2,s22.n rfl rfl,s22.n rfl rfl⟩ ?_
    refine .ite H rfl (fun H=>?_) (fun H=>?_)
    ·refine .A 6 [] rfl trivial ?_
     refine .R func45 results45 rfl ?_
     cases H
     exact .m rfl (.tupD rfl)
    ·obtain ⟨hk5,H⟩:=ck_some H
     obtain ⟨hk6,H⟩:=ck_some H
     obtain ⟨hk7,H⟩:=ck_some H
     obtain ⟨hk8,H⟩:=ck_some H
     obtain ⟨hk9,H⟩:=ck_some H
     obtain ⟨hk10,H⟩:=ck_some H
     obtain ⟨hk11,H⟩:=ck_some H
     obtain ⟨hk12,H⟩:=ck_some H
     obtain ⟨hk13,H⟩:=ck_some H
     obtain ⟨hk14,H⟩:=ck_some H
     obtain ⟨hk15,H⟩:=ck_some H
     obtain ⟨hk16,H⟩:=ck_some H
     obtain ⟨hk17,H⟩:=ck_some H
     obtain ⟨hk18,H⟩:=ck_some H
     obtain ⟨y2,hy2,H⟩:=bind_some' H
     refine .A 50 [.p 30,.d (.ro (rB8 (nth v0 (((v0.take ((if 10 < (v0.length:Int) then 10 else (v0.length:Int))).toNat).length:Int) - (y1.2.1.length:Int)).toNat))),.d (cK .u32 (IntKind.wrap .u32 ((nth v0 (((v0.take ((if 10 < (v0.length:Int) then 10 else (v0.length:Int))).toNat).length:Int) - (y1.2.1.length:Int)).toNat).toNat:Int))),.d (cK .u32 (IntKind.wrap .u32 ((IntKind.wrap .u32 ((nth v0 (((v0.take ((if 10 < (v0.length:Int) then 10 else (v0.length:Int))).toNat).length:Int) - (y1.2.1.length:Int)).toNat).toNat:Int))*2 ^ (min (Int.toNat (24)) 32)))),.i ((((v0.take ((if 10 < (v0.length:Int) then 10 else (v0.length:Int))).toNat).length:Int) - (y1.2.1.length:Int))+1),.d (.ro (rB8 (nth v0 ((((v0.take ((if 10 < (v0.length:Int) then 10 else (v0.length:Int))).toNat).length:Int) - (y1.2.1.length:Int))+1).toNat))),.d (cK .u32 (IntKind.wrap .u32 ((nth v0 ((((v0.take ((if 10 < (v0.length:Int) then 10 else (v0.length:Int))).toNat).length:Int) - (y1.2.1.length:Int))+1).toNat).toNat:Int))),.d (cK .u32 (IntKind.wrap .u32 ((IntKind.wrap .u32 ((nth v0 ((((v0.take ((if 10 < (v0.length:Int) then 10 else (v0.length:Int))).toNat).length:Int) - (y1.2.1.length:Int))+1).toNat).toNat:Int))*2 ^ (min (Int.toNat (16)) 32)))),.d (cK .u32 (bOr .u32 (IntKind.wrap .u32 ((IntKind.wrap .u32 ((nth v0 (((v0.take ((if 10 < (v0.length:Int) then 10 else (v0.length:Int))).toNat).length:Int) - (y1.2.1.length:Int)).toNat).toNat:Int))*2 ^ (min (Int.toNat (24)) 32))) (IntKind.wrap .u32 ((IntKind.wrap .u32 ((nth v0 ((((v0.take ((if 10 < (v0.length:Int) then 10 else (v0.length:Int))).toNat).length:Int) - (y1.2.1.length:Int))+1).toNat).toNat:Int))*2 ^ (min (Int.toNat (16)) 32))))),.i ((((v0.take ((if 10 < (v0.length:Int) then 10 else (v0.length:Int))).toNat).length:Int) - (y1.2.1.length:Int))+2),.d (.ro (rB8 (nth v0 ((((v0.take ((if 10 < (v0.length:Int) then 10 else (v0.length:Int))).toNat).length:Int) - (y1.2.1.length:Int))+2).toNat))),.d (cK .u32 (IntKind.wrap .u32 ((nth v0 ((((v0.take ((if 10 < (v0.length:Int) then 10 else (v0.length:Int))).toNat).length:Int) - (y1.2.1.length:Int))+2).toNat).toNat:Int))),.d (cK .u32 (IntKind.wrap .u32 ((IntKind.wrap .u32 ((nth v0 ((((v0.take ((if 10 < (v0.length:Int) then 10 else (v0.length:Int))).toNat).length:Int) - (y1.2.1.length:Int))+2).toNat).toNat:Int))*2 ^ (min (Int.toNat (8)) 32)))),.d (cK .u32 (bOr .u32 (bOr .u32 (IntKind.wrap .u32 ((IntKind.wrap .u32 ((nth v0 (((v0.take ((if 10 < (v0.length:Int) then 10 else (v0.length:Int))).toNat).length:Int) - (y1.2.1.length:Int)).toNat).toNat:Int))*2 ^ (min (Int.toNat (24)) 32))) (IntKind.wrap .u32 ((IntKind.wrap .u32 ((nth v0 ((((v0.take ((if 10 < (v0.length:Int) then 10 else (v0.length:Int))).toNat).length:Int) - (y1.2.1.length:Int))+1).toNat).toNat:Int))*2 ^ (min (Int.toNat (16)) 32)))) (IntKind.wrap .u32 ((IntKind.wrap .u32 ((nth v0 ((((v0.take ((if 10 < (v0.length:Int) then 10 else (v0.length:Int))).toNat).length:Int) - (y1.2.1.length:Int))+2).toNat).toNat:Int))*2 ^ (min (Int.toNat (8)) 32))))),.i ((((v0.take ((if 10 < (v0.length:Int) then 10 else (v0.length:Int))).toNat).length:Int) - (y1.2.1.length:Int))+3),.d (.ro (rB8 (nth v0 ((((v0.take ((if 10 < (v0.length:Int) then 10 else (v0.length:Int))).toNat).length:Int) - (y1.2.1.length:Int))+3).toNat))),.d (cK .u32 (IntKind.wrap .u32 ((nth v0 ((((v0.take ((if 10 < (v0.length:Int) then 10 else (v0.length:Int))).toNat).length:Int) - (y1.2.1.length:Int))+3).toNat).toNat:Int))),.d (cK .u32 (bOr .u32 (bOr .u32 (bOr .u32 (IntKind.wrap .u32 ((IntKind.wrap .u32 ((nth v0 (((v0.take ((if 10 < (v0.length:Int) then 10 else (v0.length:Int))).toNat).length:Int) - (y1.2.1.length:Int)).toNat).toNat:Int))*2 ^ (min (Int.toNat (24)) 32))) (IntKind.wrap .u32 ((IntKind.wrap .u32 ((nth v0 ((((v0.take ((if 10 < (v0.length:Int) then 10 else (v0.length:Int))).toNat).length:Int) - (y1.2.1.length:Int))+1).toNat).toNat:Int))*2 ^ (min (Int.toNat (16)) 32)))) (IntKind.wrap .u32 ((IntKind.wrap .u32 ((nth v0 ((((v0.take ((if 10 < (v0.length:Int) then 10 else (v0.length:Int))).toNat).length:Int) - (y1.2.1.length:Int))+2).toNat).toNat:Int))*2 ^ (min (Int.toNat (8)) 32)))) (IntKind.wrap .u32 ((nth v0 ((((v0.take ((if 10 < (v0.length:Int) then 10 else (v0.length:Int))).toNat).length:Int) - (y1.2.1.length:Int))+3).toNat).toNat:Int)))),.i ((((v0.take ((if 10 < (v0.length:Int) then 10 else (v0.length:Int))).toNat).length:Int) - (y1.2.1.length:Int))+4),.i ((((v0.take ((if 10 < (v0.length:Int) then 10 else (v0.length:Int))).toNat).length:Int) - (y1.2.1.length:Int))+4),.i (((((v0.take ((if 10 < (v0.length:Int) then 10 else (v0.length:Int))).toNat).length:Int) - (y1.2.1.length:Int))+4)+y1.1),.d (slOf 1 rB8 ((v0.take (((((v0.take ((if 10 < (v0.length:Int) then 10 else (v0.length:Int))).toNat).length:Int) - (y1.2.1.length:Int))+4)+y1.1).toNat).drop ((((v0.take ((if 10 < (v0.length:Int) then 10 else (v0.length:Int))).toNat).length:Int) - (y1.2.1.length:Int))+4).toNat)),.d (cK .u32 y2)] rfl ⟨g_call (en 29 rfl) rfl rfl (c_f_frame_Sum (hy2)),OpQ.g (q_slLHL (l:=v0) (row:=rB8) underlying22 hi5 hs5 rfl rfl rfl rfl hk18),g_addI rfl rfl hk17,g_addI rfl rfl hk16,g_addI rfl rfl hk15,OpQ.g (q_or rfl rfl),OpQ.g (q_conv (n:=((nth v0 ((((v0.take ((if 10 < (v0.length:Int) then 10 else (v0.length:Int))).toNat).length:Int) - (y1.2.1.length:Int))+3).toNat).toNat:Int)) underlying5 underlying90 rfl rfl),s22.ix rfl rfl rfl hk14,g_addI rfl rfl hk13,OpQ.g (q_or rfl rfl),OpQ.g (q_shl (a:=IntKind.wrap .u32 ((nth v0 ((((v0.take ((if 10 < (v0.length:Int) then 10 else (v0.length:Int))).toNat).length:Int) - (y1.2.1.length:Int))+2).toNat).toNat:Int)) (b:=8) rfl rfl hk12 rfl),OpQ.g (q_conv (n:=((nth v0 ((((v0.take ((if 10 < (v0.length:Int) then 10 else (v0.length:Int))).toNat).length:Int) - (y1.2.1.length:Int))+2).toNat).toNat:Int)) underlying5 underlying90 rfl rfl),s22.ix rfl rfl rfl hk11,g_addI rfl rfl hk10,OpQ.g (q_or rfl rfl),OpQ.g (q_shl (a:=IntKind.wrap .u32 ((nth v0 ((((v0.take ((if 10 < (v0.length:Int) then 10 else (v0.length:Int))).toNat).length:Int) - (y1.2.1.length:Int))+1).toNat).toNat:Int)) (b:=16) rfl rfl hk9 rfl),OpQ.g (q_conv (n:=((nth v0 ((((v0.take ((if 10 < (v0.length:Int) then 10 else (v0.length:Int))).toNat).length:Int) - (y1.2.1.length:Int))+1).toNat).toNat:Int)) underlying5 underlying90 rfl rfl),s22.ix rfl rfl rfl hk8,g_addI rfl rfl hk7,OpQ.g (q_shl (a:=IntKind.wrap .u32 ((nth v0 (((v0.take ((if 10 < (v0.length:Int) then 10 else (v0.length:Int))).toNat).length:Int) - (y1.2.1.length:Int)).toNat).toNat:Int)) (b:=24) rfl rfl hk6 rfl),OpQ.g (q_conv (n:=((nth v0 (((v0.take ((if 10 < (v0.length:Int) then 10 else (v0.length:Int))).toNat).length:Int) - (y1.2.1.length:Int)).toNat).toNat:Int)) underlying5 underlying90 rfl rfl),s22.ix rfl rfl rfl hk5,(show drawB _ _=true by kernel_rfl)⟩ ?_
     refine .ite H rfl (fun H=>?_) (fun H=>?_)
     ·refine .A 6 [] rfl trivial ?_
      refine .R func45 results45 rfl ?_
      cases H
      exact .m rfl (.tupD rfl)
     ·obtain ⟨hk19,H⟩:=ck_some H
      obtain ⟨hk20,H⟩:=ck_some H
      obtain ⟨hk21,H⟩:=ck_some H
      refine .A 13 [.i ((((v0.take ((if 10 < (v0.length:Int) then 10 else (v0.length:Int))).toNat).length:Int) - (y1.2.1.length:Int))+4),.i ((((v0.take ((if 10 < (v0.length:Int) then 10 else (v0.length:Int))).toNat).length:Int) - (y1.2.1.length:Int))+4),.i (((((v0.take ((if 10 < (v0.length:Int) then 10 else (v0.length:Int))).toNat).length:Int) - (y1.2.1.length:Int))+4)+y1.1)] rfl ⟨g_addI rfl rfl hk21,g_addI rfl rfl hk20,g_addI rfl rfl hk19⟩ ?_
      refine .R func45 results45 rfl ?_
      cases H
      exact .m rfl (.tupD rfl)
theorem c_f_frame_copied {v0b:List UInt8} {v1from:Int} {v2to:Int} {r:(List UInt8)} (H:f_frame_copied v0b v1from v2to=some r):ACall prog 46 [slOf 1 rB8 v0b,cI v1from,cI v2to] (·=slOf 1 rB8 r):=by
 obtain ⟨i5,hi5,hz5,hs5,hb5⟩:=in_5
 refine ACall.enter' func46 rfl ntmps46 rfl fun S hS=>?_
 unfold f_frame_copied at H
 obtain ⟨hk1,H⟩:=ck_some H
 obtain ⟨hk2,H⟩:=ck_some H
 obtain ⟨hk3,H⟩:=ck_some H
 refine .A 27 [.i (v2to-v1from),.n (.vc 0 ((List.replicate (v2to-v1from).toNat 0:List UInt8).length)) ⟨5,1,((List.replicate (v2to-v1from).toNat 0:List UInt8).length),some ((List.replicate (v2to-v1from).toNat 0:List UInt8).map rB8)⟩,.d (slOf 1 rB8 ((v0b.take v2to.toNat).drop v1from.toNat)),.t (.d (cI ((min ((v0b.take v2to.toNat).drop v1from.toNat).length (List.replicate (v2to-v1from).toNat 0:List UInt8).length:Nat):Int))) 0 ⟨5,1,((List.replicate (v2to-v1from).toNat 0:List UInt8).length),some ((((v0b.take v2to.toNat).drop v1from.toNat).take (min ((v0b.take v2to.toNat).drop v1from.toNat).length (List.replicate (v2to-v1from).toNat 0:List UInt8).length)++(List.replicate (v2to-v1from).toNat 0:List UInt8).drop (min ((v0b.take v2to.toNat).drop v1from.toNat).length (List.replicate (v2to-v1from).toNat 0:List UInt8).length)).map rB8)⟩] rfl ⟨.e (v_copyV (l:=(List.replicate (v2to-v1from).toNat 0:List UInt8)) (l':=(v0b.take v2to.toNat).drop v1from.toNat) (row:=rB8) underlying22 hi5 hs5 rfl rfl rfl rfl) rfl,OpQ.g (q_slLHML (l:=v0b) (row:=rB8) underlying22 hi5 hs5 rfl rfl rfl rfl rfl hk3),.e (v_makeV (row:=rB8) (a:=v2to-v1from) (b:=v2to-v1from) (a0:=0) underlying22 hi5 hz5 hs5 rfl (by rw [hb5]; decide) rfl rfl rfl hk2) rfl,g_subI rfl rfl hk1⟩ ?_
 refine .freezeL (l:=((v0b.take v2to.toNat).drop v1from.toNat).take (min ((v0b.take v2to.toNat).drop v1from.toNat).length (List.replicate (v2to-v1from).toNat 0:List UInt8).length)++(List.replicate (v2to-v1from).toNat 0:List UInt8).drop (min ((v0b.take v2to.toNat).drop v1from.toNat).length (List.replicate (v2to-v1from).toNat 0:List UInt8).length)) (row:=rB8) (i:=6) rfl rfl ?_
 refine .R func46 results46 rfl ?_
 cases H
 exact .m rfl (.tsl _ _ _)
theorem c_f_frame_Unwrap {v0b:List UInt8} {r:(List UInt8)×(List UInt8)×Int} (H:f_frame_Unwrap v0b=some r):ACall prog 21 [slOf 1 rB8 v0b] (·=.tup [slOf 1 rB8 r.1,slOf 1 rB8 r.2.1,cI r.2.2]):=by
 refine ACall.enter' func21 rfl ntmps21 rfl fun S hS=>?_
 unfold f_frame_Unwrap at H
 obtain ⟨y1,hy1,H⟩:=bind_some' H
 refine .A 24 [.d (.tup [cI y1.1,cI y1.2.1,cI y1.2.2])] rfl (g_call (en 41 rfl) rfl rfl (c_f_frame_locate (hy1))) ?_
 refine .ite H rfl (fun H=>?_) (fun H=>?_)
 ·refine .A 7 [] rfl trivial ?_
  refine .R func21 results21 rfl ?_
  cases H
  exact .m rfl (.tupL ⟨.nil 1,.nil 1,.rfl' _,trivial⟩)
 ·obtain ⟨y2,hy2,H⟩:=bind_some' H
  obtain ⟨y3,hy3,H⟩:=bind_some' H
  refine .A 16 [.d (slOf 1 rB8 y2),.i (v0b.length:Int),.d (slOf 1 rB8 y3)] rfl ⟨g_call (en 42 rfl) rfl rfl (c_f_frame_copied (hy3)),s22.n rfl rfl,g_call (en 42 rfl) rfl rfl (c_f_frame_copied (hy2))⟩ ?_
  refine .R func21 results21 rfl ?_
  cases H
  exact .m rfl (.tupD rfl)
theorem c_g_batch_numbers {v0b:List UInt8} {o1c0p:Head} {r:Int×Head} (H:g_batch_numbers v0b o1c0p=some r):ACallS prog 42 [.d (slOf 1 rB8 v0b),.osl 0 0 4 4] ⟨[.row 79 [.ref 1 0,.ref 1 1,.ref 1 2,.ref 1 3],.row 25 [.d (cI o1c0p.source),.d (cI o1c0p.number),.d (cI o1c0p.format),.d (cI o1c0p.count)]],[]⟩ (QE (.d (cI r.1)) ⟨[.row 79 [.ref 1 0,.ref 1 1,.ref 1 2,.ref 1 3],.row 25 [.d (cI r.2.source),.d (cI r.2.number),.d (cI r.2.format),.d (cI r.2.count)]],[]⟩):=by
 obtain ⟨i79,hi79,hz79,hs79,hb79⟩:=in_79
 refine ACallS.keep ?_
 refine ACallS.enter func42 rfl ntmps42 rfl fun S hS=>?_
 unfold g_batch_numbers at H
 refine .A 11 [.i 4] rfl (OpQ.g (q_lenOsl underlying111 rfl)) ?_
 refine .blockJoin2 (ι:=List UInt8×Int×Int×Int×Int) (fun ⟨v0bj1,o1c0j1,o1c1j1,o1c2j1,o1c3j1⟩=>[(0,.d (slOf 1 rB8 v0bj1))]) (fun ⟨v0bj1,o1c0j1,o1c1j1,o1c2j1,o1c3j1⟩=>⟨[.row 79 [.ref 1 0,.ref 1 1,.ref 1 2,.ref 1 3],.row 25 [.d (cI o1c0j1),.d (cI o1c1j1),.d (cI o1c2j1),.d (cI o1c3j1)]],[]⟩) (fun s=>g_batch_numbers_j1 s.1 s.2.1 s.2.2.1 s.2.2.2.1 s.2.2.2.2=some r) ?_ ?_
 ·rintro ⟨v0bj1,o1c0j1,o1c1j1,o1c2j1,o1c3j1⟩ H
  replace H:g_batch_numbers_j1 v0bj1 o1c0j1 o1c1j1 o1c2j1 o1c3j1=some r:=H
  unfold g_batch_numbers_j1 at H
  refine .A 7 [.i (v0bj1.length:Int)] rfl (s22.n rfl rfl) ?_
  refine .ite H rfl (fun H=>?_) (fun H=>?_)
  ·refine .A 4 [] rfl trivial ?_
   refine .R func42 results42 rfl ?_
   cases H
   exact ⟨[0,1],[],rfl,rfl,rfl,rfl,rfl,rfl,rfl,rfl,.rfl' _⟩
  ·refine .A 5 [] rfl trivial ?_
   refine .R func42 results42 rfl ?_
   cases H
   exact ⟨[0,1],[],rfl,rfl,rfl,rfl,rfl,rfl,rfl,rfl,.rfl' _⟩
 ·intro hj1 hj1x
  refine .loop0 ?_
  refine .A 5 [] rfl trivial ?_
  refine .cond rfl (fun hc=>?_) (fun hc=>absurd hc (by decide))
  clear hc
  obtain ⟨y1,hy1,H⟩:=bind_some' H
  refine .A 27 [.g (.ref 0 0),.d (.tup [cI y1.1,slOf 1 rB8 y1.2.1,cI y1.2.2])] rfl ⟨g_call (en 40 rfl) rfl rfl (c_f_codec_Number (hy1)),OpQ.g (q_idxOsl (m:=0) underlying111 hi79 hs79 rfl rfl rfl (by decide))⟩ ?_
  refine .ite H rfl (fun H=>?_) (fun H=>?_)
  ·refine .A 5 [] rfl trivial ?_
   refine .R func42 results42 rfl ?_
   cases H
   exact ⟨[0,1],[],rfl,rfl,rfl,rfl,rfl,rfl,rfl,rfl,.rfl' _⟩
  ·refine .A 14 [.i 1] rfl (OpQ.g (q_addI (a:=0) (b:=1) rfl rfl (by decide) (by decide))) ?_
   refine .inLoop ?_
   refine .A 5 [] rfl trivial ?_
   refine .cond rfl (fun hc=>?_) (fun hc=>absurd hc (by decide))
   clear hc
   obtain ⟨y2,hy2,H⟩:=bind_some' H
   refine .A 27 [.g (.ref 0 1),.d (.tup [cI y2.1,slOf 1 rB8 y2.2.1,cI y2.2.2])] rfl ⟨g_call (en 40 rfl) rfl rfl (c_f_codec_Number (hy2)),OpQ.g (q_idxOsl (m:=1) underlying111 hi79 hs79 rfl rfl rfl (by decide))⟩ ?_
   refine .ite H rfl (fun H=>?_) (fun H=>?_)
   ·refine .A 5 [] rfl trivial ?_
    refine .R func42 results42 rfl ?_
    cases H
    exact ⟨[0,1],[],rfl,rfl,rfl,rfl,rfl,rfl,rfl,rfl,.rfl' _⟩
   ·refine .A 14 [.i 2] rfl (OpQ.g (q_addI (a:=1) (b:=1) rfl rfl (by decide) (by decide))) ?_
    refine .inLoop ?_
    refine .A 5 [] rfl trivial ?_
    refine .cond rfl (fun hc=>?_) (fun hc=>absurd hc (by decide))
    clear hc
    obtain ⟨y3,hy3,H⟩:=bind_some' H
    refine .A 27 [.g (.ref 0 2),.d (.tup [cI y3.1,slOf 1 rB8 y3.2.1,cI y3.2.2])] rfl ⟨g_call (en 40 rfl) rfl rfl (c_f_codec_Number (hy3)),OpQ.g (q_idxOsl (m:=2) underlying111 hi79 hs79 rfl rfl rfl (by decide))⟩ ?_
    refine .ite H rfl (fun H=>?_) (fun H=>?_)
    ·refine .A 5 [] rfl trivial ?_
     refine .R func42 results42 rfl ?_
     cases H
     exact ⟨[0,1],[],rfl,rfl,rfl,rfl,rfl,rfl,rfl,rfl,.rfl' _⟩
    ·refine .A 14 [.i 3] rfl (OpQ.g (q_addI (a:=2) (b:=1) rfl rfl (by decide) (by decide))) ?_
     refine .inLoop ?_
     refine .A 5 [] rfl trivial ?_
     refine .cond rfl (fun hc=>?_) (fun hc=>absurd hc (by decide))
     clear hc
     obtain ⟨y4,hy4,H⟩:=bind_some' H
     refine .A 27 [.g (.ref 0 3),.d (.tup [cI y4.1,slOf 1 rB8 y4.2.1,cI y4.2.2])] rfl ⟨g_call (en 40 rfl) rfl rfl (c_f_codec_Number (hy4)),OpQ.g (q_idxOsl (m:=3) underlying111 hi79 hs79 rfl rfl rfl (by decide))⟩ ?_
     refine .ite H rfl (fun H=>?_) (fun H=>?_)
     ·refine .A 5 [] rfl trivial ?_
      refine .R func42 results42 rfl ?_
      cases H
      exact ⟨[0,1],[],rfl,rfl,rfl,rfl,rfl,rfl,rfl,rfl,.rfl' _⟩
     ·refine .A 14 [.i 4] rfl (OpQ.g (q_addI (a:=3) (b:=1) rfl rfl (by decide) (by decide))) ?_
      refine .inLoop ?_
      refine .A 5 [] rfl trivial ?_
      refine .cond rfl (fun hc=>absurd hc (by decide)) (fun hc=>?_)
      clear hc
      refine .A 1 [] rfl trivial ?_
      exact .z (hj1x (y4.2.1,y1.1,y2.1,y3.1,y4.1) H) rfl rfl
theorem c_f_batch_first {v0data:List UInt8} {r:Head×(List UInt8)×Int} (H:f_batch_first v0data=some r):ACall prog 19 [slOf 1 rB8 v0data] (·=.tup [.agg (Head.row r.1),slOf 1 rB8 r.2.1,cI r.2.2]):=by
 obtain ⟨i25,hi25,hz25,hs25,hb25⟩:=in_25
 obtain ⟨i79,hi79,hz79,hs79,hb79⟩:=in_79
 refine ACall.enter' func19 rfl ntmps19 rfl fun S hS=>?_
 unfold f_batch_first at H
 obtain ⟨y1,hy1,H⟩:=bind_some' H
 refine .A 24 [.r 0,.d (.tup [slOf 1 rB8 y1.1,slOf 1 rB8 y1.2.1,cI y1.2.2])] rfl (g_call (en 43 rfl) rfl rfl (c_f_frame_Unwrap (hy1))) ?_
 refine .ite H rfl (fun H=>?_) (fun H=>?_)
 ·refine .A 8 [.d (.agg (Head.row (⟨0,0,0,0⟩:Head)))] rfl (OpQ.g (q_buildP pl_25 hi25 hz25 rfl rfl)) ?_
  refine .R func19 results19 rfl ?_
  cases H
  exact .m rfl (.tupL ⟨.rfl' _,.nil 1,.rfl' _,trivial⟩)
 ·obtain ⟨y2,hy2,H⟩:=bind_some' H
  refine .B 14 [.r 1,.v (.osl 2 0 4 4) ⟨[.row 25 [.d (cI 0),.d (cI 0),.d (cI 0),.d (cI 0)],.row 25 [.d (cI 0),.d (cI 0),.d (cI 0),.d (cI 0)],.row 79 [.ref 1 0,.ref 1 1,.ref 1 2,.ref 1 3]],[]⟩] rfl (.e (v_buildSliceR underlying111 hi79 hs79 hz79 rfl rfl rfl rfl) rfl) ?_
  refine .callF (en 44 rfl) rfl [2,1] [] (x:=.d (cI y2.1)) (st':=⟨[.row 25 [.d (cI 0),.d (cI 0),.d (cI 0),.d (cI 0)],.row 25 [.d (cI y2.2.source),.d (cI y2.2.number),.d (cI y2.2.format),.d (cI y2.2.count)],.row 79 [.ref 1 0,.ref 1 1,.ref 1 2,.ref 1 3]],[]⟩) rfl (c_g_batch_numbers (hy2)) ⟨.rfl' _,.rfl' _,trivial⟩ rfl rfl rfl rfl rfl rfl ?_
  refine .A 7 [] rfl trivial ?_
  refine .ite H rfl (fun H=>?_) (fun H=>?_)
  ·refine .A 8 [.d (.agg (Head.row (⟨0,0,0,0⟩:Head)))] rfl (OpQ.g (q_buildP pl_25 hi25 hz25 rfl rfl)) ?_
   refine .R func19 results19 rfl ?_
   cases H
   exact .m rfl (.tupL ⟨.rfl' _,.nil 1,.rfl' _,trivial⟩)
  ·obtain ⟨y3,hy3,H⟩:=bind_some' H
   refine .A 13 [.i y3] rfl (g_call (en 7 rfl) rfl rfl (c_f_batch_checkHead (hy3))) ?_
   refine .ite H rfl (fun H=>?_) (fun H=>?_)
   ·refine .A 8 [.d (.agg (Head.row (⟨0,0,0,0⟩:Head)))] rfl (OpQ.g (q_buildP pl_25 hi25 hz25 rfl rfl)) ?_
    refine .R func19 results19 rfl ?_
    cases H
    exact .m rfl (.tupL ⟨.rfl' _,.nil 1,.rfl' _,trivial⟩)
   ·refine .A 9 [] rfl trivial ?_
    refine .R func19 results19 rfl ?_
    cases H
    exact .m rfl (.tupD rfl)
set_option maxRecDepth 100000
set_option maxHeartbeats 1000000
theorem c_f_batch_Head {v0data:List UInt8} {r:Head×Int} (H:f_batch_Head v0data=some r):ACall prog 7 [slOf 1 rB8 v0data] (·=.tup [.agg (Head.row r.1),cI r.2]):=by
 refine ACall.enter' func7 rfl ntmps7 rfl fun S hS=>?_
 unfold f_batch_Head at H
 obtain ⟨y1,hy1,H⟩:=bind_some' H
 refine .A 25 [.r 0,.d (.tup [.agg (Head.row y1.1),slOf 1 rB8 y1.2.1,cI y1.2.2]),.r 1] rfl (g_call (en 45 rfl) rfl rfl (c_f_batch_first (hy1))) ?_
 refine .R func7 results7 rfl ?_
 cases H
 exact .m rfl (.tupD rfl)
theorem c_f_w12_awake {r:Bool} (H:f_w12_awake=some r):ACall prog 6 [] (·=cB r):=by
 obtain ⟨i3,hi3,hz3,hs3,hb3⟩:=in_3
 obtain ⟨i25,hi25,hz25,hs25,hb25⟩:=in_25
 obtain ⟨i31,hi31,hz31,hs31,hb31⟩:=in_31
 obtain ⟨i49,hi49,hz49,hs49,hb49⟩:=in_49
 refine ACall.enter' func6 rfl ntmps6 rfl fun S hS=>?_
 unfold f_w12_awake at H
 obtain ⟨y1,hy1,H⟩:=bind_some' H
 obtain ⟨y2,hy2,H⟩:=bind_some' H
 obtain ⟨y3,hy3,H⟩:=bind_some' H
 obtain ⟨y4,hy4,H⟩:=bind_some' H
 refine .A 84 [.d (.agg (Record.row (⟨6,1,1,([49]:List UInt8),([50]:List UInt8),0,90,0,0,false,0,false⟩:Record))),.r 0,.d (.agg (Record.row (⟨0,0,2,([]:List UInt8),([]:List UInt8),0,1,0,0,false,0,false⟩:Record))),.d (slOf 12 Record.row ([(⟨6,1,1,([49]:List UInt8),([50]:List UInt8),0,90,0,0,false,0,false⟩:Record),(⟨0,0,2,([]:List UInt8),([]:List UInt8),0,1,0,0,false,0,false⟩:Record)]:List Record)),.d (.agg (Totals.row y1)),.r 1,.d (.agg (Batch.row (⟨1,1,1,([]:List Record)⟩:Batch))),.d (.tup [slOf 1 rB8 y2.1,cI y2.2]),.d (.tup [.agg (Head.row y3.1),cI y3.2]),.r 2,.g (.ref 1 2),.g (.ref 1 3),.i (y2.1.length:Int),.d (.agg (Head.row (⟨1,1,1,0⟩:Head))),.b (eqVs (Head.vals y3.1) (Head.vals (⟨1,1,1,0⟩:Head))),.d (slOf 12 Record.row ([(⟨6,1,1,([49]:List UInt8),([50]:List UInt8),0,90,0,0,false,0,false⟩:Record)]:List Record)),.d (.agg (Batch.row (⟨5,1,1,([(⟨6,1,1,([49]:List UInt8),([50]:List UInt8),0,90,0,0,false,0,false⟩:Record)]:List Record)⟩:Batch))),.i y4] rfl ⟨rfl,rfl,fun hg=>g_call (en 32 rfl) rfl rfl (c_f_batch_Check (gcall_some hy4 hg)),rfl,fun hg=>OpQ.g (q_buildP pl_31 hi31 hz31 rfl rfl),rfl,fun hg=>g_buildSlice1 underlying29 hi49 hs49 hz49 rfl rfl rfl rfl rfl,rfl,rfl,fun hg=>OpQ.g (q_steql fk_25 rfl rfl (xs:=Head.vals y3.1) (ys:=Head.vals (⟨1,1,1,0⟩:Head)) rfl rfl rfl rfl),rfl,rfl,fun hg=>OpQ.g (q_buildP pl_25 hi25 hz25 rfl rfl),rfl,rfl,rfl,rfl,fun hg=>s22.n rfl rfl,rfl,rfl,rfl,rfl,rfl,rfl,fun hg=>OpQ.g (q_idxArr (m:=2) (sz:=1) underlying50 ⟨_,hi3,hs3⟩ rfl rfl rfl (by decide)),rfl,rfl,rfl,rfl,fun hg=>OpQ.g (q_idxArr (m:=1) (sz:=1) underlying50 ⟨_,hi3,hs3⟩ rfl rfl rfl (by decide)),rfl,g_call (en 46 rfl) rfl rfl (c_f_batch_Head (hy3)),g_call (en 47 rfl) rfl rfl (c_f_batch_Write (hy2)),OpQ.g (OpQ.le (q_buildP pl_31 hi31 hz31 rfl rfl) (EVle.d (.agg ⟨.rfl' _,.rfl' _,.rfl' _,.nil 12,trivial⟩))),g_call (en 33 rfl) rfl rfl (c_f_batch_Totals (hy1)),g_buildSliceN (n:=2) (rows:=([(⟨6,1,1,([49]:List UInt8),([50]:List UInt8),0,90,0,0,false,0,false⟩:Record),(⟨0,0,2,([]:List UInt8),([]:List UInt8),0,1,0,0,false,0,false⟩:Record)]:List Record).map Record.row) underlying29 hi49 hs49 hz49 rfl rfl rfl rfl rfl,OpQ.g (q_buildP pl_49 hi49 hz49 rfl rfl),OpQ.g (q_buildP pl_49 hi49 hz49 rfl rfl)⟩ ?_
 refine .R func6 results6 rfl ?_
 cases H
 exact .m rfl (.rfl' _)
set_option maxRecDepth 100000
set_option maxHeartbeats 1000000
theorem c_f_tagged_size {v0b:List UInt8} {r:Int×Int} (H:f_tagged_size v0b=some r):ACall prog 77 [slOf 1 rB8 v0b] (·=.tup [cI r.1,cI r.2]):=by
 refine ACall.enter' func77 rfl ntmps77 rfl fun S hS=>?_
 unfold f_tagged_size at H
 refine .A 12 [.i (v0b.length:Int)] rfl (s22.n rfl rfl) ?_
 refine .ite H rfl (fun H=>?_) (fun H=>?_)
 ·refine .A 5 [] rfl trivial ?_
  refine .R func77 results77 rfl ?_
  cases H
  exact .m rfl (.tupD rfl)
 ·obtain ⟨hk1,H⟩:=ck_some H
  obtain ⟨hk2,H⟩:=ck_some H
  obtain ⟨hk3,H⟩:=ck_some H
  obtain ⟨hk4,H⟩:=ck_some H
  obtain ⟨hk5,H⟩:=ck_some H
  refine .A 25 [.p 12,.d (.ro (rB8 (nth v0b (Int.toNat (0))))),.i ((nth v0b (Int.toNat (0))).toNat:Int),.i (((nth v0b (Int.toNat (0))).toNat:Int)*2 ^ (Int.toNat (8))),.i (2+(((nth v0b (Int.toNat (0))).toNat:Int)*2 ^ (Int.toNat (8)))),.d (.ro (rB8 (nth v0b (Int.toNat (1))))),.i ((nth v0b (Int.toNat (1))).toNat:Int),.i ((2+(((nth v0b (Int.toNat (0))).toNat:Int)*2 ^ (Int.toNat (8))))+((nth v0b (Int.toNat (1))).toNat:Int)),.i (v0b.length:Int)] rfl ⟨s22.n rfl rfl,g_addI rfl rfl hk5,OpQ.g (q_conv8i (a:=nth v0b (Int.toNat (1))) underlying5 underlying3 rfl),s22.ix rfl rfl rfl hk4,g_addI rfl rfl hk3,OpQ.g (q_shlI rfl rfl hk2),OpQ.g (q_conv8i (a:=nth v0b (Int.toNat (0))) underlying5 underlying3 rfl),s22.ix rfl rfl rfl hk1,(show drawB _ _=true by kernel_rfl)⟩ ?_
  refine .ite H rfl (fun H=>?_) (fun H=>?_)
  ·refine .A 5 [] rfl trivial ?_
   refine .R func77 results77 rfl ?_
   cases H
   exact .m rfl (.tupD rfl)
  ·refine .A 7 [] rfl trivial ?_
   refine .R func77 results77 rfl ?_
   cases H
   exact .m rfl (.tupD rfl)
theorem c_f_tagged_Elements {v0b:List UInt8} {r:(List Element)×Int} (H:f_tagged_Elements v0b=some r):ACall prog 111 [slOf 1 rB8 v0b] (·=.tup [slOf 2 Element.row r.1,cI r.2]):=by
 obtain ⟨i5,hi5,hz5,hs5,hb5⟩:=in_5
 obtain ⟨i104,hi104,hz104,hs104,hb104⟩:=in_104
 refine ACall.enter' func111 rfl ntmps111 rfl fun S hS=>?_
 unfold f_tagged_Elements at H
 refine .A 15 [] rfl trivial ?_
 refine .tok (i:=4) (e:=104) (sz:=2) rfl ?_
 obtain ⟨n1,H⟩:=loop_some H
 refine .loop (ι:=Nat×(List UInt8×List Element×Int)) (fun ⟨_,v0bl1,v4outl1,v5lastl1⟩=>[(0,.d (slOf 1 rB8 v0bl1)),(4,.tsl 2 (v4outl1.map Element.row) 0),(5,.d (cI v5lastl1))]) (fun ⟨_,v0bl1,v4outl1,v5lastl1⟩=>⟨[],[⟨104,2,v4outl1.length,none⟩]⟩) (fun p=>iter (fun s=>f_tagged_Elements_l1 s.1 s.2.1 s.2.2) p.1 p.2=some r) (·.1) (n1,(v0b,([]:List Element),0)) H (.cons rfl (.rfl' _) (.cons rfl (.rfl' _) (.cons rfl (.rfl' _) (.nil)))) rfl ?_
 rintro ⟨m1,v0bl1,v4outl1,v5lastl1⟩ HI ih1
 obtain ⟨n1,q1,hm1,H,HK1⟩:=iter_succ HI
 clear HI
 replace H:f_tagged_Elements_l1 v0bl1 v4outl1 v5lastl1=some q1:=H
 unfold f_tagged_Elements_l1 at H
 refine .A 7 [.i (v0bl1.length:Int)] rfl (s22.n rfl rfl) ?_
 refine .ite H rfl (fun H=>?_) (fun H=>?_)
 ·obtain ⟨hk1,H⟩:=ck_some H
  refine .A 18 [.d (.ro (rB8 (nth v0bl1 (Int.toNat (0))))),.i ((nth v0bl1 (Int.toNat (0))).toNat:Int)] rfl ⟨OpQ.g (q_conv8i (a:=nth v0bl1 (Int.toNat (0))) underlying5 underlying3 rfl),s22.ix rfl rfl rfl hk1⟩ ?_
  refine .ite H rfl (fun H=>?_) (fun H=>?_)
  ·refine .A 5 [] rfl trivial ?_
   refine .R func111 results111 rfl ?_
   cases H
   cases HK1
   exact .m rfl (.tupL ⟨.nil 2,.rfl' _,trivial⟩)
  ·refine .A 7 [] rfl trivial ?_
   refine .ite H rfl (fun H=>?_) (fun H=>?_)
   ·refine .A 5 [] rfl trivial ?_
    refine .R func111 results111 rfl ?_
    cases H
    cases HK1
    exact .m rfl (.tupL ⟨.nil 2,.rfl' _,trivial⟩)
   ·obtain ⟨hk2,H⟩:=ck_some H
    obtain ⟨hk3,H⟩:=ck_some H
    refine .A 17 [.i (v0bl1.length:Int),.i (v0bl1.length:Int),.i ((v0bl1.length:Int) - 2),.d (.ro (rB8 (nth v0bl1 (Int.toNat (1))))),.i ((nth v0bl1 (Int.toNat (1))).toNat:Int)] rfl ⟨rfl,rfl,rfl,fun hg=>OpQ.g (q_conv8i (a:=nth v0bl1 (Int.toNat (1))) underlying5 underlying3 rfl),rfl,rfl,fun hg=>s22.ix rfl rfl rfl (hk3 hg),rfl,fun hg=>g_subI rfl rfl (hk2 hg),rfl,fun hg=>s22.n rfl rfl,rfl,s22.n rfl rfl⟩ ?_
    refine .ite H rfl (fun H=>?_) (fun H=>?_)
    ·refine .A 5 [] rfl trivial ?_
     refine .R func111 results111 rfl ?_
     cases H
     cases HK1
     exact .m rfl (.tupL ⟨.nil 2,.rfl' _,trivial⟩)
    ·obtain ⟨hk4,H⟩:=ck_some H
     obtain ⟨hk5,H⟩:=ck_some H
     obtain ⟨hk6,H⟩:=ck_some H
     obtain ⟨hk7,H⟩:=ck_some H
     obtain ⟨hk8,H⟩:=ck_some H
     obtain ⟨hk9,H⟩:=ck_some H
     refine .A 34 [.d (.ro (rB8 (nth v0bl1 (Int.toNat (1))))),.i ((nth v0bl1 (Int.toNat (1))).toNat:Int),.i (2+((nth v0bl1 (Int.toNat (1))).toNat:Int)),.d (.e0 1),.d (slOf 1 rB8 ((v0bl1.take (Int.toNat (2+((nth v0bl1 (Int.toNat (1))).toNat:Int)))).drop ((2:Int)).toNat)),.d (slOf 1 rB8 ((v0bl1.take (Int.toNat (2+((nth v0bl1 (Int.toNat (1))).toNat:Int)))).drop ((2:Int)).toNat)),.d (.agg (Element.row (⟨((nth v0bl1 (Int.toNat (0))).toNat:Int),(v0bl1.take (Int.toNat (2+((nth v0bl1 (Int.toNat (1))).toNat:Int)))).drop ((2:Int)).toNat⟩:Element))),.d (slOf 2 Element.row ([(⟨((nth v0bl1 (Int.toNat (0))).toNat:Int),(v0bl1.take (Int.toNat (2+((nth v0bl1 (Int.toNat (1))).toNat:Int)))).drop ((2:Int)).toNat⟩:Element)]:List Element)),.a 0 104 2 Element.row (v4outl1++([(⟨((nth v0bl1 (Int.toNat (0))).toNat:Int),(v0bl1.take (Int.toNat (2+((nth v0bl1 (Int.toNat (1))).toNat:Int)))).drop ((2:Int)).toNat⟩:Element)]:List Element)),.d (slOf 1 rB8 (v0bl1.drop (Int.toNat (2+((nth v0bl1 (Int.toNat (1))).toNat:Int)))))] rfl ⟨OpQ.g (q_slLL (l:=v0bl1) (row:=rB8) underlying22 hi5 hs5 rfl rfl rfl hk9),s102.a rfl rfl rfl rfl hk8,g_buildSlice1 underlying102 hi104 hs104 hz104 rfl rfl rfl rfl rfl,OpQ.g (q_buildP pl_104 hi104 hz104 rfl rfl),g_append0L (l':=(v0bl1.take (Int.toNat (2+((nth v0bl1 (Int.toNat (1))).toNat:Int)))).drop ((2:Int)).toNat) (row:=rB8) underlying22 hi5 hz5 hs5 rfl (by rw [hb5]; decide) rfl (.inl rfl) rfl rfl hk7,OpQ.g (q_slLHL (l:=v0bl1) (row:=rB8) underlying22 hi5 hs5 rfl rfl rfl rfl hk6),(hs5▸g_buildSlice0 underlying22 hi5),g_addI rfl rfl hk5,OpQ.g (q_conv8i (a:=nth v0bl1 (Int.toNat (1))) underlying5 underlying3 rfl),s22.ix rfl rfl rfl hk4⟩ ?_
     cases H
     exact .z (ih1 (n1,(v0bl1.drop (Int.toNat (2+((nth v0bl1 (Int.toNat (1))).toNat:Int))),v4outl1++([(⟨((nth v0bl1 (Int.toNat (0))).toNat:Int),(v0bl1.take (Int.toNat (2+((nth v0bl1 (Int.toNat (1))).toNat:Int)))).drop ((2:Int)).toNat⟩:Element)]:List Element),((nth v0bl1 (Int.toNat (0))).toNat:Int))) HK1 hm1) rfl rfl
 ·refine .A 7 [] rfl trivial ?_
  refine .R func111 results111 rfl ?_
  cases H
  cases HK1
  exact .m rfl (.tupL ⟨.tsl _ _ _,.rfl' _,trivial⟩)
theorem c_f_tagged_number {v0value:List UInt8} {r:Int×Bool} (H:f_tagged_number v0value=some r):ACall prog 133 [slOf 1 rB8 v0value] (·=.tup [cI r.1,cB r.2]):=by
 refine ACall.enter' func133 rfl ntmps133 rfl fun S hS=>?_
 unfold f_tagged_number at H
 obtain ⟨hk1,H⟩:=ck_some H
 refine .A 23 [.i (v0value.length:Int),.i (v0value.length:Int),.d (.ro (rB8 (nth v0value (Int.toNat (0))))),.b ((nth v0value (Int.toNat (0)))==0)] rfl ⟨rfl,fun hg=>OpQ.g (q8_eql (a:=nth v0value (Int.toNat (0))) (b:=0) rfl rfl),rfl,rfl,fun hg=>s22.ix rfl rfl rfl (hk1 hg),rfl,rfl,rfl,fun hg=>s22.n rfl rfl,rfl,s22.n rfl rfl⟩ ?_
 refine .ite H rfl (fun H=>?_) (fun H=>?_)
 ·refine .A 5 [] rfl trivial ?_
  refine .R func133 results133 rfl ?_
  cases H
  exact .m rfl (.tupD rfl)
 ·refine .A 13 [.i (v0value.length:Int)] rfl (s22.n rfl rfl) ?_
  obtain ⟨n1,H⟩:=loop_some H
  refine .loop (ι:=Nat×(Int×Int)) (fun ⟨_,v4nl1,v23l1⟩=>[(4,.d (cI v4nl1)),(21,.d (slOf 1 rB8 v0value)),(22,.d (cI (v0value.length:Int))),(23,.d (cI v23l1))]) (fun ⟨_,v4nl1,v23l1⟩=>⟨[],[]⟩) (fun p=>iter (fun s=>f_tagged_number_l1 v0value s.1 s.2) p.1 p.2=some r) (·.1) (n1,(0,0)) H (.cons rfl (.rfl' _) (.cons rfl (.rfl' _) (.cons rfl (.rfl' _) (.cons rfl (.rfl' _) (.nil))))) rfl ?_
  rintro ⟨m1,v4nl1,v23l1⟩ HI ih1
  obtain ⟨n1,q1,hm1,H,HK1⟩:=iter_succ HI
  clear HI
  replace H:f_tagged_number_l1 v0value v4nl1 v23l1=some q1:=H
  unfold f_tagged_number_l1 at H
  refine .A 5 [] rfl trivial ?_
  refine .ite H rfl (fun H=>?_) (fun H=>?_)
  ·obtain ⟨hk2,H⟩:=ck_some H
   obtain ⟨hk3,H⟩:=ck_some H
   obtain ⟨hk4,H⟩:=ck_some H
   obtain ⟨hk5,H⟩:=ck_some H
   refine .A 22 [.d (.ro (rB8 (nth v0value v23l1.toNat))),.i (v4nl1*2 ^ (Int.toNat (8))),.i ((nth v0value v23l1.toNat).toNat:Int),.i ((v4nl1*2 ^ (Int.toNat (8)))+((nth v0value v23l1.toNat).toNat:Int)),.i (v23l1+1)] rfl ⟨g_addI rfl rfl hk5,g_addI rfl rfl hk4,OpQ.g (q_conv8i (a:=nth v0value v23l1.toNat) underlying5 underlying3 rfl),OpQ.g (q_shlI rfl rfl hk3),s22.ix rfl rfl rfl hk2⟩ ?_
   cases H
   exact .z (ih1 (n1,((v4nl1*2 ^ (Int.toNat (8)))+((nth v0value v23l1.toNat).toNat:Int),v23l1+1)) HK1 hm1) rfl rfl
  ·refine .A 7 [] rfl trivial ?_
   refine .R func133 results133 rfl ?_
   cases H
   cases HK1
   exact .m rfl (.tupD rfl)
theorem c_f_digits_Unpack {v0b:List UInt8} {r:(List UInt8)×Int} (H:f_digits_Unpack v0b=some r):ACall prog 134 [slOf 1 rB8 v0b] (·=.tup [cS r.1,cI r.2]):=by
 obtain ⟨i5,hi5,hz5,hs5,hb5⟩:=in_5
 refine ACall.enter' func134 rfl ntmps134 rfl fun S hS=>?_
 unfold f_digits_Unpack at H
 refine .A 16 [.i (v0b.length:Int)] rfl (s22.n rfl rfl) ?_
 refine .tok (i:=4) (e:=5) (sz:=1) rfl ?_
 refine .blockJoin2 (ι:=List UInt8) (fun v4sj1=>[(4,.tsl 1 (v4sj1.map rB8) 0)]) (fun v4sj1=>⟨[],[⟨5,1,v4sj1.length,none⟩]⟩) (fun s=>f_digits_Unpack_j1 s=some r) ?_ ?_
 ·rintro v4sj1 H
  replace H:f_digits_Unpack_j1 v4sj1=some r:=H
  unfold f_digits_Unpack_j1 at H
  obtain ⟨y1,hy1,H⟩:=bind_some' H
  refine .A 8 [.s v4sj1,.b y1] rfl ⟨g_call (en 3 rfl) rfl rfl (c_f_digits_Valid (hy1)),OpQ.g (q_bytesStrL (a:=v4sj1) underlying22 underlying5 underlying9 rfl rfl)⟩ ?_
  refine .ite H rfl (fun H=>?_) (fun H=>?_)
  ·refine .A 5 [] rfl trivial ?_
   refine .R func134 results134 rfl ?_
   cases H
   exact .m rfl (.tupD rfl)
  ·refine .A 8 [.s v4sj1] rfl (OpQ.g (q_bytesStrL (a:=v4sj1) underlying22 underlying5 underlying9 rfl rfl)) ?_
   refine .R func134 results134 rfl ?_
   cases H
   exact .m rfl (.tupD rfl)
 ·intro hj1 hj1x
  obtain ⟨n1,H⟩:=loop_some H
  refine .loop (ι:=Nat×(List UInt8×Int)) (fun ⟨_,v4sl1,v9l1⟩=>[(0,.d (slOf 1 rB8 v0b)),(4,.tsl 1 (v4sl1.map rB8) 0),(7,.d (slOf 1 rB8 v0b)),(8,.d (cI (v0b.length:Int))),(9,.d (cI v9l1))]) (fun ⟨_,v4sl1,v9l1⟩=>⟨[],[⟨5,1,v4sl1.length,none⟩]⟩) (fun p=>iter (fun s=>f_digits_Unpack_l1 v0b s.1 s.2) p.1 p.2=some r) (·.1) (n1,(([]:List UInt8),0)) H (.cons rfl (.rfl' _) (.cons rfl (.rfl' _) (.cons rfl (.rfl' _) (.cons rfl (.rfl' _) (.cons rfl (.rfl' _) (.nil)))))) rfl ?_
  rintro ⟨m1,v4sl1,v9l1⟩ HI ih1
  obtain ⟨n1,q1,hm1,H,HK1⟩:=iter_succ HI
  clear HI
  replace H:f_digits_Unpack_l1 v0b v4sl1 v9l1=some q1:=H
  unfold f_digits_Unpack_l1 at H
  refine .A 5 [] rfl trivial ?_
  refine .ite H rfl (fun H=>?_) (fun H=>?_)
  ·obtain ⟨hk1,H⟩:=ck_some H
   obtain ⟨hk2,H⟩:=ck_some H
   obtain ⟨hk3,H⟩:=ck_some H
   obtain ⟨hk4,H⟩:=ck_some H
   refine .A 34 [.d (.ro (rB8 (nth v0b v9l1.toNat))),.c (u8shr (nth v0b v9l1.toNat) 4),.c (48+(u8shr (nth v0b v9l1.toNat) 4)),.d (slOf 1 rB8 ([48+(u8shr (nth v0b v9l1.toNat) 4)]:List UInt8)),.a 0 5 1 rB8 (v4sl1++([48+(u8shr (nth v0b v9l1.toNat) 4)]:List UInt8)),.c ((nth v0b v9l1.toNat) &&& 15),.b (((nth v0b v9l1.toNat) &&& 15) != 15),.i (v0b.length:Int),.i ((v0b.length:Int) - 1)] rfl ⟨rfl,rfl,rfl,fun hg=>g_subI rfl rfl (hk4 hg),rfl,fun hg=>s22.n rfl rfl,rfl,OpQ.g (q8_neq (a:=(nth v0b v9l1.toNat) &&& 15) (b:=15) rfl rfl),OpQ.g (q8_and (a:=nth v0b v9l1.toNat) (b:=15) rfl rfl),s22.a rfl rfl rfl rfl hk3,g_buildSlice1 underlying22 hi5 hs5 hz5 rfl rfl rfl rfl rfl,OpQ.g (q8_add (a:=48) (b:=u8shr (nth v0b v9l1.toNat) 4) rfl rfl),OpQ.g (q8_shr (a:=nth v0b v9l1.toNat) (n:=4) rfl rfl hk2),s22.ix rfl rfl rfl hk1⟩ ?_
   refine .ite H rfl (fun H=>?_) (fun H=>?_)
   ·obtain ⟨hk5,H⟩:=ck_some H
    obtain ⟨hk6,H⟩:=ck_some H
    refine .A 14 [.c ((nth v0b v9l1.toNat) &&& 15),.c (48+((nth v0b v9l1.toNat) &&& 15)),.d (slOf 1 rB8 ([48+((nth v0b v9l1.toNat) &&& 15)]:List UInt8)),.a 0 5 1 rB8 ((v4sl1++([48+(u8shr (nth v0b v9l1.toNat) 4)]:List UInt8))++([48+((nth v0b v9l1.toNat) &&& 15)]:List UInt8)),.i (v9l1+1)] rfl ⟨g_addI rfl rfl hk6,s22.a rfl rfl rfl rfl hk5,g_buildSlice1 underlying22 hi5 hs5 hz5 rfl rfl rfl rfl rfl,OpQ.g (q8_add (a:=48) (b:=(nth v0b v9l1.toNat) &&& 15) rfl rfl),OpQ.g (q8_and (a:=nth v0b v9l1.toNat) (b:=15) rfl rfl)⟩ ?_
    cases H
    exact .z (ih1 (n1,((v4sl1++([48+(u8shr (nth v0b v9l1.toNat) 4)]:List UInt8))++([48+((nth v0b v9l1.toNat) &&& 15)]:List UInt8),v9l1+1)) HK1 hm1) rfl rfl
   ·obtain ⟨hk7,H⟩:=ck_some H
    refine .A 6 [.i (v9l1+1)] rfl (g_addI rfl rfl hk7) ?_
    cases H
    exact .z (ih1 (n1,(v4sl1++([48+(u8shr (nth v0b v9l1.toNat) 4)]:List UInt8),v9l1+1)) HK1 hm1) rfl rfl
  ·refine .A 1 [] rfl trivial ?_
   obtain ⟨q0,H9,hq0⟩:=map_some' H; clear H; cases hq0
   cases HK1
   have H:=H9
   exact .z (hj1x v4sl1 H) rfl rfl
theorem c_g_tagged_field {v1:Element} {o0c0p:Record} {r:Bool×Record} (H:g_tagged_field v1 o0c0p=some r):ACallS prog 112 [.ref 0 0,.d (.agg (Element.row v1))] ⟨[.row 49 [.d (cI o0c0p.source),.d (cI o0c0p.serial),.d (cI o0c0p.kind),.d (cS o0c0p.a),.d (cS o0c0p.b),.d (cI o0c0p.start),.d (cI o0c0p.units),.d (cI o0c0p.call),.d (cI o0c0p.part),.d (cB o0c0p.last),.d (cI o0c0p.trunk),.d (cB o0c0p.inbound)]],[]⟩ (QE (.d (cB r.1)) ⟨[.row 49 [.d (cI r.2.source),.d (cI r.2.serial),.d (cI r.2.kind),.d (cS r.2.a),.d (cS r.2.b),.d (cI r.2.start),.d (cI r.2.units),.d (cI r.2.call),.d (cI r.2.part),.d (cB r.2.last),.d (cI r.2.trunk),.d (cB r.2.inbound)]],[]⟩):=by
 obtain ⟨i5,hi5,hz5,hs5,hb5⟩:=in_5
 obtain ⟨i79,hi79,hz79,hs79,hb79⟩:=in_79
 refine ACallS.keep ?_
 refine ACallS.enter func112 rfl ntmps112 rfl fun S hS=>?_
 unfold g_tagged_field at H
 refine .A 6 [.r 1] rfl trivial ?_
 refine .drawnM 35 0 (intKF underlying3) ([(4,1,.ref 0 2),(8,2,.ref 0 0),(12,3,.ref 0 1),(16,6,.ref 0 5),(20,7,.ref 0 6),(24,8,.ref 0 7),(28,9,.ref 0 8),(32,10,.ref 0 10)]:List (Nat×Int×EV)) hMix (by kernel_rfl) underlying163 (by decide) rfl (by decide) (by decide) ?_
 show MOps _ _ _ _ _ _ _ _ _ _ _ _ (_ :: _) _ _ _
 refine .make rfl rfl ?_
 refine .q (x:=.ref 0 0) (fun s hs=>q_move rfl) rfl rfl ?_
 refine .q (x:=.ref 0 0) (fun s hs=>q_nilRef rfl) rfl rfl ?_
 refine .q (x:=.ref 0 2) (fun s hs=>q_fieldRef fo_49_2 rfl) rfl rfl ?_
 refine .insE 0 rfl rfl rfl (fun _ _ _ h=>exKey h) rfl (by kernel_rfl) ?_
 refine .q (x:=.ref 0 0) (fun s hs=>q_move rfl) rfl rfl ?_
 refine .q (x:=.ref 0 0) (fun s hs=>q_nilRef rfl) rfl rfl ?_
 refine .q (x:=.ref 0 0) (fun s hs=>q_fieldRef fo_49_0 rfl) rfl rfl ?_
 refine .insE 1 rfl rfl rfl (fun _ _ _ h=>exKey h) rfl (by kernel_rfl) ?_
 refine .q (x:=.ref 0 0) (fun s hs=>q_move rfl) rfl rfl ?_
 refine .q (x:=.ref 0 0) (fun s hs=>q_nilRef rfl) rfl rfl ?_
 refine .q (x:=.ref 0 1) (fun s hs=>q_fieldRef fo_49_1 rfl) rfl rfl ?_
 refine .insE 2 rfl rfl rfl (fun _ _ _ h=>exKey h) rfl (by kernel_rfl) ?_
 refine .q (x:=.ref 0 0) (fun s hs=>q_move rfl) rfl rfl ?_
 refine .q (x:=.ref 0 0) (fun s hs=>q_nilRef rfl) rfl rfl ?_
 refine .q (x:=.ref 0 5) (fun s hs=>q_fieldRef fo_49_5 rfl) rfl rfl ?_
 refine .insE 3 rfl rfl rfl (fun _ _ _ h=>exKey h) rfl (by kernel_rfl) ?_
 refine .q (x:=.ref 0 0) (fun s hs=>q_move rfl) rfl rfl ?_
 refine .q (x:=.ref 0 0) (fun s hs=>q_nilRef rfl) rfl rfl ?_
 refine .q (x:=.ref 0 6) (fun s hs=>q_fieldRef fo_49_6 rfl) rfl rfl ?_
 refine .insE 4 rfl rfl rfl (fun _ _ _ h=>exKey h) rfl (by kernel_rfl) ?_
 refine .q (x:=.ref 0 0) (fun s hs=>q_move rfl) rfl rfl ?_
 refine .q (x:=.ref 0 0) (fun s hs=>q_nilRef rfl) rfl rfl ?_
 refine .q (x:=.ref 0 7) (fun s hs=>q_fieldRef fo_49_7 rfl) rfl rfl ?_
 refine .insE 5 rfl rfl rfl (fun _ _ _ h=>exKey h) rfl (by kernel_rfl) ?_
 refine .q (x:=.ref 0 0) (fun s hs=>q_move rfl) rfl rfl ?_
 refine .q (x:=.ref 0 0) (fun s hs=>q_nilRef rfl) rfl rfl ?_
 refine .q (x:=.ref 0 8) (fun s hs=>q_fieldRef fo_49_8 rfl) rfl rfl ?_
 refine .insE 6 rfl rfl rfl (fun _ _ _ h=>exKey h) rfl (by kernel_rfl) ?_
 refine .q (x:=.ref 0 0) (fun s hs=>q_move rfl) rfl rfl ?_
 refine .q (x:=.ref 0 0) (fun s hs=>q_nilRef rfl) rfl rfl ?_
 refine .q (x:=.ref 0 10) (fun s hs=>q_fieldRef fo_49_10 rfl) rfl rfl ?_
 refine .insE 7 rfl rfl rfl (fun _ _ _ h=>exKey h) rfl (by kernel_rfl) ?_
 refine .q (x:=.mp 2) (fun s hs=>q_move rfl) rfl rfl ?_
 refine .q (x:=.mp 2) (fun s hs=>q_assign rfl) rfl rfl ?_
 refine .nil fun es1 hes1=>?_
 show AOps _ _ _ _ _ _ [] _ _ _
 refine .nil ?_
 refine .A 2 [] rfl trivial ?_
 refine .split (decide (v1.tag=1)) (fun hsp1=>?_) (fun hsp1=>?_)
 ·replace H:=ifT hsp1 H
  refine .A 15 [.g (.tup [.ref 0 2,.d (cB true)])] rfl (OpQ.g (q_lookupSome (intKF underlying3) (l:=es1) (k:=1) (ev:=.ref 0 2) underlying163 hi79 hz79 rfl rfl hes1 (by decide) (List.mem_of_getElem? (i:=0) rfl) rfl (fun _ _ _ h=>(exKey h).trans (congrArg (Value.int .i64) (of_decide_eq_true hsp1))))) ?_
  refine .cond rfl (fun hc=>?_) (fun hc=>nomatch hc)
  clear hc
  obtain ⟨y1,hy1,H⟩:=bind_some' H
  refine .A 18 [.d (.tup [cI y1.1,cB y1.2])] rfl (g_call (en 55 rfl) rfl rfl (c_f_tagged_number (hy1))) ?_
  refine .R func112 results112 rfl ?_
  cases H
  exact ⟨[0],[],rfl,rfl,rfl,rfl,rfl,rfl,rfl,rfl,.rfl' _⟩
 ·replace H:=ifF hsp1 H
  refine .split (decide (v1.tag=2)) (fun hsp2=>?_) (fun hsp2=>?_)
  ·replace H:=ifT hsp2 H
   refine .A 15 [.g (.tup [.ref 0 0,.d (cB true)])] rfl (OpQ.g (q_lookupSome (intKF underlying3) (l:=es1) (k:=2) (ev:=.ref 0 0) underlying163 hi79 hz79 rfl rfl hes1 (by decide) (List.mem_of_getElem? (i:=1) rfl) rfl (fun _ _ _ h=>(exKey h).trans (congrArg (Value.int .i64) (of_decide_eq_true hsp2))))) ?_
   refine .cond rfl (fun hc=>?_) (fun hc=>nomatch hc)
   clear hc
   obtain ⟨y2,hy2,H⟩:=bind_some' H
   refine .A 18 [.d (.tup [cI y2.1,cB y2.2])] rfl (g_call (en 55 rfl) rfl rfl (c_f_tagged_number (hy2))) ?_
   refine .R func112 results112 rfl ?_
   cases H
   exact ⟨[0],[],rfl,rfl,rfl,rfl,rfl,rfl,rfl,rfl,.rfl' _⟩
  ·replace H:=ifF hsp2 H
   refine .split (decide (v1.tag=3)) (fun hsp3=>?_) (fun hsp3=>?_)
   ·replace H:=ifT hsp3 H
    refine .A 15 [.g (.tup [.ref 0 1,.d (cB true)])] rfl (OpQ.g (q_lookupSome (intKF underlying3) (l:=es1) (k:=3) (ev:=.ref 0 1) underlying163 hi79 hz79 rfl rfl hes1 (by decide) (List.mem_of_getElem? (i:=2) rfl) rfl (fun _ _ _ h=>(exKey h).trans (congrArg (Value.int .i64) (of_decide_eq_true hsp3))))) ?_
    refine .cond rfl (fun hc=>?_) (fun hc=>nomatch hc)
    clear hc
    obtain ⟨y3,hy3,H⟩:=bind_some' H
    refine .A 18 [.d (.tup [cI y3.1,cB y3.2])] rfl (g_call (en 55 rfl) rfl rfl (c_f_tagged_number (hy3))) ?_
    refine .R func112 results112 rfl ?_
    cases H
    exact ⟨[0],[],rfl,rfl,rfl,rfl,rfl,rfl,rfl,rfl,.rfl' _⟩
   ·replace H:=ifF hsp3 H
    refine .split (decide (v1.tag=6)) (fun hsp4=>?_) (fun hsp4=>?_)
    ·replace H:=ifT hsp4 H
     refine .A 15 [.g (.tup [.ref 0 5,.d (cB true)])] rfl (OpQ.g (q_lookupSome (intKF underlying3) (l:=es1) (k:=6) (ev:=.ref 0 5) underlying163 hi79 hz79 rfl rfl hes1 (by decide) (List.mem_of_getElem? (i:=3) rfl) rfl (fun _ _ _ h=>(exKey h).trans (congrArg (Value.int .i64) (of_decide_eq_true hsp4))))) ?_
     refine .cond rfl (fun hc=>?_) (fun hc=>nomatch hc)
     clear hc
     obtain ⟨y4,hy4,H⟩:=bind_some' H
     refine .A 18 [.d (.tup [cI y4.1,cB y4.2])] rfl (g_call (en 55 rfl) rfl rfl (c_f_tagged_number (hy4))) ?_
     refine .R func112 results112 rfl ?_
     cases H
     exact ⟨[0],[],rfl,rfl,rfl,rfl,rfl,rfl,rfl,rfl,.rfl' _⟩
    ·replace H:=ifF hsp4 H
     refine .split (decide (v1.tag=7)) (fun hsp5=>?_) (fun hsp5=>?_)
     ·replace H:=ifT hsp5 H
      refine .A 15 [.g (.tup [.ref 0 6,.d (cB true)])] rfl (OpQ.g (q_lookupSome (intKF underlying3) (l:=es1) (k:=7) (ev:=.ref 0 6) underlying163 hi79 hz79 rfl rfl hes1 (by decide) (List.mem_of_getElem? (i:=4) rfl) rfl (fun _ _ _ h=>(exKey h).trans (congrArg (Value.int .i64) (of_decide_eq_true hsp5))))) ?_
      refine .cond rfl (fun hc=>?_) (fun hc=>nomatch hc)
      clear hc
      obtain ⟨y5,hy5,H⟩:=bind_some' H
      refine .A 18 [.d (.tup [cI y5.1,cB y5.2])] rfl (g_call (en 55 rfl) rfl rfl (c_f_tagged_number (hy5))) ?_
      refine .R func112 results112 rfl ?_
      cases H
      exact ⟨[0],[],rfl,rfl,rfl,rfl,rfl,rfl,rfl,rfl,.rfl' _⟩
     ·replace H:=ifF hsp5 H
      refine .split (decide (v1.tag=8)) (fun hsp6=>?_) (fun hsp6=>?_)
      ·replace H:=ifT hsp6 H
       refine .A 15 [.g (.tup [.ref 0 7,.d (cB true)])] rfl (OpQ.g (q_lookupSome (intKF underlying3) (l:=es1) (k:=8) (ev:=.ref 0 7) underlying163 hi79 hz79 rfl rfl hes1 (by decide) (List.mem_of_getElem? (i:=5) rfl) rfl (fun _ _ _ h=>(exKey h).trans (congrArg (Value.int .i64) (of_decide_eq_true hsp6))))) ?_
       refine .cond rfl (fun hc=>?_) (fun hc=>nomatch hc)
       clear hc
       obtain ⟨y6,hy6,H⟩:=bind_some' H
       refine .A 18 [.d (.tup [cI y6.1,cB y6.2])] rfl (g_call (en 55 rfl) rfl rfl (c_f_tagged_number (hy6))) ?_
       refine .R func112 results112 rfl ?_
       cases H
       exact ⟨[0],[],rfl,rfl,rfl,rfl,rfl,rfl,rfl,rfl,.rfl' _⟩
      ·replace H:=ifF hsp6 H
       refine .split (decide (v1.tag=9)) (fun hsp7=>?_) (fun hsp7=>?_)
       ·replace H:=ifT hsp7 H
        refine .A 15 [.g (.tup [.ref 0 8,.d (cB true)])] rfl (OpQ.g (q_lookupSome (intKF underlying3) (l:=es1) (k:=9) (ev:=.ref 0 8) underlying163 hi79 hz79 rfl rfl hes1 (by decide) (List.mem_of_getElem? (i:=6) rfl) rfl (fun _ _ _ h=>(exKey h).trans (congrArg (Value.int .i64) (of_decide_eq_true hsp7))))) ?_
        refine .cond rfl (fun hc=>?_) (fun hc=>nomatch hc)
        clear hc
        obtain ⟨y7,hy7,H⟩:=bind_some' H
        refine .A 18 [.d (.tup [cI y7.1,cB y7.2])] rfl (g_call (en 55 rfl) rfl rfl (c_f_tagged_number (hy7))) ?_
        refine .R func112 results112 rfl ?_
        cases H
        exact ⟨[0],[],rfl,rfl,rfl,rfl,rfl,rfl,rfl,rfl,.rfl' _⟩
       ·replace H:=ifF hsp7 H
        refine .split (decide (v1.tag=10)) (fun hsp8=>?_) (fun hsp8=>?_)
        ·replace H:=ifT hsp8 H
         refine .A 15 [.g (.tup [.ref 0 10,.d (cB true)])] rfl (OpQ.g (q_lookupSome (intKF underlying3) (l:=es1) (k:=10) (ev:=.ref 0 10) underlying163 hi79 hz79 rfl rfl hes1 (by decide) (List.mem_of_getElem? (i:=7) rfl) rfl (fun _ _ _ h=>(exKey h).trans (congrArg (Value.int .i64) (of_decide_eq_true hsp8))))) ?_
         refine .cond rfl (fun hc=>?_) (fun hc=>nomatch hc)
         clear hc
         obtain ⟨y8,hy8,H⟩:=bind_some' H
         refine .A 18 [.d (.tup [cI y8.1,cB y8.2])] rfl (g_call (en 55 rfl) rfl rfl (c_f_tagged_number (hy8))) ?_
         refine .R func112 results112 rfl ?_
         cases H
         exact ⟨[0],[],rfl,rfl,rfl,rfl,rfl,rfl,rfl,rfl,.rfl' _⟩
        ·replace H:=ifF hsp8 H
         refine .A 15 [.g (.tup [.d (.any),.d (cB false)])] rfl (OpQ.g (q_lookupNone (intKF underlying3) (l:=es1) (k:=v1.tag) underlying163 hi79 hz79 rfl rfl hes1 (by simp only [List.map_cons,List.map_nil,List.mem_cons,List.not_mem_nil,or_false,not_or]; exact ⟨of_decide_eq_false hsp1,of_decide_eq_false hsp2,of_decide_eq_false hsp3,of_decide_eq_false hsp4,of_decide_eq_false hsp5,of_decide_eq_false hsp6,of_decide_eq_false hsp7,of_decide_eq_false hsp8⟩) rfl (fun _ _ _ h=>exKey h))) ?_
         refine .cond rfl (fun hc=>nomatch hc) (fun hc=>?_)
         clear hc
         refine .A 8 [] rfl trivial ?_
         refine .seqJoin (ι:=Bool) (fun v55j1=>[(0,.ref 0 0),(3,.ref 1 0),(54,.d (cI v1.tag)),(55,.d (cB v55j1))]) (fun v55j1=>⟨[.row 49 [.d (cI o0c0p.source),.d (cI o0c0p.serial),.d (cI o0c0p.kind),.d (cS o0c0p.a),.d (cS o0c0p.b),.d (cI o0c0p.start),.d (cI o0c0p.units),.d (cI o0c0p.call),.d (cI o0c0p.part),.d (cB o0c0p.last),.d (cI o0c0p.trunk),.d (cB o0c0p.inbound)],.row 104 [.d (cI v1.tag),.d (slOf 1 rB8 v1.value)],.map (encE (fun n=>Value.int .i64 n) es1)],[]⟩) (fun s=>g_tagged_field_j1 v1 o0c0p s=some r) ?_ ?_
         ·rintro v55j1 H
          replace H:g_tagged_field_j1 v1 o0c0p v55j1=some r:=H
          unfold g_tagged_field_j1 at H
          refine .ite H rfl (fun H=>?_) (fun H=>?_)
          ·obtain ⟨y9,hy9,H⟩:=bind_some' H
           refine .A 18 [.d (.tup [cS y9.1,cI y9.2])] rfl (g_call (en 56 rfl) rfl rfl (c_f_digits_Unpack (hy9))) ?_
           refine .ite H rfl (fun H=>?_) (fun H=>?_)
           ·refine .A 13 [] rfl trivial ?_
            refine .R func112 results112 rfl ?_
            cases H
            exact ⟨[0],[],rfl,rfl,rfl,rfl,rfl,rfl,rfl,rfl,.rfl' _⟩
           ·refine .A 13 [] rfl trivial ?_
            refine .R func112 results112 rfl ?_
            cases H
            exact ⟨[0],[],rfl,rfl,rfl,rfl,rfl,rfl,rfl,rfl,.rfl' _⟩
          ·refine .A 5 [] rfl trivial ?_
           refine .ite H rfl (fun H=>?_) (fun H=>?_)
           ·obtain ⟨hk1,H⟩:=ck_some H
            obtain ⟨hk2,H⟩:=ck_some H
            refine .A 22 [.i (v1.value.length:Int),.d (.ro (rB8 (nth v1.value (Int.toNat (0))))),.b (decide ((nth v1.value (Int.toNat (0))) < 1)),.d (.ro (rB8 (nth v1.value (Int.toNat (0))))),.b (decide ((nth v1.value (Int.toNat (0))) > 3))] rfl ⟨rfl,fun hg=>OpQ.g (q8_gtr (a:=nth v1.value (Int.toNat (0))) (b:=3) rfl rfl),rfl,rfl,fun hg=>s22.ix rfl rfl rfl (hk2 hg),rfl,rfl,rfl,fun hg=>OpQ.g (q8_lss (a:=nth v1.value (Int.toNat (0))) (b:=1) rfl rfl),rfl,rfl,fun hg=>s22.ix rfl rfl rfl (hk1 hg),rfl,rfl,s22.n rfl rfl⟩ ?_
            refine .ite H rfl (fun H=>?_) (fun H=>?_)
            ·refine .A 4 [] rfl trivial ?_
             refine .R func112 results112 rfl ?_
             cases H
             exact ⟨[0],[],rfl,rfl,rfl,rfl,rfl,rfl,rfl,rfl,.rfl' _⟩
            ·refine .A 2 [] rfl trivial ?_
             obtain ⟨hk3,H⟩:=ck_some H
             obtain ⟨hk4,H⟩:=ck_some H
             refine .orders1 17 16 [⟨[.row 49 [.d (cI o0c0p.source),.d (cI o0c0p.serial),.d (cI o0c0p.kind),.d (cS o0c0p.a),.d (cS o0c0p.b),.d (cI o0c0p.start),.d (cI o0c0p.units),.d (cI o0c0p.call),.d (cI o0c0p.part),.d (cB o0c0p.last),.d (cI o0c0p.trunk),.d (cB o0c0p.inbound)],.row 104 [.d (cI v1.tag),.d (slOf 1 rB8 v1.value)],.map (encE (fun n=>Value.int .i64 n) es1)],[]⟩,⟨[.row 49 [.d (cI o0c0p.source),.d (cI o0c0p.serial),.d (cI o0c0p.kind),.d (cS o0c0p.a),.d (cS o0c0p.b),.d (cI o0c0p.start),.d (cI o0c0p.units),.d (cI o0c0p.call),.d (cI o0c0p.part),.d (cB (((nth v1.value (Int.toNat (0))) &&& 1) != 0)),.d (cI o0c0p.trunk),.d (cB o0c0p.inbound)],.row 104 [.d (cI v1.tag),.d (slOf 1 rB8 v1.value)],.map (encE (fun n=>Value.int .i64 n) es1)],[]⟩] hMix (by kernel_rfl) (by decide) rfl ?_
             show XOps _ _ _ _ _ _ _ _ _ _ (_ :: _) _ _
             refine .g (x:=.ref 0 0) 0 0 ⟨OpQ.g (q_move rfl),trivial⟩ rfl (by kernel_rfl) rfl ?_
             refine .g (x:=.ref 0 0) 0 1 ⟨OpQ.g (q_move rfl),OpQ.g (q_move rfl),trivial⟩ rfl (by kernel_rfl) rfl ?_
             refine .g (x:=.ref 1 1) 0 0 ⟨OpQ.g (q_fieldRef fo_104_1 rfl),trivial⟩ rfl (by kernel_rfl) rfl ?_
             refine .g (x:=.d (slOf 1 rB8 v1.value)) 0 0 ⟨OpQ.g (q_loadO one_22 rfl rfl rfl),trivial⟩ rfl (by kernel_rfl) rfl ?_
             refine .g (x:=.d (.ro (rB8 (nth v1.value (Int.toNat (0)))))) 0 0 ⟨OpQ.g (q_idxL (row:=rB8) (l:=v1.value) (i:=0) underlying22 hi5 hs5 rfl rfl rfl hk3),trivial⟩ rfl (by kernel_rfl) rfl ?_
             refine .g (x:=.d (cU8 (nth v1.value (Int.toNat (0))))) 0 0 ⟨OpQ.g (q_load one_5 rfl),trivial⟩ rfl (by kernel_rfl) rfl ?_
             refine .g (x:=.d (cU8 ((nth v1.value (Int.toNat (0))) &&& 1))) 0 0 ⟨OpQ.g (q8_and (a:=nth v1.value (Int.toNat (0))) (b:=1) rfl rfl),trivial⟩ rfl (by kernel_rfl) rfl ?_
             refine .g (x:=.d (cB (((nth v1.value (Int.toNat (0))) &&& 1) != 0))) 0 0 ⟨OpQ.g (q8_neq (a:=(nth v1.value (Int.toNat (0))) &&& 1) (b:=0) rfl rfl),trivial⟩ rfl (by kernel_rfl) rfl ?_
             refine .g (x:=.ref 1 1) 0 0 ⟨OpQ.g (q_fieldRef fo_104_1 rfl),trivial⟩ rfl (by kernel_rfl) rfl ?_
             refine .g (x:=.d (slOf 1 rB8 v1.value)) 0 0 ⟨OpQ.g (q_loadO one_22 rfl rfl rfl),trivial⟩ rfl (by kernel_rfl) rfl ?_
             refine .g (x:=.d (.ro (rB8 (nth v1.value (Int.toNat (0)))))) 0 0 ⟨OpQ.g (q_idxL (row:=rB8) (l:=v1.value) (i:=0) underlying22 hi5 hs5 rfl rfl rfl hk4),trivial⟩ rfl (by kernel_rfl) rfl ?_
             refine .g (x:=.d (cU8 (nth v1.value (Int.toNat (0))))) 0 0 ⟨OpQ.g (q_load one_5 rfl),trivial⟩ rfl (by kernel_rfl) rfl ?_
             refine .g (x:=.d (cU8 ((nth v1.value (Int.toNat (0))) &&& 2))) 0 1 ⟨OpQ.g (q8_and (a:=nth v1.value (Int.toNat (0))) (b:=2) rfl rfl),OpQ.g (q8_and (a:=nth v1.value (Int.toNat (0))) (b:=2) rfl rfl),trivial⟩ rfl (by kernel_rfl) rfl ?_
             refine .g (x:=.d (cB (((nth v1.value (Int.toNat (0))) &&& 2) != 0))) 0 1 ⟨OpQ.g (q8_neq (a:=(nth v1.value (Int.toNat (0))) &&& 2) (b:=0) rfl rfl),OpQ.g (q8_neq (a:=(nth v1.value (Int.toNat (0))) &&& 2) (b:=0) rfl rfl),trivial⟩ rfl (by kernel_rfl) rfl ?_
             refine .g (x:=.ref 0 0) 0 0 ⟨OpQ.g (q_nilRef rfl),trivial⟩ rfl (by kernel_rfl) rfl ?_
             refine .g (x:=.ref 0 9) 0 0 ⟨OpQ.g (q_fieldRef fo_49_9 rfl),trivial⟩ rfl (by kernel_rfl) rfl ?_
             refine .u 0 (u_store rfl rfl rfl rfl (Nat.le_of_ble_eq_true rfl) sz_4) rfl rfl rfl rfl ?_
             refine .nil rfl ?_
             show AOps _ _ _ _ _ _ (_ :: _) _ _ _
             refine .A 8 [] rfl trivial ?_
             refine .R func112 results112 rfl ?_
             cases H
             exact ⟨[0],[],rfl,rfl,rfl,rfl,rfl,rfl,rfl,rfl,.rfl' _⟩
           ·refine .A 6 [] rfl trivial ?_
            refine .R func112 results112 rfl ?_
            cases H
            exact ⟨[0],[],rfl,rfl,rfl,rfl,rfl,rfl,rfl,rfl,.rfl' _⟩
         ·intro hj1
          refine .A 5 [] rfl trivial ?_
          refine .ite H rfl (fun H=>?_) (fun H=>?_)
          ·refine .A 1 [] rfl trivial ?_
           exact .z (hj1 (v1.tag==4) H) rfl rfl
          ·refine .A 4 [] rfl trivial ?_
           exact .z (hj1 (v1.tag==5) H) rfl rfl
theorem c_f_tagged_Decode {v0b:List UInt8} {r:Record×Int} (H:f_tagged_Decode v0b=some r):ACall prog 78 [slOf 1 rB8 v0b] (·=.tup [.agg (Record.row r.1),cI r.2]):=by
 obtain ⟨i5,hi5,hz5,hs5,hb5⟩:=in_5
 obtain ⟨i49,hi49,hz49,hs49,hb49⟩:=in_49
 refine ACall.enter' func78 rfl ntmps78 rfl fun S hS=>?_
 unfold f_tagged_Decode at H
 obtain ⟨y1,hy1,H⟩:=bind_some' H
 refine .A 15 [.r 0,.d (.tup [cI y1.1,cI y1.2])] rfl (g_call (en 57 rfl) rfl rfl (c_f_tagged_size (hy1))) ?_
 refine .seqJoin (ι:=Int) (fun v5ej1=>[(0,.d (slOf 1 rB8 v0b)),(2,.ref 0 0),(5,.d (cI v5ej1))]) (fun v5ej1=>⟨[.row 49 [.d (cI 0),.d (cI 0),.d (cI 0),.d (cS ([]:List UInt8)),.d (cS ([]:List UInt8)),.d (cI 0),.d (cI 0),.d (cI 0),.d (cI 0),.d (cB false),.d (cI 0),.d (cB false)]],[]⟩) (fun s=>f_tagged_Decode_j1 v0b s=some r) ?_ ?_
 ·rintro v5ej1 H
  replace H:f_tagged_Decode_j1 v0b v5ej1=some r:=H
  unfold f_tagged_Decode_j1 at H
  refine .A 6 [] rfl trivial ?_
  refine .ite H rfl (fun H=>?_) (fun H=>?_)
  ·refine .A 7 [.d (.agg (Record.row (⟨0,0,0,([]:List UInt8),([]:List UInt8),0,0,0,0,false,0,false⟩:Record)))] rfl (OpQ.g (q_buildP pl_49 hi49 hz49 rfl rfl)) ?_
   refine .R func78 results78 rfl ?_
   cases H
   exact .m rfl (.tupD rfl)
  ·obtain ⟨hk1,H⟩:=ck_some H
   obtain ⟨y2,hy2,H⟩:=bind_some' H
   refine .A 18 [.d (slOf 1 rB8 (v0b.drop ((2:Int)).toNat)),.d (.tup [slOf 2 Element.row y2.1,cI y2.2])] rfl ⟨g_call (en 58 rfl) rfl rfl (c_f_tagged_Elements (hy2)),OpQ.g (q_slLL (l:=v0b) (row:=rB8) underlying22 hi5 hs5 rfl rfl rfl hk1)⟩ ?_
   refine .ite H rfl (fun H=>?_) (fun H=>?_)
   ·refine .A 7 [.d (.agg (Record.row (⟨0,0,0,([]:List UInt8),([]:List UInt8),0,0,0,0,false,0,false⟩:Record)))] rfl (OpQ.g (q_buildP pl_49 hi49 hz49 rfl rfl)) ?_
    refine .R func78 results78 rfl ?_
    cases H
    exact .m rfl (.tupD rfl)
   ·refine .A 12 [.r 1,.i (y2.1.length:Int)] rfl (s102.n rfl rfl) ?_
    refine .blockJoin2 (ι:=Int×Int×Int×List UInt8×List UInt8×Int×Int×Int×Int×Bool×Int×Bool) (fun ⟨o1c0j2,o1c1j2,o1c2j2,o1c3j2,o1c4j2,o1c5j2,o1c6j2,o1c7j2,o1c8j2,o1c9j2,o1c10j2,o1c11j2⟩=>[(2,.ref 0 0),(7,.ref 1 0)]) (fun ⟨o1c0j2,o1c1j2,o1c2j2,o1c3j2,o1c4j2,o1c5j2,o1c6j2,o1c7j2,o1c8j2,o1c9j2,o1c10j2,o1c11j2⟩=>⟨[.row 49 [.d (cI 0),.d (cI 0),.d (cI 0),.d (cS ([]:List UInt8)),.d (cS ([]:List UInt8)),.d (cI 0),.d (cI 0),.d (cI 0),.d (cI 0),.d (cB false),.d (cI 0),.d (cB false)],.row 49 [.d (cI o1c0j2),.d (cI o1c1j2),.d (cI o1c2j2),.d (cS o1c3j2),.d (cS o1c4j2),.d (cI o1c5j2),.d (cI o1c6j2),.d (cI o1c7j2),.d (cI o1c8j2),.d (cB o1c9j2),.d (cI o1c10j2),.d (cB o1c11j2)]],[]⟩) (fun s=>f_tagged_Decode_j2 s.1 s.2.1 s.2.2.1 s.2.2.2.1 s.2.2.2.2.1 s.2.2.2.2.2.1 s.2.2.2.2.2.2.1 s.2.2.2.2.2.2.2.1 s.2.2.2.2.2.2.2.2.1 s.2.2.2.2.2.2.2.2.2.1 s.2.2.2.2.2.2.2.2.2.2.1 s.2.2.2.2.2.2.2.2.2.2.2=some r) ?_ ?_
    ·rintro ⟨o1c0j2,o1c1j2,o1c2j2,o1c3j2,o1c4j2,o1c5j2,o1c6j2,o1c7j2,o1c8j2,o1c9j2,o1c10j2,o1c11j2⟩ H
     replace H:f_tagged_Decode_j2 o1c0j2 o1c1j2 o1c2j2 o1c3j2 o1c4j2 o1c5j2 o1c6j2 o1c7j2 o1c8j2 o1c9j2 o1c10j2 o1c11j2=some r:=H
     unfold f_tagged_Decode_j2 at H
     obtain ⟨y3,hy3,H⟩:=bind_some' H
     refine .A 16 [.d (.tup [cS y3.1,cI y3.2])] rfl (g_call (en 9 rfl) rfl rfl (c_f_textual_Encode (hy3))) ?_
     refine .ite H rfl (fun H=>?_) (fun H=>?_)
     ·refine .A 7 [.d (.agg (Record.row (⟨0,0,0,([]:List UInt8),([]:List UInt8),0,0,0,0,false,0,false⟩:Record)))] rfl (OpQ.g (q_buildP pl_49 hi49 hz49 rfl rfl)) ?_
      refine .R func78 results78 rfl ?_
      cases H
      exact .m rfl (.tupD rfl)
     ·refine .A 7 [] rfl trivial ?_
      refine .R func78 results78 rfl ?_
      cases H
      exact .m rfl (.tupD rfl)
    ·intro hj2 hj2x
     obtain ⟨n1,H⟩:=loop_some H
     refine .loop (ι:=Nat×(Int×Int×Int×Int×List UInt8×List UInt8×Int×Int×Int×Int×Bool×Int×Bool)) (fun ⟨_,v41l1,o1c0l1,o1c1l1,o1c2l1,o1c3l1,o1c4l1,o1c5l1,o1c6l1,o1c7l1,o1c8l1,o1c9l1,o1c10l1,o1c11l1⟩=>[(2,.ref 0 0),(7,.ref 1 0),(39,.d (slOf 2 Element.row y2.1)),(40,.d (cI (y2.1.length:Int))),(41,.d (cI v41l1))]) (fun ⟨_,v41l1,o1c0l1,o1c1l1,o1c2l1,o1c3l1,o1c4l1,o1c5l1,o1c6l1,o1c7l1,o1c8l1,o1c9l1,o1c10l1,o1c11l1⟩=>⟨[.row 49 [.d (cI 0),.d (cI 0),.d (cI 0),.d (cS ([]:List UInt8)),.d (cS ([]:List UInt8)),.d (cI 0),.d (cI 0),.d (cI 0),.d (cI 0),.d (cB false),.d (cI 0),.d (cB false)],.row 49 [.d (cI o1c0l1),.d (cI o1c1l1),.d (cI o1c2l1),.d (cS o1c3l1),.d (cS o1c4l1),.d (cI o1c5l1),.d (cI o1c6l1),.d (cI o1c7l1),.d (cI o1c8l1),.d (cB o1c9l1),.d (cI o1c10l1),.d (cB o1c11l1)]],[]⟩) (fun p=>iter (fun s=>f_tagged_Decode_l1 y2 s.1 s.2.1 s.2.2.1 s.2.2.2.1 s.2.2.2.2.1 s.2.2.2.2.2.1 s.2.2.2.2.2.2.1 s.2.2.2.2.2.2.2.1 s.2.2.2.2.2.2.2.2.1 s.2.2.2.2.2.2.2.2.2.1 s.2.2.2.2.2.2.2.2.2.2.1 s.2.2.2.2.2.2.2.2.2.2.2.1 s.2.2.2.2.2.2.2.2.2.2.2.2) p.1 p.2=some r) (·.1) (n1,(0,0,0,0,([]:List UInt8),([]:List UInt8),0,0,0,0,false,0,false)) H (.cons rfl (.rfl' _) (.cons rfl (.rfl' _) (.cons rfl (.rfl' _) (.cons rfl (.rfl' _) (.cons rfl (.rfl' _) (.nil)))))) rfl ?_
     rintro ⟨m1,v41l1,o1c0l1,o1c1l1,o1c2l1,o1c3l1,o1c4l1,o1c5l1,o1c6l1,o1c7l1,o1c8l1,o1c9l1,o1c10l1,o1c11l1⟩ HI ih1
     obtain ⟨n1,q1,hm1,H,HK1⟩:=iter_succ HI
     clear HI
     replace H:f_tagged_Decode_l1 y2 v41l1 o1c0l1 o1c1l1 o1c2l1 o1c3l1 o1c4l1 o1c5l1 o1c6l1 o1c7l1 o1c8l1 o1c9l1 o1c10l1 o1c11l1=some q1:=H
     unfold f_tagged_Decode_l1 at H
     refine .A 5 [] rfl trivial ?_
     refine .ite H rfl (fun H=>?_) (fun H=>?_)
     ·obtain ⟨hk2,H⟩:=ck_some H
      obtain ⟨y4,hy4,H⟩:=bind_some' H
      refine .B 13 [.d (.ro (Element.row (nth y2.1 v41l1.toNat))),.r 2] rfl (s102.ix rfl rfl rfl hk2) ?_
      refine .callF (en 59 rfl) rfl [1] [] (x:=.d (cB y4.1)) (st':=⟨[.row 49 [.d (cI 0),.d (cI 0),.d (cI 0),.d (cS ([]:List UInt8)),.d (cS ([]:List UInt8)),.d (cI 0),.d (cI 0),.d (cI 0),.d (cI 0),.d (cB false),.d (cI 0),.d (cB false)],.row 49 [.d (cI y4.2.source),.d (cI y4.2.serial),.d (cI y4.2.kind),.d (cS y4.2.a),.d (cS y4.2.b),.d (cI y4.2.start),.d (cI y4.2.units),.d (cI y4.2.call),.d (cI y4.2.part),.d (cB y4.2.last),.d (cI y4.2.trunk),.d (cB y4.2.inbound)],.row 104 [.d (cI ((nth y2.1 v41l1.toNat).tag)),.d (slOf 1 rB8 ((nth y2.1 v41l1.toNat).value))]],[]⟩) rfl (c_g_tagged_field (hy4)) ⟨.rfl' _,.rfl' _,trivial⟩ rfl rfl rfl rfl rfl rfl ?_
      refine .A 2 [] rfl trivial ?_
      refine .ite H rfl (fun H=>?_) (fun H=>?_)
      ·refine .A 6 [.d (.agg (Record.row (⟨0,0,0,([]:List UInt8),([]:List UInt8),0,0,0,0,false,0,false⟩:Record)))] rfl (OpQ.g (q_buildP pl_49 hi49 hz49 rfl rfl)) ?_
       refine .R func78 results78 rfl ?_
       cases H
       cases HK1
       exact .m rfl (.tupD rfl)
      ·obtain ⟨hk3,H⟩:=ck_some H
       refine .A 6 [.i (v41l1+1)] rfl (g_addI rfl rfl hk3) ?_
       cases H
       exact .t 2 0 (ih1 (n1,(v41l1+1,y4.2.source,y4.2.serial,y4.2.kind,y4.2.a,y4.2.b,y4.2.start,y4.2.units,y4.2.call,y4.2.part,y4.2.last,y4.2.trunk,y4.2.inbound)) HK1 hm1) rfl rfl rfl rfl rfl hS rfl
     ·refine .A 1 [] rfl trivial ?_
      obtain ⟨q0,H9,hq0⟩:=map_some' H; clear H; cases hq0
      cases HK1
      have H:=H9
      exact .z (hj2x (o1c0l1,o1c1l1,o1c2l1,o1c3l1,o1c4l1,o1c5l1,o1c6l1,o1c7l1,o1c8l1,o1c9l1,o1c10l1,o1c11l1) H) rfl rfl
 ·intro hj1
  refine .A 11 [.i (v0b.length:Int)] rfl ⟨rfl,rfl,rfl,fun hg=>s22.n rfl rfl,rfl⟩ ?_
  refine .ite H rfl (fun H=>?_) (fun H=>?_)
  ·refine .A 3 [] rfl trivial ?_
   exact .z (hj1 3 H) rfl rfl
  ·refine .A 1 [] rfl trivial ?_
   exact .z (hj1 y1.2 H) rfl rfl
theorem c_f_tagged_All {v0b:List UInt8} {r:(List Record)×(List Reject)×Int} (H:f_tagged_All v0b=some r):ACall prog 47 [slOf 1 rB8 v0b] (·=.tup [slOf 12 Record.row r.1,slOf 4 Reject.row r.2.1,cI r.2.2]):=by
 obtain ⟨i5,hi5,hz5,hs5,hb5⟩:=in_5
 obtain ⟨i49,hi49,hz49,hs49,hb49⟩:=in_49
 obtain ⟨i64,hi64,hz64,hs64,hb64⟩:=in_64
 refine ACall.enter' func47 rfl ntmps47 rfl fun S hS=>?_
 unfold f_tagged_All at H
 refine .A 19 [] rfl trivial ?_
 refine .tok (i:=5) (e:=49) (sz:=12) rfl ?_
 refine .tok (i:=6) (e:=64) (sz:=4) rfl ?_
 refine .blockJoin2 (ι:=List Record×List Reject) (fun ⟨v5outj1,v6noj1⟩=>[(5,.tsl 12 (v5outj1.map Record.row) 0),(6,.tsl 4 (v6noj1.map Reject.row) 1)]) (fun ⟨v5outj1,v6noj1⟩=>⟨[],[⟨49,12,v5outj1.length,none⟩,⟨64,4,v6noj1.length,none⟩]⟩) (fun s=>f_tagged_All_j1 s.1 s.2=some r) ?_ ?_
 ·rintro ⟨v5outj1,v6noj1⟩ H
  replace H:f_tagged_All_j1 v5outj1 v6noj1=some r:=H
  unfold f_tagged_All_j1 at H
  refine .A 8 [] rfl trivial ?_
  refine .R func47 results47 rfl ?_
  cases H
  exact .m rfl (.tupL ⟨.tsl _ _ _,.tsl _ _ _,.rfl' _,trivial⟩)
 ·intro hj1 hj1x
  obtain ⟨n1,H⟩:=loop_some H
  refine .loop (ι:=Nat×(List UInt8×List Record×List Reject×Int)) (fun ⟨_,v0bl1,v5outl1,v6nol1,v7il1⟩=>[(0,.d (slOf 1 rB8 v0bl1)),(5,.tsl 12 (v5outl1.map Record.row) 0),(6,.tsl 4 (v6nol1.map Reject.row) 1),(7,.d (cI v7il1))]) (fun ⟨_,v0bl1,v5outl1,v6nol1,v7il1⟩=>⟨[],[⟨49,12,v5outl1.length,none⟩,⟨64,4,v6nol1.length,none⟩]⟩) (fun p=>iter (fun s=>f_tagged_All_l1 s.1 s.2.1 s.2.2.1 s.2.2.2) p.1 p.2=some r) (·.1) (n1,(v0b,([]:List Record),([]:List Reject),0)) H (.cons rfl (.rfl' _) (.cons rfl (.rfl' _) (.cons rfl (.rfl' _) (.cons rfl (.rfl' _) (.nil))))) rfl ?_
  rintro ⟨m1,v0bl1,v5outl1,v6nol1,v7il1⟩ HI ih1
  obtain ⟨n1,q1,hm1,H,HK1⟩:=iter_succ HI
  clear HI
  replace H:f_tagged_All_l1 v0bl1 v5outl1 v6nol1 v7il1=some q1:=H
  unfold f_tagged_All_l1 at H
  refine .A 7 [.i (v0bl1.length:Int)] rfl (s22.n rfl rfl) ?_
  refine .ite H rfl (fun H=>?_) (fun H=>?_)
  ·refine .A 9 [] rfl trivial ?_
   refine .ite H rfl (fun H=>?_) (fun H=>?_)
   ·refine .A 6 [] rfl trivial ?_
    refine .R func47 results47 rfl ?_
    cases H
    cases HK1
    exact .m rfl (.tupL ⟨.nil 12,.nil 4,.rfl' _,trivial⟩)
   ·obtain ⟨y1,hy1,H⟩:=bind_some' H
    refine .A 17 [.d (.tup [cI y1.1,cI y1.2])] rfl (g_call (en 57 rfl) rfl rfl (c_f_tagged_size (hy1))) ?_
    refine .ite H rfl (fun H=>?_) (fun H=>?_)
    ·refine .A 7 [] rfl trivial ?_
     refine .R func47 results47 rfl ?_
     cases H
     cases HK1
     exact .m rfl (.tupL ⟨.nil 12,.nil 4,.rfl' _,trivial⟩)
    ·obtain ⟨hk1,H⟩:=ck_some H
     obtain ⟨y2,hy2,H⟩:=bind_some' H
     refine .A 14 [.d (slOf 1 rB8 (v0bl1.take y1.1.toNat)),.d (.tup [.agg (Record.row y2.1),cI y2.2]),.r 0] rfl ⟨g_call (en 60 rfl) rfl rfl (c_f_tagged_Decode (hy2)),OpQ.g (q_slHL (l:=v0bl1) (row:=rB8) underlying22 hi5 hs5 rfl rfl rfl hk1)⟩ ?_
     refine .seqJoin (ι:=List Record×List Reject) (fun ⟨v5outj2,v6noj2⟩=>[(0,.d (slOf 1 rB8 v0bl1)),(5,.tsl 12 (v5outj2.map Record.row) 0),(6,.tsl 4 (v6noj2.map Reject.row) 1),(7,.d (cI v7il1)),(8,.d (cI y1.1))]) (fun ⟨v5outj2,v6noj2⟩=>⟨[.row 49 [.d (cI y2.1.source),.d (cI y2.1.serial),.d (cI y2.1.kind),.d (cS y2.1.a),.d (cS y2.1.b),.d (cI y2.1.start),.d (cI y2.1.units),.d (cI y2.1.call),.d (cI y2.1.part),.d (cB y2.1.last),.d (cI y2.1.trunk),.d (cB y2.1.inbound)]],[⟨49,12,v5outj2.length,none⟩,⟨64,4,v6noj2.length,none⟩]⟩) (fun s=>f_tagged_All_j2 v0bl1 v7il1 y1 s.1 s.2=some q1) ?_ ?_
     ·rintro ⟨v5outj2,v6noj2⟩ H
      replace H:f_tagged_All_j2 v0bl1 v7il1 y1 v5outj2 v6noj2=some q1:=H
      unfold f_tagged_All_j2 at H
      obtain ⟨hk2,H⟩:=ck_some H
      obtain ⟨hk3,H⟩:=ck_some H
      refine .A 12 [.d (slOf 1 rB8 (v0bl1.drop y1.1.toNat)),.i (v7il1+1)] rfl ⟨g_addI rfl rfl hk3,OpQ.g (q_slLL (l:=v0bl1) (row:=rB8) underlying22 hi5 hs5 rfl rfl rfl hk2)⟩ ?_
      cases H
      exact .t 0 2 (ih1 (n1,(v0bl1.drop y1.1.toNat,v5outj2,v6noj2,v7il1+1)) HK1 hm1) rfl rfl rfl rfl rfl hS rfl
     ·intro hj2
      refine .A 5 [] rfl trivial ?_
      refine .ite H rfl (fun H=>?_) (fun H=>?_)
      ·obtain ⟨hk4,H⟩:=ck_some H
       refine .A 9 [.d (.agg (Reject.row (⟨0,0,v7il1,y2.2⟩:Reject))),.d (slOf 4 Reject.row ([(⟨0,0,v7il1,y2.2⟩:Reject)]:List Reject)),.a 1 64 4 Reject.row (v6nol1++([(⟨0,0,v7il1,y2.2⟩:Reject)]:List Reject))] rfl ⟨s32.a rfl rfl rfl rfl hk4,g_buildSlice1 underlying32 hi64 hs64 hz64 rfl rfl rfl rfl rfl,OpQ.g (q_buildP pl_64 hi64 hz64 rfl rfl)⟩ ?_
       exact .z (hj2 (v5outl1,v6nol1++([(⟨0,0,v7il1,y2.2⟩:Reject)]:List Reject)) H) rfl rfl
      ·obtain ⟨hk5,H⟩:=ck_some H
       refine .A 7 [.d (slOf 12 Record.row ([y2.1]:List Record)),.a 0 49 12 Record.row (v5outl1++([y2.1]:List Record))] rfl ⟨s29.a rfl rfl rfl rfl hk5,g_buildSlice1 underlying29 hi49 hs49 hz49 rfl rfl rfl rfl rfl⟩ ?_
       exact .z (hj2 (v5outl1++([y2.1]:List Record),v6nol1) H) rfl rfl
  ·refine .A 1 [] rfl trivial ?_
   obtain ⟨q0,H9,hq0⟩:=map_some' H; clear H; cases hq0
   cases HK1
   have H:=H9
   exact .z (hj1x (v5outl1,v6nol1) H) rfl rfl
theorem c_f_packed_Decimal {v0b:List UInt8} {r:Int×Int} (H:f_packed_Decimal v0b=some r):ACall prog 135 [slOf 1 rB8 v0b] (·=.tup [cI r.1,cI r.2]):=by
 refine ACall.enter' func135 rfl ntmps135 rfl fun S hS=>?_
 unfold f_packed_Decimal at H
 refine .A 17 [.i (v0b.length:Int),.i (v0b.length:Int)] rfl ⟨rfl,rfl,fun hg=>s22.n rfl rfl,rfl,s22.n rfl rfl⟩ ?_
 refine .ite H rfl (fun H=>?_) (fun H=>?_)
 ·refine .A 5 [] rfl trivial ?_
  refine .R func135 results135 rfl ?_
  cases H
  exact .m rfl (.tupD rfl)
 ·refine .A 13 [.i (v0b.length:Int)] rfl (s22.n rfl rfl) ?_
  obtain ⟨n1,H⟩:=loop_some H
  refine .loop (ι:=Nat×(Int×Int)) (fun ⟨_,v4nl1,v17l1⟩=>[(4,.d (cI v4nl1)),(15,.d (slOf 1 rB8 v0b)),(16,.d (cI (v0b.length:Int))),(17,.d (cI v17l1))]) (fun ⟨_,v4nl1,v17l1⟩=>⟨[],[]⟩) (fun p=>iter (fun s=>f_packed_Decimal_l1 v0b s.1 s.2) p.1 p.2=some r) (·.1) (n1,(0,0)) H (.cons rfl (.rfl' _) (.cons rfl (.rfl' _) (.cons rfl (.rfl' _) (.cons rfl (.rfl' _) (.nil))))) rfl ?_
  rintro ⟨m1,v4nl1,v17l1⟩ HI ih1
  obtain ⟨n1,q1,hm1,H,HK1⟩:=iter_succ HI
  clear HI
  replace H:f_packed_Decimal_l1 v0b v4nl1 v17l1=some q1:=H
  unfold f_packed_Decimal_l1 at H
  refine .A 5 [] rfl trivial ?_
  refine .ite H rfl (fun H=>?_) (fun H=>?_)
  ·obtain ⟨hk1,H⟩:=ck_some H
   obtain ⟨hk2,H⟩:=ck_some H
   refine .A 21 [.d (.ro (rB8 (nth v0b v17l1.toNat))),.c (u8shr (nth v0b v17l1.toNat) 4),.b (decide ((u8shr (nth v0b v17l1.toNat) 4) > 9)),.c ((nth v0b v17l1.toNat) &&& 15),.b (decide (((nth v0b v17l1.toNat) &&& 15) > 9))] rfl ⟨rfl,fun hg=>OpQ.g (q8_gtr (a:=(nth v0b v17l1.toNat) &&& 15) (b:=9) rfl rfl),rfl,fun hg=>OpQ.g (q8_and (a:=nth v0b v17l1.toNat) (b:=15) rfl rfl),rfl,OpQ.g (q8_gtr (a:=u8shr (nth v0b v17l1.toNat) 4) (b:=9) rfl rfl),OpQ.g (q8_shr (a:=nth v0b v17l1.toNat) (n:=4) rfl rfl hk2),s22.ix rfl rfl rfl hk1⟩ ?_
   refine .ite H rfl (fun H=>?_) (fun H=>?_)
   ·refine .A 5 [] rfl trivial ?_
    refine .R func135 results135 rfl ?_
    cases H
    cases HK1
    exact .m rfl (.tupD rfl)
   ·obtain ⟨hk3,H⟩:=ck_some H
    obtain ⟨hk4,H⟩:=ck_some H
    obtain ⟨hk5,H⟩:=ck_some H
    obtain ⟨hk6,H⟩:=ck_some H
    obtain ⟨hk7,H⟩:=ck_some H
    obtain ⟨hk8,H⟩:=ck_some H
    refine .A 20 [.i (100*v4nl1),.c (u8shr (nth v0b v17l1.toNat) 4),.i ((u8shr (nth v0b v17l1.toNat) 4).toNat:Int),.i (((u8shr (nth v0b v17l1.toNat) 4).toNat:Int)*10),.i ((100*v4nl1)+(((u8shr (nth v0b v17l1.toNat) 4).toNat:Int)*10)),.c ((nth v0b v17l1.toNat) &&& 15),.i (((nth v0b v17l1.toNat) &&& 15).toNat:Int),.i (((100*v4nl1)+(((u8shr (nth v0b v17l1.toNat) 4).toNat:Int)*10))+(((nth v0b v17l1.toNat) &&& 15).toNat:Int)),.i (v17l1+1)] rfl ⟨g_addI rfl rfl hk8,g_addI rfl rfl hk7,OpQ.g (q_conv8i (a:=(nth v0b v17l1.toNat) &&& 15) underlying5 underlying3 rfl),OpQ.g (q8_and (a:=nth v0b v17l1.toNat) (b:=15) rfl rfl),g_addI rfl rfl hk6,g_mulI rfl rfl hk5,OpQ.g (q_conv8i (a:=u8shr (nth v0b v17l1.toNat) 4) underlying5 underlying3 rfl),OpQ.g (q8_shr (a:=nth v0b v17l1.toNat) (n:=4) rfl rfl hk4),g_mulI rfl rfl hk3⟩ ?_
    cases H
    exact .z (ih1 (n1,(((100*v4nl1)+(((u8shr (nth v0b v17l1.toNat) 4).toNat:Int)*10))+(((nth v0b v17l1.toNat) &&& 15).toNat:Int),v17l1+1)) HK1 hm1) rfl rfl
  ·refine .A 7 [] rfl trivial ?_
   refine .R func135 results135 rfl ?_
   cases H
   cases HK1
   exact .m rfl (.tupD rfl)
theorem c_f_packed_number {v0field:List UInt8} {r:(List UInt8)×Bool} (H:f_packed_number v0field=some r):ACall prog 136 [slOf 1 rB8 v0field] (·=.tup [cS r.1,cB r.2]):=by
 obtain ⟨i5,hi5,hz5,hs5,hb5⟩:=in_5
 refine ACall.enter' func136 rfl ntmps136 rfl fun S hS=>?_
 unfold f_packed_number at H
 obtain ⟨hk1,H⟩:=ck_some H
 obtain ⟨hk2,H⟩:=ck_some H
 refine .A 24 [.d (.ro (rB8 (nth v0field (Int.toNat (0))))),.c (u8shr (nth v0field (Int.toNat (0))) 4),.i ((u8shr (nth v0field (Int.toNat (0))) 4).toNat:Int)] rfl ⟨OpQ.g (q_conv8i (a:=u8shr (nth v0field (Int.toNat (0))) 4) underlying5 underlying3 rfl),OpQ.g (q8_shr (a:=nth v0field (Int.toNat (0))) (n:=4) rfl rfl hk2),s22.ix rfl rfl rfl hk1⟩ ?_
 refine .tok (i:=5) (e:=5) (sz:=1) rfl ?_
 obtain ⟨n1,H⟩:=loop_some H
 refine .loop (ι:=Nat×(List UInt8×Int)) (fun ⟨_,v5outl1,v13l1⟩=>[(0,.d (slOf 1 rB8 v0field)),(4,.d (cI ((u8shr (nth v0field (Int.toNat (0))) 4).toNat:Int))),(5,.tsl 1 (v5outl1.map rB8) 0),(13,.d (cI v13l1))]) (fun ⟨_,v5outl1,v13l1⟩=>⟨[],[⟨5,1,v5outl1.length,none⟩]⟩) (fun p=>iter (fun s=>f_packed_number_l1 v0field s.1 s.2) p.1 p.2=some r) (·.1) (n1,(([]:List UInt8),0)) H (.cons rfl (.rfl' _) (.cons rfl (.rfl' _) (.cons rfl (.rfl' _) (.cons rfl (.rfl' _) (.nil))))) rfl ?_
 rintro ⟨m1,v5outl1,v13l1⟩ HI ih1
 obtain ⟨n1,q1,hm1,H,HK1⟩:=iter_succ HI
 clear HI
 replace H:f_packed_number_l1 v0field v5outl1 v13l1=some q1:=H
 unfold f_packed_number_l1 at H
 refine .A 5 [] rfl trivial ?_
 refine .ite H rfl (fun H=>?_) (fun H=>?_)
 ·obtain ⟨hk3,H⟩:=ck_some H
  obtain ⟨hk4,H⟩:=ck_some H
  obtain ⟨hk5,H⟩:=ck_some H
  obtain ⟨hk6,H⟩:=ck_some H
  refine .A 19 [.i (v13l1+1),.i (Int.tdiv (v13l1+1) 2),.d (.ro (rB8 (nth v0field (Int.tdiv (v13l1+1) 2).toNat))),.c (u8shr (nth v0field (Int.tdiv (v13l1+1) 2).toNat) 4)] rfl ⟨OpQ.g (q8_shr (a:=nth v0field (Int.tdiv (v13l1+1) 2).toNat) (n:=4) rfl rfl hk6),s22.ix rfl rfl rfl hk5,OpQ.g (q_quoT rfl rfl hk4),g_addI rfl rfl hk3⟩ ?_
  refine .seqJoin (ι:=UInt8) (fun v7digitj1=>[(0,.d (slOf 1 rB8 v0field)),(4,.d (cI ((u8shr (nth v0field (Int.toNat (0))) 4).toNat:Int))),(5,.tsl 1 (v5outl1.map rB8) 0),(6,.d (cI v13l1)),(7,.d (cU8 v7digitj1)),(13,.d (cI v13l1))]) (fun v7digitj1=>⟨[],[⟨5,1,v5outl1.length,none⟩]⟩) (fun s=>f_packed_number_j1 v0field v5outl1 v13l1 s=some q1) ?_ ?_
  ·rintro v7digitj1 H
   replace H:f_packed_number_j1 v0field v5outl1 v13l1 v7digitj1=some q1:=H
   unfold f_packed_number_j1 at H
   refine .A 12 [.b (decide (v7digitj1≤9))] rfl ⟨rfl,fun hg=>OpQ.g (q8_leq (a:=v7digitj1) (b:=9) rfl rfl),rfl⟩ ?_
   refine .ite H rfl (fun H=>?_) (fun H=>?_)
   ·obtain ⟨hk7,H⟩:=ck_some H
    obtain ⟨hk8,H⟩:=ck_some H
    refine .A 14 [.c (48+v7digitj1),.d (slOf 1 rB8 ([48+v7digitj1]:List UInt8)),.a 0 5 1 rB8 (v5outl1++([48+v7digitj1]:List UInt8)),.i (v13l1+1)] rfl ⟨g_addI rfl rfl hk8,s22.a rfl rfl rfl rfl hk7,g_buildSlice1 underlying22 hi5 hs5 hz5 rfl rfl rfl rfl rfl,OpQ.g (q8_add (a:=48) (b:=v7digitj1) rfl rfl)⟩ ?_
    cases H
    exact .z (ih1 (n1,(v5outl1++([48+v7digitj1]:List UInt8),v13l1+1)) HK1 hm1) rfl rfl
   ·refine .A 11 [.b (v7digitj1 != 0)] rfl ⟨rfl,fun hg=>OpQ.g (q8_neq (a:=v7digitj1) (b:=0) rfl rfl),rfl⟩ ?_
    refine .ite H rfl (fun H=>?_) (fun H=>?_)
    ·refine .A 5 [] rfl trivial ?_
     refine .R func136 results136 rfl ?_
     cases H
     cases HK1
     exact .m rfl (.tupD rfl)
    ·obtain ⟨hk9,H⟩:=ck_some H
     refine .A 7 [.i (v13l1+1)] rfl (g_addI rfl rfl hk9) ?_
     cases H
     exact .z (ih1 (n1,(v5outl1,v13l1+1)) HK1 hm1) rfl rfl
  ·intro hj1
   obtain ⟨hk10,H⟩:=ck_some H
   refine .A 6 [.i (Int.tmod v13l1 2)] rfl (OpQ.g (q_remT rfl rfl hk10)) ?_
   refine .ite H rfl (fun H=>?_) (fun H=>?_)
   ·obtain ⟨hk11,H⟩:=ck_some H
    obtain ⟨hk12,H⟩:=ck_some H
    refine .A 9 [.i (Int.tdiv v13l1 2),.d (.ro (rB8 (nth v0field (Int.tdiv v13l1 2).toNat))),.c ((nth v0field (Int.tdiv v13l1 2).toNat) &&& 15)] rfl ⟨OpQ.g (q8_and (a:=nth v0field (Int.tdiv v13l1 2).toNat) (b:=15) rfl rfl),s22.ix rfl rfl rfl hk12,OpQ.g (q_quoT rfl rfl hk11)⟩ ?_
    exact .z (hj1 ((nth v0field (Int.tdiv v13l1 2).toNat) &&& 15) H) rfl rfl
   ·refine .A 1 [] rfl trivial ?_
    exact .z (hj1 (u8shr (nth v0field (Int.tdiv (v13l1+1) 2).toNat) 4) H) rfl rfl
 ·refine .A 8 [.s v5outl1] rfl (OpQ.g (q_bytesStrL (a:=v5outl1) underlying22 underlying5 underlying9 rfl rfl)) ?_
  refine .R func136 results136 rfl ?_
  cases H
  cases HK1
  exact .m rfl (.tupD rfl)
theorem c_g_packed_reader_field {v1size:Int} {o0c0p:PackedReader} {r:(List UInt8)×PackedReader} (H:g_packed_reader_field v1size o0c0p=some r):ACallS prog 80 [.ref 0 0,.d (cI v1size)] ⟨[.row 118 [.d (slOf 1 rB8 o0c0p.b),.d (cB o0c0p.bad)]],[]⟩ (QE (.d (slOf 1 rB8 r.1)) ⟨[.row 118 [.d (slOf 1 rB8 r.2.b),.d (cB r.2.bad)]],[]⟩):=by
 obtain ⟨i5,hi5,hz5,hs5,hb5⟩:=in_5
 refine ACallS.keep ?_
 refine ACallS.enter func80 rfl ntmps80 rfl fun S hS=>?_
 unfold g_packed_reader_field at H
 obtain ⟨hk1,H⟩:=ck_some H
 obtain ⟨hk2,H⟩:=ck_some H
 refine .A 33 [.d (slOf 1 rB8 (o0c0p.b.take v1size.toNat)),.d (slOf 1 rB8 (o0c0p.b.drop v1size.toNat))] rfl ⟨OpQ.g (q_slLL (l:=o0c0p.b) (row:=rB8) underlying22 hi5 hs5 rfl rfl rfl hk2),OpQ.g (q_slHML (l:=o0c0p.b) (row:=rB8) underlying22 hi5 hs5 rfl rfl rfl rfl hk1)⟩ ?_
 refine .R func80 results80 rfl ?_
 cases H
 exact ⟨[0],[],rfl,rfl,rfl,rfl,rfl,rfl,rfl,rfl,.rfl' _⟩
set_option maxRecDepth 100000
set_option maxHeartbeats 1000000
theorem c_g_packed_reader_decimal {v1size:Int} {o0c0p:PackedReader} {r:Int×PackedReader} (H:g_packed_reader_decimal v1size o0c0p=some r):ACallS prog 113 [.ref 0 0,.d (cI v1size)] ⟨[.row 118 [.d (slOf 1 rB8 o0c0p.b),.d (cB o0c0p.bad)]],[]⟩ (QE (.d (cI r.1)) ⟨[.row 118 [.d (slOf 1 rB8 r.2.b),.d (cB r.2.bad)]],[]⟩):=by
 refine ACallS.keep ?_
 refine ACallS.enter func113 rfl ntmps113 rfl fun S hS=>?_
 unfold g_packed_reader_decimal at H
 obtain ⟨y1,hy1,H⟩:=bind_some' H
 refine .B 8 [] rfl trivial ?_
 refine .callF (en 61 rfl) rfl [0] [] (x:=.d (slOf 1 rB8 y1.1)) (st':=⟨[.row 118 [.d (slOf 1 rB8 y1.2.b),.d (cB y1.2.bad)]],[]⟩) rfl (c_g_packed_reader_field (hy1)) ⟨.rfl' _,.rfl' _,trivial⟩ rfl rfl rfl rfl rfl rfl ?_
 obtain ⟨y2,hy2,H⟩:=bind_some' H
 refine .A 27 [.d (.tup [cI y2.1,cI y2.2])] rfl ⟨rfl,rfl,g_call (en 62 rfl) rfl rfl (c_f_packed_Decimal (hy2))⟩ ?_
 refine .R func113 results113 rfl ?_
 cases H
 exact ⟨[0],[],rfl,rfl,rfl,rfl,rfl,rfl,rfl,rfl,.rfl' _⟩
theorem c_g_packed_reader_number {o0c0p:PackedReader} {r:(List UInt8)×PackedReader} (H:g_packed_reader_number o0c0p=some r):ACallS prog 114 [.ref 0 0] ⟨[.row 118 [.d (slOf 1 rB8 o0c0p.b),.d (cB o0c0p.bad)]],[]⟩ (QE (.d (cS r.1)) ⟨[.row 118 [.d (slOf 1 rB8 r.2.b),.d (cB r.2.bad)]],[]⟩):=by
 refine ACallS.keep ?_
 refine ACallS.enter func114 rfl ntmps114 rfl fun S hS=>?_
 unfold g_packed_reader_number at H
 obtain ⟨y1,hy1,H⟩:=bind_some' H
 refine .B 7 [] rfl trivial ?_
 refine .callF (en 61 rfl) rfl [0] [] (x:=.d (slOf 1 rB8 y1.1)) (st':=⟨[.row 118 [.d (slOf 1 rB8 y1.2.b),.d (cB y1.2.bad)]],[]⟩) rfl (c_g_packed_reader_field (hy1)) ⟨.rfl' _,.rfl' _,trivial⟩ rfl rfl rfl rfl rfl rfl ?_
 obtain ⟨y2,hy2,H⟩:=bind_some' H
 refine .A 27 [.d (.tup [cS y2.1,cB y2.2])] rfl ⟨rfl,rfl,g_call (en 63 rfl) rfl rfl (c_f_packed_number (hy2))⟩ ?_
 refine .R func114 results114 rfl ?_
 cases H
 exact ⟨[0],[],rfl,rfl,rfl,rfl,rfl,rfl,rfl,rfl,.rfl' _⟩
theorem c_f_packed_Decode {v0:List UInt8} {r:Record×Int} (H:f_packed_Decode v0=some r):ACall prog 79 [slOf 1 rB8 v0] (·=.tup [.agg (Record.row r.1),cI r.2]):=by
 obtain ⟨i5,hi5,hz5,hs5,hb5⟩:=in_5
 obtain ⟨i49,hi49,hz49,hs49,hb49⟩:=in_49
 obtain ⟨i118,hi118,hz118,hs118,hb118⟩:=in_118
 refine ACall.enter' func79 rfl ntmps79 rfl fun S hS=>?_
 unfold f_packed_Decode at H
 refine .A 14 [.r 0,.i (v0.length:Int)] rfl (s22.n rfl rfl) ?_
 refine .ite H rfl (fun H=>?_) (fun H=>?_)
 ·refine .A 6 [.d (.agg (Record.row (⟨0,0,0,([]:List UInt8),([]:List UInt8),0,0,0,0,false,0,false⟩:Record)))] rfl (OpQ.g (q_buildP pl_49 hi49 hz49 rfl rfl)) ?_
  refine .R func79 results79 rfl ?_
  cases H
  exact .m rfl (.tupD rfl)
 ·refine .A 7 [.i (v0.length:Int)] rfl (s22.n rfl rfl) ?_
  refine .ite H rfl (fun H=>?_) (fun H=>?_)
  ·refine .A 6 [.d (.agg (Record.row (⟨0,0,0,([]:List UInt8),([]:List UInt8),0,0,0,0,false,0,false⟩:Record)))] rfl (OpQ.g (q_buildP pl_49 hi49 hz49 rfl rfl)) ?_
   refine .R func79 results79 rfl ?_
   cases H
   exact .m rfl (.tupD rfl)
  ·obtain ⟨hk1,H⟩:=ck_some H
   obtain ⟨y1,hy1,H⟩:=bind_some' H
   obtain ⟨hk2,H⟩:=ck_some H
   refine .A 12 [.p 8,.d (slOf 1 rB8 (v0.take ((44:Int)).toNat)),.c y1,.d (.ro (rB8 (nth v0 (Int.toNat (44))))),.b (y1 != (nth v0 (Int.toNat (44))))] rfl ⟨OpQ.g (q8_neq (a:=y1) (b:=nth v0 (Int.toNat (44))) rfl rfl),s22.ix rfl rfl rfl hk2,g_call (en 23 rfl) rfl rfl (c_f_packed_sum (hy1)),OpQ.g (q_slHL (l:=v0) (row:=rB8) underlying22 hi5 hs5 rfl rfl rfl hk1),(show drawB _ _=true by kernel_rfl)⟩ ?_
   refine .ite H rfl (fun H=>?_) (fun H=>?_)
   ·refine .A 6 [.d (.agg (Record.row (⟨0,0,0,([]:List UInt8),([]:List UInt8),0,0,0,0,false,0,false⟩:Record)))] rfl (OpQ.g (q_buildP pl_49 hi49 hz49 rfl rfl)) ?_
    refine .R func79 results79 rfl ?_
    cases H
    exact .m rfl (.tupD rfl)
   ·obtain ⟨y2,hy2,H⟩:=bind_some' H
    refine .B 16 [.d (.agg (PackedReader.row (⟨v0,false⟩:PackedReader))),.r 1,.r 2] rfl (OpQ.g (q_buildP pl_118 hi118 hz118 rfl rfl)) ?_
    refine .callF (en 64 rfl) rfl [1] [] (x:=.d (cI y2.1)) (st':=⟨[.row 49 [.d (cI 0),.d (cI 0),.d (cI 0),.d (cS ([]:List UInt8)),.d (cS ([]:List UInt8)),.d (cI 0),.d (cI 0),.d (cI 0),.d (cI 0),.d (cB false),.d (cI 0),.d (cB false)],.row 118 [.d (slOf 1 rB8 y2.2.b),.d (cB y2.2.bad)],.row 49 [.d (cI 0),.d (cI 0),.d (cI 0),.d (cS ([]:List UInt8)),.d (cS ([]:List UInt8)),.d (cI 0),.d (cI 0),.d (cI 0),.d (cI 0),.d (cB false),.d (cI 0),.d (cB false)]],[]⟩) rfl (c_g_packed_reader_decimal (hy2)) ⟨.rfl' _,.rfl' _,trivial⟩ rfl rfl rfl rfl rfl rfl ?_
    obtain ⟨y3,hy3,H⟩:=bind_some' H
    refine .B 6 [] rfl trivial ?_
    refine .callF (en 64 rfl) rfl [1] [] (x:=.d (cI y3.1)) (st':=⟨[.row 49 [.d (cI 0),.d (cI 0),.d (cI 0),.d (cS ([]:List UInt8)),.d (cS ([]:List UInt8)),.d (cI 0),.d (cI 0),.d (cI 0),.d (cI 0),.d (cB false),.d (cI 0),.d (cB false)],.row 118 [.d (slOf 1 rB8 y3.2.b),.d (cB y3.2.bad)],.row 49 [.d (cI y2.1),.d (cI 0),.d (cI 0),.d (cS ([]:List UInt8)),.d (cS ([]:List UInt8)),.d (cI 0),.d (cI 0),.d (cI 0),.d (cI 0),.d (cB false),.d (cI 0),.d (cB false)]],[]⟩) rfl (c_g_packed_reader_decimal (hy3)) ⟨.rfl' _,.rfl' _,trivial⟩ rfl rfl rfl rfl rfl rfl ?_
    obtain ⟨y4,hy4,H⟩:=bind_some' H
    refine .B 6 [] rfl trivial ?_
    refine .callF (en 61 rfl) rfl [1] [] (x:=.d (slOf 1 rB8 y4.1)) (st':=⟨[.row 49 [.d (cI 0),.d (cI 0),.d (cI 0),.d (cS ([]:List UInt8)),.d (cS ([]:List UInt8)),.d (cI 0),.d (cI 0),.d (cI 0),.d (cI 0),.d (cB false),.d (cI 0),.d (cB false)],.row 118 [.d (slOf 1 rB8 y4.2.b),.d (cB y4.2.bad)],.row 49 [.d (cI y2.1),.d (cI y3.1),.d (cI 0),.d (cS ([]:List UInt8)),.d (cS ([]:List UInt8)),.d (cI 0),.d (cI 0),.d (cI 0),.d (cI 0),.d (cB false),.d (cI 0),.d (cB false)]],[]⟩) rfl (c_g_packed_reader_field (hy4)) ⟨.rfl' _,.rfl' _,trivial⟩ rfl rfl rfl rfl rfl rfl ?_
    obtain ⟨hk3,H⟩:=ck_some H
    obtain ⟨hk4,H⟩:=ck_some H
    obtain ⟨y5,hy5,H⟩:=bind_some' H
    refine .B 25 [.d (.ro (rB8 (nth y4.1 (Int.toNat (0))))),.c (u8shr (nth y4.1 (Int.toNat (0))) 4),.i ((u8shr (nth y4.1 (Int.toNat (0))) 4).toNat:Int),.c ((nth y4.1 (Int.toNat (0))) &&& 1),.b (((nth y4.1 (Int.toNat (0))) &&& 1) != 0),.c ((nth y4.1 (Int.toNat (0))) &&& 2),.b (((nth y4.1 (Int.toNat (0))) &&& 2) != 0)] rfl ⟨OpQ.g (q8_neq (a:=(nth y4.1 (Int.toNat (0))) &&& 2) (b:=0) rfl rfl),OpQ.g (q8_and (a:=nth y4.1 (Int.toNat (0))) (b:=2) rfl rfl),OpQ.g (q8_neq (a:=(nth y4.1 (Int.toNat (0))) &&& 1) (b:=0) rfl rfl),OpQ.g (q8_and (a:=nth y4.1 (Int.toNat (0))) (b:=1) rfl rfl),OpQ.g (q_conv8i (a:=u8shr (nth y4.1 (Int.toNat (0))) 4) underlying5 underlying3 rfl),OpQ.g (q8_shr (a:=nth y4.1 (Int.toNat (0))) (n:=4) rfl rfl hk4),s22.ix rfl rfl rfl hk3⟩ ?_
    refine .callF (en 65 rfl) rfl [1] [] (x:=.d (cS y5.1)) (st':=⟨[.row 49 [.d (cI 0),.d (cI 0),.d (cI 0),.d (cS ([]:List UInt8)),.d (cS ([]:List UInt8)),.d (cI 0),.d (cI 0),.d (cI 0),.d (cI 0),.d (cB false),.d (cI 0),.d (cB false)],.row 118 [.d (slOf 1 rB8 y5.2.b),.d (cB y5.2.bad)],.row 49 [.d (cI y2.1),.d (cI y3.1),.d (cI ((u8shr (nth y4.1 (Int.toNat (0))) 4).toNat:Int)),.d (cS ([]:List UInt8)),.d (cS ([]:List UInt8)),.d (cI 0),.d (cI 0),.d (cI 0),.d (cI 0),.d (cB (((nth y4.1 (Int.toNat (0))) &&& 1) != 0)),.d (cI 0),.d (cB (((nth y4.1 (Int.toNat (0))) &&& 2) != 0))]],[]⟩) rfl (c_g_packed_reader_number (hy5)) ⟨.rfl' _,trivial⟩ rfl rfl rfl rfl rfl rfl ?_
    obtain ⟨y6,hy6,H⟩:=bind_some' H
    refine .B 6 [] rfl trivial ?_
    refine .callF (en 65 rfl) rfl [1] [] (x:=.d (cS y6.1)) (st':=⟨[.row 49 [.d (cI 0),.d (cI 0),.d (cI 0),.d (cS ([]:List UInt8)),.d (cS ([]:List UInt8)),.d (cI 0),.d (cI 0),.d (cI 0),.d (cI 0),.d (cB false),.d (cI 0),.d (cB false)],.row 118 [.d (slOf 1 rB8 y6.2.b),.d (cB y6.2.bad)],.row 49 [.d (cI y2.1),.d (cI y3.1),.d (cI ((u8shr (nth y4.1 (Int.toNat (0))) 4).toNat:Int)),.d (cS y5.1),.d (cS ([]:List UInt8)),.d (cI 0),.d (cI 0),.d (cI 0),.d (cI 0),.d (cB (((nth y4.1 (Int.toNat (0))) &&& 1) != 0)),.d (cI 0),.d (cB (((nth y4.1 (Int.toNat (0))) &&& 2) != 0))]],[]⟩) rfl (c_g_packed_reader_number (hy6)) ⟨.rfl' _,trivial⟩ rfl rfl rfl rfl rfl rfl ?_
    obtain ⟨y7,hy7,H⟩:=bind_some' H
    refine .B 6 [] rfl trivial ?_
    refine .callF (en 64 rfl) rfl [1] [] (x:=.d (cI y7.1)) (st':=⟨[.row 49 [.d (cI 0),.d (cI 0),.d (cI 0),.d (cS ([]:List UInt8)),.d (cS ([]:List UInt8)),.d (cI 0),.d (cI 0),.d (cI 0),.d (cI 0),.d (cB false),.d (cI 0),.d (cB false)],.row 118 [.d (slOf 1 rB8 y7.2.b),.d (cB y7.2.bad)],.row 49 [.d (cI y2.1),.d (cI y3.1),.d (cI ((u8shr (nth y4.1 (Int.toNat (0))) 4).toNat:Int)),.d (cS y5.1),.d (cS y6.1),.d (cI 0),.d (cI 0),.d (cI 0),.d (cI 0),.d (cB (((nth y4.1 (Int.toNat (0))) &&& 1) != 0)),.d (cI 0),.d (cB (((nth y4.1 (Int.toNat (0))) &&& 2) != 0))]],[]⟩) rfl (c_g_packed_reader_decimal (hy7)) ⟨.rfl' _,.rfl' _,trivial⟩ rfl rfl rfl rfl rfl rfl ?_
    obtain ⟨y8,hy8,H⟩:=bind_some' H
    refine .B 6 [] rfl trivial ?_
    refine .callF (en 64 rfl) rfl [1] [] (x:=.d (cI y8.1)) (st':=⟨[.row 49 [.d (cI 0),.d (cI 0),.d (cI 0),.d (cS ([]:List UInt8)),.d (cS ([]:List UInt8)),.d (cI 0),.d (cI 0),.d (cI 0),.d (cI 0),.d (cB false),.d (cI 0),.d (cB false)],.row 118 [.d (slOf 1 rB8 y8.2.b),.d (cB y8.2.bad)],.row 49 [.d (cI y2.1),.d (cI y3.1),.d (cI ((u8shr (nth y4.1 (Int.toNat (0))) 4).toNat:Int)),.d (cS y5.1),.d (cS y6.1),.d (cI y7.1),.d (cI 0),.d (cI 0),.d (cI 0),.d (cB (((nth y4.1 (Int.toNat (0))) &&& 1) != 0)),.d (cI 0),.d (cB (((nth y4.1 (Int.toNat (0))) &&& 2) != 0))]],[]⟩) rfl (c_g_packed_reader_decimal (hy8)) ⟨.rfl' _,.rfl' _,trivial⟩ rfl rfl rfl rfl rfl rfl ?_
    obtain ⟨y9,hy9,H⟩:=bind_some' H
    refine .B 6 [] rfl trivial ?_
    refine .callF (en 64 rfl) rfl [1] [] (x:=.d (cI y9.1)) (st':=⟨[.row 49 [.d (cI 0),.d (cI 0),.d (cI 0),.d (cS ([]:List UInt8)),.d (cS ([]:List UInt8)),.d (cI 0),.d (cI 0),.d (cI 0),.d (cI 0),.d (cB false),.d (cI 0),.d (cB false)],.row 118 [.d (slOf 1 rB8 y9.2.b),.d (cB y9.2.bad)],.row 49 [.d (cI y2.1),.d (cI y3.1),.d (cI ((u8shr (nth y4.1 (Int.toNat (0))) 4).toNat:Int)),.d (cS y5.1),.d (cS y6.1),.d (cI y7.1),.d (cI y8.1),.d (cI 0),.d (cI 0),.d (cB (((nth y4.1 (Int.toNat (0))) &&& 1) != 0)),.d (cI 0),.d (cB (((nth y4.1 (Int.toNat (0))) &&& 2) != 0))]],[]⟩) rfl (c_g_packed_reader_decimal (hy9)) ⟨.rfl' _,.rfl' _,trivial⟩ rfl rfl rfl rfl rfl rfl ?_
    obtain ⟨y10,hy10,H⟩:=bind_some' H
    refine .B 6 [] rfl trivial ?_
    refine .callF (en 64 rfl) rfl [1] [] (x:=.d (cI y10.1)) (st':=⟨[.row 49 [.d (cI 0),.d (cI 0),.d (cI 0),.d (cS ([]:List UInt8)),.d (cS ([]:List UInt8)),.d (cI 0),.d (cI 0),.d (cI 0),.d (cI 0),.d (cB false),.d (cI 0),.d (cB false)],.row 118 [.d (slOf 1 rB8 y10.2.b),.d (cB y10.2.bad)],.row 49 [.d (cI y2.1),.d (cI y3.1),.d (cI ((u8shr (nth y4.1 (Int.toNat (0))) 4).toNat:Int)),.d (cS y5.1),.d (cS y6.1),.d (cI y7.1),.d (cI y8.1),.d (cI y9.1),.d (cI 0),.d (cB (((nth y4.1 (Int.toNat (0))) &&& 1) != 0)),.d (cI 0),.d (cB (((nth y4.1 (Int.toNat (0))) &&& 2) != 0))]],[]⟩) rfl (c_g_packed_reader_decimal (hy10)) ⟨.rfl' _,.rfl' _,trivial⟩ rfl rfl rfl rfl rfl rfl ?_
    obtain ⟨y11,hy11,H⟩:=bind_some' H
    refine .B 6 [] rfl trivial ?_
    refine .callF (en 64 rfl) rfl [1] [] (x:=.d (cI y11.1)) (st':=⟨[.row 49 [.d (cI 0),.d (cI 0),.d (cI 0),.d (cS ([]:List UInt8)),.d (cS ([]:List UInt8)),.d (cI 0),.d (cI 0),.d (cI 0),.d (cI 0),.d (cB false),.d (cI 0),.d (cB false)],.row 118 [.d (slOf 1 rB8 y11.2.b),.d (cB y11.2.bad)],.row 49 [.d (cI y2.1),.d (cI y3.1),.d (cI ((u8shr (nth y4.1 (Int.toNat (0))) 4).toNat:Int)),.d (cS y5.1),.d (cS y6.1),.d (cI y7.1),.d (cI y8.1),.d (cI y9.1),.d (cI y10.1),.d (cB (((nth y4.1 (Int.toNat (0))) &&& 1) != 0)),.d (cI 0),.d (cB (((nth y4.1 (Int.toNat (0))) &&& 2) != 0))]],[]⟩) rfl (c_g_packed_reader_decimal (hy11)) ⟨.rfl' _,.rfl' _,trivial⟩ rfl rfl rfl rfl rfl rfl ?_
    refine .A 16 [.c ((nth y4.1 (Int.toNat (0))) &&& 15),.b (decide (((nth y4.1 (Int.toNat (0))) &&& 15) > 3))] rfl ⟨rfl,fun hg=>OpQ.g (q8_gtr (a:=(nth y4.1 (Int.toNat (0))) &&& 15) (b:=3) rfl rfl),rfl,fun hg=>OpQ.g (q8_and (a:=nth y4.1 (Int.toNat (0))) (b:=15) rfl rfl),rfl⟩ ?_
    refine .ite H rfl (fun H=>?_) (fun H=>?_)
    ·refine .A 6 [.d (.agg (Record.row (⟨0,0,0,([]:List UInt8),([]:List UInt8),0,0,0,0,false,0,false⟩:Record)))] rfl (OpQ.g (q_buildP pl_49 hi49 hz49 rfl rfl)) ?_
     refine .R func79 results79 rfl ?_
     cases H
     exact .m rfl (.tupD rfl)
    ·obtain ⟨y12,hy12,H⟩:=bind_some' H
     refine .A 17 [.d (.tup [cS y12.1,cI y12.2])] rfl (g_call (en 9 rfl) rfl rfl (c_f_textual_Encode (hy12))) ?_
     refine .ite H rfl (fun H=>?_) (fun H=>?_)
     ·refine .A 7 [.d (.agg (Record.row (⟨0,0,0,([]:List UInt8),([]:List UInt8),0,0,0,0,false,0,false⟩:Record)))] rfl (OpQ.g (q_buildP pl_49 hi49 hz49 rfl rfl)) ?_
      refine .R func79 results79 rfl ?_
      cases H
      exact .m rfl (.tupD rfl)
     ·refine .A 7 [] rfl trivial ?_
      refine .R func79 results79 rfl ?_
      cases H
      exact .m rfl (.tupD rfl)
theorem c_f_packed_All {v0b:List UInt8} {r:(List Record)×(List Reject)×Int} (H:f_packed_All v0b=some r):ACall prog 48 [slOf 1 rB8 v0b] (·=.tup [slOf 12 Record.row r.1,slOf 4 Reject.row r.2.1,cI r.2.2]):=by
 obtain ⟨i49,hi49,hz49,hs49,hb49⟩:=in_49
 obtain ⟨i64,hi64,hz64,hs64,hb64⟩:=in_64
 obtain ⟨i118,hi118,hz118,hs118,hb118⟩:=in_118
 refine ACall.enter' func48 rfl ntmps48 rfl fun S hS=>?_
 unfold f_packed_All at H
 obtain ⟨hk1,H⟩:=ck_some H
 refine .A 14 [.i (v0b.length:Int),.i (Int.tmod (v0b.length:Int) 45)] rfl ⟨OpQ.g (q_remT rfl rfl hk1),s22.n rfl rfl⟩ ?_
 refine .ite H rfl (fun H=>?_) (fun H=>?_)
 ·refine .A 6 [] rfl trivial ?_
  refine .R func48 results48 rfl ?_
  cases H
  exact .m rfl (.tupL ⟨.nil 12,.nil 4,.rfl' _,trivial⟩)
 ·obtain ⟨hk2,H⟩:=ck_some H
  refine .A 9 [.i (v0b.length:Int),.i (Int.tdiv (v0b.length:Int) 45)] rfl ⟨OpQ.g (q_quoT rfl rfl hk2),s22.n rfl rfl⟩ ?_
  refine .ite H rfl (fun H=>?_) (fun H=>?_)
  ·refine .A 6 [] rfl trivial ?_
   refine .R func48 results48 rfl ?_
   cases H
   exact .m rfl (.tupL ⟨.nil 12,.nil 4,.rfl' _,trivial⟩)
  ·obtain ⟨hk3,H⟩:=ck_some H
   refine .A 24 [.d (.agg (PackedReader.row (⟨v0b,false⟩:PackedReader))),.r 0,.i (v0b.length:Int),.i (Int.tdiv (v0b.length:Int) 45)] rfl ⟨OpQ.g (q_quoT rfl rfl hk3),s22.n rfl rfl,OpQ.g (q_buildP pl_118 hi118 hz118 rfl rfl)⟩ ?_
   refine .tok (i:=5) (e:=49) (sz:=12) rfl ?_
   refine .tok (i:=6) (e:=64) (sz:=4) rfl ?_
   refine .blockJoin2 (ι:=List Record×List Reject×List UInt8×Bool) (fun ⟨v5outj1,v6noj1,o0c0j1,o0c1j1⟩=>[(5,.tsl 12 (v5outj1.map Record.row) 0),(6,.tsl 4 (v6noj1.map Reject.row) 1)]) (fun ⟨v5outj1,v6noj1,o0c0j1,o0c1j1⟩=>⟨[.row 118 [.d (slOf 1 rB8 o0c0j1),.d (cB o0c1j1)]],[⟨49,12,v5outj1.length,none⟩,⟨64,4,v6noj1.length,none⟩]⟩) (fun s=>f_packed_All_j1 s.1 s.2.1 s.2.2.1 s.2.2.2=some r) ?_ ?_
   ·rintro ⟨v5outj1,v6noj1,o0c0j1,o0c1j1⟩ H
    replace H:f_packed_All_j1 v5outj1 v6noj1 o0c0j1 o0c1j1=some r:=H
    unfold f_packed_All_j1 at H
    refine .A 8 [] rfl trivial ?_
    refine .R func48 results48 rfl ?_
    cases H
    exact .m rfl (.tupL ⟨.tsl _ _ _,.tsl _ _ _,.rfl' _,trivial⟩)
   ·intro hj1 hj1x
    obtain ⟨n1,H⟩:=loop_some H
    refine .loop (ι:=Nat×(List Record×List Reject×Int×List UInt8×Bool)) (fun ⟨_,v5outl1,v6nol1,v25l1,o0c0l1,o0c1l1⟩=>[(5,.tsl 12 (v5outl1.map Record.row) 0),(6,.tsl 4 (v6nol1.map Reject.row) 1),(7,.ref 0 0),(24,.d (cI (Int.tdiv (v0b.length:Int) 45))),(25,.d (cI v25l1))]) (fun ⟨_,v5outl1,v6nol1,v25l1,o0c0l1,o0c1l1⟩=>⟨[.row 118 [.d (slOf 1 rB8 o0c0l1),.d (cB o0c1l1)]],[⟨49,12,v5outl1.length,none⟩,⟨64,4,v6nol1.length,none⟩]⟩) (fun p=>iter (fun s=>f_packed_All_l1 v0b s.1 s.2.1 s.2.2.1 s.2.2.2.1 s.2.2.2.2) p.1 p.2=some r) (·.1) (n1,(([]:List Record),([]:List Reject),0,v0b,false)) H (.cons rfl (.rfl' _) (.cons rfl (.rfl' _) (.cons rfl (.rfl' _) (.cons rfl (.rfl' _) (.cons rfl (.rfl' _) (.nil)))))) rfl ?_
    rintro ⟨m1,v5outl1,v6nol1,v25l1,o0c0l1,o0c1l1⟩ HI ih1
    obtain ⟨n1,q1,hm1,H,HK1⟩:=iter_succ HI
    clear HI
    replace H:f_packed_All_l1 v0b v5outl1 v6nol1 v25l1 o0c0l1 o0c1l1=some q1:=H
    unfold f_packed_All_l1 at H
    refine .A 5 [] rfl trivial ?_
    refine .ite H rfl (fun H=>?_) (fun H=>?_)
    ·obtain ⟨y1,hy1,H⟩:=bind_some' H
     refine .B 11 [] rfl trivial ?_
     refine .callF (en 61 rfl) rfl [0] [] (x:=.d (slOf 1 rB8 y1.1)) (st':=⟨[.row 118 [.d (slOf 1 rB8 y1.2.b),.d (cB y1.2.bad)]],[⟨49,12,v5outl1.length,none⟩,⟨64,4,v6nol1.length,none⟩]⟩) rfl (c_g_packed_reader_field (hy1)) ⟨.rfl' _,.rfl' _,trivial⟩ rfl rfl rfl rfl rfl rfl ?_
     obtain ⟨y2,hy2,H⟩:=bind_some' H
     refine .A 14 [.d (.tup [.agg (Record.row y2.1),cI y2.2]),.r 1] rfl (g_call (en 66 rfl) rfl rfl (c_f_packed_Decode (hy2))) ?_
     refine .ite H rfl (fun H=>?_) (fun H=>?_)
     ·obtain ⟨hk4,H⟩:=ck_some H
      obtain ⟨hk5,H⟩:=ck_some H
      refine .A 15 [.d (.agg (Reject.row (⟨0,0,v25l1,y2.2⟩:Reject))),.d (slOf 4 Reject.row ([(⟨0,0,v25l1,y2.2⟩:Reject)]:List Reject)),.a 1 64 4 Reject.row (v6nol1++([(⟨0,0,v25l1,y2.2⟩:Reject)]:List Reject)),.i (v25l1+1)] rfl ⟨g_addI rfl rfl hk5,s32.a rfl rfl rfl rfl hk4,g_buildSlice1 underlying32 hi64 hs64 hz64 rfl rfl rfl rfl rfl,OpQ.g (q_buildP pl_64 hi64 hz64 rfl rfl)⟩ ?_
      cases H
      exact .t 1 2 (ih1 (n1,(v5outl1,v6nol1++([(⟨0,0,v25l1,y2.2⟩:Reject)]:List Reject),v25l1+1,y1.2.b,y1.2.bad)) HK1 hm1) rfl rfl rfl rfl rfl hS rfl
     ·obtain ⟨hk6,H⟩:=ck_some H
      obtain ⟨hk7,H⟩:=ck_some H
      refine .A 13 [.d (slOf 12 Record.row ([y2.1]:List Record)),.a 0 49 12 Record.row (v5outl1++([y2.1]:List Record)),.i (v25l1+1)] rfl ⟨g_addI rfl rfl hk7,s29.a rfl rfl rfl rfl hk6,g_buildSlice1 underlying29 hi49 hs49 hz49 rfl rfl rfl rfl rfl⟩ ?_
      cases H
      exact .t 1 2 (ih1 (n1,(v5outl1++([y2.1]:List Record),v6nol1,v25l1+1,y1.2.b,y1.2.bad)) HK1 hm1) rfl rfl rfl rfl rfl hS rfl
    ·refine .A 1 [] rfl trivial ?_
     obtain ⟨q0,H9,hq0⟩:=map_some' H; clear H; cases hq0
     cases HK1
     have H:=H9
     exact .z (hj1x (v5outl1,v6nol1,o0c0l1,o0c1l1) H) rfl rfl
theorem c_f_textual_Lines {v0s:List UInt8} {r:(List (List UInt8))×Int} (H:f_textual_Lines v0s=some r):ACall prog 81 [cS v0s] (·=.tup [slOf 1 rS r.1,cI r.2]):=by
 refine ACall.enter' func81 rfl ntmps81 rfl fun S hS=>?_
 unfold f_textual_Lines at H
 refine .A 11 [] rfl trivial ?_
 refine .ite H rfl (fun H=>?_) (fun H=>?_)
 ·refine .A 5 [] rfl trivial ?_
  refine .R func81 results81 rfl ?_
  cases H
  exact .m rfl (.tupL ⟨.nil 1,.rfl' _,trivial⟩)
 ·obtain ⟨y1,hy1,H⟩:=bind_some' H
  refine .A 17 [.d (.tup [cS y1.1,cB y1.2])] rfl (g_call (en 67 rfl) rfl rfl (c_x_CutSuffix (hy1))) ?_
  refine .ite H rfl (fun H=>?_) (fun H=>?_)
  ·refine .A 5 [] rfl trivial ?_
   refine .R func81 results81 rfl ?_
   cases H
   exact .m rfl (.tupL ⟨.nil 1,.rfl' _,trivial⟩)
  ·obtain ⟨y2,hy2,H⟩:=bind_some' H
   refine .A 14 [.d (slOf 1 rS y2),.i (y2.length:Int)] rfl ⟨s109.n rfl rfl,g_call (en 68 rfl) rfl rfl (c_x_Split (hy2))⟩ ?_
   refine .ite H rfl (fun H=>?_) (fun H=>?_)
   ·refine .A 5 [] rfl trivial ?_
    refine .R func81 results81 rfl ?_
    cases H
    exact .m rfl (.tupL ⟨.nil 1,.rfl' _,trivial⟩)
   ·refine .A 7 [] rfl trivial ?_
    refine .R func81 results81 rfl ?_
    cases H
    exact .m rfl (.tupD rfl)
theorem c_f_textual_numeral {v0s:List UInt8} {r:Int×Bool} (H:f_textual_numeral v0s=some r):ACall prog 140 [cS v0s] (·=.tup [cI r.1,cB r.2]):=by
 refine ACall.enter' func140 rfl ntmps140 rfl fun S hS=>?_
 unfold f_textual_numeral at H
 obtain ⟨hk1,H⟩:=ck_some H
 refine .B 22 [.i (v0s.length:Int),.c (nth v0s (Int.toNat (0))),.b ((nth v0s (Int.toNat (0)))==48)] rfl ⟨rfl,rfl,fun hg=>OpQ.g (q8_eql (a:=nth v0s (Int.toNat (0))) (b:=48) rfl rfl),rfl,fun hg=>OpQ.g (q_indexL (i:=0) underlying9 rfl rfl (hk1 hg)),rfl,rfl,rfl,fun hg=>OpQ.g (q_lenS underlying9 rfl),rfl⟩ ?_
 refine .guardG (env':=[(18,_),(20,_)]) rfl rfl rfl ⟨.inr (.inl rfl),⟨.inr (.inr ⟨_,_,rfl,rfl⟩),trivial⟩⟩ rfl (fun hg=>OpQ.g (q_pickAndB rfl rfl rfl)) ?_
 refine .A 2 [] rfl rfl ?_
 refine .ite H rfl (fun H=>?_) (fun H=>?_)
 ·refine .A 5 [] rfl trivial ?_
  refine .R func140 results140 rfl ?_
  cases H
  exact .m rfl (.tupD rfl)
 ·refine .A 12 [.v (.ref 0 0) ⟨[.raw (.stringIter ⟨v0s.toArray⟩ 0)],[]⟩] rfl (.e (v_range (l:=v0s) underlying9 rfl) rfl) ?_
  obtain ⟨n1,H⟩:=loop_some H
  refine .loop (ι:=Nat×(Int×Nat)) (fun ⟨_,v4nl1,o0c0l1⟩=>[(4,.d (cI v4nl1)),(24,.ref 0 0)]) (fun ⟨_,v4nl1,o0c0l1⟩=>⟨[.raw (.stringIter ⟨v0s.toArray⟩ o0c0l1)],[]⟩) (fun p=>iter (fun s=>f_textual_numeral_l1 v0s s.1 s.2) p.1 p.2=some r) (·.1) (n1,(0,0)) H (.cons rfl (.rfl' _) (.cons rfl (.rfl' _) (.nil))) rfl ?_
  rintro ⟨m1,v4nl1,o0c0l1⟩ HI ih1
  obtain ⟨n1,q1,hm1,H,HK1⟩:=iter_succ HI
  clear HI
  replace H:f_textual_numeral_l1 v0s v4nl1 o0c0l1=some q1:=H
  unfold f_textual_numeral_l1 at H
  refine .A 6 [.v (.d (nextD v0s o0c0l1)) ⟨[.raw (.stringIter ⟨v0s.toArray⟩ (nextP v0s o0c0l1))],[]⟩,.f 3 (.d (cB (decide (o0c0l1 < v0s.length))))] rfl ⟨OpQ.g (q_nextOk (l:=v0s) rfl),.e (v_next (l:=v0s) rfl rfl) rfl⟩ ?_
  refine .ite H rfl (fun H=>?_) (fun H=>?_)
  ·obtain ⟨hk2,H⟩:=ck_some H
   refine .A 17 [.f 13 (.d (cK .i32 ((runeAt v0s o0c0l1).1:Int)))] rfl ⟨rfl,rfl,OpQ.g (q_nextRune (l:=v0s) hk2 rfl)⟩ ?_
   refine .ite H rfl (fun H=>?_) (fun H=>?_)
   ·refine .A 5 [] rfl trivial ?_
    refine .R func140 results140 rfl ?_
    cases H
    cases HK1
    exact .m rfl (.tupD rfl)
   ·obtain ⟨hk3,H⟩:=ck_some H
    obtain ⟨hk4,H⟩:=ck_some H
    refine .A 11 [.i (10*v4nl1),.d (cK .i32 (IntKind.wrap .i32 (((runeAt v0s o0c0l1).1:Int) - 48))),.i (IntKind.wrap .i64 (IntKind.wrap .i32 (((runeAt v0s o0c0l1).1:Int) - 48))),.i ((10*v4nl1)+(IntKind.wrap .i64 (IntKind.wrap .i32 (((runeAt v0s o0c0l1).1:Int) - 48))))] rfl ⟨g_addI rfl rfl hk4,OpQ.g (q_conv underlying21 underlying3 rfl rfl),OpQ.g (q_sub rfl rfl rfl),g_mulI rfl rfl hk3⟩ ?_
    cases H
    exact .z (ih1 (n1,((10*v4nl1)+(IntKind.wrap .i64 (IntKind.wrap .i32 (((runeAt v0s o0c0l1).1:Int) - 48))),nextP v0s o0c0l1)) HK1 hm1) rfl rfl
  ·refine .A 7 [] rfl trivial ?_
   refine .R func140 results140 rfl ?_
   cases H
   cases HK1
   exact .m rfl (.tupD rfl)
theorem c_g_textual_reader_word {o0c0p:TextualReader} {r:(List UInt8)×TextualReader} (H:g_textual_reader_word o0c0p=some r):ACallS prog 117 [.ref 0 0] ⟨[.row 149 [.d (slOf 1 rS o0c0p.words),.d (cB o0c0p.bad)]],[]⟩ (QE (.d (cS r.1)) ⟨[.row 149 [.d (slOf 1 rS r.2.words),.d (cB r.2.bad)]],[]⟩):=by
 obtain ⟨i9,hi9,hz9,hs9,hb9⟩:=in_9
 refine ACallS.keep ?_
 refine ACallS.enter func117 rfl ntmps117 rfl fun S hS=>?_
 unfold g_textual_reader_word at H
 obtain ⟨hk1,H⟩:=ck_some H
 refine .A 23 [.i (o0c0p.words.length:Int),.d (.ro (rS (nth o0c0p.words (Int.toNat (0)))))] rfl ⟨rfl,rfl,rfl,fun hg=>s109.ix rfl rfl rfl (hk1 hg),rfl,rfl,rfl,rfl,s109.n rfl rfl⟩ ?_
 refine .ite H rfl (fun H=>?_) (fun H=>?_)
 ·refine .A 11 [] rfl trivial ?_
  refine .R func117 results117 rfl ?_
  cases H
  exact ⟨[0],[],rfl,rfl,rfl,rfl,rfl,rfl,rfl,rfl,.rfl' _⟩
 ·obtain ⟨hk2,H⟩:=ck_some H
  obtain ⟨hk3,H⟩:=ck_some H
  refine .A 28 [.d (.ro (rS (nth o0c0p.words (Int.toNat (0))))),.d (slOf 1 rS (o0c0p.words.drop ((1:Int)).toNat))] rfl ⟨OpQ.g (q_slLL (l:=o0c0p.words) (row:=rS) underlying109 hi9 hs9 rfl rfl rfl hk3),s109.ix rfl rfl rfl hk2⟩ ?_
  refine .R func117 results117 rfl ?_
  cases H
  exact ⟨[0],[],rfl,rfl,rfl,rfl,rfl,rfl,rfl,rfl,.rfl' _⟩
theorem c_g_textual_reader_number {o0c0p:TextualReader} {r:Int×TextualReader} (H:g_textual_reader_number o0c0p=some r):ACallS prog 119 [.ref 0 0] ⟨[.row 149 [.d (slOf 1 rS o0c0p.words),.d (cB o0c0p.bad)]],[]⟩ (QE (.d (cI r.1)) ⟨[.row 149 [.d (slOf 1 rS r.2.words),.d (cB r.2.bad)]],[]⟩):=by
 refine ACallS.keep ?_
 refine ACallS.enter func119 rfl ntmps119 rfl fun S hS=>?_
 unfold g_textual_reader_number at H
 obtain ⟨y1,hy1,H⟩:=bind_some' H
 refine .B 7 [] rfl trivial ?_
 refine .callF (en 69 rfl) rfl [0] [] (x:=.d (cS y1.1)) (st':=⟨[.row 149 [.d (slOf 1 rS y1.2.words),.d (cB y1.2.bad)]],[]⟩) rfl (c_g_textual_reader_word (hy1)) ⟨.rfl' _,trivial⟩ rfl rfl rfl rfl rfl rfl ?_
 obtain ⟨y2,hy2,H⟩:=bind_some' H
 refine .A 27 [.d (.tup [cI y2.1,cB y2.2])] rfl ⟨rfl,rfl,g_call (en 70 rfl) rfl rfl (c_f_textual_numeral (hy2))⟩ ?_
 refine .R func119 results119 rfl ?_
 cases H
 exact ⟨[0],[],rfl,rfl,rfl,rfl,rfl,rfl,rfl,rfl,.rfl' _⟩
theorem c_g_textual_reader_next {v1s:List UInt8} {o0c0p:TextualReader} {r:Bool×TextualReader} (H:g_textual_reader_next v1s o0c0p=some r):ACallS prog 120 [.ref 0 0,.d (cS v1s)] ⟨[.row 149 [.d (slOf 1 rS o0c0p.words),.d (cB o0c0p.bad)]],[]⟩ (QE (.d (cB r.1)) ⟨[.row 149 [.d (slOf 1 rS r.2.words),.d (cB r.2.bad)]],[]⟩):=by
 obtain ⟨i9,hi9,hz9,hs9,hb9⟩:=in_9
 refine ACallS.keep ?_
 refine ACallS.enter func120 rfl ntmps120 rfl fun S hS=>?_
 unfold g_textual_reader_next at H
 obtain ⟨hk1,H⟩:=ck_some H
 refine .A 24 [.i (o0c0p.words.length:Int),.d (.ro (rS (nth o0c0p.words (Int.toNat (0)))))] rfl ⟨rfl,rfl,rfl,rfl,fun hg=>s109.ix rfl rfl rfl (hk1 hg),rfl,rfl,rfl,rfl,s109.n rfl rfl⟩ ?_
 refine .ite H rfl (fun H=>?_) (fun H=>?_)
 ·refine .A 4 [] rfl trivial ?_
  refine .R func120 results120 rfl ?_
  cases H
  exact ⟨[0],[],rfl,rfl,rfl,rfl,rfl,rfl,rfl,rfl,.rfl' _⟩
 ·obtain ⟨hk2,H⟩:=ck_some H
  refine .A 17 [.d (slOf 1 rS (o0c0p.words.drop ((1:Int)).toNat))] rfl (OpQ.g (q_slLL (l:=o0c0p.words) (row:=rS) underlying109 hi9 hs9 rfl rfl rfl hk2)) ?_
  refine .R func120 results120 rfl ?_
  cases H
  exact ⟨[0],[],rfl,rfl,rfl,rfl,rfl,rfl,rfl,rfl,.rfl' _⟩
theorem c_f_textual_Decode {v0:List UInt8} {r:Record×Int} (H:f_textual_Decode v0=some r):ACall prog 82 [cS v0] (·=.tup [.agg (Record.row r.1),cI r.2]):=by
 obtain ⟨i49,hi49,hz49,hs49,hb49⟩:=in_49
 obtain ⟨i149,hi149,hz149,hs149,hb149⟩:=in_149
 refine ACall.enter' func82 rfl ntmps82 rfl fun S hS=>?_
 unfold f_textual_Decode at H
 obtain ⟨y1,hy1,H⟩:=bind_some' H
 obtain ⟨y2,hy2,H⟩:=bind_some' H
 refine .B 20 [.r 0,.d (slOf 1 rS y1),.d (.agg (TextualReader.row (⟨y1,false⟩:TextualReader))),.r 1,.r 2] rfl ⟨OpQ.g (q_buildP pl_149 hi149 hz149 rfl rfl),g_call (en 68 rfl) rfl rfl (c_x_Split (hy1))⟩ ?_
 refine .callF (en 69 rfl) rfl [1] [] (x:=.d (cS y2.1)) (st':=⟨[.row 49 [.d (cI 0),.d (cI 0),.d (cI 0),.d (cS ([]:List UInt8)),.d (cS ([]:List UInt8)),.d (cI 0),.d (cI 0),.d (cI 0),.d (cI 0),.d (cB false),.d (cI 0),.d (cB false)],.row 149 [.d (slOf 1 rS y2.2.words),.d (cB y2.2.bad)],.row 49 [.d (cI 0),.d (cI 0),.d (cI 0),.d (cS ([]:List UInt8)),.d (cS ([]:List UInt8)),.d (cI 0),.d (cI 0),.d (cI 0),.d (cI 0),.d (cB false),.d (cI 0),.d (cB false)]],[]⟩) rfl (c_g_textual_reader_word (hy2)) ⟨.rfl' _,trivial⟩ rfl rfl rfl rfl rfl rfl ?_
 obtain ⟨y3,hy3,H⟩:=bind_some' H
 obtain ⟨hk1,H⟩:=ck_some H
 obtain ⟨y4,hy4,H⟩:=bind_some' H
 refine .B 13 [.i y3,.i (1+y3)] rfl ⟨g_addI rfl rfl hk1,g_call (en 71 rfl) rfl rfl (c_x_Index (hy3))⟩ ?_
 refine .callF (en 72 rfl) rfl [1] [] (x:=.d (cI y4.1)) (st':=⟨[.row 49 [.d (cI 0),.d (cI 0),.d (cI 0),.d (cS ([]:List UInt8)),.d (cS ([]:List UInt8)),.d (cI 0),.d (cI 0),.d (cI 0),.d (cI 0),.d (cB false),.d (cI 0),.d (cB false)],.row 149 [.d (slOf 1 rS y4.2.words),.d (cB y4.2.bad)],.row 49 [.d (cI 0),.d (cI 0),.d (cI (1+y3)),.d (cS ([]:List UInt8)),.d (cS ([]:List UInt8)),.d (cI 0),.d (cI 0),.d (cI 0),.d (cI 0),.d (cB false),.d (cI 0),.d (cB false)]],[]⟩) rfl (c_g_textual_reader_number (hy4)) ⟨.rfl' _,trivial⟩ rfl rfl rfl rfl rfl rfl ?_
 obtain ⟨y5,hy5,H⟩:=bind_some' H
 refine .B 6 [] rfl trivial ?_
 refine .callF (en 72 rfl) rfl [1] [] (x:=.d (cI y5.1)) (st':=⟨[.row 49 [.d (cI 0),.d (cI 0),.d (cI 0),.d (cS ([]:List UInt8)),.d (cS ([]:List UInt8)),.d (cI 0),.d (cI 0),.d (cI 0),.d (cI 0),.d (cB false),.d (cI 0),.d (cB false)],.row 149 [.d (slOf 1 rS y5.2.words),.d (cB y5.2.bad)],.row 49 [.d (cI y4.1),.d (cI 0),.d (cI (1+y3)),.d (cS ([]:List UInt8)),.d (cS ([]:List UInt8)),.d (cI 0),.d (cI 0),.d (cI 0),.d (cI 0),.d (cB false),.d (cI 0),.d (cB false)]],[]⟩) rfl (c_g_textual_reader_number (hy5)) ⟨.rfl' _,trivial⟩ rfl rfl rfl rfl rfl rfl ?_
 obtain ⟨y6,hy6,H⟩:=bind_some' H
 refine .B 6 [] rfl trivial ?_
 refine .callF (en 69 rfl) rfl [1] [] (x:=.d (cS y6.1)) (st':=⟨[.row 49 [.d (cI 0),.d (cI 0),.d (cI 0),.d (cS ([]:List UInt8)),.d (cS ([]:List UInt8)),.d (cI 0),.d (cI 0),.d (cI 0),.d (cI 0),.d (cB false),.d (cI 0),.d (cB false)],.row 149 [.d (slOf 1 rS y6.2.words),.d (cB y6.2.bad)],.row 49 [.d (cI y4.1),.d (cI y5.1),.d (cI (1+y3)),.d (cS ([]:List UInt8)),.d (cS ([]:List UInt8)),.d (cI 0),.d (cI 0),.d (cI 0),.d (cI 0),.d (cB false),.d (cI 0),.d (cB false)]],[]⟩) rfl (c_g_textual_reader_word (hy6)) ⟨.rfl' _,trivial⟩ rfl rfl rfl rfl rfl rfl ?_
 obtain ⟨y7,hy7,H⟩:=bind_some' H
 refine .B 6 [] rfl trivial ?_
 refine .callF (en 69 rfl) rfl [1] [] (x:=.d (cS y7.1)) (st':=⟨[.row 49 [.d (cI 0),.d (cI 0),.d (cI 0),.d (cS ([]:List UInt8)),.d (cS ([]:List UInt8)),.d (cI 0),.d (cI 0),.d (cI 0),.d (cI 0),.d (cB false),.d (cI 0),.d (cB false)],.row 149 [.d (slOf 1 rS y7.2.words),.d (cB y7.2.bad)],.row 49 [.d (cI y4.1),.d (cI y5.1),.d (cI (1+y3)),.d (cS y6.1),.d (cS ([]:List UInt8)),.d (cI 0),.d (cI 0),.d (cI 0),.d (cI 0),.d (cB false),.d (cI 0),.d (cB false)]],[]⟩) rfl (c_g_textual_reader_word (hy7)) ⟨.rfl' _,trivial⟩ rfl rfl rfl rfl rfl rfl ?_
 obtain ⟨y8,hy8,H⟩:=bind_some' H
 refine .B 6 [] rfl trivial ?_
 refine .callF (en 72 rfl) rfl [1] [] (x:=.d (cI y8.1)) (st':=⟨[.row 49 [.d (cI 0),.d (cI 0),.d (cI 0),.d (cS ([]:List UInt8)),.d (cS ([]:List UInt8)),.d (cI 0),.d (cI 0),.d (cI 0),.d (cI 0),.d (cB false),.d (cI 0),.d (cB false)],.row 149 [.d (slOf 1 rS y8.2.words),.d (cB y8.2.bad)],.row 49 [.d (cI y4.1),.d (cI y5.1),.d (cI (1+y3)),.d (cS y6.1),.d (cS y7.1),.d (cI 0),.d (cI 0),.d (cI 0),.d (cI 0),.d (cB false),.d (cI 0),.d (cB false)]],[]⟩) rfl (c_g_textual_reader_number (hy8)) ⟨.rfl' _,trivial⟩ rfl rfl rfl rfl rfl rfl ?_
 obtain ⟨y9,hy9,H⟩:=bind_some' H
 refine .B 6 [] rfl trivial ?_
 refine .callF (en 72 rfl) rfl [1] [] (x:=.d (cI y9.1)) (st':=⟨[.row 49 [.d (cI 0),.d (cI 0),.d (cI 0),.d (cS ([]:List UInt8)),.d (cS ([]:List UInt8)),.d (cI 0),.d (cI 0),.d (cI 0),.d (cI 0),.d (cB false),.d (cI 0),.d (cB false)],.row 149 [.d (slOf 1 rS y9.2.words),.d (cB y9.2.bad)],.row 49 [.d (cI y4.1),.d (cI y5.1),.d (cI (1+y3)),.d (cS y6.1),.d (cS y7.1),.d (cI y8.1),.d (cI 0),.d (cI 0),.d (cI 0),.d (cB false),.d (cI 0),.d (cB false)]],[]⟩) rfl (c_g_textual_reader_number (hy9)) ⟨.rfl' _,trivial⟩ rfl rfl rfl rfl rfl rfl ?_
 refine .A 3 [] rfl trivial ?_
 refine .seqJoin (ι:=List UInt8) (fun o2c4j1=>[(0,.d (cS v0)),(2,.ref 0 0),(4,.ref 1 0),(5,.ref 2 0),(6,.d (cS y2.1))]) (fun o2c4j1=>⟨[.row 49 [.d (cI 0),.d (cI 0),.d (cI 0),.d (cS ([]:List UInt8)),.d (cS ([]:List UInt8)),.d (cI 0),.d (cI 0),.d (cI 0),.d (cI 0),.d (cB false),.d (cI 0),.d (cB false)],.row 149 [.d (slOf 1 rS y9.2.words),.d (cB y9.2.bad)],.row 49 [.d (cI y4.1),.d (cI y5.1),.d (cI (1+y3)),.d (cS y6.1),.d (cS o2c4j1),.d (cI y8.1),.d (cI y9.1),.d (cI 0),.d (cI 0),.d (cB false),.d (cI 0),.d (cB false)]],[]⟩) (fun s=>f_textual_Decode_j1 v0 y2 y3 y4 y5 y6 y8 y9 s=some r) ?_ ?_
 ·rintro o2c4j1 H
  replace H:f_textual_Decode_j1 v0 y2 y3 y4 y5 y6 y8 y9 o2c4j1=some r:=H
  unfold f_textual_Decode_j1 at H
  refine .seqJoin (ι:=List (List UInt8)×Bool×Int×Int×Bool) (fun ⟨o1c0j2,o1c1j2,o2c7j2,o2c8j2,o2c9j2⟩=>[(0,.d (cS v0)),(2,.ref 0 0),(4,.ref 1 0),(5,.ref 2 0),(6,.d (cS y2.1))]) (fun ⟨o1c0j2,o1c1j2,o2c7j2,o2c8j2,o2c9j2⟩=>⟨[.row 49 [.d (cI 0),.d (cI 0),.d (cI 0),.d (cS ([]:List UInt8)),.d (cS ([]:List UInt8)),.d (cI 0),.d (cI 0),.d (cI 0),.d (cI 0),.d (cB false),.d (cI 0),.d (cB false)],.row 149 [.d (slOf 1 rS o1c0j2),.d (cB o1c1j2)],.row 49 [.d (cI y4.1),.d (cI y5.1),.d (cI (1+y3)),.d (cS y6.1),.d (cS o2c4j1),.d (cI y8.1),.d (cI y9.1),.d (cI o2c7j2),.d (cI o2c8j2),.d (cB o2c9j2),.d (cI 0),.d (cB false)]],[]⟩) (fun s=>f_textual_Decode_j2 v0 y2 y3 y4 y5 y6 y8 y9 o2c4j1 s.1 s.2.1 s.2.2.1 s.2.2.2.1 s.2.2.2.2=some r) ?_ ?_
  ·rintro ⟨o1c0j2,o1c1j2,o2c7j2,o2c8j2,o2c9j2⟩ H
   replace H:f_textual_Decode_j2 v0 y2 y3 y4 y5 y6 y8 y9 o2c4j1 o1c0j2 o1c1j2 o2c7j2 o2c8j2 o2c9j2=some r:=H
   unfold f_textual_Decode_j2 at H
   refine .seqJoin (ι:=List (List UInt8)×Bool×Int×Bool) (fun ⟨o1c0j3,o1c1j3,o2c10j3,o2c11j3⟩=>[(0,.d (cS v0)),(2,.ref 0 0),(4,.ref 1 0),(5,.ref 2 0),(6,.d (cS y2.1))]) (fun ⟨o1c0j3,o1c1j3,o2c10j3,o2c11j3⟩=>⟨[.row 49 [.d (cI 0),.d (cI 0),.d (cI 0),.d (cS ([]:List UInt8)),.d (cS ([]:List UInt8)),.d (cI 0),.d (cI 0),.d (cI 0),.d (cI 0),.d (cB false),.d (cI 0),.d (cB false)],.row 149 [.d (slOf 1 rS o1c0j3),.d (cB o1c1j3)],.row 49 [.d (cI y4.1),.d (cI y5.1),.d (cI (1+y3)),.d (cS y6.1),.d (cS o2c4j1),.d (cI y8.1),.d (cI y9.1),.d (cI o2c7j2),.d (cI o2c8j2),.d (cB o2c9j2),.d (cI o2c10j3),.d (cB o2c11j3)]],[]⟩) (fun s=>f_textual_Decode_j3 v0 y2 y3 y4 y5 y6 y8 y9 o2c4j1 o2c7j2 o2c8j2 o2c9j2 s.1 s.2.1 s.2.2.1 s.2.2.2=some r) ?_ ?_
   ·rintro ⟨o1c0j3,o1c1j3,o2c10j3,o2c11j3⟩ H
    replace H:f_textual_Decode_j3 v0 y2 y3 y4 y5 y6 y8 y9 o2c4j1 o2c7j2 o2c8j2 o2c9j2 o1c0j3 o1c1j3 o2c10j3 o2c11j3=some r:=H
    unfold f_textual_Decode_j3 at H
    refine .A 26 [.i (y2.1.length:Int),.i (o1c0j3.length:Int)] rfl ⟨rfl,rfl,fun hg=>s109.n rfl rfl,rfl,rfl,rfl,rfl,rfl,rfl,rfl,rfl,rfl,fun hg=>OpQ.g (q_lenS underlying9 rfl),rfl⟩ ?_
    refine .ite H rfl (fun H=>?_) (fun H=>?_)
    ·refine .A 6 [.d (.agg (Record.row (⟨0,0,0,([]:List UInt8),([]:List UInt8),0,0,0,0,false,0,false⟩:Record)))] rfl (OpQ.g (q_buildP pl_49 hi49 hz49 rfl rfl)) ?_
     refine .R func82 results82 rfl ?_
     cases H
     exact .m rfl (.tupD rfl)
    ·obtain ⟨y10,hy10,H⟩:=bind_some' H
     refine .A 11 [.d (.tup [cS y10.1,cI y10.2])] rfl (g_call (en 9 rfl) rfl rfl (c_f_textual_Encode (hy10))) ?_
     refine .seqJoin (ι:=Int) (fun v8j4=>[(2,.ref 0 0),(5,.ref 2 0),(8,.d (cI v8j4))]) (fun v8j4=>⟨[.row 49 [.d (cI 0),.d (cI 0),.d (cI 0),.d (cS ([]:List UInt8)),.d (cS ([]:List UInt8)),.d (cI 0),.d (cI 0),.d (cI 0),.d (cI 0),.d (cB false),.d (cI 0),.d (cB false)],.row 149 [.d (slOf 1 rS o1c0j3),.d (cB o1c1j3)],.row 49 [.d (cI y4.1),.d (cI y5.1),.d (cI (1+y3)),.d (cS y6.1),.d (cS o2c4j1),.d (cI y8.1),.d (cI y9.1),.d (cI o2c7j2),.d (cI o2c8j2),.d (cB o2c9j2),.d (cI o2c10j3),.d (cB o2c11j3)]],[]⟩) (fun s=>f_textual_Decode_j4 y3 y4 y5 y6 y8 y9 o2c4j1 o2c7j2 o2c8j2 o2c9j2 o2c10j3 o2c11j3 s=some r) ?_ ?_
     ·rintro v8j4 H
      replace H:f_textual_Decode_j4 y3 y4 y5 y6 y8 y9 o2c4j1 o2c7j2 o2c8j2 o2c9j2 o2c10j3 o2c11j3 v8j4=some r:=H
      unfold f_textual_Decode_j4 at H
      refine .A 6 [] rfl trivial ?_
      refine .ite H rfl (fun H=>?_) (fun H=>?_)
      ·refine .A 7 [.d (.agg (Record.row (⟨0,0,0,([]:List UInt8),([]:List UInt8),0,0,0,0,false,0,false⟩:Record)))] rfl (OpQ.g (q_buildP pl_49 hi49 hz49 rfl rfl)) ?_
       refine .R func82 results82 rfl ?_
       cases H
       exact .m rfl (.tupD rfl)
      ·refine .A 7 [] rfl trivial ?_
       refine .R func82 results82 rfl ?_
       cases H
       exact .m rfl (.tupD rfl)
     ·intro hj4
      refine .A 10 [] rfl ⟨rfl,rfl,rfl⟩ ?_
      refine .ite H rfl (fun H=>?_) (fun H=>?_)
      ·refine .A 3 [] rfl trivial ?_
       exact .z (hj4 1 H) rfl rfl
      ·refine .A 1 [] rfl trivial ?_
       exact .z (hj4 y10.2 H) rfl rfl
   ·intro hj3
    obtain ⟨y11,hy11,H⟩:=bind_some' H
    refine .B 3 [] rfl trivial ?_
    refine .callF (en 73 rfl) rfl [1] [] (x:=.d (cB y11.1)) (st':=⟨[.row 49 [.d (cI 0),.d (cI 0),.d (cI 0),.d (cS ([]:List UInt8)),.d (cS ([]:List UInt8)),.d (cI 0),.d (cI 0),.d (cI 0),.d (cI 0),.d (cB false),.d (cI 0),.d (cB false)],.row 149 [.d (slOf 1 rS y11.2.words),.d (cB y11.2.bad)],.row 49 [.d (cI y4.1),.d (cI y5.1),.d (cI (1+y3)),.d (cS y6.1),.d (cS o2c4j1),.d (cI y8.1),.d (cI y9.1),.d (cI o2c7j2),.d (cI o2c8j2),.d (cB o2c9j2),.d (cI 0),.d (cB false)]],[]⟩) rfl (c_g_textual_reader_next (hy11)) ⟨.rfl' _,.rfl' _,trivial⟩ rfl rfl rfl rfl rfl rfl ?_
    refine .A 1 [] rfl trivial ?_
    refine .ite H rfl (fun H=>?_) (fun H=>?_)
    ·obtain ⟨y12,hy12,H⟩:=bind_some' H
     refine .B 7 [] rfl trivial ?_
     refine .callF (en 72 rfl) rfl [1] [] (x:=.d (cI y12.1)) (st':=⟨[.row 49 [.d (cI 0),.d (cI 0),.d (cI 0),.d (cS ([]:List UInt8)),.d (cS ([]:List UInt8)),.d (cI 0),.d (cI 0),.d (cI 0),.d (cI 0),.d (cB false),.d (cI 0),.d (cB false)],.row 149 [.d (slOf 1 rS y12.2.words),.d (cB y12.2.bad)],.row 49 [.d (cI y4.1),.d (cI y5.1),.d (cI (1+y3)),.d (cS y6.1),.d (cS o2c4j1),.d (cI y8.1),.d (cI y9.1),.d (cI o2c7j2),.d (cI o2c8j2),.d (cB o2c9j2),.d (cI 0),.d (cB true)]],[]⟩) rfl (c_g_textual_reader_number (hy12)) ⟨.rfl' _,trivial⟩ rfl rfl rfl rfl rfl rfl ?_
     refine .A 3 [] rfl trivial ?_
     exact .z (hj3 (y12.2.words,y12.2.bad,y12.1,true) H) rfl rfl
    ·obtain ⟨y13,hy13,H⟩:=bind_some' H
     refine .B 3 [] rfl trivial ?_
     refine .callF (en 73 rfl) rfl [1] [] (x:=.d (cB y13.1)) (st':=⟨[.row 49 [.d (cI 0),.d (cI 0),.d (cI 0),.d (cS ([]:List UInt8)),.d (cS ([]:List UInt8)),.d (cI 0),.d (cI 0),.d (cI 0),.d (cI 0),.d (cB false),.d (cI 0),.d (cB false)],.row 149 [.d (slOf 1 rS y13.2.words),.d (cB y13.2.bad)],.row 49 [.d (cI y4.1),.d (cI y5.1),.d (cI (1+y3)),.d (cS y6.1),.d (cS o2c4j1),.d (cI y8.1),.d (cI y9.1),.d (cI o2c7j2),.d (cI o2c8j2),.d (cB o2c9j2),.d (cI 0),.d (cB false)]],[]⟩) rfl (c_g_textual_reader_next (hy13)) ⟨.rfl' _,.rfl' _,trivial⟩ rfl rfl rfl rfl rfl rfl ?_
     refine .A 1 [] rfl trivial ?_
     refine .ite H rfl (fun H=>?_) (fun H=>?_)
     ·obtain ⟨y14,hy14,H⟩:=bind_some' H
      refine .B 2 [] rfl trivial ?_
      refine .callF (en 72 rfl) rfl [1] [] (x:=.d (cI y14.1)) (st':=⟨[.row 49 [.d (cI 0),.d (cI 0),.d (cI 0),.d (cS ([]:List UInt8)),.d (cS ([]:List UInt8)),.d (cI 0),.d (cI 0),.d (cI 0),.d (cI 0),.d (cB false),.d (cI 0),.d (cB false)],.row 149 [.d (slOf 1 rS y14.2.words),.d (cB y14.2.bad)],.row 49 [.d (cI y4.1),.d (cI y5.1),.d (cI (1+y3)),.d (cS y6.1),.d (cS o2c4j1),.d (cI y8.1),.d (cI y9.1),.d (cI o2c7j2),.d (cI o2c8j2),.d (cB o2c9j2),.d (cI 0),.d (cB false)]],[]⟩) rfl (c_g_textual_reader_number (hy14)) ⟨.rfl' _,trivial⟩ rfl rfl rfl rfl rfl rfl ?_
      refine .A 3 [] rfl trivial ?_
      exact .z (hj3 (y14.2.words,y14.2.bad,y14.1,false) H) rfl rfl
     ·refine .A 1 [] rfl trivial ?_
      exact .z (hj3 (y13.2.words,y13.2.bad,0,false) H) rfl rfl
  ·intro hj2
   obtain ⟨y15,hy15,H⟩:=bind_some' H
   refine .B 3 [] rfl trivial ?_
   refine .callF (en 73 rfl) rfl [1] [] (x:=.d (cB y15.1)) (st':=⟨[.row 49 [.d (cI 0),.d (cI 0),.d (cI 0),.d (cS ([]:List UInt8)),.d (cS ([]:List UInt8)),.d (cI 0),.d (cI 0),.d (cI 0),.d (cI 0),.d (cB false),.d (cI 0),.d (cB false)],.row 149 [.d (slOf 1 rS y15.2.words),.d (cB y15.2.bad)],.row 49 [.d (cI y4.1),.d (cI y5.1),.d (cI (1+y3)),.d (cS y6.1),.d (cS o2c4j1),.d (cI y8.1),.d (cI y9.1),.d (cI 0),.d (cI 0),.d (cB false),.d (cI 0),.d (cB false)]],[]⟩) rfl (c_g_textual_reader_next (hy15)) ⟨.rfl' _,.rfl' _,trivial⟩ rfl rfl rfl rfl rfl rfl ?_
   refine .A 1 [] rfl trivial ?_
   refine .ite H rfl (fun H=>?_) (fun H=>?_)
   ·obtain ⟨y16,hy16,H⟩:=bind_some' H
    refine .B 3 [] rfl trivial ?_
    refine .callF (en 72 rfl) rfl [1] [] (x:=.d (cI y16.1)) (st':=⟨[.row 49 [.d (cI 0),.d (cI 0),.d (cI 0),.d (cS ([]:List UInt8)),.d (cS ([]:List UInt8)),.d (cI 0),.d (cI 0),.d (cI 0),.d (cI 0),.d (cB false),.d (cI 0),.d (cB false)],.row 149 [.d (slOf 1 rS y16.2.words),.d (cB y16.2.bad)],.row 49 [.d (cI y4.1),.d (cI y5.1),.d (cI (1+y3)),.d (cS y6.1),.d (cS o2c4j1),.d (cI y8.1),.d (cI y9.1),.d (cI 0),.d (cI 0),.d (cB false),.d (cI 0),.d (cB false)]],[]⟩) rfl (c_g_textual_reader_number (hy16)) ⟨.rfl' _,trivial⟩ rfl rfl rfl rfl rfl rfl ?_
    obtain ⟨y17,hy17,H⟩:=bind_some' H
    refine .B 6 [] rfl trivial ?_
    refine .callF (en 72 rfl) rfl [1] [] (x:=.d (cI y17.1)) (st':=⟨[.row 49 [.d (cI 0),.d (cI 0),.d (cI 0),.d (cS ([]:List UInt8)),.d (cS ([]:List UInt8)),.d (cI 0),.d (cI 0),.d (cI 0),.d (cI 0),.d (cB false),.d (cI 0),.d (cB false)],.row 149 [.d (slOf 1 rS y17.2.words),.d (cB y17.2.bad)],.row 49 [.d (cI y4.1),.d (cI y5.1),.d (cI (1+y3)),.d (cS y6.1),.d (cS o2c4j1),.d (cI y8.1),.d (cI y9.1),.d (cI y16.1),.d (cI 0),.d (cB false),.d (cI 0),.d (cB false)]],[]⟩) rfl (c_g_textual_reader_number (hy17)) ⟨.rfl' _,trivial⟩ rfl rfl rfl rfl rfl rfl ?_
    obtain ⟨y18,hy18,H⟩:=bind_some' H
    refine .B 5 [] rfl trivial ?_
    refine .callF (en 73 rfl) rfl [1] [] (x:=.d (cB y18.1)) (st':=⟨[.row 49 [.d (cI 0),.d (cI 0),.d (cI 0),.d (cS ([]:List UInt8)),.d (cS ([]:List UInt8)),.d (cI 0),.d (cI 0),.d (cI 0),.d (cI 0),.d (cB false),.d (cI 0),.d (cB false)],.row 149 [.d (slOf 1 rS y18.2.words),.d (cB y18.2.bad)],.row 49 [.d (cI y4.1),.d (cI y5.1),.d (cI (1+y3)),.d (cS y6.1),.d (cS o2c4j1),.d (cI y8.1),.d (cI y9.1),.d (cI y16.1),.d (cI y17.1),.d (cB false),.d (cI 0),.d (cB false)]],[]⟩) rfl (c_g_textual_reader_next (hy18)) ⟨.rfl' _,.rfl' _,trivial⟩ rfl rfl rfl rfl rfl rfl ?_
    refine .A 3 [] rfl trivial ?_
    exact .z (hj2 (y18.2.words,y18.2.bad,y16.1,y17.1,y18.1) H) rfl rfl
   ·refine .A 1 [] rfl trivial ?_
    exact .z (hj2 (y15.2.words,y15.2.bad,0,0,false) H) rfl rfl
 ·intro hj1
  refine .A 6 [] rfl trivial ?_
  refine .ite H rfl (fun H=>?_) (fun H=>?_)
  ·refine .A 4 [] rfl trivial ?_
   exact .z (hj1 ([]:List UInt8) H) rfl rfl
  ·refine .A 1 [] rfl trivial ?_
   exact .z (hj1 y7.1 H) rfl rfl
set_option maxRecDepth 100000
set_option maxHeartbeats 1000000
theorem c_f_textual_All {v0s:List UInt8} {r:(List Record)×(List Reject)×Int} (H:f_textual_All v0s=some r):ACall prog 49 [cS v0s] (·=.tup [slOf 12 Record.row r.1,slOf 4 Reject.row r.2.1,cI r.2.2]):=by
 obtain ⟨i49,hi49,hz49,hs49,hb49⟩:=in_49
 obtain ⟨i64,hi64,hz64,hs64,hb64⟩:=in_64
 refine ACall.enter' func49 rfl ntmps49 rfl fun S hS=>?_
 unfold f_textual_All at H
 obtain ⟨y1,hy1,H⟩:=bind_some' H
 refine .A 22 [.d (.tup [slOf 1 rS y1.1,cI y1.2])] rfl (g_call (en 74 rfl) rfl rfl (c_f_textual_Lines (hy1))) ?_
 refine .ite H rfl (fun H=>?_) (fun H=>?_)
 ·refine .A 7 [] rfl trivial ?_
  refine .R func49 results49 rfl ?_
  cases H
  exact .m rfl (.tupL ⟨.nil 12,.nil 4,.rfl' _,trivial⟩)
 ·refine .A 16 [.i (y1.1.length:Int)] rfl (s109.n rfl rfl) ?_
  refine .tok (i:=7) (e:=49) (sz:=12) rfl ?_
  refine .tok (i:=8) (e:=64) (sz:=4) rfl ?_
  refine .blockJoin2 (ι:=List Record×List Reject) (fun ⟨v7outj1,v8noj1⟩=>[(7,.tsl 12 (v7outj1.map Record.row) 0),(8,.tsl 4 (v8noj1.map Reject.row) 1)]) (fun ⟨v7outj1,v8noj1⟩=>⟨[],[⟨49,12,v7outj1.length,none⟩,⟨64,4,v8noj1.length,none⟩]⟩) (fun s=>f_textual_All_j1 s.1 s.2=some r) ?_ ?_
  ·rintro ⟨v7outj1,v8noj1⟩ H
   replace H:f_textual_All_j1 v7outj1 v8noj1=some r:=H
   unfold f_textual_All_j1 at H
   refine .A 8 [] rfl trivial ?_
   refine .R func49 results49 rfl ?_
   cases H
   exact .m rfl (.tupL ⟨.tsl _ _ _,.tsl _ _ _,.rfl' _,trivial⟩)
  ·intro hj1 hj1x
   obtain ⟨n1,H⟩:=loop_some H
   refine .loop (ι:=Nat×(List Record×List Reject×Int)) (fun ⟨_,v7outl1,v8nol1,v23l1⟩=>[(7,.tsl 12 (v7outl1.map Record.row) 0),(8,.tsl 4 (v8nol1.map Reject.row) 1),(21,.d (slOf 1 rS y1.1)),(22,.d (cI (y1.1.length:Int))),(23,.d (cI v23l1))]) (fun ⟨_,v7outl1,v8nol1,v23l1⟩=>⟨[],[⟨49,12,v7outl1.length,none⟩,⟨64,4,v8nol1.length,none⟩]⟩) (fun p=>iter (fun s=>f_textual_All_l1 y1 s.1 s.2.1 s.2.2) p.1 p.2=some r) (·.1) (n1,(([]:List Record),([]:List Reject),0)) H (.cons rfl (.rfl' _) (.cons rfl (.rfl' _) (.cons rfl (.rfl' _) (.cons rfl (.rfl' _) (.cons rfl (.rfl' _) (.nil)))))) rfl ?_
   rintro ⟨m1,v7outl1,v8nol1,v23l1⟩ HI ih1
   obtain ⟨n1,q1,hm1,H,HK1⟩:=iter_succ HI
   clear HI
   replace H:f_textual_All_l1 y1 v7outl1 v8nol1 v23l1=some q1:=H
   unfold f_textual_All_l1 at H
   refine .A 5 [] rfl trivial ?_
   refine .ite H rfl (fun H=>?_) (fun H=>?_)
   ·obtain ⟨hk1,H⟩:=ck_some H
    obtain ⟨y2,hy2,H⟩:=bind_some' H
    refine .A 28 [.d (.ro (rS (nth y1.1 v23l1.toNat))),.d (.tup [.agg (Record.row y2.1),cI y2.2]),.r 0] rfl ⟨g_call (en 75 rfl) rfl rfl (c_f_textual_Decode (hy2)),s109.ix rfl rfl rfl hk1⟩ ?_
    refine .ite H rfl (fun H=>?_) (fun H=>?_)
    ·obtain ⟨hk2,H⟩:=ck_some H
     obtain ⟨hk3,H⟩:=ck_some H
     refine .A 15 [.d (.agg (Reject.row (⟨0,0,v23l1,y2.2⟩:Reject))),.d (slOf 4 Reject.row ([(⟨0,0,v23l1,y2.2⟩:Reject)]:List Reject)),.a 1 64 4 Reject.row (v8nol1++([(⟨0,0,v23l1,y2.2⟩:Reject)]:List Reject)),.i (v23l1+1)] rfl ⟨g_addI rfl rfl hk3,s32.a rfl rfl rfl rfl hk2,g_buildSlice1 underlying32 hi64 hs64 hz64 rfl rfl rfl rfl rfl,OpQ.g (q_buildP pl_64 hi64 hz64 rfl rfl)⟩ ?_
     cases H
     exact .t 0 2 (ih1 (n1,(v7outl1,v8nol1++([(⟨0,0,v23l1,y2.2⟩:Reject)]:List Reject),v23l1+1)) HK1 hm1) rfl rfl rfl rfl rfl hS rfl
    ·obtain ⟨hk4,H⟩:=ck_some H
     obtain ⟨hk5,H⟩:=ck_some H
     refine .A 13 [.d (slOf 12 Record.row ([y2.1]:List Record)),.a 0 49 12 Record.row (v7outl1++([y2.1]:List Record)),.i (v23l1+1)] rfl ⟨g_addI rfl rfl hk5,s29.a rfl rfl rfl rfl hk4,g_buildSlice1 underlying29 hi49 hs49 hz49 rfl rfl rfl rfl rfl⟩ ?_
     cases H
     exact .t 0 2 (ih1 (n1,(v7outl1++([y2.1]:List Record),v8nol1,v23l1+1)) HK1 hm1) rfl rfl rfl rfl rfl hS rfl
   ·refine .A 1 [] rfl trivial ?_
    obtain ⟨q0,H9,hq0⟩:=map_some' H; clear H; cases hq0
    cases HK1
    have H:=H9
    exact .z (hj1x (v7outl1,v8nol1) H) rfl rfl
theorem c_f_batch_decode {v0format:Int} {v1b:List UInt8} {r:(List Record)×(List Reject)×Int} (H:f_batch_decode v0format v1b=some r):ACall prog 22 [cI v0format,slOf 1 rB8 v1b] (·=.tup [slOf 12 Record.row r.1,slOf 4 Reject.row r.2.1,cI r.2.2]):=by
 refine ACall.enter' func22 rfl ntmps22 rfl fun S hS=>?_
 unfold f_batch_decode at H
 refine .A 17 [] rfl trivial ?_
 refine .ite H rfl (fun H=>?_) (fun H=>?_)
 ·obtain ⟨y1,hy1,H⟩:=bind_some' H
  refine .A 11 [.d (.tup [slOf 12 Record.row y1.1,slOf 4 Reject.row y1.2.1,cI y1.2.2])] rfl (g_call (en 76 rfl) rfl rfl (c_f_tagged_All (hy1))) ?_
  refine .R func22 results22 rfl ?_
  cases H
  exact .m rfl (.tupD rfl)
 ·refine .A 5 [] rfl trivial ?_
  refine .ite H rfl (fun H=>?_) (fun H=>?_)
  ·obtain ⟨y2,hy2,H⟩:=bind_some' H
   refine .A 11 [.d (.tup [slOf 12 Record.row y2.1,slOf 4 Reject.row y2.2.1,cI y2.2.2])] rfl (g_call (en 77 rfl) rfl rfl (c_f_packed_All (hy2))) ?_
   refine .R func22 results22 rfl ?_
   cases H
   exact .m rfl (.tupD rfl)
  ·obtain ⟨y3,hy3,H⟩:=bind_some' H
   refine .A 14 [.s v1b,.d (.tup [slOf 12 Record.row y3.1,slOf 4 Reject.row y3.2.1,cI y3.2.2])] rfl ⟨g_call (en 78 rfl) rfl rfl (c_f_textual_All (hy3)),OpQ.g (q_bytesStrL (a:=v1b) underlying22 underlying5 underlying9 rfl rfl)⟩ ?_
   refine .R func22 results22 rfl ?_
   cases H
   exact .m rfl (.tupD rfl)
theorem c_g_batch_numbers_v1 {v0b:List UInt8} {o1c0p:Totals} {r:Int×Totals} (H:g_batch_numbers_v1 v0b o1c0p=some r):ACallS prog 42 [.d (slOf 1 rB8 v0b),.osl 0 0 5 5] ⟨[.row 79 [.ref 1 0,.ref 1 2,.ref 1 3,.ref 1 4,.ref 1 5],.row 52 [.d (cI o1c0p.count),.d (cI (nth o1c0p.units 0)),.d (cI (nth o1c0p.units 1)),.d (cI (nth o1c0p.units 2)),.d (cI (nth o1c0p.units 3)),.d (cI (nth o1c0p.units 4))]],[]⟩ (QE (.d (cI r.1)) ⟨[.row 79 [.ref 1 0,.ref 1 2,.ref 1 3,.ref 1 4,.ref 1 5],.row 52 [.d (cI r.2.count),.d (cI (nth r.2.units 0)),.d (cI (nth r.2.units 1)),.d (cI (nth r.2.units 2)),.d (cI (nth r.2.units 3)),.d (cI (nth r.2.units 4))]],[]⟩):=by
 obtain ⟨i79,hi79,hz79,hs79,hb79⟩:=in_79
 refine ACallS.keep ?_
 refine ACallS.enter func42 rfl ntmps42 rfl fun S hS=>?_
 unfold g_batch_numbers_v1 at H
 refine .A 11 [.i 5] rfl (OpQ.g (q_lenOsl underlying111 rfl)) ?_
 refine .blockJoin2 (ι:=List UInt8×Int×Int×Int×Int×Int) (fun ⟨v0bj1,o1c0j1,o1c2j1,o1c3j1,o1c4j1,o1c5j1⟩=>[(0,.d (slOf 1 rB8 v0bj1))]) (fun ⟨v0bj1,o1c0j1,o1c2j1,o1c3j1,o1c4j1,o1c5j1⟩=>⟨[.row 79 [.ref 1 0,.ref 1 2,.ref 1 3,.ref 1 4,.ref 1 5],.row 52 [.d (cI o1c0j1),.d (cI (nth o1c0p.units 0)),.d (cI o1c2j1),.d (cI o1c3j1),.d (cI o1c4j1),.d (cI o1c5j1)]],[]⟩) (fun s=>g_batch_numbers_v1_j1 o1c0p s.1 s.2.1 s.2.2.1 s.2.2.2.1 s.2.2.2.2.1 s.2.2.2.2.2=some r) ?_ ?_
 ·rintro ⟨v0bj1,o1c0j1,o1c2j1,o1c3j1,o1c4j1,o1c5j1⟩ H
  replace H:g_batch_numbers_v1_j1 o1c0p v0bj1 o1c0j1 o1c2j1 o1c3j1 o1c4j1 o1c5j1=some r:=H
  unfold g_batch_numbers_v1_j1 at H
  refine .A 7 [.i (v0bj1.length:Int)] rfl (s22.n rfl rfl) ?_
  refine .ite H rfl (fun H=>?_) (fun H=>?_)
  ·refine .A 4 [] rfl trivial ?_
   refine .R func42 results42 rfl ?_
   cases H
   exact ⟨[0,1],[],rfl,rfl,rfl,rfl,rfl,rfl,rfl,rfl,.rfl' _⟩
  ·refine .A 5 [] rfl trivial ?_
   refine .R func42 results42 rfl ?_
   cases H
   exact ⟨[0,1],[],rfl,rfl,rfl,rfl,rfl,rfl,rfl,rfl,.rfl' _⟩
 ·intro hj1 hj1x
  refine .loop0 ?_
  refine .A 5 [] rfl trivial ?_
  refine .cond rfl (fun hc=>?_) (fun hc=>absurd hc (by decide))
  clear hc
  obtain ⟨y1,hy1,H⟩:=bind_some' H
  refine .A 27 [.g (.ref 0 0),.d (.tup [cI y1.1,slOf 1 rB8 y1.2.1,cI y1.2.2])] rfl ⟨g_call (en 40 rfl) rfl rfl (c_f_codec_Number (hy1)),OpQ.g (q_idxOsl (m:=0) underlying111 hi79 hs79 rfl rfl rfl (by decide))⟩ ?_
  refine .ite H rfl (fun H=>?_) (fun H=>?_)
  ·refine .A 5 [] rfl trivial ?_
   refine .R func42 results42 rfl ?_
   cases H
   exact ⟨[0,1],[],rfl,rfl,rfl,rfl,rfl,rfl,rfl,rfl,.rfl' _⟩
  ·refine .A 14 [.i 1] rfl (OpQ.g (q_addI (a:=0) (b:=1) rfl rfl (by decide) (by decide))) ?_
   refine .inLoop ?_
   refine .A 5 [] rfl trivial ?_
   refine .cond rfl (fun hc=>?_) (fun hc=>absurd hc (by decide))
   clear hc
   obtain ⟨y2,hy2,H⟩:=bind_some' H
   refine .A 27 [.g (.ref 0 1),.d (.tup [cI y2.1,slOf 1 rB8 y2.2.1,cI y2.2.2])] rfl ⟨g_call (en 40 rfl) rfl rfl (c_f_codec_Number (hy2)),OpQ.g (q_idxOsl (m:=1) underlying111 hi79 hs79 rfl rfl rfl (by decide))⟩ ?_
   refine .ite H rfl (fun H=>?_) (fun H=>?_)
   ·refine .A 5 [] rfl trivial ?_
    refine .R func42 results42 rfl ?_
    cases H
    exact ⟨[0,1],[],rfl,rfl,rfl,rfl,rfl,rfl,rfl,rfl,.rfl' _⟩
   ·refine .A 14 [.i 2] rfl (OpQ.g (q_addI (a:=1) (b:=1) rfl rfl (by decide) (by decide))) ?_
    refine .inLoop ?_
    refine .A 5 [] rfl trivial ?_
    refine .cond rfl (fun hc=>?_) (fun hc=>absurd hc (by decide))
    clear hc
    obtain ⟨y3,hy3,H⟩:=bind_some' H
    refine .A 27 [.g (.ref 0 2),.d (.tup [cI y3.1,slOf 1 rB8 y3.2.1,cI y3.2.2])] rfl ⟨g_call (en 40 rfl) rfl rfl (c_f_codec_Number (hy3)),OpQ.g (q_idxOsl (m:=2) underlying111 hi79 hs79 rfl rfl rfl (by decide))⟩ ?_
    refine .ite H rfl (fun H=>?_) (fun H=>?_)
    ·refine .A 5 [] rfl trivial ?_
     refine .R func42 results42 rfl ?_
     cases H
     exact ⟨[0,1],[],rfl,rfl,rfl,rfl,rfl,rfl,rfl,rfl,.rfl' _⟩
    ·refine .A 14 [.i 3] rfl (OpQ.g (q_addI (a:=2) (b:=1) rfl rfl (by decide) (by decide))) ?_
     refine .inLoop ?_
     refine .A 5 [] rfl trivial ?_
     refine .cond rfl (fun hc=>?_) (fun hc=>absurd hc (by decide))
     clear hc
     obtain ⟨y4,hy4,H⟩:=bind_some' H
     refine .A 27 [.g (.ref 0 3),.d (.tup [cI y4.1,slOf 1 rB8 y4.2.1,cI y4.2.2])] rfl ⟨g_call (en 40 rfl) rfl rfl (c_f_codec_Number (hy4)),OpQ.g (q_idxOsl (m:=3) underlying111 hi79 hs79 rfl rfl rfl (by decide))⟩ ?_
     refine .ite H rfl (fun H=>?_) (fun H=>?_)
     ·refine .A 5 [] rfl trivial ?_
      refine .R func42 results42 rfl ?_
      cases H
      exact ⟨[0,1],[],rfl,rfl,rfl,rfl,rfl,rfl,rfl,rfl,.rfl' _⟩
     ·refine .A 14 [.i 4] rfl (OpQ.g (q_addI (a:=3) (b:=1) rfl rfl (by decide) (by decide))) ?_
      refine .inLoop ?_
      refine .A 5 [] rfl trivial ?_
      refine .cond rfl (fun hc=>?_) (fun hc=>absurd hc (by decide))
      clear hc
      obtain ⟨y5,hy5,H⟩:=bind_some' H
      refine .A 27 [.g (.ref 0 4),.d (.tup [cI y5.1,slOf 1 rB8 y5.2.1,cI y5.2.2])] rfl ⟨g_call (en 40 rfl) rfl rfl (c_f_codec_Number (hy5)),OpQ.g (q_idxOsl (m:=4) underlying111 hi79 hs79 rfl rfl rfl (by decide))⟩ ?_
      refine .ite H rfl (fun H=>?_) (fun H=>?_)
      ·refine .A 5 [] rfl trivial ?_
       refine .R func42 results42 rfl ?_
       cases H
       exact ⟨[0,1],[],rfl,rfl,rfl,rfl,rfl,rfl,rfl,rfl,.rfl' _⟩
      ·refine .A 14 [.i 5] rfl (OpQ.g (q_addI (a:=4) (b:=1) rfl rfl (by decide) (by decide))) ?_
       refine .inLoop ?_
       refine .A 5 [] rfl trivial ?_
       refine .cond rfl (fun hc=>absurd hc (by decide)) (fun hc=>?_)
       clear hc
       refine .A 1 [] rfl trivial ?_
       exact .z (hj1x (y5.2.1,y1.1,y2.1,y3.1,y4.1,y5.1) H) rfl rfl
theorem c_f_batch_trailer {v0rest:List UInt8} {r:Totals×Int} (H:f_batch_trailer v0rest=some r):ACall prog 23 [slOf 1 rB8 v0rest] (·=.tup [.agg (Totals.row r.1),cI r.2]):=by
 obtain ⟨i3,hi3,hz3,hs3,hb3⟩:=in_3
 obtain ⟨i52,hi52,hz52,hs52,hb52⟩:=in_52
 obtain ⟨i79,hi79,hz79,hs79,hb79⟩:=in_79
 refine ACall.enter' func23 rfl ntmps23 rfl fun S hS=>?_
 unfold f_batch_trailer at H
 obtain ⟨y1,hy1,H⟩:=bind_some' H
 refine .A 17 [.r 0,.d (.tup [slOf 1 rB8 y1.1,slOf 1 rB8 y1.2.1,cI y1.2.2])] rfl (g_call (en 43 rfl) rfl rfl (c_f_frame_Unwrap (hy1))) ?_
 refine .seqJoin (ι:=Int) (fun v5ej1=>[(2,.ref 0 0),(4,.d (slOf 1 rB8 y1.1)),(5,.d (cI v5ej1))]) (fun v5ej1=>⟨[.row 52 [.d (cI 0),.d (cI 0),.d (cI 0),.d (cI 0),.d (cI 0),.d (cI 0)]],[]⟩) (fun s=>f_batch_trailer_j1 y1 s=some r) ?_ ?_
 ·rintro v5ej1 H
  replace H:f_batch_trailer_j1 y1 v5ej1=some r:=H
  unfold f_batch_trailer_j1 at H
  refine .A 6 [] rfl trivial ?_
  refine .ite H rfl (fun H=>?_) (fun H=>?_)
  ·refine .A 7 [.d (.agg (Totals.row (⟨0,([0,0,0,0,0]:List Int)⟩:Totals)))] rfl (OpQ.g (q_buildP pl_52 hi52 hz52 rfl rfl)) ?_
   refine .R func23 results23 rfl ?_
   cases H
   exact .m rfl (.tupD rfl)
  ·obtain ⟨y2,hy2,H⟩:=bind_some' H
   refine .B 18 [.r 1,.g (.ref 1 2),.g (.ref 1 3),.g (.ref 1 4),.g (.ref 1 5),.v (.osl 2 0 5 5) ⟨[.row 52 [.d (cI 0),.d (cI 0),.d (cI 0),.d (cI 0),.d (cI 0),.d (cI 0)],.row 52 [.d (cI 0),.d (cI 0),.d (cI 0),.d (cI 0),.d (cI 0),.d (cI 0)],.row 79 [.ref 1 0,.ref 1 2,.ref 1 3,.ref 1 4,.ref 1 5]],[]⟩] rfl ⟨.e (v_buildSliceR underlying111 hi79 hs79 hz79 rfl rfl rfl rfl) rfl,OpQ.g (q_idxArr (m:=4) (sz:=1) underlying50 ⟨_,hi3,hs3⟩ rfl rfl rfl (by decide)),OpQ.g (q_idxArr (m:=3) (sz:=1) underlying50 ⟨_,hi3,hs3⟩ rfl rfl rfl (by decide)),OpQ.g (q_idxArr (m:=2) (sz:=1) underlying50 ⟨_,hi3,hs3⟩ rfl rfl rfl (by decide)),OpQ.g (q_idxArr (m:=1) (sz:=1) underlying50 ⟨_,hi3,hs3⟩ rfl rfl rfl (by decide))⟩ ?_
   refine .callF (en 44 rfl) rfl [2,1] [] (x:=.d (cI y2.1)) (st':=⟨[.row 52 [.d (cI 0),.d (cI 0),.d (cI 0),.d (cI 0),.d (cI 0),.d (cI 0)],.row 52 [.d (cI y2.2.count),.d (cI (nth y2.2.units 0)),.d (cI (nth y2.2.units 1)),.d (cI (nth y2.2.units 2)),.d (cI (nth y2.2.units 3)),.d (cI (nth y2.2.units 4))],.row 79 [.ref 1 0,.ref 1 2,.ref 1 3,.ref 1 4,.ref 1 5]],[]⟩) rfl (c_g_batch_numbers_v1 (hy2)) ⟨.rfl' _,.rfl' _,trivial⟩ rfl rfl rfl rfl rfl rfl ?_
   refine .A 9 [] rfl trivial ?_
   refine .R func23 results23 rfl ?_
   cases H
   exact .m rfl (.tupD rfl)
 ·intro hj1
  refine .A 10 [.i (y1.2.1.length:Int)] rfl ⟨rfl,rfl,fun hg=>s22.n rfl rfl,rfl⟩ ?_
  refine .ite H rfl (fun H=>?_) (fun H=>?_)
  ·refine .A 3 [] rfl trivial ?_
   exact .z (hj1 3 H) rfl rfl
  ·refine .A 1 [] rfl trivial ?_
   exact .z (hj1 y1.2.2 H) rfl rfl
theorem c_f_batch_Read {v0:List UInt8} {r:Batch×(List Reject)×Int} (H:f_batch_Read v0=some r):ACall prog 9 [slOf 1 rB8 v0] (·=.tup [.agg (Batch.row r.1),slOf 4 Reject.row r.2.1,cI r.2.2]):=by
 obtain ⟨i31,hi31,hz31,hs31,hb31⟩:=in_31
 refine ACall.enter' func9 rfl ntmps9 rfl fun S hS=>?_
 unfold f_batch_Read at H
 obtain ⟨y1,hy1,H⟩:=bind_some' H
 refine .A 25 [.r 0,.d (.tup [.agg (Head.row y1.1),slOf 1 rB8 y1.2.1,cI y1.2.2]),.r 1] rfl (g_call (en 45 rfl) rfl rfl (c_f_batch_first (hy1))) ?_
 refine .ite H rfl (fun H=>?_) (fun H=>?_)
 ·refine .A 8 [.d (.agg (Batch.row (⟨0,0,0,([]:List Record)⟩:Batch)))] rfl (OpQ.g (OpQ.le (q_buildP pl_31 hi31 hz31 rfl rfl) (EVle.d (.agg ⟨.rfl' _,.rfl' _,.rfl' _,.nil 12,trivial⟩)))) ?_
  refine .R func9 results9 rfl ?_
  cases H
  exact .m rfl (.tupL ⟨.rfl' _,.nil 4,.rfl' _,trivial⟩)
 ·obtain ⟨y2,hy2,H⟩:=bind_some' H
  refine .A 19 [.d (.tup [slOf 1 rB8 y2.1,slOf 1 rB8 y2.2.1,cI y2.2.2])] rfl (g_call (en 43 rfl) rfl rfl (c_f_frame_Unwrap (hy2))) ?_
  refine .ite H rfl (fun H=>?_) (fun H=>?_)
  ·refine .A 8 [.d (.agg (Batch.row (⟨0,0,0,([]:List Record)⟩:Batch)))] rfl (OpQ.g (OpQ.le (q_buildP pl_31 hi31 hz31 rfl rfl) (EVle.d (.agg ⟨.rfl' _,.rfl' _,.rfl' _,.nil 12,trivial⟩)))) ?_
   refine .R func9 results9 rfl ?_
   cases H
   exact .m rfl (.tupL ⟨.rfl' _,.nil 4,.rfl' _,trivial⟩)
  ·obtain ⟨y3,hy3,H⟩:=bind_some' H
   refine .A 21 [.d (.tup [slOf 12 Record.row y3.1,slOf 4 Reject.row y3.2.1,cI y3.2.2])] rfl (g_call (en 79 rfl) rfl rfl (c_f_batch_decode (hy3))) ?_
   refine .ite H rfl (fun H=>?_) (fun H=>?_)
   ·refine .A 8 [.d (.agg (Batch.row (⟨0,0,0,([]:List Record)⟩:Batch)))] rfl (OpQ.g (OpQ.le (q_buildP pl_31 hi31 hz31 rfl rfl) (EVle.d (.agg ⟨.rfl' _,.rfl' _,.rfl' _,.nil 12,trivial⟩)))) ?_
    refine .R func9 results9 rfl ?_
    cases H
    exact .m rfl (.tupL ⟨.rfl' _,.nil 4,.rfl' _,trivial⟩)
   ·obtain ⟨y4,hy4,H⟩:=bind_some' H
    refine .A 18 [.d (.tup [.agg (Totals.row y4.1),cI y4.2]),.r 2] rfl (g_call (en 80 rfl) rfl rfl (c_f_batch_trailer (hy4))) ?_
    refine .ite H rfl (fun H=>?_) (fun H=>?_)
    ·refine .A 8 [.d (.agg (Batch.row (⟨0,0,0,([]:List Record)⟩:Batch)))] rfl (OpQ.g (OpQ.le (q_buildP pl_31 hi31 hz31 rfl rfl) (EVle.d (.agg ⟨.rfl' _,.rfl' _,.rfl' _,.nil 12,trivial⟩)))) ?_
     refine .R func9 results9 rfl ?_
     cases H
     exact .m rfl (.tupL ⟨.rfl' _,.nil 4,.rfl' _,trivial⟩)
    ·obtain ⟨y5,hy5,H⟩:=bind_some' H
     refine .A 17 [.p 11,.d (.agg (Totals.row y5)),.b (!(eqVs (Totals.vals y4.1) (Totals.vals y5))),.i (y3.1.length:Int)] rfl ⟨rfl,rfl,rfl,fun hg=>s29.n rfl rfl,rfl,rfl,OpQ.g (q_gtneq fg_52 rfl rfl (xs:=Totals.vals y4.1) (ys:=Totals.vals y5) rfl rfl rfl rfl),g_call (en 33 rfl) rfl rfl (c_f_batch_Totals (hy5)),(show drawB _ _=true by kernel_rfl)⟩ ?_
     refine .ite H rfl (fun H=>?_) (fun H=>?_)
     ·refine .A 7 [.d (.agg (Batch.row (⟨0,0,0,([]:List Record)⟩:Batch)))] rfl (OpQ.g (OpQ.le (q_buildP pl_31 hi31 hz31 rfl rfl) (EVle.d (.agg ⟨.rfl' _,.rfl' _,.rfl' _,.nil 12,trivial⟩)))) ?_
      refine .R func9 results9 rfl ?_
      cases H
      exact .m rfl (.tupL ⟨.rfl' _,.nil 4,.rfl' _,trivial⟩)
     ·refine .A 8 [.i (y3.1.length:Int)] rfl (s29.n rfl rfl) ?_
      refine .blockJoin2 (ι:=Unit) (fun _=>[(2,.ref 0 0),(5,.ref 1 0),(9,.d (slOf 12 Record.row y3.1)),(10,.d (slOf 4 Reject.row y3.2.1))]) (fun _=>⟨[.row 31 [.d (cI 0),.d (cI 0),.d (cI 0),.d (nilD)],.row 25 [.d (cI y1.1.source),.d (cI y1.1.number),.d (cI y1.1.format),.d (cI y1.1.count)],.row 52 [.d (cI y4.1.count),.d (cI (nth y4.1.units 0)),.d (cI (nth y4.1.units 1)),.d (cI (nth y4.1.units 2)),.d (cI (nth y4.1.units 3)),.d (cI (nth y4.1.units 4))]],[]⟩) (fun s=>f_batch_Read_j1 y1 y3=some r) ?_ ?_
      ·rintro _ H
       replace H:f_batch_Read_j1 y1 y3=some r:=H
       unfold f_batch_Read_j1 at H
       refine .A 15 [.d (.agg (Batch.row (⟨y1.1.source,y1.1.number,y1.1.format,y3.1⟩:Batch)))] rfl (OpQ.g (q_buildP pl_31 hi31 hz31 rfl rfl)) ?_
       refine .R func9 results9 rfl ?_
       cases H
       exact .m rfl (.tupD rfl)
      ·intro hj1 hj1x
       obtain ⟨n1,H⟩:=loop_some H
       refine .loop (ι:=Nat×(Int)) (fun ⟨_,v69l1⟩=>[(2,.ref 0 0),(5,.ref 1 0),(9,.d (slOf 12 Record.row y3.1)),(10,.d (slOf 4 Reject.row y3.2.1)),(67,.d (slOf 12 Record.row y3.1)),(68,.d (cI (y3.1.length:Int))),(69,.d (cI v69l1))]) (fun ⟨_,v69l1⟩=>⟨[.row 31 [.d (cI 0),.d (cI 0),.d (cI 0),.d (nilD)],.row 25 [.d (cI y1.1.source),.d (cI y1.1.number),.d (cI y1.1.format),.d (cI y1.1.count)],.row 52 [.d (cI y4.1.count),.d (cI (nth y4.1.units 0)),.d (cI (nth y4.1.units 1)),.d (cI (nth y4.1.units 2)),.d (cI (nth y4.1.units 3)),.d (cI (nth y4.1.units 4))]],[]⟩) (fun p=>iter (fun s=>f_batch_Read_l1 y1 y3 s) p.1 p.2=some r) (·.1) (n1,0) H (.cons rfl (.rfl' _) (.cons rfl (.rfl' _) (.cons rfl (.rfl' _) (.cons rfl (.rfl' _) (.cons rfl (.rfl' _) (.cons rfl (.rfl' _) (.cons rfl (.rfl' _) (.nil)))))))) rfl ?_
       rintro ⟨m1,v69l1⟩ HI ih1
       obtain ⟨n1,q1,hm1,H,HK1⟩:=iter_succ HI
       clear HI
       replace H:f_batch_Read_l1 y1 y3 v69l1=some q1:=H
       unfold f_batch_Read_l1 at H
       refine .A 5 [] rfl trivial ?_
       refine .ite H rfl (fun H=>?_) (fun H=>?_)
       ·obtain ⟨hk1,H⟩:=ck_some H
        refine .A 18 [.d (.ro (Record.row (nth y3.1 v69l1.toNat))),.r 3] rfl (s29.ix rfl rfl rfl hk1) ?_
        refine .ite H rfl (fun H=>?_) (fun H=>?_)
        ·refine .A 7 [.d (.agg (Batch.row (⟨0,0,0,([]:List Record)⟩:Batch)))] rfl (OpQ.g (OpQ.le (q_buildP pl_31 hi31 hz31 rfl rfl) (EVle.d (.agg ⟨.rfl' _,.rfl' _,.rfl' _,.nil 12,trivial⟩)))) ?_
         refine .R func9 results9 rfl ?_
         cases H
         cases HK1
         exact .m rfl (.tupL ⟨.rfl' _,.nil 4,.rfl' _,trivial⟩)
        ·obtain ⟨hk2,H⟩:=ck_some H
         refine .A 6 [.i (v69l1+1)] rfl (g_addI rfl rfl hk2) ?_
         cases H
         exact .t 3 0 (ih1 (n1,(v69l1+1)) HK1 hm1) rfl rfl rfl rfl rfl hS rfl
       ·refine .A 1 [] rfl trivial ?_
        obtain ⟨q0,H9,hq0⟩:=map_some' H; clear H; cases hq0
        cases HK1
        have H:=H9
        exact .z (hj1x () H) rfl rfl
set_option maxRecDepth 100000
set_option maxHeartbeats 1000000
set_option maxRecDepth 100000
set_option maxHeartbeats 1000000
set_option maxRecDepth 100000
set_option maxHeartbeats 1000000
theorem c_f_r09_Same {v0a:List Record} {v1b:List Record} {r:Bool} (H:f_r09_Same v0a v1b=some r):ACall prog 28 [slOf 12 Record.row v0a,slOf 12 Record.row v1b] (·=cB r):=by
 refine ACall.enter' func28 rfl ntmps28 rfl fun S hS=>?_
 unfold f_r09_Same at H
 refine .A 13 [.i (v0a.length:Int),.i (v1b.length:Int)] rfl ⟨s29.n rfl rfl,s29.n rfl rfl⟩ ?_
 refine .ite H rfl (fun H=>?_) (fun H=>?_)
 ·refine .A 4 [] rfl trivial ?_
  refine .R func28 results28 rfl ?_
  cases H
  exact .m rfl (.rfl' _)
 ·refine .A 7 [] rfl trivial ?_
  obtain ⟨n1,H⟩:=loop_some H
  refine .loop (ι:=Nat×(Int)) (fun ⟨_,v5il1⟩=>[(0,.d (slOf 12 Record.row v0a)),(1,.d (slOf 12 Record.row v1b)),(5,.d (cI v5il1))]) (fun ⟨_,v5il1⟩=>⟨[],[]⟩) (fun p=>iter (fun s=>f_r09_Same_l1 v0a v1b s) p.1 p.2=some r) (·.1) (n1,0) H (.cons rfl (.rfl' _) (.cons rfl (.rfl' _) (.cons rfl (.rfl' _) (.nil)))) rfl ?_
  rintro ⟨m1,v5il1⟩ HI ih1
  obtain ⟨n1,q1,hm1,H,HK1⟩:=iter_succ HI
  clear HI
  replace H:f_r09_Same_l1 v0a v1b v5il1=some q1:=H
  unfold f_r09_Same_l1 at H
  refine .A 8 [.i (v0a.length:Int)] rfl (s29.n rfl rfl) ?_
  refine .ite H rfl (fun H=>?_) (fun H=>?_)
  ·obtain ⟨hk1,H⟩:=ck_some H
   obtain ⟨hk2,H⟩:=ck_some H
   refine .A 16 [.p 9,.d (.ro (Record.row (nth v0a v5il1.toNat))),.d (.ro (Record.row (nth v1b v5il1.toNat))),.b (!(eqVs (Record.vals (nth v0a v5il1.toNat)) (Record.vals (nth v1b v5il1.toNat))))] rfl ⟨OpQ.g (q_stneq fk_49 rfl rfl (xs:=Record.vals (nth v0a v5il1.toNat)) (ys:=Record.vals (nth v1b v5il1.toNat)) rfl rfl rfl rfl),s29.ix rfl rfl rfl hk2,s29.ix rfl rfl rfl hk1,(show drawB _ _=true by kernel_rfl)⟩ ?_
   refine .ite H rfl (fun H=>?_) (fun H=>?_)
   ·refine .A 4 [] rfl trivial ?_
    refine .R func28 results28 rfl ?_
    cases H
    cases HK1
    exact .m rfl (.rfl' _)
   ·obtain ⟨hk3,H⟩:=ck_some H
    refine .A 7 [.i (v5il1+1)] rfl (g_addI rfl rfl hk3) ?_
    cases H
    exact .z (ih1 (n1,(v5il1+1)) HK1 hm1) rfl rfl
  ·refine .A 5 [] rfl trivial ?_
   refine .R func28 results28 rfl ?_
   cases H
   cases HK1
   exact .m rfl (.rfl' _)
theorem c_f_r12_Same {v0a:Batch} {v1b:Batch} {r:Bool} (H:f_r12_Same v0a v1b=some r):ACall prog 11 [.agg (Batch.row v0a),.agg (Batch.row v1b)] (·=cB r):=by
 refine ACall.enter' func11 rfl ntmps11 rfl fun S hS=>?_
 unfold f_r12_Same at H
 obtain ⟨y1,hy1,H⟩:=bind_some' H
 refine .A 36 [.r 0,.r 1,.b y1] rfl ⟨rfl,fun hg=>g_call (en 107 rfl) rfl rfl (c_f_r09_Same (gcall_some hy1 hg)),rfl,rfl,rfl,rfl,rfl,rfl,rfl,rfl,rfl,rfl,rfl,rfl,rfl,rfl⟩ ?_
 refine .R func11 results11 rfl ?_
 cases H
 exact .m rfl (.rfl' _)
set_option maxRecDepth 100000
set_option maxHeartbeats 1000000
set_option maxRecDepth 100000
set_option maxHeartbeats 1000000
theorem c_f_w12_BatchValid {v0:List UInt8} {r:Bool} (H:f_w12_BatchValid v0=some r):ACall prog 5 [slOf 1 rB8 v0] (·=cB r):=by
 refine ACall.enter' func5 rfl ntmps5 rfl fun S hS=>?_
 unfold f_w12_BatchValid at H
 refine .A 11 [.i (v0.length:Int)] rfl (s22.n rfl rfl) ?_
 refine .ite H rfl (fun H=>?_) (fun H=>?_)
 ·obtain ⟨y1,hy1,H⟩:=bind_some' H
  refine .A 5 [.b y1] rfl (g_call (en 108 rfl) rfl rfl (c_f_w12_awake (hy1))) ?_
  refine .R func5 results5 rfl ?_
  cases H
  exact .m rfl (.rfl' _)
 ·obtain ⟨y2,hy2,H⟩:=bind_some' H
  refine .A 20 [.d (.tup [.agg (Batch.row y2.1),slOf 4 Reject.row y2.2.1,cI y2.2.2]),.r 0] rfl (g_call (en 112 rfl) rfl rfl (c_f_batch_Read (hy2))) ?_
  refine .ite H rfl (fun H=>?_) (fun H=>?_)
  ·obtain ⟨y3,hy3,H⟩:=bind_some' H
   refine .A 16 [.i (y2.1.records.length:Int),.i (y2.2.1.length:Int),.b y3] rfl ⟨rfl,fun hg=>g_call (en 108 rfl) rfl rfl (c_f_w12_awake (gcall_some hy3 hg)),rfl,rfl,fun hg=>s32.n rfl rfl,rfl,s29.n rfl rfl⟩ ?_
   refine .R func5 results5 rfl ?_
   cases H
   exact .m rfl (.rfl' _)
  ·obtain ⟨y4,hy4,H⟩:=bind_some' H
   obtain ⟨y5,hy5,H⟩:=bind_some' H
   obtain ⟨y6,hy6,H⟩:=bind_some' H
   obtain ⟨y7,hy7,H⟩:=bind_some' H
   refine .B 57 [.d (.tup [slOf 1 rB8 y4.1,cI y4.2]),.d (.tup [.agg (Batch.row y5.1),slOf 4 Reject.row y5.2.1,cI y5.2.2]),.r 1,.i y6,.i (y5.2.1.length:Int),.b y7,.i (y2.2.1.length:Int),.s y4.1,.s v0] rfl ⟨rfl,rfl,fun hg=>OpQ.g (q_bytesStrL (a:=v0) underlying22 underlying5 underlying9 rfl rfl),rfl,fun hg=>OpQ.g (q_bytesStrL (a:=y4.1) underlying22 underlying5 underlying9 rfl rfl),rfl,rfl,rfl,fun hg=>s32.n rfl rfl,rfl,rfl,fun hg=>g_call (en 110 rfl) rfl rfl (c_f_r12_Same (gcall_some hy7 hg)),rfl,rfl,rfl,rfl,fun hg=>s32.n rfl rfl,rfl,rfl,rfl,rfl,rfl,g_call (en 32 rfl) rfl rfl (c_f_batch_Check (hy6)),g_call (en 112 rfl) rfl rfl (c_f_batch_Read (hy5)),g_call (en 47 rfl) rfl rfl (c_f_batch_Write (hy4))⟩ ?_
   refine .guardG (env':=[(71,_),(76,_)]) rfl rfl rfl ⟨.inr (.inl rfl),⟨.inr (.inr ⟨_,_,rfl,rfl⟩),trivial⟩⟩ rfl (fun hg=>OpQ.g (q_pickOrB rfl rfl rfl)) ?_
   obtain ⟨y8,hy8,H⟩:=bind_some' H
   refine .A 6 [.b y8] rfl ⟨rfl,fun hg=>g_call (en 108 rfl) rfl rfl (c_f_w12_awake (gcall_some hy8 hg)),rfl⟩ ?_
   refine .R func5 results5 rfl ?_
   cases H
   exact .m rfl (.rfl' _)
end Go.Proofs.YthoengcicaicoaaGreatDoor
