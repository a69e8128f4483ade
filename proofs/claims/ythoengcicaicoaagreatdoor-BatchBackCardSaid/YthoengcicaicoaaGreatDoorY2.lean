/- Our own texts LF R1 U2 U3 V1 U4 R2 N1 N2 N3 N4 R3 R4 R5 R6 R7 R8 T2 T3 T4 T5 T6 T7 T8 T9 TA TB TC TD TE of this seat in one. -/
import Derived.Test.YthoengcicaicoaaGreatDoorY1
import Derived.Lib.ItoaNum
import Derived.Lib.Join
import Derived.Lib.Split
import Derived.Lib.Strings
import Derived.Lib.ItoaLen
set_option linter.unusedSimpArgs false
set_option linter.unusedVariables false
set_option linter.unusedSectionVars false
namespace Go.Proofs.YthoengcicaicoaaGreatDoor
open Go.RowKit Go.Abs
structure Totals where
 count:Int
 units:(List Int)
instance:Inhabited Totals:=⟨⟨default,default⟩⟩
def Totals.row (x:Totals):List D:=[cI x.count,cI (nth x.units 0),cI (nth x.units 1),cI (nth x.units 2),cI (nth x.units 3),cI (nth x.units 4)]
def Totals.vals (x:Totals):List Value:=[.int .i64 x.count,.int .i64 (nth x.units 0),.int .i64 (nth x.units 1),.int .i64 (nth x.units 2),.int .i64 (nth x.units 3),.int .i64 (nth x.units 4)]
structure Record where
 source:Int
 serial:Int
 kind:Int
 a:(List UInt8)
 b:(List UInt8)
 start:Int
 units:Int
 call:Int
 part:Int
 last:Bool
 trunk:Int
 inbound:Bool
instance:Inhabited Record:=⟨⟨default,default,default,default,default,default,default,default,default,default,default,default⟩⟩
def Record.row (x:Record):List D:=[cI x.source,cI x.serial,cI x.kind,cS x.a,cS x.b,cI x.start,cI x.units,cI x.call,cI x.part,cB x.last,cI x.trunk,cB x.inbound]
def Record.vals (x:Record):List Value:=[.int .i64 x.source,.int .i64 x.serial,.int .i64 x.kind,.string ⟨x.a.toArray⟩,.string ⟨x.b.toArray⟩,.int .i64 x.start,.int .i64 x.units,.int .i64 x.call,.int .i64 x.part,.bool x.last,.int .i64 x.trunk,.bool x.inbound]
structure Head where
 source:Int
 number:Int
 format:Int
 count:Int
instance:Inhabited Head:=⟨⟨default,default,default,default⟩⟩
def Head.row (x:Head):List D:=[cI x.source,cI x.number,cI x.format,cI x.count]
def Head.vals (x:Head):List Value:=[.int .i64 x.source,.int .i64 x.number,.int .i64 x.format,.int .i64 x.count]
structure Batch where
 source:Int
 number:Int
 format:Int
 records:(List Record)
instance:Inhabited Batch:=⟨⟨default,default,default,default⟩⟩
def Batch.row (x:Batch):List D:=[cI x.source,cI x.number,cI x.format,slOf 12 Record.row x.records]
structure Element where
 tag:Int
 value:(List UInt8)
instance:Inhabited Element:=⟨⟨default,default⟩⟩
def Element.row (x:Element):List D:=[cI x.tag,slOf 1 rB8 x.value]
structure Reject where
 source:Int
 serial:Int
 index:Int
 err:Int
instance:Inhabited Reject:=⟨⟨default,default,default,default⟩⟩
def Reject.row (x:Reject):List D:=[cI x.source,cI x.serial,cI x.index,cI x.err]
structure PackedReader where
 b:(List UInt8)
 bad:Bool
instance:Inhabited PackedReader:=⟨⟨default,default⟩⟩
def PackedReader.row (x:PackedReader):List D:=[slOf 1 rB8 x.b,cB x.bad]
structure TextualReader where
 words:(List (List UInt8))
 bad:Bool
instance:Inhabited TextualReader:=⟨⟨default,default⟩⟩
def TextualReader.row (x:TextualReader):List D:=[slOf 1 rS x.words,cB x.bad]
structure Billinglaw12Change where
 at_:Int
 to_:UInt8
instance:Inhabited Billinglaw12Change:=⟨⟨default,default⟩⟩
def Billinglaw12Change.row (x:Billinglaw12Change):List D:=[cI x.at_,cU8 x.to_]
def x_Itoa (n:Int):Option (List UInt8):=ck (-9223372036854775808≤n∧n≤9223372036854775807) (some (Go.Lib.itoa n))
def x_Join (xs:List (List UInt8)) (sep:List UInt8):Option (List UInt8):=ck (xs.length≤1000000000∧(Go.Lib.join xs sep).length≤1000000000) (some (Go.Lib.join xs sep))
def x_Split (s sep:List UInt8):Option (List (List UInt8)):=ck (s.length≤1000000000∧1≤sep.length) (some (Go.Lib.split s sep))
def x_Index (s sub:List UInt8):Option Int:=ck (s.length≤1000000000) (some (Go.Lib.index s sub))
def x_CutSuffix (s p:List UInt8):Option (List UInt8×Bool):=ck (s.length≤1000000000) (some (Go.Lib.trimSuffix s p,Go.Lib.hasSuffix s p))
def f_batch_within (v0n:Int) (v1lo:Int) (v2hi:Int):Option Bool :=
 some ((decide (v0n≥v1lo)) && (decide (v0n≤v2hi)))
def f_batch_Totals_l1 (v0records:List Record) (v11l1:Int) (o1c1l1:Int) (o1c2l1:Int) (o1c3l1:Int) (o1c4l1:Int) (o1c5l1:Int):Option ((Int×Int×Int×Int×Int×Int) ⊕ Totals) :=
 if (decide (v11l1 < (v0records.length:Int)))=true then (ck ((0:Int)≤v11l1∧v11l1 < (v0records.length:Int)) ((f_batch_within ((nth v0records v11l1.toNat).kind) 1 4).bind fun y1=>(gcall y1 (f_batch_within ((nth v0records v11l1.toNat).units) 0 1099511627776)).bind fun y2=>if (y1 && y2)=true then (ck ((0:Int)≤((nth v0records v11l1.toNat).kind)∧((nth v0records v11l1.toNat).kind) < (5:Int)) (ck (((nth v0records v11l1.toNat).kind).toNat < 5) (ck (R64 ((nth ([o1c1l1,o1c2l1,o1c3l1,o1c4l1,o1c5l1]:List Int) ((nth v0records v11l1.toNat).kind).toNat)+((nth v0records v11l1.toNat).units))) (ck ((0:Int)≤((nth v0records v11l1.toNat).kind)∧((nth v0records v11l1.toNat).kind) < (5:Int)) (ck (((nth v0records v11l1.toNat).kind).toNat < 5) (ck (R64 (v11l1+1)) (some (.inl (v11l1+1,nth (setN ([o1c1l1,o1c2l1,o1c3l1,o1c4l1,o1c5l1]:List Int) 5 ((nth v0records v11l1.toNat).kind).toNat ((nth ([o1c1l1,o1c2l1,o1c3l1,o1c4l1,o1c5l1]:List Int) ((nth v0records v11l1.toNat).kind).toNat)+((nth v0records v11l1.toNat).units))) 0,nth (setN ([o1c1l1,o1c2l1,o1c3l1,o1c4l1,o1c5l1]:List Int) 5 ((nth v0records v11l1.toNat).kind).toNat ((nth ([o1c1l1,o1c2l1,o1c3l1,o1c4l1,o1c5l1]:List Int) ((nth v0records v11l1.toNat).kind).toNat)+((nth v0records v11l1.toNat).units))) 1,nth (setN ([o1c1l1,o1c2l1,o1c3l1,o1c4l1,o1c5l1]:List Int) 5 ((nth v0records v11l1.toNat).kind).toNat ((nth ([o1c1l1,o1c2l1,o1c3l1,o1c4l1,o1c5l1]:List Int) ((nth v0records v11l1.toNat).kind).toNat)+((nth v0records v11l1.toNat).units))) 2,nth (setN ([o1c1l1,o1c2l1,o1c3l1,o1c4l1,o1c5l1]:List Int) 5 ((nth v0records v11l1.toNat).kind).toNat ((nth ([o1c1l1,o1c2l1,o1c3l1,o1c4l1,o1c5l1]:List Int) ((nth v0records v11l1.toNat).kind).toNat)+((nth v0records v11l1.toNat).units))) 3,nth (setN ([o1c1l1,o1c2l1,o1c3l1,o1c4l1,o1c5l1]:List Int) 5 ((nth v0records v11l1.toNat).kind).toNat ((nth ([o1c1l1,o1c2l1,o1c3l1,o1c4l1,o1c5l1]:List Int) ((nth v0records v11l1.toNat).kind).toNat)+((nth v0records v11l1.toNat).units))) 4))))))))) else ck (R64 (v11l1+1)) (some (.inl (v11l1+1,o1c1l1,o1c2l1,o1c3l1,o1c4l1,o1c5l1))))) else some (.inr (⟨(v0records.length:Int),([o1c1l1,o1c2l1,o1c3l1,o1c4l1,o1c5l1]:List Int)⟩:Totals))
def f_batch_Totals (v0records:List Record):Option Totals :=
 loop (fun s=>f_batch_Totals_l1 v0records s.1 s.2.1 s.2.2.1 s.2.2.2.1 s.2.2.2.2.1 s.2.2.2.2.2) (0,0,0,0,0,0)
def f_batch_headOf (v0b:Batch):Option Head :=
 some (⟨v0b.source,v0b.number,v0b.format,(v0b.records.length:Int)⟩:Head)
def f_batch_checkHead (v0h:Head):Option Int :=
 (f_batch_within v0h.source 1 99).bind fun y1=>(gcall (!(!y1)) (f_batch_within v0h.number 1 999999999)).bind fun y2=>if ((!y1) || (!y2))=true then some 6 else (f_batch_within v0h.format 1 3).bind fun y3=>if (!y3)=true then some 7 else (f_batch_within v0h.count 0 4096).bind fun y4=>if (!y4)=true then some 5 else some 0
def f_textual_within (v0n:Int) (v1lo:Int) (v2hi:Int):Option Bool :=
 some ((decide (v0n≥v1lo)) && (decide (v0n≤v2hi)))
def f_digits_digit (v0c:UInt8):Option Bool :=
 some ((decide (v0c≥48)) && (decide (v0c≤57)))
def f_digits_Valid_j1 (v0s:List UInt8):Option Bool :=
 some ((decide ((v0s.length:Int)≥1)) && (decide ((v0s.length:Int)≤15)))
def f_digits_Valid_l1 (v0s:List UInt8) (v6l1:Int):Option ((Int) ⊕ Bool) :=
 if (decide (v6l1 < (v0s.length:Int)))=true then (ck ((0:Int)≤v6l1∧v6l1 < (v0s.length:Int)) ((f_digits_digit (nth v0s v6l1.toNat)).bind fun y1=>if (!y1)=true then some (.inr false) else ck (R64 (v6l1+1)) (some (.inl (v6l1+1))))) else (f_digits_Valid_j1 v0s).map (fun z=>.inr z)
def f_digits_Valid (v0s:List UInt8):Option Bool :=
 loop (fun s=>f_digits_Valid_l1 v0s s) 0
def f_textual_check_j1 (v0:Record) (v4j1:Int):Option Int :=
 (f_textual_within v0.source 1 99).bind fun y1=>(gcall (!(!y1)) (f_textual_within v0.serial 1 999999999)).bind fun y2=>if ((!y1) || (!y2))=true then some 6 else (f_textual_within v0.kind 1 4).bind fun y3=>if (!y3)=true then some 7 else (f_digits_Valid v0.a).bind fun y4=>(gcall (!(!y4)) (f_digits_Valid v0.b)).bind fun y5=>if ((!y4) || ((!y5) && (!(((v0.kind==3) || (v0.kind==4)) && (v0.b==([]:List UInt8))))))=true then some 12 else (f_textual_within v0.start 0 12622780799).bind fun y6=>if (!y6)=true then some 15 else (f_textual_within v0.units 0 v4j1).bind fun y7=>if (!y7)=true then some 6 else ck ((v0.kind==1)=true→(R64 (v0.start+v0.units))) (if ((v0.kind==1) && (decide ((v0.start+v0.units) > 12622780800)))=true then some 15 else (f_textual_within v0.call 0 999999999).bind fun y8=>(gcall (!(!y8)) (f_textual_within v0.part 0 99)).bind fun y9=>if ((!y8) || (!y9))=true then some 6 else if (((v0.part==0) != (v0.call==0)) || (v0.last && (v0.part==0)))=true then some 8 else (f_textual_within v0.trunk 0 999).bind fun y10=>if (!y10)=true then some 6 else if (v0.inbound && (v0.trunk==0))=true then some 8 else some 0)
def f_textual_check (v0:Record):Option Int :=
 if (v0.kind==1)=true then (f_textual_check_j1 v0 604800) else f_textual_check_j1 v0 1099511627776
def f_textual_Encode_j3 (v7j3:List (List UInt8)):Option ((List UInt8)×Int) :=
 (x_Join v7j3 ([32]:List UInt8)).bind fun y6=>some (y6,0)
def f_textual_Encode_j4 (v0:Record) (v7j2:List (List UInt8)) (v8j4:List UInt8):Option ((List UInt8)×Int) :=
 (x_Itoa v0.trunk).bind fun y7=>ck (v7j2.length+([v8j4,y7]:List (List UInt8)).length≤1000000000) (f_textual_Encode_j3 (v7j2++([v8j4,y7]:List (List UInt8))))
def f_textual_Encode_j2 (v0:Record) (v7j2:List (List UInt8)):Option ((List UInt8)×Int) :=
 if (v0.trunk != 0)=true then (if v0.inbound=true then (f_textual_Encode_j4 v0 v7j2 ([105,110]:List UInt8)) else f_textual_Encode_j4 v0 v7j2 ([111,117,116]:List UInt8)) else f_textual_Encode_j3 v7j2
def f_textual_Encode_j1 (v0:Record) (v6j1:List UInt8):Option ((List UInt8)×Int) :=
 ck (R64 (v0.kind-1)) (ck ((0:Int)≤v0.kind-1∧v0.kind-1≤v0.kind∧v0.kind≤(([118,116,100,99]:List UInt8).length:Int)) ((x_Itoa v0.source).bind fun y2=>(x_Itoa v0.serial).bind fun y3=>(x_Itoa v0.start).bind fun y4=>(x_Itoa v0.units).bind fun y5=>if (v0.part != 0)=true then ((x_Itoa v0.call).bind fun y8=>(x_Itoa v0.part).bind fun y9=>ck (([(([118,116,100,99]:List UInt8).take v0.kind.toNat).drop (v0.kind-1).toNat,y2,y3,v0.a,v6j1,y4,y5]:List (List UInt8)).length+([([112,97,114,116]:List UInt8),y8,y9]:List (List UInt8)).length≤1000000000) (if v0.last=true then (ck ((([(([118,116,100,99]:List UInt8).take v0.kind.toNat).drop (v0.kind-1).toNat,y2,y3,v0.a,v6j1,y4,y5]:List (List UInt8))++([([112,97,114,116]:List UInt8),y8,y9]:List (List UInt8))).length+([([108,97,115,116]:List UInt8)]:List (List UInt8)).length≤1000000000) (f_textual_Encode_j2 v0 ((([(([118,116,100,99]:List UInt8).take v0.kind.toNat).drop (v0.kind-1).toNat,y2,y3,v0.a,v6j1,y4,y5]:List (List UInt8))++([([112,97,114,116]:List UInt8),y8,y9]:List (List UInt8)))++([([108,97,115,116]:List UInt8)]:List (List UInt8))))) else f_textual_Encode_j2 v0 (([(([118,116,100,99]:List UInt8).take v0.kind.toNat).drop (v0.kind-1).toNat,y2,y3,v0.a,v6j1,y4,y5]:List (List UInt8))++([([112,97,114,116]:List UInt8),y8,y9]:List (List UInt8))))) else f_textual_Encode_j2 v0 ([(([118,116,100,99]:List UInt8).take v0.kind.toNat).drop (v0.kind-1).toNat,y2,y3,v0.a,v6j1,y4,y5]:List (List UInt8))))
def f_textual_Encode (v0:Record):Option ((List UInt8)×Int) :=
 (f_textual_check v0).bind fun y1=>if (y1 != 0)=true then some (([]:List UInt8),y1) else if (v0.b==([]:List UInt8))=true then (f_textual_Encode_j1 v0 ([45]:List UInt8)) else f_textual_Encode_j1 v0 v0.b
def f_batch_Check_l1 (v0b:Batch) (v17l1:Int):Option ((Int) ⊕ Int) :=
 if (decide (v17l1 < (v0b.records.length:Int)))=true then (ck ((0:Int)≤v17l1∧v17l1 < (v0b.records.length:Int)) ((f_textual_Encode (nth v0b.records v17l1.toNat)).bind fun y3=>if (y3.2 != 0)=true then some (.inr y3.2) else if (((nth v0b.records v17l1.toNat).source) != v0b.source)=true then some (.inr 8) else ck (R64 (v17l1+1)) (some (.inl (v17l1+1))))) else some (.inr 0)
def f_batch_Check (v0b:Batch):Option Int :=
 (f_batch_headOf v0b).bind fun y1=>(f_batch_checkHead y1).bind fun y2=>if (y2 != 0)=true then some y2 else loop (fun s=>f_batch_Check_l1 v0b s) 0
def f_codec_grown (v0b:List UInt8) (v1n:Int):Option (List UInt8) :=
 ck (R64 ((v0b.length:Int)+v1n)) (ck ((0:Int)≤(v0b.length:Int)∧(v0b.length:Int)≤((v0b.length:Int)+v1n)∧((v0b.length:Int)+v1n)≤(1000000000:Int)) (some (v0b.take (min v0b.length (List.replicate ((v0b.length:Int)).toNat 0:List UInt8).length)++(List.replicate ((v0b.length:Int)).toNat 0:List UInt8).drop (min v0b.length (List.replicate ((v0b.length:Int)).toNat 0:List UInt8).length))))
def f_codec_zigzag (v0n:Int):Option Int :=
 ck ((0:Int)≤1) (some (bXor .u64 (IntKind.wrap .u64 ((IntKind.wrap .u64 v0n)*2 ^ (min (Int.toNat (1)) 64))) (IntKind.wrap .u64 (v0n / 2 ^ (Int.toNat (63))))))
def g_codec_add_j1 (v0bj1:List UInt8) (v5uj1:Int):Option (List UInt8) :=
 ck (v0bj1.length+([UInt8.ofInt v5uj1]:List UInt8).length≤1000000000) (some (v0bj1++([UInt8.ofInt v5uj1]:List UInt8)))
def g_codec_add_l1 (v0bl1:List UInt8) (v5ul1:Int):Option ((List UInt8×Int) ⊕ (List UInt8)) :=
 if (decide (v5ul1≥128))=true then (ck (v0bl1.length+([(UInt8.ofInt v5ul1) ||| 128]:List UInt8).length≤1000000000) (ck ((0:Int)≤7) (some (.inl (v0bl1++([(UInt8.ofInt v5ul1) ||| 128]:List UInt8),Int.fdiv v5ul1 (2 ^ (min (Int.toNat (7)) 64))))))) else (g_codec_add_j1 v0bl1 v5ul1).map (fun z=>.inr z)
def g_codec_add (v1n:Int) (y0t0p:List UInt8):Option (List UInt8) :=
 (f_codec_zigzag v1n).bind fun y1=>loop (fun s=>g_codec_add_l1 s.1 s.2) (y0t0p,y1)
def f_codec_PutNumber (v0b:List UInt8) (v1n:Int):Option (List UInt8) :=
 (f_codec_grown v0b 10).bind fun y1=>(g_codec_add v1n y1).bind fun y2=>some y2
def f_batch_number (v0n:Int):Option ((List UInt8)×Int) :=
 (f_codec_PutNumber ([]:List UInt8) v0n).bind fun y1=>some (y1,0)
def f_digits_Pack_j1 (v0s:List UInt8) (v4bl1:List UInt8) (v5il1:Int) (v6lowj1:UInt8):Option ((List UInt8×Int) ⊕ ((List UInt8)×Int)) :=
 ck ((0:Int)≤v5il1∧v5il1 < (v0s.length:Int)) (ck ((0:Int)≤4) (ck (v4bl1.length+([(u8shl ((nth v0s v5il1.toNat) - 48) 4) ||| v6lowj1]:List UInt8).length≤1000000000) (ck (R64 (v5il1+2)) (some (.inl (v4bl1++([(u8shl ((nth v0s v5il1.toNat) - 48) 4) ||| v6lowj1]:List UInt8),v5il1+2))))))
def f_digits_Pack_l1 (v0s:List UInt8) (v4bl1:List UInt8) (v5il1:Int):Option ((List UInt8×Int) ⊕ ((List UInt8)×Int)) :=
 if (decide (v5il1 < (v0s.length:Int)))=true then (ck (R64 (v5il1+1)) (if (decide ((v5il1+1) < (v0s.length:Int)))=true then (ck (R64 (v5il1+1)) (ck ((0:Int)≤(v5il1+1)∧(v5il1+1) < (v0s.length:Int)) (f_digits_Pack_j1 v0s v4bl1 v5il1 ((nth v0s (v5il1+1).toNat) - 48)))) else f_digits_Pack_j1 v0s v4bl1 v5il1 15)) else some (.inr (v4bl1,0))
def f_digits_Pack (v0s:List UInt8):Option ((List UInt8)×Int) :=
 (f_digits_Valid v0s).bind fun y1=>if (!y1)=true then some (([]:List UInt8),12) else loop (fun s=>f_digits_Pack_l1 v0s s.1 s.2) (([]:List UInt8),0)
def f_tagged_bytes_l1 (v0nl1:Int) (v3outl1:List UInt8):Option ((Int×List UInt8) ⊕ (List UInt8)) :=
 if (decide (v0nl1 > 0))=true then (ck (([UInt8.ofInt v0nl1]:List UInt8).length+v3outl1.length≤1000000000) (ck ((0:Int)≤8∧8 < (63:Int)) (some (.inl (v0nl1 / 2 ^ (Int.toNat (8)),([UInt8.ofInt v0nl1]:List UInt8)++v3outl1))))) else some (.inr v3outl1)
def f_tagged_bytes (v0n:Int):Option (List UInt8) :=
 loop (fun s=>f_tagged_bytes_l1 s.1 s.2) (v0n,[])
def f_tagged_flag (v0holds:Bool) (v1n:Int):Option Int :=
 if v0holds=true then some v1n else some 0
def g_tagged_put (v1tag:Int) (v2value:List UInt8) (y0t0p:List UInt8):Option (List UInt8) :=
 ck (y0t0p.length+([UInt8.ofInt v1tag,UInt8.ofInt (v2value.length:Int)]:List UInt8).length≤1000000000) (ck ((y0t0p++([UInt8.ofInt v1tag,UInt8.ofInt (v2value.length:Int)]:List UInt8)).length+v2value.length≤1000000000) (some ((y0t0p++([UInt8.ofInt v1tag,UInt8.ofInt (v2value.length:Int)]:List UInt8))++v2value)))
def g_tagged_Encode_1 (v0tag:Int) (v1value:List UInt8) (y0t0p:List UInt8):Option (List UInt8) :=
 if (decide ((v1value.length:Int) > 0))=true then ((g_tagged_put v0tag v1value y0t0p).bind fun y1=>some y1) else some y0t0p
def f_tagged_Encode (v0:Record):Option ((List UInt8)×Int) :=
 (f_textual_Encode v0).bind fun y1=>if (y1.2 != 0)=true then some (([]:List UInt8),y1.2) else (f_digits_Pack v0.a).bind fun y2=>(f_digits_Pack v0.b).bind fun y3=>ck ((0:Int)≤2∧(2:Int)≤2∧2≤(1000000000:Int)) ((f_tagged_bytes v0.kind).bind fun y4=>(g_tagged_Encode_1 1 y4 (List.replicate (Int.toNat (2)) 0:List UInt8)).bind fun y5=>(f_tagged_bytes v0.source).bind fun y6=>(g_tagged_Encode_1 2 y6 y5).bind fun y7=>(f_tagged_bytes v0.serial).bind fun y8=>(g_tagged_Encode_1 3 y8 y7).bind fun y9=>(g_tagged_Encode_1 4 y2.1 y9).bind fun y10=>(g_tagged_Encode_1 5 y3.1 y10).bind fun y11=>(f_tagged_bytes v0.start).bind fun y12=>(g_tagged_Encode_1 6 y12 y11).bind fun y13=>(f_tagged_bytes v0.units).bind fun y14=>(g_tagged_Encode_1 7 y14 y13).bind fun y15=>(f_tagged_bytes v0.call).bind fun y16=>(g_tagged_Encode_1 8 y16 y15).bind fun y17=>(f_tagged_bytes v0.part).bind fun y18=>(g_tagged_Encode_1 9 y18 y17).bind fun y19=>(f_tagged_bytes v0.trunk).bind fun y20=>(g_tagged_Encode_1 10 y20 y19).bind fun y21=>(f_tagged_flag v0.last 1).bind fun y22=>(f_tagged_flag v0.inbound 2).bind fun y23=>ck (R64 (y22+y23)) ((f_tagged_bytes (y22+y23)).bind fun y24=>(g_tagged_Encode_1 11 y24 y21).bind fun y25=>ck (R64 ((y25.length:Int) - 2)) (ck ((0:Int)≤8∧8 < (63:Int)) (ck ((0:Int)≤0∧0 < (y25.length:Int)) (ck (Int.toNat (0) < y25.length) (ck ((0:Int)≤1∧1 < ((y25.set (Int.toNat (0)) (UInt8.ofInt (((y25.length:Int) - 2) / 2 ^ (Int.toNat (8))))).length:Int)) (ck (Int.toNat (1) < (y25.set (Int.toNat (0)) (UInt8.ofInt (((y25.length:Int) - 2) / 2 ^ (Int.toNat (8))))).length) (some ((y25.set (Int.toNat (0)) (UInt8.ofInt (((y25.length:Int) - 2) / 2 ^ (Int.toNat (8))))).set (Int.toNat (1)) (UInt8.ofInt ((y25.length:Int) - 2)),0)))))))))
def f_packed_PutDecimal_j1 (y0tj1:List UInt8) (v1nj1:Int):Option ((List UInt8)×Int) :=
 if (decide (v1nj1 > 0))=true then some (([]:List UInt8),6) else some (y0tj1,0)
def f_packed_PutDecimal_l1 (v0b:List UInt8) (y0tl1:List UInt8) (v1nl1:Int) (v9il1:Int):Option ((List UInt8×Int×Int) ⊕ ((List UInt8)×Int)) :=
 if (decide (v9il1≥(v0b.length:Int)))=true then (ck (10≠(0:Int)∧R64 (Int.tdiv v1nl1 10)) (ck (10≠(0:Int)) (ck ((0:Int)≤4∧4 < (63:Int)∧R64 ((Int.tmod (Int.tdiv v1nl1 10) 10)*2 ^ (Int.toNat (4)))) (ck (10≠(0:Int)) (ck ((0:Int)≤v9il1∧v9il1 < (y0tl1.length:Int)) (ck (v9il1.toNat < y0tl1.length) (ck (100≠(0:Int)∧R64 (Int.tdiv v1nl1 100)) (ck (R64 (v9il1-1)) (some (.inl (y0tl1.set v9il1.toNat (UInt8.ofInt (bOr .i64 ((Int.tmod (Int.tdiv v1nl1 10) 10)*2 ^ (Int.toNat (4))) (Int.tmod v1nl1 10))),Int.tdiv v1nl1 100,v9il1-1))))))))))) else (f_packed_PutDecimal_j1 y0tl1 v1nl1).map (fun z=>.inr z)
def f_packed_PutDecimal (v0b:List UInt8) (v1n:Int) (v2size:Int):Option ((List UInt8)×Int) :=
 if (((decide (v2size < 1)) || (decide (v2size > 9))) || (decide (v1n < 0)))=true then some (([]:List UInt8),6) else ck (R64 ((v0b.length:Int)+v2size)) (ck ((0:Int)≤((v0b.length:Int)+v2size)∧((v0b.length:Int)+v2size)≤((v0b.length:Int)+v2size)∧((v0b.length:Int)+v2size)≤(1000000000:Int)) (ck (R64 (((v0b.take (min v0b.length (List.replicate ((v0b.length:Int)+v2size).toNat 0:List UInt8).length)++(List.replicate ((v0b.length:Int)+v2size).toNat 0:List UInt8).drop (min v0b.length (List.replicate ((v0b.length:Int)+v2size).toNat 0:List UInt8).length)).length:Int) - 1)) (loop (fun s=>f_packed_PutDecimal_l1 v0b s.1 s.2.1 s.2.2) (v0b.take (min v0b.length (List.replicate ((v0b.length:Int)+v2size).toNat 0:List UInt8).length)++(List.replicate ((v0b.length:Int)+v2size).toNat 0:List UInt8).drop (min v0b.length (List.replicate ((v0b.length:Int)+v2size).toNat 0:List UInt8).length),v1n,((v0b.take (min v0b.length (List.replicate ((v0b.length:Int)+v2size).toNat 0:List UInt8).length)++(List.replicate ((v0b.length:Int)+v2size).toNat 0:List UInt8).drop (min v0b.length (List.replicate ((v0b.length:Int)+v2size).toNat 0:List UInt8).length)).length:Int) - 1))))
def f_packed_bit (v0holds:Bool) (v1n:UInt8):Option UInt8 :=
 if v0holds=true then some v1n else some 0
def f_packed_sum_l1 (v0b:List UInt8) (v3nl1:UInt8) (v8l1:Int):Option ((UInt8×Int) ⊕ UInt8) :=
 if (decide (v8l1 < (v0b.length:Int)))=true then (ck ((0:Int)≤v8l1∧v8l1 < (v0b.length:Int)) (ck (R64 (v8l1+1)) (some (.inl (v3nl1+(nth v0b v8l1.toNat),v8l1+1))))) else some (.inr v3nl1)
def f_packed_sum (v0b:List UInt8):Option UInt8 :=
 loop (fun s=>f_packed_sum_l1 v0b s.1 s.2) (0,0)
def g_packed_Encode_1 (v0n:Int) (v1size:Int):Option (List UInt8) :=
 (f_packed_PutDecimal ([]:List UInt8) v0n v1size).bind fun y1=>some y1.1
def g_packed_Encode_1_v1 (v0n:Int) (v1size:Int) (y0t0p:List UInt8):Option (List UInt8) :=
 (f_packed_PutDecimal y0t0p v0n v1size).bind fun y1=>some y1.1
def g_packed_putNumber_j1 (y0t0p:List UInt8) (o0c0j1:List UInt8):Option (List UInt8) :=
 ck (o0c0j1.length=8∧y0t0p.length+o0c0j1.length≤1000000000) (some (y0t0p++o0c0j1))
def g_packed_putNumber_l1 (v1s:List UInt8) (y0t0p:List UInt8) (v15l1:Int) (o0c0l1:List UInt8):Option ((Int×List UInt8) ⊕ (List UInt8)) :=
 if (decide (v15l1 < (v1s.length:Int)))=true then (ck ((0:Int)≤v15l1∧v15l1 < (v1s.length:Int)) (ck (2≠(0:Int)) (if ((Int.tmod v15l1 2)==0)=true then (ck (2≠(0:Int)∧R64 (Int.tdiv v15l1 2)) (ck ((0:Int)≤(Int.tdiv v15l1 2)∧(Int.tdiv v15l1 2) < (8:Int)) (ck (((Int.tdiv v15l1 2).toNat) < o0c0l1.length) (ck ((0:Int)≤(Int.tdiv v15l1 2)∧(Int.tdiv v15l1 2) < (8:Int)) (ck (((Int.tdiv v15l1 2).toNat) < o0c0l1.length) (ck (R64 (v15l1+1)) (some (.inl (v15l1+1,o0c0l1.set (Int.tdiv v15l1 2).toNat ((nth o0c0l1 (Int.tdiv v15l1 2).toNat) ||| ((nth v1s v15l1.toNat) - 48))))))))))) else ck (R64 (v15l1+1)) (ck (2≠(0:Int)∧R64 (Int.tdiv (v15l1+1) 2)) (ck ((0:Int)≤4) (ck ((0:Int)≤(Int.tdiv (v15l1+1) 2)∧(Int.tdiv (v15l1+1) 2) < (8:Int)) (ck (((Int.tdiv (v15l1+1) 2).toNat) < o0c0l1.length) (ck (R64 (v15l1+1)) (some (.inl (v15l1+1,o0c0l1.set (Int.tdiv (v15l1+1) 2).toNat (u8shl ((nth v1s v15l1.toNat) - 48) 4)))))))))))) else (g_packed_putNumber_j1 y0t0p o0c0l1).map (fun z=>.inr z)
def g_packed_putNumber (v1s:List UInt8) (y0t0p:List UInt8):Option (List UInt8) :=
 ck ((0:Int)≤4∧4 < (63:Int)∧R64 ((v1s.length:Int)*2 ^ (Int.toNat (4)))) (ck ((0:Int)≤0∧0 < (8:Int)) (ck ((Int.toNat (0)) < (List.replicate 8 0:List UInt8).length) (loop (fun s=>g_packed_putNumber_l1 v1s y0t0p s.1 s.2) (0,(List.replicate 8 0:List UInt8).set (Int.toNat (0)) (UInt8.ofInt ((v1s.length:Int)*2 ^ (Int.toNat (4))))))))
def f_packed_Encode (v0:Record):Option ((List UInt8)×Int) :=
 (f_textual_Encode v0).bind fun y1=>if (y1.2 != 0)=true then some (([]:List UInt8),y1.2) else (g_packed_Encode_1 v0.source 1).bind fun y2=>(g_packed_Encode_1_v1 v0.serial 5 y2).bind fun y3=>ck ((0:Int)≤4∧4 < (63:Int)∧R64 (v0.kind*2 ^ (Int.toNat (4)))) ((f_packed_bit v0.last 1).bind fun y4=>(f_packed_bit v0.inbound 2).bind fun y5=>ck (y3.length+([((UInt8.ofInt (v0.kind*2 ^ (Int.toNat (4)))) ||| y4) ||| y5]:List UInt8).length≤1000000000) ((g_packed_putNumber v0.a (y3++([((UInt8.ofInt (v0.kind*2 ^ (Int.toNat (4)))) ||| y4) ||| y5]:List UInt8))).bind fun y6=>(g_packed_putNumber v0.b y6).bind fun y7=>(g_packed_Encode_1_v1 v0.start 6 y7).bind fun y8=>(g_packed_Encode_1_v1 v0.units 7 y8).bind fun y9=>(g_packed_Encode_1_v1 v0.call 5 y9).bind fun y10=>(g_packed_Encode_1_v1 v0.part 1 y10).bind fun y11=>(g_packed_Encode_1_v1 v0.trunk 2 y11).bind fun y12=>(f_packed_sum y12).bind fun y13=>ck (y12.length+([y13]:List UInt8).length≤1000000000) (some (y12++([y13]:List UInt8),0))))
def f_batch_line (v0r:Record):Option ((List UInt8)×Int) :=
 (f_textual_Encode v0r).bind fun y1=>ck (y1.1.length+([10]:List UInt8).length≤9223372036854775807) (some (y1.1++([10]:List UInt8),y1.2))
def g_api_Record_byte_l1 (v0list:List Record) (v5outl1:List UInt8) (v12l1:Int):Option ((List UInt8×Int) ⊕ (List UInt8)) :=
 if (decide (v12l1 < (v0list.length:Int)))=true then (ck ((0:Int)≤v12l1∧v12l1 < (v0list.length:Int)) ((f_tagged_Encode (nth v0list v12l1.toNat)).bind fun y1=>ck (v5outl1.length+y1.1.length≤1000000000) (ck (R64 (v12l1+1)) (some (.inl (v5outl1++y1.1,v12l1+1)))))) else some (.inr v5outl1)
def g_api_Record_byte (v0list:List Record):Option (List UInt8) :=
 loop (fun s=>g_api_Record_byte_l1 v0list s.1 s.2) (([]:List UInt8),0)
def g_api_Record_byte_v1_l1 (v0list:List Record) (v5outl1:List UInt8) (v12l1:Int):Option ((List UInt8×Int) ⊕ (List UInt8)) :=
 if (decide (v12l1 < (v0list.length:Int)))=true then (ck ((0:Int)≤v12l1∧v12l1 < (v0list.length:Int)) ((f_packed_Encode (nth v0list v12l1.toNat)).bind fun y1=>ck (v5outl1.length+y1.1.length≤1000000000) (ck (R64 (v12l1+1)) (some (.inl (v5outl1++y1.1,v12l1+1)))))) else some (.inr v5outl1)
def g_api_Record_byte_v1 (v0list:List Record):Option (List UInt8) :=
 loop (fun s=>g_api_Record_byte_v1_l1 v0list s.1 s.2) (([]:List UInt8),0)
def g_api_Record_string_l1 (v0list:List Record) (v5outl1:List UInt8) (v12l1:Int):Option ((List UInt8×Int) ⊕ (List UInt8)) :=
 if (decide (v12l1 < (v0list.length:Int)))=true then (ck ((0:Int)≤v12l1∧v12l1 < (v0list.length:Int)) ((f_batch_line (nth v0list v12l1.toNat)).bind fun y1=>ck (v5outl1.length+y1.1.length≤1000000000) (ck (R64 (v12l1+1)) (some (.inl (v5outl1++y1.1,v12l1+1)))))) else some (.inr v5outl1)
def g_api_Record_string (v0list:List Record):Option (List UInt8) :=
 loop (fun s=>g_api_Record_string_l1 v0list s.1 s.2) (([]:List UInt8),0)
def f_batch_payload (v0format:Int) (v1records:List Record):Option (List UInt8) :=
 if (v0format==2)=true then ((g_api_Record_byte v1records).bind fun y1=>some y1) else if (v0format==3)=true then ((g_api_Record_byte_v1 v1records).bind fun y2=>some y2) else (g_api_Record_string v1records).bind fun y3=>some y3
def f_frame_Sum_l1 (v0b:List UInt8) (v3nl1:Int) (v8l1:Int):Option ((Int×Int) ⊕ Int) :=
 if (decide (v8l1 < (v0b.length:Int)))=true then (ck ((0:Int)≤v8l1∧v8l1 < (v0b.length:Int)) (ck (R64 (v8l1+1)) (some (.inl (IntKind.wrap .u32 ((bXor .u32 v3nl1 (IntKind.wrap .u32 ((nth v0b v8l1.toNat).toNat:Int)))*16777619),v8l1+1))))) else some (.inr v3nl1)
def f_frame_Sum (v0b:List UInt8):Option Int :=
 loop (fun s=>f_frame_Sum_l1 v0b s.1 s.2) (2166136261,0)
def g_frame_wrap_v1 (v1payload:List UInt8) (y0t0p:List UInt8):Option (List UInt8) :=
 (f_frame_Sum v1payload).bind fun y1=>(f_codec_PutNumber ([]:List UInt8) (v1payload.length:Int)).bind fun y2=>ck (y0t0p.length+y2.length≤1000000000) (ck ((0:Int)≤24) (ck ((0:Int)≤16) (ck ((0:Int)≤8) (ck ((y0t0p++y2).length+([UInt8.ofInt (Int.fdiv y1 (2 ^ (min (Int.toNat (24)) 32))),UInt8.ofInt (Int.fdiv y1 (2 ^ (min (Int.toNat (16)) 32))),UInt8.ofInt (Int.fdiv y1 (2 ^ (min (Int.toNat (8)) 32))),UInt8.ofInt y1]:List UInt8).length≤1000000000) (ck (((y0t0p++y2)++([UInt8.ofInt (Int.fdiv y1 (2 ^ (min (Int.toNat (24)) 32))),UInt8.ofInt (Int.fdiv y1 (2 ^ (min (Int.toNat (16)) 32))),UInt8.ofInt (Int.fdiv y1 (2 ^ (min (Int.toNat (8)) 32))),UInt8.ofInt y1]:List UInt8)).length+v1payload.length≤1000000000) (some (((y0t0p++y2)++([UInt8.ofInt (Int.fdiv y1 (2 ^ (min (Int.toNat (24)) 32))),UInt8.ofInt (Int.fdiv y1 (2 ^ (min (Int.toNat (16)) 32))),UInt8.ofInt (Int.fdiv y1 (2 ^ (min (Int.toNat (8)) 32))),UInt8.ofInt y1]:List UInt8))++v1payload)))))))
def f_frame_Join_l1 (v0list:List (List UInt8)) (v4outl1:List UInt8) (v9l1:Int):Option ((List UInt8×Int) ⊕ ((List UInt8)×Int)) :=
 if (decide (v9l1 < (v0list.length:Int)))=true then (ck ((0:Int)≤v9l1∧v9l1 < (v0list.length:Int)) (if (decide (((nth v0list v9l1.toNat).length:Int) > 1048576))=true then some (.inr (([]:List UInt8),5)) else (g_frame_wrap_v1 (nth v0list v9l1.toNat) v4outl1).bind fun y1=>ck (R64 (v9l1+1)) (some (.inl (y1,v9l1+1))))) else some (.inr (v4outl1,0))
def f_frame_Join (v0list:List (List UInt8)):Option ((List UInt8)×Int) :=
 loop (fun s=>f_frame_Join_l1 v0list s.1 s.2) (([]:List UInt8),0)
def g_batch_all_int_byte_l1 (v0list:List Int) (v5outl1:List UInt8) (v12l1:Int):Option ((List UInt8×Int) ⊕ (List UInt8)) :=
 if (decide (v12l1 < (v0list.length:Int)))=true then (ck ((0:Int)≤v12l1∧v12l1 < (v0list.length:Int)) ((f_batch_number (nth v0list v12l1.toNat)).bind fun y1=>ck (v5outl1.length+y1.1.length≤1000000000) (ck (R64 (v12l1+1)) (some (.inl (v5outl1++y1.1,v12l1+1)))))) else some (.inr v5outl1)
def g_batch_all_int_byte (v0list:List Int):Option (List UInt8) :=
 loop (fun s=>g_batch_all_int_byte_l1 v0list s.1 s.2) (([]:List UInt8),0)
def f_batch_Write (v0b:Batch):Option ((List UInt8)×Int) :=
 (f_batch_Check v0b).bind fun y1=>if (y1 != 0)=true then some (([]:List UInt8),y1) else (f_batch_headOf v0b).bind fun y2=>(f_batch_Totals v0b.records).bind fun y3=>(g_batch_all_int_byte ([y2.source,y2.number,y2.format,y2.count]:List Int)).bind fun y4=>(f_batch_payload v0b.format v0b.records).bind fun y5=>ck (([nth y3.units 1,nth y3.units 2,nth y3.units 3,nth y3.units 4]:List Int).length=4∧([y3.count]:List Int).length+([nth y3.units 1,nth y3.units 2,nth y3.units 3,nth y3.units 4]:List Int).length≤1000000000) ((g_batch_all_int_byte (([y3.count]:List Int)++([nth y3.units 1,nth y3.units 2,nth y3.units 3,nth y3.units 4]:List Int))).bind fun y6=>(f_frame_Join ([y4,y5,y6]:List (List UInt8))).bind fun y7=>some (y7.1,y7.2))
def f_codec_back (v0u:Int):Option Int :=
 ck ((0:Int)≤1) (ck ((-9223372036854775807:Int)≤IntKind.wrap .i64 (bAnd .u64 v0u 1)∧IntKind.wrap .i64 (bAnd .u64 v0u 1)≤9223372036854775807) (some (bXor .i64 (IntKind.wrap .i64 (Int.fdiv v0u (2 ^ (min (Int.toNat (1)) 64)))) (-(IntKind.wrap .i64 (bAnd .u64 v0u 1))))))
def f_codec_scan_l1 (v0b:List UInt8) (v5ul1:Int) (v6il1:Int):Option ((Int×Int) ⊕ (Int×Int×Int)) :=
 if (decide (v6il1 < (v0b.length:Int)))=true then (ck ((0:Int)≤v6il1∧v6il1 < (v0b.length:Int)) (if (((v6il1==9) && ((nth v0b v6il1.toNat) != 1)) || ((decide (v6il1 > 0)) && ((nth v0b v6il1.toNat)==0)))=true then some (.inr (0,0,1)) else ck (R64 (7*v6il1)) (ck ((0:Int)≤7*v6il1) (if (decide ((nth v0b v6il1.toNat) < 128))=true then ((f_codec_back (bOr .u64 v5ul1 (IntKind.wrap .u64 ((IntKind.wrap .u64 (((nth v0b v6il1.toNat) &&& 127).toNat:Int))*2 ^ (min (7*v6il1).toNat 64))))).bind fun y1=>ck (R64 (v6il1+1)) (some (.inr (y1,v6il1+1,0)))) else ck (R64 (v6il1+1)) (some (.inl (bOr .u64 v5ul1 (IntKind.wrap .u64 ((IntKind.wrap .u64 (((nth v0b v6il1.toNat) &&& 127).toNat:Int))*2 ^ (min (7*v6il1).toNat 64))),v6il1+1))))))) else some (.inr (0,0,2))
def f_codec_scan (v0b:List UInt8):Option (Int×Int×Int) :=
 loop (fun s=>f_codec_scan_l1 v0b s.1 s.2) (0,0)
def f_codec_rest (v0b:List UInt8) (v1i:Int):Option (List UInt8) :=
 ck (R64 ((v0b.length:Int) - v1i)) (ck ((0:Int)≤((v0b.length:Int) - v1i)∧((v0b.length:Int) - v1i)≤((v0b.length:Int) - v1i)∧((v0b.length:Int) - v1i)≤(1000000000:Int)) (ck ((0:Int)≤v1i∧v1i≤(v0b.length:Int)∧(v0b.length:Int)≤(v0b.length:Int)∧(v0b.length:Int)≤(v0b.length:Int)) (some (((v0b.take ((v0b.length:Int)).toNat).drop v1i.toNat).take (min ((v0b.take ((v0b.length:Int)).toNat).drop v1i.toNat).length (List.replicate ((v0b.length:Int) - v1i).toNat 0:List UInt8).length)++(List.replicate ((v0b.length:Int) - v1i).toNat 0:List UInt8).drop (min ((v0b.take ((v0b.length:Int)).toNat).drop v1i.toNat).length (List.replicate ((v0b.length:Int) - v1i).toNat 0:List UInt8).length)))))
def f_codec_Number (v0b:List UInt8):Option (Int×(List UInt8)×Int) :=
 (f_codec_scan v0b).bind fun y1=>if (y1.2.2 != 0)=true then some (0,([]:List UInt8),y1.2.2) else (f_codec_rest v0b y1.2.1).bind fun y2=>some (y1.1,y2,0)
def f_frame_locate (v0:List UInt8):Option (Int×Int×Int) :=
 ck ((0:Int)≤(if 10 < (v0.length:Int) then 10 else (v0.length:Int))∧(if 10 < (v0.length:Int) then 10 else (v0.length:Int))≤(if 10 < (v0.length:Int) then 10 else (v0.length:Int))∧(if 10 < (v0.length:Int) then 10 else (v0.length:Int))≤(v0.length:Int)) ((f_codec_Number (v0.take ((if 10 < (v0.length:Int) then 10 else (v0.length:Int))).toNat)).bind fun y1=>if (y1.2.2 != 0)=true then some (0,0,y1.2.2) else if (decide (y1.1 < 0))=true then some (0,0,1) else if (decide (y1.1 > 1048576))=true then some (0,0,5) else ck (R64 (((v0.take ((if 10 < (v0.length:Int) then 10 else (v0.length:Int))).toNat).length:Int) - (y1.2.1.length:Int))) (ck (R64 ((v0.length:Int) - (((v0.take ((if 10 < (v0.length:Int) then 10 else (v0.length:Int))).toNat).length:Int) - (y1.2.1.length:Int)))) (ck (R64 (4+y1.1)) (if (decide (((v0.length:Int) - (((v0.take ((if 10 < (v0.length:Int) then 10 else (v0.length:Int))).toNat).length:Int) - (y1.2.1.length:Int))) < (4+y1.1)))=true then some (0,0,2) else ck ((0:Int)≤(((v0.take ((if 10 < (v0.length:Int) then 10 else (v0.length:Int))).toNat).length:Int) - (y1.2.1.length:Int))∧(((v0.take ((if 10 < (v0.length:Int) then 10 else (v0.length:Int))).toNat).length:Int) - (y1.2.1.length:Int)) < (v0.length:Int)) (ck ((0:Int)≤24) (ck (R64 ((((v0.take ((if 10 < (v0.length:Int) then 10 else (v0.length:Int))).toNat).length:Int) - (y1.2.1.length:Int))+1)) (ck ((0:Int)≤((((v0.take ((if 10 < (v0.length:Int) then 10 else (v0.length:Int))).toNat).length:Int) - (y1.2.1.length:Int))+1)∧((((v0.take ((if 10 < (v0.length:Int) then 10 else (v0.length:Int))).toNat).length:Int) - (y1.2.1.length:Int))+1) < (v0.length:Int)) (ck ((0:Int)≤16) (ck (R64 ((((v0.take ((if 10 < (v0.length:Int) then 10 else (v0.length:Int))).toNat).length:Int) - (y1.2.1.length:Int))+2)) (ck ((0:Int)≤((((v0.take ((if 10 < (v0.length:Int) then 10 else (v0.length:Int))).toNat).length:Int) - (y1.2.1.length:Int))+2)∧((((v0.take ((if 10 < (v0.length:Int) then 10 else (v0.length:Int))).toNat).length:Int) - (y1.2.1.length:Int))+2) < (v0.length:Int)) (ck ((0:Int)≤8) (ck (R64 ((((v0.take ((if 10 < (v0.length:Int) then 10 else (v0.length:Int))).toNat).length:Int) - (y1.2.1.length:Int))+3)) (ck ((0:Int)≤((((v0.take ((if 10 < (v0.length:Int) then 10 else (v0.length:Int))).toNat).length:Int) - (y1.2.1.length:Int))+3)∧((((v0.take ((if 10 < (v0.length:Int) then 10 else (v0.length:Int))).toNat).length:Int) - (y1.2.1.length:Int))+3) < (v0.length:Int)) (ck (R64 ((((v0.take ((if 10 < (v0.length:Int) then 10 else (v0.length:Int))).toNat).length:Int) - (y1.2.1.length:Int))+4)) (ck (R64 ((((v0.take ((if 10 < (v0.length:Int) then 10 else (v0.length:Int))).toNat).length:Int) - (y1.2.1.length:Int))+4)) (ck (R64 (((((v0.take ((if 10 < (v0.length:Int) then 10 else (v0.length:Int))).toNat).length:Int) - (y1.2.1.length:Int))+4)+y1.1)) (ck ((0:Int)≤(((v0.take ((if 10 < (v0.length:Int) then 10 else (v0.length:Int))).toNat).length:Int) - (y1.2.1.length:Int))+4∧(((v0.take ((if 10 < (v0.length:Int) then 10 else (v0.length:Int))).toNat).length:Int) - (y1.2.1.length:Int))+4≤((((v0.take ((if 10 < (v0.length:Int) then 10 else (v0.length:Int))).toNat).length:Int) - (y1.2.1.length:Int))+4)+y1.1∧((((v0.take ((if 10 < (v0.length:Int) then 10 else (v0.length:Int))).toNat).length:Int) - (y1.2.1.length:Int))+4)+y1.1≤(v0.length:Int)) ((f_frame_Sum ((v0.take (((((v0.take ((if 10 < (v0.length:Int) then 10 else (v0.length:Int))).toNat).length:Int) - (y1.2.1.length:Int))+4)+y1.1).toNat).drop ((((v0.take ((if 10 < (v0.length:Int) then 10 else (v0.length:Int))).toNat).length:Int) - (y1.2.1.length:Int))+4).toNat)).bind fun y2=>if (y2 != (bOr .u32 (bOr .u32 (bOr .u32 (IntKind.wrap .u32 ((IntKind.wrap .u32 ((nth v0 (((v0.take ((if 10 < (v0.length:Int) then 10 else (v0.length:Int))).toNat).length:Int) - (y1.2.1.length:Int)).toNat).toNat:Int))*2 ^ (min (Int.toNat (24)) 32))) (IntKind.wrap .u32 ((IntKind.wrap .u32 ((nth v0 ((((v0.take ((if 10 < (v0.length:Int) then 10 else (v0.length:Int))).toNat).length:Int) - (y1.2.1.length:Int))+1).toNat).toNat:Int))*2 ^ (min (Int.toNat (16)) 32)))) (IntKind.wrap .u32 ((IntKind.wrap .u32 ((nth v0 ((((v0.take ((if 10 < (v0.length:Int) then 10 else (v0.length:Int))).toNat).length:Int) - (y1.2.1.length:Int))+2).toNat).toNat:Int))*2 ^ (min (Int.toNat (8)) 32)))) (IntKind.wrap .u32 ((nth v0 ((((v0.take ((if 10 < (v0.length:Int) then 10 else (v0.length:Int))).toNat).length:Int) - (y1.2.1.length:Int))+3).toNat).toNat:Int))))=true then some (0,0,4) else ck (R64 ((((v0.take ((if 10 < (v0.length:Int) then 10 else (v0.length:Int))).toNat).length:Int) - (y1.2.1.length:Int))+4)) (ck (R64 ((((v0.take ((if 10 < (v0.length:Int) then 10 else (v0.length:Int))).toNat).length:Int) - (y1.2.1.length:Int))+4)) (ck (R64 (((((v0.take ((if 10 < (v0.length:Int) then 10 else (v0.length:Int))).toNat).length:Int) - (y1.2.1.length:Int))+4)+y1.1)) (some ((((v0.take ((if 10 < (v0.length:Int) then 10 else (v0.length:Int))).toNat).length:Int) - (y1.2.1.length:Int))+4,((((v0.take ((if 10 < (v0.length:Int) then 10 else (v0.length:Int))).toNat).length:Int) - (y1.2.1.length:Int))+4)+y1.1,0))))))))))))))))))))))
def f_frame_copied (v0b:List UInt8) (v1from:Int) (v2to:Int):Option (List UInt8) :=
 ck (R64 (v2to-v1from)) (ck ((0:Int)≤(v2to-v1from)∧(v2to-v1from)≤(v2to-v1from)∧(v2to-v1from)≤(1000000000:Int)) (ck ((0:Int)≤v1from∧v1from≤v2to∧v2to≤v2to∧v2to≤(v0b.length:Int)) (some (((v0b.take v2to.toNat).drop v1from.toNat).take (min ((v0b.take v2to.toNat).drop v1from.toNat).length (List.replicate (v2to-v1from).toNat 0:List UInt8).length)++(List.replicate (v2to-v1from).toNat 0:List UInt8).drop (min ((v0b.take v2to.toNat).drop v1from.toNat).length (List.replicate (v2to-v1from).toNat 0:List UInt8).length)))))
def f_frame_Unwrap (v0b:List UInt8):Option ((List UInt8)×(List UInt8)×Int) :=
 (f_frame_locate v0b).bind fun y1=>if (y1.2.2 != 0)=true then some (([]:List UInt8),([]:List UInt8),y1.2.2) else (f_frame_copied v0b y1.1 y1.2.1).bind fun y2=>(f_frame_copied v0b y1.2.1 (v0b.length:Int)).bind fun y3=>some (y2,y3,0)
def g_batch_numbers_j1 (v0bj1:List UInt8) (o1c0j1:Int) (o1c1j1:Int) (o1c2j1:Int) (o1c3j1:Int):Option (Int×Head) :=
 if (decide ((v0bj1.length:Int) > 0))=true then some (3,(⟨o1c0j1,o1c1j1,o1c2j1,o1c3j1⟩:Head)) else some (0,(⟨o1c0j1,o1c1j1,o1c2j1,o1c3j1⟩:Head))
def g_batch_numbers (v0b:List UInt8) (o1c0p:Head):Option (Int×Head) :=
 (f_codec_Number v0b).bind fun y1=>if (y1.2.2 != 0)=true then some (y1.2.2,o1c0p) else (f_codec_Number y1.2.1).bind fun y2=>if (y2.2.2 != 0)=true then some (y2.2.2,(⟨y1.1,o1c0p.number,o1c0p.format,o1c0p.count⟩:Head)) else (f_codec_Number y2.2.1).bind fun y3=>if (y3.2.2 != 0)=true then some (y3.2.2,(⟨y1.1,y2.1,o1c0p.format,o1c0p.count⟩:Head)) else (f_codec_Number y3.2.1).bind fun y4=>if (y4.2.2 != 0)=true then some (y4.2.2,(⟨y1.1,y2.1,y3.1,o1c0p.count⟩:Head)) else g_batch_numbers_j1 y4.2.1 y1.1 y2.1 y3.1 y4.1
def f_batch_first (v0data:List UInt8):Option (Head×(List UInt8)×Int) :=
 (f_frame_Unwrap v0data).bind fun y1=>if (y1.2.2 != 0)=true then some ((⟨0,0,0,0⟩:Head),([]:List UInt8),y1.2.2) else (g_batch_numbers y1.1 (⟨0,0,0,0⟩:Head)).bind fun y2=>if (y2.1 != 0)=true then some ((⟨0,0,0,0⟩:Head),([]:List UInt8),y2.1) else (f_batch_checkHead y2.2).bind fun y3=>if (y3 != 0)=true then some ((⟨0,0,0,0⟩:Head),([]:List UInt8),y3) else some (y2.2,y1.2.1,0)
def f_batch_Head (v0data:List UInt8):Option (Head×Int) :=
 (f_batch_first v0data).bind fun y1=>some (y1.1,y1.2.2)
def f_w12_awake:Option Bool :=
 (f_batch_Totals ([(⟨6,1,1,([49]:List UInt8),([50]:List UInt8),0,90,0,0,false,0,false⟩:Record),(⟨0,0,2,([]:List UInt8),([]:List UInt8),0,1,0,0,false,0,false⟩:Record)]:List Record)).bind fun y1=>(f_batch_Write (⟨1,1,1,([]:List Record)⟩:Batch)).bind fun y2=>(f_batch_Head y2.1).bind fun y3=>(gcall (((((((y1.count==2) && ((nth y1.units 1)==90)) && ((nth y1.units 2)==1)) && (y2.2==0)) && ((y2.1.length:Int)==24)) && (y3.2==0)) && (eqVs (Head.vals y3.1) (Head.vals (⟨1,1,1,0⟩:Head)))) (f_batch_Check (⟨5,1,1,([(⟨6,1,1,([49]:List UInt8),([50]:List UInt8),0,90,0,0,false,0,false⟩:Record)]:List Record)⟩:Batch))).bind fun y4=>some ((((((((y1.count==2) && ((nth y1.units 1)==90)) && ((nth y1.units 2)==1)) && (y2.2==0)) && ((y2.1.length:Int)==24)) && (y3.2==0)) && (eqVs (Head.vals y3.1) (Head.vals (⟨1,1,1,0⟩:Head)))) && (y4==8))
def f_r07_join (v0a:List UInt8) (v1b:List UInt8):Option (List UInt8) :=
 ck (([]:List UInt8).length+v0a.length≤1000000000) (ck ((([]:List UInt8)++v0a).length+v1b.length≤1000000000) (some ((([]:List UInt8)++v0a)++v1b)))
def f_r08_Sum_l1 (v0b:List UInt8) (v3nl1:Int) (v4il1:Int):Option ((Int×Int) ⊕ Int) :=
 if (decide (v4il1 < (v0b.length:Int)))=true then (ck ((0:Int)≤v4il1∧v4il1 < (v0b.length:Int)) (ck (R64 (v4il1+1)) (some (.inl (IntKind.wrap .u32 ((bXor .u32 v3nl1 (IntKind.wrap .u32 ((nth v0b v4il1.toNat).toNat:Int)))*16777619),v4il1+1))))) else some (.inr v3nl1)
def f_r08_Sum (v0b:List UInt8):Option Int :=
 loop (fun s=>f_r08_Sum_l1 v0b s.1 s.2) (2166136261,0)
def f_tagged_size (v0b:List UInt8):Option (Int×Int) :=
 if (decide ((v0b.length:Int) < 2))=true then some (0,2) else ck ((0:Int)≤0∧0 < (v0b.length:Int)) (ck ((0:Int)≤8∧8 < (63:Int)∧R64 (((nth v0b (Int.toNat (0))).toNat:Int)*2 ^ (Int.toNat (8)))) (ck (R64 (2+(((nth v0b (Int.toNat (0))).toNat:Int)*2 ^ (Int.toNat (8))))) (ck ((0:Int)≤1∧1 < (v0b.length:Int)) (ck (R64 ((2+(((nth v0b (Int.toNat (0))).toNat:Int)*2 ^ (Int.toNat (8))))+((nth v0b (Int.toNat (1))).toNat:Int))) (if (decide ((v0b.length:Int) < ((2+(((nth v0b (Int.toNat (0))).toNat:Int)*2 ^ (Int.toNat (8))))+((nth v0b (Int.toNat (1))).toNat:Int))))=true then some (0,2) else some ((2+(((nth v0b (Int.toNat (0))).toNat:Int)*2 ^ (Int.toNat (8))))+((nth v0b (Int.toNat (1))).toNat:Int),0))))))
def f_tagged_Elements_l1 (v0bl1:List UInt8) (v4outl1:List Element) (v5lastl1:Int):Option ((List UInt8×List Element×Int) ⊕ ((List Element)×Int)) :=
 if (decide ((v0bl1.length:Int) > 0))=true then (ck ((0:Int)≤0∧0 < (v0bl1.length:Int)) (if (((nth v0bl1 (Int.toNat (0))).toNat:Int)==0)=true then some (.inr (([]:List Element),6)) else if (decide (((nth v0bl1 (Int.toNat (0))).toNat:Int)≤v5lastl1))=true then some (.inr (([]:List Element),9)) else ck ((!(decide ((v0bl1.length:Int) < 2)))=true→(R64 ((v0bl1.length:Int) - 2))) (ck ((!(decide ((v0bl1.length:Int) < 2)))=true→((0:Int)≤1∧1 < (v0bl1.length:Int))) (if ((decide ((v0bl1.length:Int) < 2)) || (decide (((v0bl1.length:Int) - 2) < ((nth v0bl1 (Int.toNat (1))).toNat:Int))))=true then some (.inr (([]:List Element),2)) else ck ((0:Int)≤1∧1 < (v0bl1.length:Int)) (ck (R64 (2+((nth v0bl1 (Int.toNat (1))).toNat:Int))) (ck ((0:Int)≤(2:Int)∧(2:Int)≤2+((nth v0bl1 (Int.toNat (1))).toNat:Int)∧2+((nth v0bl1 (Int.toNat (1))).toNat:Int)≤(v0bl1.length:Int)) (ck (((v0bl1.take (Int.toNat (2+((nth v0bl1 (Int.toNat (1))).toNat:Int)))).drop ((2:Int)).toNat).length≤1000000000) (ck (v4outl1.length+([(⟨((nth v0bl1 (Int.toNat (0))).toNat:Int),(v0bl1.take (Int.toNat (2+((nth v0bl1 (Int.toNat (1))).toNat:Int)))).drop ((2:Int)).toNat⟩:Element)]:List Element).length≤1000000000) (ck ((0:Int)≤2+((nth v0bl1 (Int.toNat (1))).toNat:Int)∧2+((nth v0bl1 (Int.toNat (1))).toNat:Int)≤(v0bl1.length:Int)) (some (.inl (v0bl1.drop (Int.toNat (2+((nth v0bl1 (Int.toNat (1))).toNat:Int))),v4outl1++([(⟨((nth v0bl1 (Int.toNat (0))).toNat:Int),(v0bl1.take (Int.toNat (2+((nth v0bl1 (Int.toNat (1))).toNat:Int)))).drop ((2:Int)).toNat⟩:Element)]:List Element),((nth v0bl1 (Int.toNat (0))).toNat:Int))))))))))))) else some (.inr (v4outl1,0))
def f_tagged_Elements (v0b:List UInt8):Option ((List Element)×Int) :=
 loop (fun s=>f_tagged_Elements_l1 s.1 s.2.1 s.2.2) (v0b,([]:List Element),0)
def f_tagged_number_l1 (v0value:List UInt8) (v4nl1:Int) (v23l1:Int):Option ((Int×Int) ⊕ (Int×Bool)) :=
 if (decide (v23l1 < (v0value.length:Int)))=true then (ck ((0:Int)≤v23l1∧v23l1 < (v0value.length:Int)) (ck ((0:Int)≤8∧8 < (63:Int)∧R64 (v4nl1*2 ^ (Int.toNat (8)))) (ck (R64 ((v4nl1*2 ^ (Int.toNat (8)))+((nth v0value v23l1.toNat).toNat:Int))) (ck (R64 (v23l1+1)) (some (.inl ((v4nl1*2 ^ (Int.toNat (8)))+((nth v0value v23l1.toNat).toNat:Int),v23l1+1))))))) else some (.inr (v4nl1,true))
def f_tagged_number (v0value:List UInt8):Option (Int×Bool) :=
 ck ((!((decide ((v0value.length:Int) < 1)) || (decide ((v0value.length:Int) > 6))))=true→((0:Int)≤0∧0 < (v0value.length:Int))) (if (((decide ((v0value.length:Int) < 1)) || (decide ((v0value.length:Int) > 6))) || ((nth v0value (Int.toNat (0)))==0))=true then some (0,false) else loop (fun s=>f_tagged_number_l1 v0value s.1 s.2) (0,0))
def f_digits_Unpack_j1 (v4sj1:List UInt8):Option ((List UInt8)×Int) :=
 (f_digits_Valid v4sj1).bind fun y1=>if (!y1)=true then some (([]:List UInt8),12) else some (v4sj1,0)
def f_digits_Unpack_l1 (v0b:List UInt8) (v4sl1:List UInt8) (v9l1:Int):Option ((List UInt8×Int) ⊕ ((List UInt8)×Int)) :=
 if (decide (v9l1 < (v0b.length:Int)))=true then (ck ((0:Int)≤v9l1∧v9l1 < (v0b.length:Int)) (ck ((0:Int)≤4) (ck (v4sl1.length+([48+(u8shr (nth v0b v9l1.toNat) 4)]:List UInt8).length≤1000000000) (ck ((!(((nth v0b v9l1.toNat) &&& 15) != 15))=true→(R64 ((v0b.length:Int) - 1))) (if ((((nth v0b v9l1.toNat) &&& 15) != 15) || (decide (v9l1 < ((v0b.length:Int) - 1))))=true then (ck ((v4sl1++([48+(u8shr (nth v0b v9l1.toNat) 4)]:List UInt8)).length+([48+((nth v0b v9l1.toNat) &&& 15)]:List UInt8).length≤1000000000) (ck (R64 (v9l1+1)) (some (.inl ((v4sl1++([48+(u8shr (nth v0b v9l1.toNat) 4)]:List UInt8))++([48+((nth v0b v9l1.toNat) &&& 15)]:List UInt8),v9l1+1))))) else ck (R64 (v9l1+1)) (some (.inl (v4sl1++([48+(u8shr (nth v0b v9l1.toNat) 4)]:List UInt8),v9l1+1)))))))) else (f_digits_Unpack_j1 v4sl1).map (fun z=>.inr z)
def f_digits_Unpack (v0b:List UInt8):Option ((List UInt8)×Int) :=
 loop (fun s=>f_digits_Unpack_l1 v0b s.1 s.2) (([]:List UInt8),0)
def g_tagged_field_j1 (v1:Element) (o0c0p:Record) (v55j1:Bool):Option (Bool×Record) :=
 if v55j1=true then ((f_digits_Unpack v1.value).bind fun y9=>if (v1.tag==4)=true then some ((y9.2==0),(⟨o0c0p.source,o0c0p.serial,o0c0p.kind,y9.1,o0c0p.b,o0c0p.start,o0c0p.units,o0c0p.call,o0c0p.part,o0c0p.last,o0c0p.trunk,o0c0p.inbound⟩:Record)) else some ((y9.2==0),(⟨o0c0p.source,o0c0p.serial,o0c0p.kind,o0c0p.a,y9.1,o0c0p.start,o0c0p.units,o0c0p.call,o0c0p.part,o0c0p.last,o0c0p.trunk,o0c0p.inbound⟩:Record))) else if (v1.tag==11)=true then (ck ((!((v1.value.length:Int) != 1))=true→((0:Int)≤0∧0 < (v1.value.length:Int))) (ck ((!(((v1.value.length:Int) != 1) || (decide ((nth v1.value (Int.toNat (0))) < 1))))=true→((0:Int)≤0∧0 < (v1.value.length:Int))) (if ((((v1.value.length:Int) != 1) || (decide ((nth v1.value (Int.toNat (0))) < 1))) || (decide ((nth v1.value (Int.toNat (0))) > 3)))=true then some (false,o0c0p) else ck ((0:Int)≤0∧0 < (v1.value.length:Int)) (ck ((0:Int)≤0∧0 < (v1.value.length:Int)) (some (true,(⟨o0c0p.source,o0c0p.serial,o0c0p.kind,o0c0p.a,o0c0p.b,o0c0p.start,o0c0p.units,o0c0p.call,o0c0p.part,(((nth v1.value (Int.toNat (0))) &&& 1) != 0),o0c0p.trunk,(((nth v1.value (Int.toNat (0))) &&& 2) != 0)⟩:Record))))))) else some (false,o0c0p)
def g_tagged_field (v1:Element) (o0c0p:Record):Option (Bool×Record) :=
 if (decide (v1.tag=1))=true then ((f_tagged_number v1.value).bind fun y1=>some (y1.2,(⟨o0c0p.source,o0c0p.serial,y1.1,o0c0p.a,o0c0p.b,o0c0p.start,o0c0p.units,o0c0p.call,o0c0p.part,o0c0p.last,o0c0p.trunk,o0c0p.inbound⟩:Record))) else if (decide (v1.tag=2))=true then ((f_tagged_number v1.value).bind fun y2=>some (y2.2,(⟨y2.1,o0c0p.serial,o0c0p.kind,o0c0p.a,o0c0p.b,o0c0p.start,o0c0p.units,o0c0p.call,o0c0p.part,o0c0p.last,o0c0p.trunk,o0c0p.inbound⟩:Record))) else if (decide (v1.tag=3))=true then ((f_tagged_number v1.value).bind fun y3=>some (y3.2,(⟨o0c0p.source,y3.1,o0c0p.kind,o0c0p.a,o0c0p.b,o0c0p.start,o0c0p.units,o0c0p.call,o0c0p.part,o0c0p.last,o0c0p.trunk,o0c0p.inbound⟩:Record))) else if (decide (v1.tag=6))=true then ((f_tagged_number v1.value).bind fun y4=>some (y4.2,(⟨o0c0p.source,o0c0p.serial,o0c0p.kind,o0c0p.a,o0c0p.b,y4.1,o0c0p.units,o0c0p.call,o0c0p.part,o0c0p.last,o0c0p.trunk,o0c0p.inbound⟩:Record))) else if (decide (v1.tag=7))=true then ((f_tagged_number v1.value).bind fun y5=>some (y5.2,(⟨o0c0p.source,o0c0p.serial,o0c0p.kind,o0c0p.a,o0c0p.b,o0c0p.start,y5.1,o0c0p.call,o0c0p.part,o0c0p.last,o0c0p.trunk,o0c0p.inbound⟩:Record))) else if (decide (v1.tag=8))=true then ((f_tagged_number v1.value).bind fun y6=>some (y6.2,(⟨o0c0p.source,o0c0p.serial,o0c0p.kind,o0c0p.a,o0c0p.b,o0c0p.start,o0c0p.units,y6.1,o0c0p.part,o0c0p.last,o0c0p.trunk,o0c0p.inbound⟩:Record))) else if (decide (v1.tag=9))=true then ((f_tagged_number v1.value).bind fun y7=>some (y7.2,(⟨o0c0p.source,o0c0p.serial,o0c0p.kind,o0c0p.a,o0c0p.b,o0c0p.start,o0c0p.units,o0c0p.call,y7.1,o0c0p.last,o0c0p.trunk,o0c0p.inbound⟩:Record))) else if (decide (v1.tag=10))=true then ((f_tagged_number v1.value).bind fun y8=>some (y8.2,(⟨o0c0p.source,o0c0p.serial,o0c0p.kind,o0c0p.a,o0c0p.b,o0c0p.start,o0c0p.units,o0c0p.call,o0c0p.part,o0c0p.last,y8.1,o0c0p.inbound⟩:Record))) else if (v1.tag==4)=true then (g_tagged_field_j1 v1 o0c0p (v1.tag==4)) else g_tagged_field_j1 v1 o0c0p (v1.tag==5)
def f_tagged_Decode_j2 (o1c0j2:Int) (o1c1j2:Int) (o1c2j2:Int) (o1c3j2:List UInt8) (o1c4j2:List UInt8) (o1c5j2:Int) (o1c6j2:Int) (o1c7j2:Int) (o1c8j2:Int) (o1c9j2:Bool) (o1c10j2:Int) (o1c11j2:Bool):Option (Record×Int) :=
 (f_textual_Encode (⟨o1c0j2,o1c1j2,o1c2j2,o1c3j2,o1c4j2,o1c5j2,o1c6j2,o1c7j2,o1c8j2,o1c9j2,o1c10j2,o1c11j2⟩:Record)).bind fun y3=>if (y3.2 != 0)=true then some ((⟨0,0,0,([]:List UInt8),([]:List UInt8),0,0,0,0,false,0,false⟩:Record),y3.2) else some ((⟨o1c0j2,o1c1j2,o1c2j2,o1c3j2,o1c4j2,o1c5j2,o1c6j2,o1c7j2,o1c8j2,o1c9j2,o1c10j2,o1c11j2⟩:Record),0)
def f_tagged_Decode_l1 (y2:(List Element)×Int) (v41l1:Int) (o1c0l1:Int) (o1c1l1:Int) (o1c2l1:Int) (o1c3l1:List UInt8) (o1c4l1:List UInt8) (o1c5l1:Int) (o1c6l1:Int) (o1c7l1:Int) (o1c8l1:Int) (o1c9l1:Bool) (o1c10l1:Int) (o1c11l1:Bool):Option ((Int×Int×Int×Int×List UInt8×List UInt8×Int×Int×Int×Int×Bool×Int×Bool) ⊕ (Record×Int)) :=
 if (decide (v41l1 < (y2.1.length:Int)))=true then (ck ((0:Int)≤v41l1∧v41l1 < (y2.1.length:Int)) ((g_tagged_field (nth y2.1 v41l1.toNat) (⟨o1c0l1,o1c1l1,o1c2l1,o1c3l1,o1c4l1,o1c5l1,o1c6l1,o1c7l1,o1c8l1,o1c9l1,o1c10l1,o1c11l1⟩:Record)).bind fun y4=>if (!y4.1)=true then some (.inr ((⟨0,0,0,([]:List UInt8),([]:List UInt8),0,0,0,0,false,0,false⟩:Record),1)) else ck (R64 (v41l1+1)) (some (.inl (v41l1+1,y4.2.source,y4.2.serial,y4.2.kind,y4.2.a,y4.2.b,y4.2.start,y4.2.units,y4.2.call,y4.2.part,y4.2.last,y4.2.trunk,y4.2.inbound))))) else (f_tagged_Decode_j2 o1c0l1 o1c1l1 o1c2l1 o1c3l1 o1c4l1 o1c5l1 o1c6l1 o1c7l1 o1c8l1 o1c9l1 o1c10l1 o1c11l1).map (fun z=>.inr z)
def f_tagged_Decode_j1 (v0b:List UInt8) (v5ej1:Int):Option (Record×Int) :=
 if (v5ej1 != 0)=true then some ((⟨0,0,0,([]:List UInt8),([]:List UInt8),0,0,0,0,false,0,false⟩:Record),v5ej1) else ck ((0:Int)≤(2:Int)∧(2:Int)≤(v0b.length:Int)) ((f_tagged_Elements (v0b.drop ((2:Int)).toNat)).bind fun y2=>if (y2.2 != 0)=true then some ((⟨0,0,0,([]:List UInt8),([]:List UInt8),0,0,0,0,false,0,false⟩:Record),y2.2) else loop (fun s=>f_tagged_Decode_l1 y2 s.1 s.2.1 s.2.2.1 s.2.2.2.1 s.2.2.2.2.1 s.2.2.2.2.2.1 s.2.2.2.2.2.2.1 s.2.2.2.2.2.2.2.1 s.2.2.2.2.2.2.2.2.1 s.2.2.2.2.2.2.2.2.2.1 s.2.2.2.2.2.2.2.2.2.2.1 s.2.2.2.2.2.2.2.2.2.2.2.1 s.2.2.2.2.2.2.2.2.2.2.2.2) (0,0,0,0,([]:List UInt8),([]:List UInt8),0,0,0,0,false,0,false))
def f_tagged_Decode (v0b:List UInt8):Option (Record×Int) :=
 (f_tagged_size v0b).bind fun y1=>if ((y1.2==0) && (decide (y1.1 < (v0b.length:Int))))=true then (f_tagged_Decode_j1 v0b 3) else f_tagged_Decode_j1 v0b y1.2
def f_tagged_All_j1 (v5outj1:List Record) (v6noj1:List Reject):Option ((List Record)×(List Reject)×Int) :=
 some (v5outj1,v6noj1,0)
def f_tagged_All_j2 (v0bl1:List UInt8) (v7il1:Int) (y1:Int×Int) (v5outj2:List Record) (v6noj2:List Reject):Option ((List UInt8×List Record×List Reject×Int) ⊕ ((List Record)×(List Reject)×Int)) :=
 ck ((0:Int)≤y1.1∧y1.1≤(v0bl1.length:Int)) (ck (R64 (v7il1+1)) (some (.inl (v0bl1.drop y1.1.toNat,v5outj2,v6noj2,v7il1+1))))
def f_tagged_All_l1 (v0bl1:List UInt8) (v5outl1:List Record) (v6nol1:List Reject) (v7il1:Int):Option ((List UInt8×List Record×List Reject×Int) ⊕ ((List Record)×(List Reject)×Int)) :=
 if (decide ((v0bl1.length:Int) > 0))=true then (if (v7il1==4096)=true then some (.inr (([]:List Record),([]:List Reject),5)) else (f_tagged_size v0bl1).bind fun y1=>if (y1.2 != 0)=true then some (.inr (([]:List Record),([]:List Reject),y1.2)) else ck ((0:Int)≤y1.1∧y1.1≤(v0bl1.length:Int)) ((f_tagged_Decode (v0bl1.take y1.1.toNat)).bind fun y2=>if (y2.2 != 0)=true then (ck (v6nol1.length+([(⟨0,0,v7il1,y2.2⟩:Reject)]:List Reject).length≤1000000000) (f_tagged_All_j2 v0bl1 v7il1 y1 v5outl1 (v6nol1++([(⟨0,0,v7il1,y2.2⟩:Reject)]:List Reject)))) else ck (v5outl1.length+([y2.1]:List Record).length≤1000000000) (f_tagged_All_j2 v0bl1 v7il1 y1 (v5outl1++([y2.1]:List Record)) v6nol1))) else (f_tagged_All_j1 v5outl1 v6nol1).map (fun z=>.inr z)
def f_tagged_All (v0b:List UInt8):Option ((List Record)×(List Reject)×Int) :=
 loop (fun s=>f_tagged_All_l1 s.1 s.2.1 s.2.2.1 s.2.2.2) (v0b,([]:List Record),([]:List Reject),0)
def f_packed_Decimal_l1 (v0b:List UInt8) (v4nl1:Int) (v17l1:Int):Option ((Int×Int) ⊕ (Int×Int)) :=
 if (decide (v17l1 < (v0b.length:Int)))=true then (ck ((0:Int)≤v17l1∧v17l1 < (v0b.length:Int)) (ck ((0:Int)≤4) (if ((decide ((u8shr (nth v0b v17l1.toNat) 4) > 9)) || (decide (((nth v0b v17l1.toNat) &&& 15) > 9)))=true then some (.inr (0,1)) else ck (R64 (100*v4nl1)) (ck ((0:Int)≤4) (ck (R64 (((u8shr (nth v0b v17l1.toNat) 4).toNat:Int)*10)) (ck (R64 ((100*v4nl1)+(((u8shr (nth v0b v17l1.toNat) 4).toNat:Int)*10))) (ck (R64 (((100*v4nl1)+(((u8shr (nth v0b v17l1.toNat) 4).toNat:Int)*10))+(((nth v0b v17l1.toNat) &&& 15).toNat:Int))) (ck (R64 (v17l1+1)) (some (.inl (((100*v4nl1)+(((u8shr (nth v0b v17l1.toNat) 4).toNat:Int)*10))+(((nth v0b v17l1.toNat) &&& 15).toNat:Int),v17l1+1))))))))))) else some (.inr (v4nl1,0))
def f_packed_Decimal (v0b:List UInt8):Option (Int×Int) :=
 if ((decide ((v0b.length:Int) < 1)) || (decide ((v0b.length:Int) > 9)))=true then some (0,6) else loop (fun s=>f_packed_Decimal_l1 v0b s.1 s.2) (0,0)
def f_packed_number_j1 (v0field:List UInt8) (v5outl1:List UInt8) (v13l1:Int) (v7digitj1:UInt8):Option ((List UInt8×Int) ⊕ ((List UInt8)×Bool)) :=
 if ((decide (v13l1 < ((u8shr (nth v0field (Int.toNat (0))) 4).toNat:Int))) && (decide (v7digitj1≤9)))=true then (ck (v5outl1.length+([48+v7digitj1]:List UInt8).length≤1000000000) (ck (R64 (v13l1+1)) (some (.inl (v5outl1++([48+v7digitj1]:List UInt8),v13l1+1))))) else if ((decide (v13l1 < ((u8shr (nth v0field (Int.toNat (0))) 4).toNat:Int))) || (v7digitj1 != 0))=true then some (.inr (([]:List UInt8),false)) else ck (R64 (v13l1+1)) (some (.inl (v5outl1,v13l1+1)))
def f_packed_number_l1 (v0field:List UInt8) (v5outl1:List UInt8) (v13l1:Int):Option ((List UInt8×Int) ⊕ ((List UInt8)×Bool)) :=
 if (decide (v13l1 < 15))=true then (ck (R64 (v13l1+1)) (ck (2≠(0:Int)∧R64 (Int.tdiv (v13l1+1) 2)) (ck ((0:Int)≤(Int.tdiv (v13l1+1) 2)∧(Int.tdiv (v13l1+1) 2) < (v0field.length:Int)) (ck ((0:Int)≤4) (ck (2≠(0:Int)) (if ((Int.tmod v13l1 2)==0)=true then (ck (2≠(0:Int)∧R64 (Int.tdiv v13l1 2)) (ck ((0:Int)≤(Int.tdiv v13l1 2)∧(Int.tdiv v13l1 2) < (v0field.length:Int)) (f_packed_number_j1 v0field v5outl1 v13l1 ((nth v0field (Int.tdiv v13l1 2).toNat) &&& 15)))) else f_packed_number_j1 v0field v5outl1 v13l1 (u8shr (nth v0field (Int.tdiv (v13l1+1) 2).toNat) 4))))))) else some (.inr (v5outl1,true))
def f_packed_number (v0field:List UInt8):Option ((List UInt8)×Bool) :=
 ck ((0:Int)≤0∧0 < (v0field.length:Int)) (ck ((0:Int)≤4) (loop (fun s=>f_packed_number_l1 v0field s.1 s.2) (([]:List UInt8),0)))
def g_packed_reader_field (v1size:Int) (o0c0p:PackedReader):Option ((List UInt8)×PackedReader) :=
 ck ((0:Int)≤v1size∧v1size≤v1size∧v1size≤(o0c0p.b.length:Int)) (ck ((0:Int)≤v1size∧v1size≤(o0c0p.b.length:Int)) (some (o0c0p.b.take v1size.toNat,(⟨o0c0p.b.drop v1size.toNat,o0c0p.bad⟩:PackedReader))))
def g_packed_reader_decimal (v1size:Int) (o0c0p:PackedReader):Option (Int×PackedReader) :=
 (g_packed_reader_field v1size o0c0p).bind fun y1=>(f_packed_Decimal y1.1).bind fun y2=>some (y2.1,(⟨y1.2.b,(y1.2.bad || (y2.2 != 0))⟩:PackedReader))
def g_packed_reader_number (o0c0p:PackedReader):Option ((List UInt8)×PackedReader) :=
 (g_packed_reader_field 8 o0c0p).bind fun y1=>(f_packed_number y1.1).bind fun y2=>some (y2.1,(⟨y1.2.b,(y1.2.bad || (!y2.2))⟩:PackedReader))
def f_packed_Decode (v0:List UInt8):Option (Record×Int) :=
 if (decide ((v0.length:Int) < 45))=true then some ((⟨0,0,0,([]:List UInt8),([]:List UInt8),0,0,0,0,false,0,false⟩:Record),2) else if (decide ((v0.length:Int) > 45))=true then some ((⟨0,0,0,([]:List UInt8),([]:List UInt8),0,0,0,0,false,0,false⟩:Record),3) else ck ((0:Int)≤(44:Int)∧(44:Int)≤(v0.length:Int)) ((f_packed_sum (v0.take ((44:Int)).toNat)).bind fun y1=>ck ((0:Int)≤44∧44 < (v0.length:Int)) (if (y1 != (nth v0 (Int.toNat (44))))=true then some ((⟨0,0,0,([]:List UInt8),([]:List UInt8),0,0,0,0,false,0,false⟩:Record),4) else (g_packed_reader_decimal 1 (⟨v0,false⟩:PackedReader)).bind fun y2=>(g_packed_reader_decimal 5 y2.2).bind fun y3=>(g_packed_reader_field 1 y3.2).bind fun y4=>ck ((0:Int)≤0∧0 < (y4.1.length:Int)) (ck ((0:Int)≤4) ((g_packed_reader_number y4.2).bind fun y5=>(g_packed_reader_number y5.2).bind fun y6=>(g_packed_reader_decimal 6 y6.2).bind fun y7=>(g_packed_reader_decimal 7 y7.2).bind fun y8=>(g_packed_reader_decimal 5 y8.2).bind fun y9=>(g_packed_reader_decimal 1 y9.2).bind fun y10=>(g_packed_reader_decimal 2 y10.2).bind fun y11=>if (y11.2.bad || (decide (((nth y4.1 (Int.toNat (0))) &&& 15) > 3)))=true then some ((⟨0,0,0,([]:List UInt8),([]:List UInt8),0,0,0,0,false,0,false⟩:Record),1) else (f_textual_Encode (⟨y2.1,y3.1,((u8shr (nth y4.1 (Int.toNat (0))) 4).toNat:Int),y5.1,y6.1,y7.1,y8.1,y9.1,y10.1,(((nth y4.1 (Int.toNat (0))) &&& 1) != 0),y11.1,(((nth y4.1 (Int.toNat (0))) &&& 2) != 0)⟩:Record)).bind fun y12=>if (y12.2 != 0)=true then some ((⟨0,0,0,([]:List UInt8),([]:List UInt8),0,0,0,0,false,0,false⟩:Record),y12.2) else some ((⟨y2.1,y3.1,((u8shr (nth y4.1 (Int.toNat (0))) 4).toNat:Int),y5.1,y6.1,y7.1,y8.1,y9.1,y10.1,(((nth y4.1 (Int.toNat (0))) &&& 1) != 0),y11.1,(((nth y4.1 (Int.toNat (0))) &&& 2) != 0)⟩:Record),0)))))
def f_packed_All_j1 (v5outj1:List Record) (v6noj1:List Reject) (o0c0j1:List UInt8) (o0c1j1:Bool):Option ((List Record)×(List Reject)×Int) :=
 some (v5outj1,v6noj1,0)
def f_packed_All_l1 (v0b:List UInt8) (v5outl1:List Record) (v6nol1:List Reject) (v25l1:Int) (o0c0l1:List UInt8) (o0c1l1:Bool):Option ((List Record×List Reject×Int×List UInt8×Bool) ⊕ ((List Record)×(List Reject)×Int)) :=
 if (decide (v25l1 < (Int.tdiv (v0b.length:Int) 45)))=true then ((g_packed_reader_field 45 (⟨o0c0l1,o0c1l1⟩:PackedReader)).bind fun y1=>(f_packed_Decode y1.1).bind fun y2=>if (y2.2 != 0)=true then (ck (v6nol1.length+([(⟨0,0,v25l1,y2.2⟩:Reject)]:List Reject).length≤1000000000) (ck (R64 (v25l1+1)) (some (.inl (v5outl1,v6nol1++([(⟨0,0,v25l1,y2.2⟩:Reject)]:List Reject),v25l1+1,y1.2.b,y1.2.bad))))) else ck (v5outl1.length+([y2.1]:List Record).length≤1000000000) (ck (R64 (v25l1+1)) (some (.inl (v5outl1++([y2.1]:List Record),v6nol1,v25l1+1,y1.2.b,y1.2.bad))))) else (f_packed_All_j1 v5outl1 v6nol1 o0c0l1 o0c1l1).map (fun z=>.inr z)
def f_packed_All (v0b:List UInt8):Option ((List Record)×(List Reject)×Int) :=
 ck (45≠(0:Int)) (if ((Int.tmod (v0b.length:Int) 45) != 0)=true then some (([]:List Record),([]:List Reject),2) else ck (45≠(0:Int)∧R64 (Int.tdiv (v0b.length:Int) 45)) (if (decide ((Int.tdiv (v0b.length:Int) 45) > 4096))=true then some (([]:List Record),([]:List Reject),5) else ck (45≠(0:Int)∧R64 (Int.tdiv (v0b.length:Int) 45)) (loop (fun s=>f_packed_All_l1 v0b s.1 s.2.1 s.2.2.1 s.2.2.2.1 s.2.2.2.2) (([]:List Record),([]:List Reject),0,v0b,false))))
def f_textual_Lines (v0s:List UInt8):Option ((List (List UInt8))×Int) :=
 if (v0s==([]:List UInt8))=true then some (([]:List (List UInt8)),0) else (x_CutSuffix v0s ([10]:List UInt8)).bind fun y1=>if (!y1.2)=true then some (([]:List (List UInt8)),1) else (x_Split y1.1 ([10]:List UInt8)).bind fun y2=>if (decide ((y2.length:Int) > 4096))=true then some (([]:List (List UInt8)),5) else some (y2,0)
def f_textual_numeral_l1 (v0s:List UInt8) (v4nl1:Int) (o0c0l1:Nat):Option ((Int×Nat) ⊕ (Int×Bool)) :=
 if (decide (o0c0l1 < v0s.length))=true then (ck (o0c0l1 < v0s.length) (if ((decide (((runeAt v0s o0c0l1).1:Int) < 48)) || (decide (((runeAt v0s o0c0l1).1:Int) > 57)))=true then some (.inr (0,false)) else ck (R64 (10*v4nl1)) (ck (R64 ((10*v4nl1)+(IntKind.wrap .i64 (IntKind.wrap .i32 (((runeAt v0s o0c0l1).1:Int) - 48))))) (some (.inl ((10*v4nl1)+(IntKind.wrap .i64 (IntKind.wrap .i32 (((runeAt v0s o0c0l1).1:Int) - 48))),nextP v0s o0c0l1)))))) else some (.inr (v4nl1,true))
def f_textual_numeral (v0s:List UInt8):Option (Int×Bool) :=
 ck ((!((v0s==([]:List UInt8)) || (decide ((v0s.length:Int) > 15))))=true→((0:Int)≤0∧0 < (v0s.length:Int))) (if (((v0s==([]:List UInt8)) || (decide ((v0s.length:Int) > 15))) || (((nth v0s (Int.toNat (0)))==48) && (v0s != ([48]:List UInt8))))=true then some (0,false) else loop (fun s=>f_textual_numeral_l1 v0s s.1 s.2) (0,0))
def g_textual_reader_word (o0c0p:TextualReader):Option ((List UInt8)×TextualReader) :=
 ck ((!((o0c0p.words.length:Int)==0))=true→((0:Int)≤0∧0 < (o0c0p.words.length:Int))) (if (((o0c0p.words.length:Int)==0) || ((nth o0c0p.words (Int.toNat (0)))==([]:List UInt8)))=true then some (([]:List UInt8),(⟨o0c0p.words,true⟩:TextualReader)) else ck ((0:Int)≤0∧0 < (o0c0p.words.length:Int)) (ck ((0:Int)≤(1:Int)∧(1:Int)≤(o0c0p.words.length:Int)) (some (nth o0c0p.words (Int.toNat (0)),(⟨o0c0p.words.drop ((1:Int)).toNat,o0c0p.bad⟩:TextualReader)))))
def g_textual_reader_number (o0c0p:TextualReader):Option (Int×TextualReader) :=
 (g_textual_reader_word o0c0p).bind fun y1=>(f_textual_numeral y1.1).bind fun y2=>some (y2.1,(⟨y1.2.words,(y1.2.bad || (!y2.2))⟩:TextualReader))
def g_textual_reader_next (v1s:List UInt8) (o0c0p:TextualReader):Option (Bool×TextualReader) :=
 ck ((!((o0c0p.words.length:Int)==0))=true→((0:Int)≤0∧0 < (o0c0p.words.length:Int))) (if (((o0c0p.words.length:Int)==0) || ((nth o0c0p.words (Int.toNat (0))) != v1s))=true then some (false,o0c0p) else ck ((0:Int)≤(1:Int)∧(1:Int)≤(o0c0p.words.length:Int)) (some (true,(⟨o0c0p.words.drop ((1:Int)).toNat,o0c0p.bad⟩:TextualReader))))
def f_textual_Decode_j4 (y3:Int) (y4:Int×TextualReader) (y5:Int×TextualReader) (y6:(List UInt8)×TextualReader) (y8:Int×TextualReader) (y9:Int×TextualReader) (o2c4j1:List UInt8) (o2c7j2:Int) (o2c8j2:Int) (o2c9j2:Bool) (o2c10j3:Int) (o2c11j3:Bool) (v8j4:Int):Option (Record×Int) :=
 if (v8j4 != 0)=true then some ((⟨0,0,0,([]:List UInt8),([]:List UInt8),0,0,0,0,false,0,false⟩:Record),v8j4) else some ((⟨y4.1,y5.1,1+y3,y6.1,o2c4j1,y8.1,y9.1,o2c7j2,o2c8j2,o2c9j2,o2c10j3,o2c11j3⟩:Record),0)
def f_textual_Decode_j3 (v0:List UInt8) (y2:(List UInt8)×TextualReader) (y3:Int) (y4:Int×TextualReader) (y5:Int×TextualReader) (y6:(List UInt8)×TextualReader) (y8:Int×TextualReader) (y9:Int×TextualReader) (o2c4j1:List UInt8) (o2c7j2:Int) (o2c8j2:Int) (o2c9j2:Bool) (o1c0j3:List (List UInt8)) (o1c1j3:Bool) (o2c10j3:Int) (o2c11j3:Bool):Option (Record×Int) :=
 if (((o1c1j3 || ((y2.1.length:Int) != 1)) || ((1+y3)==0)) || (decide ((o1c0j3.length:Int) > 0)))=true then some ((⟨0,0,0,([]:List UInt8),([]:List UInt8),0,0,0,0,false,0,false⟩:Record),1) else (f_textual_Encode (⟨y4.1,y5.1,1+y3,y6.1,o2c4j1,y8.1,y9.1,o2c7j2,o2c8j2,o2c9j2,o2c10j3,o2c11j3⟩:Record)).bind fun y10=>if ((y10.2==0) && (y10.1 != v0))=true then (f_textual_Decode_j4 y3 y4 y5 y6 y8 y9 o2c4j1 o2c7j2 o2c8j2 o2c9j2 o2c10j3 o2c11j3 1) else f_textual_Decode_j4 y3 y4 y5 y6 y8 y9 o2c4j1 o2c7j2 o2c8j2 o2c9j2 o2c10j3 o2c11j3 y10.2
def f_textual_Decode_j2 (v0:List UInt8) (y2:(List UInt8)×TextualReader) (y3:Int) (y4:Int×TextualReader) (y5:Int×TextualReader) (y6:(List UInt8)×TextualReader) (y8:Int×TextualReader) (y9:Int×TextualReader) (o2c4j1:List UInt8) (o1c0j2:List (List UInt8)) (o1c1j2:Bool) (o2c7j2:Int) (o2c8j2:Int) (o2c9j2:Bool):Option (Record×Int) :=
 (g_textual_reader_next ([105,110]:List UInt8) (⟨o1c0j2,o1c1j2⟩:TextualReader)).bind fun y11=>if y11.1=true then ((g_textual_reader_number y11.2).bind fun y12=>f_textual_Decode_j3 v0 y2 y3 y4 y5 y6 y8 y9 o2c4j1 o2c7j2 o2c8j2 o2c9j2 y12.2.words y12.2.bad y12.1 true) else (g_textual_reader_next ([111,117,116]:List UInt8) y11.2).bind fun y13=>if y13.1=true then ((g_textual_reader_number y13.2).bind fun y14=>f_textual_Decode_j3 v0 y2 y3 y4 y5 y6 y8 y9 o2c4j1 o2c7j2 o2c8j2 o2c9j2 y14.2.words y14.2.bad y14.1 false) else f_textual_Decode_j3 v0 y2 y3 y4 y5 y6 y8 y9 o2c4j1 o2c7j2 o2c8j2 o2c9j2 y13.2.words y13.2.bad 0 false
def f_textual_Decode_j1 (v0:List UInt8) (y2:(List UInt8)×TextualReader) (y3:Int) (y4:Int×TextualReader) (y5:Int×TextualReader) (y6:(List UInt8)×TextualReader) (y8:Int×TextualReader) (y9:Int×TextualReader) (o2c4j1:List UInt8):Option (Record×Int) :=
 (g_textual_reader_next ([112,97,114,116]:List UInt8) y9.2).bind fun y15=>if y15.1=true then ((g_textual_reader_number y15.2).bind fun y16=>(g_textual_reader_number y16.2).bind fun y17=>(g_textual_reader_next ([108,97,115,116]:List UInt8) y17.2).bind fun y18=>f_textual_Decode_j2 v0 y2 y3 y4 y5 y6 y8 y9 o2c4j1 y18.2.words y18.2.bad y16.1 y17.1 y18.1) else f_textual_Decode_j2 v0 y2 y3 y4 y5 y6 y8 y9 o2c4j1 y15.2.words y15.2.bad 0 0 false
def f_textual_Decode (v0:List UInt8):Option (Record×Int) :=
 (x_Split v0 ([32]:List UInt8)).bind fun y1=>(g_textual_reader_word (⟨y1,false⟩:TextualReader)).bind fun y2=>(x_Index ([118,116,100,99]:List UInt8) y2.1).bind fun y3=>ck (R64 (1+y3)) ((g_textual_reader_number y2.2).bind fun y4=>(g_textual_reader_number y4.2).bind fun y5=>(g_textual_reader_word y5.2).bind fun y6=>(g_textual_reader_word y6.2).bind fun y7=>(g_textual_reader_number y7.2).bind fun y8=>(g_textual_reader_number y8.2).bind fun y9=>if (y7.1==([45]:List UInt8))=true then (f_textual_Decode_j1 v0 y2 y3 y4 y5 y6 y8 y9 ([]:List UInt8)) else f_textual_Decode_j1 v0 y2 y3 y4 y5 y6 y8 y9 y7.1)
def f_textual_All_j1 (v7outj1:List Record) (v8noj1:List Reject):Option ((List Record)×(List Reject)×Int) :=
 some (v7outj1,v8noj1,0)
def f_textual_All_l1 (y1:(List (List UInt8))×Int) (v7outl1:List Record) (v8nol1:List Reject) (v23l1:Int):Option ((List Record×List Reject×Int) ⊕ ((List Record)×(List Reject)×Int)) :=
 if (decide (v23l1 < (y1.1.length:Int)))=true then (ck ((0:Int)≤v23l1∧v23l1 < (y1.1.length:Int)) ((f_textual_Decode (nth y1.1 v23l1.toNat)).bind fun y2=>if (y2.2 != 0)=true then (ck (v8nol1.length+([(⟨0,0,v23l1,y2.2⟩:Reject)]:List Reject).length≤1000000000) (ck (R64 (v23l1+1)) (some (.inl (v7outl1,v8nol1++([(⟨0,0,v23l1,y2.2⟩:Reject)]:List Reject),v23l1+1))))) else ck (v7outl1.length+([y2.1]:List Record).length≤1000000000) (ck (R64 (v23l1+1)) (some (.inl (v7outl1++([y2.1]:List Record),v8nol1,v23l1+1)))))) else (f_textual_All_j1 v7outl1 v8nol1).map (fun z=>.inr z)
def f_textual_All (v0s:List UInt8):Option ((List Record)×(List Reject)×Int) :=
 (f_textual_Lines v0s).bind fun y1=>if (y1.2 != 0)=true then some (([]:List Record),([]:List Reject),y1.2) else loop (fun s=>f_textual_All_l1 y1 s.1 s.2.1 s.2.2) (([]:List Record),([]:List Reject),0)
def f_batch_decode (v0format:Int) (v1b:List UInt8):Option ((List Record)×(List Reject)×Int) :=
 if (v0format==2)=true then ((f_tagged_All v1b).bind fun y1=>some (y1.1,y1.2.1,y1.2.2)) else if (v0format==3)=true then ((f_packed_All v1b).bind fun y2=>some (y2.1,y2.2.1,y2.2.2)) else (f_textual_All v1b).bind fun y3=>some (y3.1,y3.2.1,y3.2.2)
def g_batch_numbers_v1_j1 (o1c0p:Totals) (v0bj1:List UInt8) (o1c0j1:Int) (o1c2j1:Int) (o1c3j1:Int) (o1c4j1:Int) (o1c5j1:Int):Option (Int×Totals) :=
 if (decide ((v0bj1.length:Int) > 0))=true then some (3,(⟨o1c0j1,([nth o1c0p.units 0,o1c2j1,o1c3j1,o1c4j1,o1c5j1]:List Int)⟩:Totals)) else some (0,(⟨o1c0j1,([nth o1c0p.units 0,o1c2j1,o1c3j1,o1c4j1,o1c5j1]:List Int)⟩:Totals))
def g_batch_numbers_v1 (v0b:List UInt8) (o1c0p:Totals):Option (Int×Totals) :=
 (f_codec_Number v0b).bind fun y1=>if (y1.2.2 != 0)=true then some (y1.2.2,o1c0p) else (f_codec_Number y1.2.1).bind fun y2=>if (y2.2.2 != 0)=true then some (y2.2.2,(⟨y1.1,o1c0p.units⟩:Totals)) else (f_codec_Number y2.2.1).bind fun y3=>if (y3.2.2 != 0)=true then some (y3.2.2,(⟨y1.1,([nth o1c0p.units 0,y2.1,nth o1c0p.units 2,nth o1c0p.units 3,nth o1c0p.units 4]:List Int)⟩:Totals)) else (f_codec_Number y3.2.1).bind fun y4=>if (y4.2.2 != 0)=true then some (y4.2.2,(⟨y1.1,([nth o1c0p.units 0,y2.1,y3.1,nth o1c0p.units 3,nth o1c0p.units 4]:List Int)⟩:Totals)) else (f_codec_Number y4.2.1).bind fun y5=>if (y5.2.2 != 0)=true then some (y5.2.2,(⟨y1.1,([nth o1c0p.units 0,y2.1,y3.1,y4.1,nth o1c0p.units 4]:List Int)⟩:Totals)) else g_batch_numbers_v1_j1 o1c0p y5.2.1 y1.1 y2.1 y3.1 y4.1 y5.1
def f_batch_trailer_j1 (y1:(List UInt8)×(List UInt8)×Int) (v5ej1:Int):Option (Totals×Int) :=
 if (v5ej1 != 0)=true then some ((⟨0,([0,0,0,0,0]:List Int)⟩:Totals),v5ej1) else (g_batch_numbers_v1 y1.1 (⟨0,([0,0,0,0,0]:List Int)⟩:Totals)).bind fun y2=>some (y2.2,y2.1)
def f_batch_trailer (v0rest:List UInt8):Option (Totals×Int) :=
 (f_frame_Unwrap v0rest).bind fun y1=>if ((y1.2.2==0) && (decide ((y1.2.1.length:Int) > 0)))=true then (f_batch_trailer_j1 y1 3) else f_batch_trailer_j1 y1 y1.2.2
def f_batch_Read_j1 (y1:Head×(List UInt8)×Int) (y3:(List Record)×(List Reject)×Int):Option (Batch×(List Reject)×Int) :=
 some ((⟨y1.1.source,y1.1.number,y1.1.format,y3.1⟩:Batch),y3.2.1,0)
def f_batch_Read_l1 (y1:Head×(List UInt8)×Int) (y3:(List Record)×(List Reject)×Int) (v69l1:Int):Option ((Int) ⊕ (Batch×(List Reject)×Int)) :=
 if (decide (v69l1 < (y3.1.length:Int)))=true then (ck ((0:Int)≤v69l1∧v69l1 < (y3.1.length:Int)) (if (((nth y3.1 v69l1.toNat).source) != y1.1.source)=true then some (.inr ((⟨0,0,0,([]:List Record)⟩:Batch),([]:List Reject),8)) else ck (R64 (v69l1+1)) (some (.inl (v69l1+1))))) else (f_batch_Read_j1 y1 y3).map (fun z=>.inr z)
def f_batch_Read (v0:List UInt8):Option (Batch×(List Reject)×Int) :=
 (f_batch_first v0).bind fun y1=>if (y1.2.2 != 0)=true then some ((⟨0,0,0,([]:List Record)⟩:Batch),([]:List Reject),y1.2.2) else (f_frame_Unwrap y1.2.1).bind fun y2=>if (y2.2.2 != 0)=true then some ((⟨0,0,0,([]:List Record)⟩:Batch),([]:List Reject),y2.2.2) else (f_batch_decode y1.1.format y2.1).bind fun y3=>if (y3.2.2 != 0)=true then some ((⟨0,0,0,([]:List Record)⟩:Batch),([]:List Reject),y3.2.2) else (f_batch_trailer y2.2.1).bind fun y4=>if (y4.2 != 0)=true then some ((⟨0,0,0,([]:List Record)⟩:Batch),([]:List Reject),y4.2) else (f_batch_Totals y3.1).bind fun y5=>if ((!(eqVs (Totals.vals y4.1) (Totals.vals y5))) || (y1.1.count != (y3.1.length:Int)))=true then some ((⟨0,0,0,([]:List Record)⟩:Batch),([]:List Reject),14) else loop (fun s=>f_batch_Read_l1 y1 y3 s) 0
def f_r09_in (v0n:Int) (v1low:Int) (v2high:Int):Option Bool :=
 some ((decide (v0n≥v1low)) && (decide (v0n≤v2high)))
def f_r02_Valid_j1 (v0s:List UInt8):Option Bool :=
 some ((decide ((v0s.length:Int)≥1)) && (decide ((v0s.length:Int)≤15)))
def f_r02_Valid_l1 (v0s:List UInt8) (v3il1:Int):Option ((Int) ⊕ Bool) :=
 if (decide (v3il1 < (v0s.length:Int)))=true then (ck ((0:Int)≤v3il1∧v3il1 < (v0s.length:Int)) (ck ((!(decide ((nth v0s v3il1.toNat) < 48)))=true→((0:Int)≤v3il1∧v3il1 < (v0s.length:Int))) (if ((decide ((nth v0s v3il1.toNat) < 48)) || (decide ((nth v0s v3il1.toNat) > 57)))=true then some (.inr false) else ck (R64 (v3il1+1)) (some (.inl (v3il1+1)))))) else (f_r02_Valid_j1 v0s).map (fun z=>.inr z)
def f_r02_Valid (v0s:List UInt8):Option Bool :=
 loop (fun s=>f_r02_Valid_l1 v0s s) 0
def f_r09_Error (v0:Record):Option Int :=
 (f_r09_in v0.source 1 99).bind fun y1=>(gcall (!(!y1)) (f_r09_in v0.serial 1 999999999)).bind fun y2=>if ((!y1) || (!y2))=true then some 6 else (f_r09_in v0.kind 1 4).bind fun y3=>if (!y3)=true then some 7 else (f_r02_Valid v0.a).bind fun y4=>if (!y4)=true then some 12 else (f_r02_Valid v0.b).bind fun y5=>if ((!y5) && ((v0.b != ([]:List UInt8)) || ((v0.kind != 3) && (v0.kind != 4))))=true then some 12 else (f_r09_in v0.start 0 12622780799).bind fun y6=>if (!y6)=true then some 15 else (f_r09_in v0.units 0 1099511627776).bind fun y7=>if ((!y7) || ((v0.kind==1) && (decide (v0.units > 604800))))=true then some 6 else ck ((v0.kind==1)=true→(R64 (v0.start+v0.units))) (if ((v0.kind==1) && (decide ((v0.start+v0.units) > 12622780800)))=true then some 15 else (f_r09_in v0.call 0 999999999).bind fun y8=>(gcall (!(!y8)) (f_r09_in v0.part 0 99)).bind fun y9=>if ((!y8) || (!y9))=true then some 6 else if (((v0.part==0) != (v0.call==0)) || (v0.last && (v0.part==0)))=true then some 8 else (f_r09_in v0.trunk 0 999).bind fun y10=>if (!y10)=true then some 6 else if (v0.inbound && (v0.trunk==0))=true then some 8 else some 0)
def f_r09_Number_l1 (v0nl1:Int) (v3sl1:List UInt8):Option ((Int×List UInt8) ⊕ (List UInt8)) :=
 if (decide (v0nl1 > 0))=true then (ck (10≠(0:Int)) (ck (R64 (48+(Int.tmod v0nl1 10))) (ck (([UInt8.ofInt (48+(Int.tmod v0nl1 10))]:List UInt8).length+v3sl1.length≤9223372036854775807) (ck (10≠(0:Int)∧R64 (Int.tdiv v0nl1 10)) (some (.inl (Int.tdiv v0nl1 10,([UInt8.ofInt (48+(Int.tmod v0nl1 10))]:List UInt8)++v3sl1))))))) else some (.inr v3sl1)
def f_r09_Number (v0n:Int):Option (List UInt8) :=
 ck (10≠(0:Int)) (ck (R64 (48+(Int.tmod v0n 10))) (ck (10≠(0:Int)∧R64 (Int.tdiv v0n 10)) (loop (fun s=>f_r09_Number_l1 s.1 s.2) (Int.tdiv v0n 10,([UInt8.ofInt (48+(Int.tmod v0n 10))]:List UInt8)))))
def f_r09_Encode_j4 (v0:Record) (v7j4:List UInt8):Option ((List UInt8)×Int) :=
 if ((decide (v0.trunk > 0)) && (!v0.inbound))=true then (ck (v7j4.length+([32,111,117,116,32]:List UInt8).length≤9223372036854775807) ((f_r09_Number v0.trunk).bind fun y6=>ck ((v7j4++([32,111,117,116,32]:List UInt8)).length+y6.length≤9223372036854775807) (some ((v7j4++([32,111,117,116,32]:List UInt8))++y6,0)))) else some (v7j4,0)
def f_r09_Encode_j3 (v0:Record) (v7j3:List UInt8):Option ((List UInt8)×Int) :=
 if ((decide (v0.trunk > 0)) && v0.inbound)=true then (ck (v7j3.length+([32,105,110,32]:List UInt8).length≤9223372036854775807) ((f_r09_Number v0.trunk).bind fun y7=>ck ((v7j3++([32,105,110,32]:List UInt8)).length+y7.length≤9223372036854775807) (f_r09_Encode_j4 v0 ((v7j3++([32,105,110,32]:List UInt8))++y7)))) else f_r09_Encode_j4 v0 v7j3
def f_r09_Encode_j2 (v0:Record) (v7j2:List UInt8):Option ((List UInt8)×Int) :=
 if v0.last=true then (ck (v7j2.length+([32,108,97,115,116]:List UInt8).length≤9223372036854775807) (f_r09_Encode_j3 v0 (v7j2++([32,108,97,115,116]:List UInt8)))) else f_r09_Encode_j3 v0 v7j2
def f_r09_Encode_j1 (v0:Record) (v6j1:List UInt8):Option ((List UInt8)×Int) :=
 ck (R64 (v0.kind-1)) (ck ((0:Int)≤v0.kind-1∧v0.kind-1≤v0.kind∧v0.kind≤(([118,116,100,99]:List UInt8).length:Int)) (ck (((([118,116,100,99]:List UInt8).take v0.kind.toNat).drop (v0.kind-1).toNat).length+([32]:List UInt8).length≤9223372036854775807) ((f_r09_Number v0.source).bind fun y2=>ck ((((([118,116,100,99]:List UInt8).take v0.kind.toNat).drop (v0.kind-1).toNat)++([32]:List UInt8)).length+y2.length≤9223372036854775807) (ck (((((([118,116,100,99]:List UInt8).take v0.kind.toNat).drop (v0.kind-1).toNat)++([32]:List UInt8))++y2).length+([32]:List UInt8).length≤9223372036854775807) ((f_r09_Number v0.serial).bind fun y3=>ck ((((((([118,116,100,99]:List UInt8).take v0.kind.toNat).drop (v0.kind-1).toNat)++([32]:List UInt8))++y2)++([32]:List UInt8)).length+y3.length≤9223372036854775807) (ck (((((((([118,116,100,99]:List UInt8).take v0.kind.toNat).drop (v0.kind-1).toNat)++([32]:List UInt8))++y2)++([32]:List UInt8))++y3).length+([32]:List UInt8).length≤9223372036854775807) (ck ((((((((([118,116,100,99]:List UInt8).take v0.kind.toNat).drop (v0.kind-1).toNat)++([32]:List UInt8))++y2)++([32]:List UInt8))++y3)++([32]:List UInt8)).length+v0.a.length≤9223372036854775807) (ck (((((((((([118,116,100,99]:List UInt8).take v0.kind.toNat).drop (v0.kind-1).toNat)++([32]:List UInt8))++y2)++([32]:List UInt8))++y3)++([32]:List UInt8))++v0.a).length+([32]:List UInt8).length≤9223372036854775807) (ck ((((((((((([118,116,100,99]:List UInt8).take v0.kind.toNat).drop (v0.kind-1).toNat)++([32]:List UInt8))++y2)++([32]:List UInt8))++y3)++([32]:List UInt8))++v0.a)++([32]:List UInt8)).length+v6j1.length≤9223372036854775807) (ck (((((((((((([118,116,100,99]:List UInt8).take v0.kind.toNat).drop (v0.kind-1).toNat)++([32]:List UInt8))++y2)++([32]:List UInt8))++y3)++([32]:List UInt8))++v0.a)++([32]:List UInt8))++v6j1).length+([32]:List UInt8).length≤9223372036854775807) ((f_r09_Number v0.start).bind fun y4=>ck ((((((((((((([118,116,100,99]:List UInt8).take v0.kind.toNat).drop (v0.kind-1).toNat)++([32]:List UInt8))++y2)++([32]:List UInt8))++y3)++([32]:List UInt8))++v0.a)++([32]:List UInt8))++v6j1)++([32]:List UInt8)).length+y4.length≤9223372036854775807) (ck (((((((((((((([118,116,100,99]:List UInt8).take v0.kind.toNat).drop (v0.kind-1).toNat)++([32]:List UInt8))++y2)++([32]:List UInt8))++y3)++([32]:List UInt8))++v0.a)++([32]:List UInt8))++v6j1)++([32]:List UInt8))++y4).length+([32]:List UInt8).length≤9223372036854775807) ((f_r09_Number v0.units).bind fun y5=>ck ((((((((((((((([118,116,100,99]:List UInt8).take v0.kind.toNat).drop (v0.kind-1).toNat)++([32]:List UInt8))++y2)++([32]:List UInt8))++y3)++([32]:List UInt8))++v0.a)++([32]:List UInt8))++v6j1)++([32]:List UInt8))++y4)++([32]:List UInt8)).length+y5.length≤9223372036854775807) (if (decide (v0.part > 0))=true then (ck (((((((((((((((([118,116,100,99]:List UInt8).take v0.kind.toNat).drop (v0.kind-1).toNat)++([32]:List UInt8))++y2)++([32]:List UInt8))++y3)++([32]:List UInt8))++v0.a)++([32]:List UInt8))++v6j1)++([32]:List UInt8))++y4)++([32]:List UInt8))++y5).length+([32,112,97,114,116,32]:List UInt8).length≤9223372036854775807) ((f_r09_Number v0.call).bind fun y8=>ck ((((((((((((((((([118,116,100,99]:List UInt8).take v0.kind.toNat).drop (v0.kind-1).toNat)++([32]:List UInt8))++y2)++([32]:List UInt8))++y3)++([32]:List UInt8))++v0.a)++([32]:List UInt8))++v6j1)++([32]:List UInt8))++y4)++([32]:List UInt8))++y5)++([32,112,97,114,116,32]:List UInt8)).length+y8.length≤9223372036854775807) (ck (((((((((((((((((([118,116,100,99]:List UInt8).take v0.kind.toNat).drop (v0.kind-1).toNat)++([32]:List UInt8))++y2)++([32]:List UInt8))++y3)++([32]:List UInt8))++v0.a)++([32]:List UInt8))++v6j1)++([32]:List UInt8))++y4)++([32]:List UInt8))++y5)++([32,112,97,114,116,32]:List UInt8))++y8).length+([32]:List UInt8).length≤9223372036854775807) ((f_r09_Number v0.part).bind fun y9=>ck ((((((((((((((((((([118,116,100,99]:List UInt8).take v0.kind.toNat).drop (v0.kind-1).toNat)++([32]:List UInt8))++y2)++([32]:List UInt8))++y3)++([32]:List UInt8))++v0.a)++([32]:List UInt8))++v6j1)++([32]:List UInt8))++y4)++([32]:List UInt8))++y5)++([32,112,97,114,116,32]:List UInt8))++y8)++([32]:List UInt8)).length+y9.length≤9223372036854775807) (f_r09_Encode_j2 v0 ((((((((((((((((((([118,116,100,99]:List UInt8).take v0.kind.toNat).drop (v0.kind-1).toNat)++([32]:List UInt8))++y2)++([32]:List UInt8))++y3)++([32]:List UInt8))++v0.a)++([32]:List UInt8))++v6j1)++([32]:List UInt8))++y4)++([32]:List UInt8))++y5)++([32,112,97,114,116,32]:List UInt8))++y8)++([32]:List UInt8))++y9)))))) else f_r09_Encode_j2 v0 ((((((((((((((([118,116,100,99]:List UInt8).take v0.kind.toNat).drop (v0.kind-1).toNat)++([32]:List UInt8))++y2)++([32]:List UInt8))++y3)++([32]:List UInt8))++v0.a)++([32]:List UInt8))++v6j1)++([32]:List UInt8))++y4)++([32]:List UInt8))++y5)))))))))))))))
def f_r09_Encode (v0:Record):Option ((List UInt8)×Int) :=
 (f_r09_Error v0).bind fun y1=>if (y1 != 0)=true then some (([]:List UInt8),y1) else if (v0.b==([]:List UInt8))=true then (f_r09_Encode_j1 v0 ([45]:List UInt8)) else f_r09_Encode_j1 v0 v0.b
def f_r11_sum_l1 (v0b:List UInt8) (v3nl1:Int) (v4il1:Int):Option ((Int×Int) ⊕ UInt8) :=
 if (decide (v4il1 < (v0b.length:Int)))=true then (ck ((0:Int)≤v4il1∧v4il1 < (v0b.length:Int)) (ck (R64 (v3nl1+((nth v0b v4il1.toNat).toNat:Int))) (ck (256≠(0:Int)) (ck (R64 (v4il1+1)) (some (.inl (Int.tmod (v3nl1+((nth v0b v4il1.toNat).toNat:Int)) 256,v4il1+1))))))) else some (.inr (UInt8.ofInt v3nl1))
def f_r11_sum (v0b:List UInt8):Option UInt8 :=
 loop (fun s=>f_r11_sum_l1 v0b s.1 s.2) (0,0)
def f_r12_Totals_l1 (v0records:List Record) (v4il1:Int) (o1c1l1:Int) (o1c2l1:Int) (o1c3l1:Int) (o1c4l1:Int) (o1c5l1:Int):Option ((Int×Int×Int×Int×Int×Int) ⊕ Totals) :=
 if (decide (v4il1 < (v0records.length:Int)))=true then (ck ((0:Int)≤v4il1∧v4il1 < (v0records.length:Int)) (if ((((decide (((nth v0records v4il1.toNat).kind)≥1)) && (decide (((nth v0records v4il1.toNat).kind) < 5))) && (decide (((nth v0records v4il1.toNat).units)≥0))) && (decide (((nth v0records v4il1.toNat).units)≤1099511627776)))=true then (ck ((0:Int)≤((nth v0records v4il1.toNat).kind)∧((nth v0records v4il1.toNat).kind) < (5:Int)) (ck (((nth v0records v4il1.toNat).kind).toNat < 5) (ck (R64 ((nth ([o1c1l1,o1c2l1,o1c3l1,o1c4l1,o1c5l1]:List Int) ((nth v0records v4il1.toNat).kind).toNat)+((nth v0records v4il1.toNat).units))) (ck ((0:Int)≤((nth v0records v4il1.toNat).kind)∧((nth v0records v4il1.toNat).kind) < (5:Int)) (ck (((nth v0records v4il1.toNat).kind).toNat < 5) (ck (R64 (v4il1+1)) (some (.inl (v4il1+1,nth (setN ([o1c1l1,o1c2l1,o1c3l1,o1c4l1,o1c5l1]:List Int) 5 ((nth v0records v4il1.toNat).kind).toNat ((nth ([o1c1l1,o1c2l1,o1c3l1,o1c4l1,o1c5l1]:List Int) ((nth v0records v4il1.toNat).kind).toNat)+((nth v0records v4il1.toNat).units))) 0,nth (setN ([o1c1l1,o1c2l1,o1c3l1,o1c4l1,o1c5l1]:List Int) 5 ((nth v0records v4il1.toNat).kind).toNat ((nth ([o1c1l1,o1c2l1,o1c3l1,o1c4l1,o1c5l1]:List Int) ((nth v0records v4il1.toNat).kind).toNat)+((nth v0records v4il1.toNat).units))) 1,nth (setN ([o1c1l1,o1c2l1,o1c3l1,o1c4l1,o1c5l1]:List Int) 5 ((nth v0records v4il1.toNat).kind).toNat ((nth ([o1c1l1,o1c2l1,o1c3l1,o1c4l1,o1c5l1]:List Int) ((nth v0records v4il1.toNat).kind).toNat)+((nth v0records v4il1.toNat).units))) 2,nth (setN ([o1c1l1,o1c2l1,o1c3l1,o1c4l1,o1c5l1]:List Int) 5 ((nth v0records v4il1.toNat).kind).toNat ((nth ([o1c1l1,o1c2l1,o1c3l1,o1c4l1,o1c5l1]:List Int) ((nth v0records v4il1.toNat).kind).toNat)+((nth v0records v4il1.toNat).units))) 3,nth (setN ([o1c1l1,o1c2l1,o1c3l1,o1c4l1,o1c5l1]:List Int) 5 ((nth v0records v4il1.toNat).kind).toNat ((nth ([o1c1l1,o1c2l1,o1c3l1,o1c4l1,o1c5l1]:List Int) ((nth v0records v4il1.toNat).kind).toNat)+((nth v0records v4il1.toNat).units))) 4))))))))) else ck (R64 (v4il1+1)) (some (.inl (v4il1+1,o1c1l1,o1c2l1,o1c3l1,o1c4l1,o1c5l1))))) else some (.inr (⟨(v0records.length:Int),([o1c1l1,o1c2l1,o1c3l1,o1c4l1,o1c5l1]:List Int)⟩:Totals))
def f_r12_Totals (v0records:List Record):Option Totals :=
 loop (fun s=>f_r12_Totals_l1 v0records s.1 s.2.1 s.2.2.1 s.2.2.2.1 s.2.2.2.2.1 s.2.2.2.2.2) (0,0,0,0,0,0)
def f_r09_Same_l1 (v0a:List Record) (v1b:List Record) (v5il1:Int):Option ((Int) ⊕ Bool) :=
 if (decide (v5il1 < (v0a.length:Int)))=true then (ck ((0:Int)≤v5il1∧v5il1 < (v0a.length:Int)) (ck ((0:Int)≤v5il1∧v5il1 < (v1b.length:Int)) (if (!(eqVs (Record.vals (nth v0a v5il1.toNat)) (Record.vals (nth v1b v5il1.toNat))))=true then some (.inr false) else ck (R64 (v5il1+1)) (some (.inl (v5il1+1)))))) else some (.inr true)
def f_r09_Same (v0a:List Record) (v1b:List Record):Option Bool :=
 if ((v0a.length:Int) != (v1b.length:Int))=true then some false else loop (fun s=>f_r09_Same_l1 v0a v1b s) 0
def f_r12_Same (v0a:Batch) (v1b:Batch):Option Bool :=
 (gcall (((v0a.source==v1b.source) && (v0a.number==v1b.number)) && (v0a.format==v1b.format)) (f_r09_Same v0a.records v1b.records)).bind fun y1=>some ((((v0a.source==v1b.source) && (v0a.number==v1b.number)) && (v0a.format==v1b.format)) && y1)
def f_w12_few_j1 (v0l:List Record):Option Bool :=
 some (decide ((v0l.length:Int)≤40))
def f_w12_few_l1 (v0l:List Record) (v3il1:Int):Option ((Int) ⊕ Bool) :=
 if ((decide (v3il1 < (v0l.length:Int))) && (decide (v3il1 < 41)))=true then (ck ((0:Int)≤v3il1∧v3il1 < (v0l.length:Int)) (ck ((!(decide ((((nth v0l v3il1.toNat).a).length:Int) > 200)))=true→((0:Int)≤v3il1∧v3il1 < (v0l.length:Int))) (if ((decide ((((nth v0l v3il1.toNat).a).length:Int) > 200)) || (decide ((((nth v0l v3il1.toNat).b).length:Int) > 200)))=true then some (.inr false) else ck (R64 (v3il1+1)) (some (.inl (v3il1+1)))))) else (f_w12_few_j1 v0l).map (fun z=>.inr z)
def f_w12_few (v0l:List Record):Option Bool :=
 loop (fun s=>f_w12_few_l1 v0l s) 0
def f_r02_Pack_j1 (v0s:List UInt8) (v4outl1:List UInt8) (v5il1:Int) (v6lowj1:UInt8):Option ((List UInt8×Int) ⊕ ((List UInt8)×Int)) :=
 ck ((0:Int)≤v5il1∧v5il1 < (v0s.length:Int)) (ck ((0:Int)≤4) (ck (v4outl1.length+([(u8shl ((nth v0s v5il1.toNat) - 48) 4) ||| v6lowj1]:List UInt8).length≤1000000000) (ck (R64 (v5il1+2)) (some (.inl (v4outl1++([(u8shl ((nth v0s v5il1.toNat) - 48) 4) ||| v6lowj1]:List UInt8),v5il1+2))))))
def f_r02_Pack_l1 (v0s:List UInt8) (v4outl1:List UInt8) (v5il1:Int):Option ((List UInt8×Int) ⊕ ((List UInt8)×Int)) :=
 if (decide (v5il1 < (v0s.length:Int)))=true then (ck (R64 (v5il1+1)) (if (decide ((v5il1+1) < (v0s.length:Int)))=true then (ck (R64 (v5il1+1)) (ck ((0:Int)≤(v5il1+1)∧(v5il1+1) < (v0s.length:Int)) (f_r02_Pack_j1 v0s v4outl1 v5il1 ((nth v0s (v5il1+1).toNat) - 48)))) else f_r02_Pack_j1 v0s v4outl1 v5il1 15)) else some (.inr (v4outl1,0))
def f_r02_Pack (v0s:List UInt8):Option ((List UInt8)×Int) :=
 (f_r02_Valid v0s).bind fun y1=>if (!y1)=true then some (([]:List UInt8),12) else loop (fun s=>f_r02_Pack_l1 v0s s.1 s.2) (([]:List UInt8),0)
def f_r10_shortest_l1 (v0nl1:Int) (v3outl1:List UInt8):Option ((Int×List UInt8) ⊕ (List UInt8)) :=
 if (decide (v0nl1 > 0))=true then (ck (256≠(0:Int)) (ck (([UInt8.ofInt (Int.tmod v0nl1 256)]:List UInt8).length+v3outl1.length≤1000000000) (ck (256≠(0:Int)∧R64 (Int.tdiv v0nl1 256)) (some (.inl (Int.tdiv v0nl1 256,([UInt8.ofInt (Int.tmod v0nl1 256)]:List UInt8)++v3outl1)))))) else some (.inr v3outl1)
def f_r10_shortest (v0n:Int):Option (List UInt8) :=
 loop (fun s=>f_r10_shortest_l1 s.1 s.2) (v0n,[])
def f_r10_flags_j1 (v0r:Record) (v3nj1:Int):Option Int :=
 if v0r.inbound=true then (ck (R64 (v3nj1+2)) (some (v3nj1+2))) else some v3nj1
def f_r10_flags (v0r:Record):Option Int :=
 if v0r.last=true then (ck (R64 (0+1)) (f_r10_flags_j1 v0r (0+1))) else f_r10_flags_j1 v0r 0
def f_r10_Build_l1 (v0list:List Element) (v4outl1:List UInt8) (v5lastl1:Int) (v6il1:Int):Option ((List UInt8×Int×Int) ⊕ ((List UInt8)×Int)) :=
 if (decide (v6il1 < (v0list.length:Int)))=true then (ck ((0:Int)≤v6il1∧v6il1 < (v0list.length:Int)) (if ((decide (((nth v0list v6il1.toNat).tag) < 1)) || (decide (((nth v0list v6il1.toNat).tag) > 255)))=true then some (.inr (([]:List UInt8),6)) else if (decide (((nth v0list v6il1.toNat).tag)≤v5lastl1))=true then some (.inr (([]:List UInt8),9)) else if (decide ((((nth v0list v6il1.toNat).value).length:Int) > 255))=true then some (.inr (([]:List UInt8),5)) else ck (v4outl1.length+([UInt8.ofInt ((nth v0list v6il1.toNat).tag),UInt8.ofInt (((nth v0list v6il1.toNat).value).length:Int)]:List UInt8).length≤1000000000) (ck ((v4outl1++([UInt8.ofInt ((nth v0list v6il1.toNat).tag),UInt8.ofInt (((nth v0list v6il1.toNat).value).length:Int)]:List UInt8)).length+((nth v0list v6il1.toNat).value).length≤1000000000) (ck (R64 (v6il1+1)) (some (.inl ((v4outl1++([UInt8.ofInt ((nth v0list v6il1.toNat).tag),UInt8.ofInt (((nth v0list v6il1.toNat).value).length:Int)]:List UInt8))++((nth v0list v6il1.toNat).value),(nth v0list v6il1.toNat).tag,v6il1+1))))))) else some (.inr (v4outl1,0))
def f_r10_Build (v0list:List Element):Option ((List UInt8)×Int) :=
 loop (fun s=>f_r10_Build_l1 v0list s.1 s.2.1 s.2.2) (([]:List UInt8),0,0)
def f_r10_Encode_j2 (v9j2:List Element):Option ((List UInt8)×Int) :=
 (f_r10_Build v9j2).bind fun y13=>ck (256≠(0:Int)∧R64 (Int.tdiv (y13.1.length:Int) 256)) (ck (256≠(0:Int)) (ck (([UInt8.ofInt (Int.tdiv (y13.1.length:Int) 256),UInt8.ofInt (Int.tmod (y13.1.length:Int) 256)]:List UInt8).length+y13.1.length≤1000000000) (some (([UInt8.ofInt (Int.tdiv (y13.1.length:Int) 256),UInt8.ofInt (Int.tmod (y13.1.length:Int) 256)]:List UInt8)++y13.1,0))))
def f_r10_Encode_l1 (y2:(List UInt8)×Int) (v7j1:List UInt8) (y3:(List UInt8)) (y4:(List UInt8)) (y5:(List UInt8)) (y6:(List UInt8)) (y7:(List UInt8)) (y8:(List UInt8)) (y9:(List UInt8)) (y10:(List UInt8)) (y12:(List UInt8)) (v9l1:List Element) (v10l1:Int):Option ((List Element×Int) ⊕ ((List UInt8)×Int)) :=
 if (decide (v10l1 < (([([]:List UInt8),y3,y4,y5,y2.1,v7j1,y6,y7,y8,y9,y10,y12]:List (List UInt8)).length:Int)))=true then (ck ((0:Int)≤v10l1∧v10l1 < (([([]:List UInt8),y3,y4,y5,y2.1,v7j1,y6,y7,y8,y9,y10,y12]:List (List UInt8)).length:Int)) (if (decide (((nth ([([]:List UInt8),y3,y4,y5,y2.1,v7j1,y6,y7,y8,y9,y10,y12]:List (List UInt8)) v10l1.toNat).length:Int) > 0))=true then (ck ((0:Int)≤v10l1∧v10l1 < (([([]:List UInt8),y3,y4,y5,y2.1,v7j1,y6,y7,y8,y9,y10,y12]:List (List UInt8)).length:Int)) (ck (v9l1.length+([(⟨v10l1,nth ([([]:List UInt8),y3,y4,y5,y2.1,v7j1,y6,y7,y8,y9,y10,y12]:List (List UInt8)) v10l1.toNat⟩:Element)]:List Element).length≤1000000000) (ck (R64 (v10l1+1)) (some (.inl (v9l1++([(⟨v10l1,nth ([([]:List UInt8),y3,y4,y5,y2.1,v7j1,y6,y7,y8,y9,y10,y12]:List (List UInt8)) v10l1.toNat⟩:Element)]:List Element),v10l1+1)))))) else ck (R64 (v10l1+1)) (some (.inl (v9l1,v10l1+1))))) else (f_r10_Encode_j2 v9l1).map (fun z=>.inr z)
def f_r10_Encode_j1 (v0:Record) (y2:(List UInt8)×Int) (v7j1:List UInt8):Option ((List UInt8)×Int) :=
 (f_r10_shortest v0.kind).bind fun y3=>(f_r10_shortest v0.source).bind fun y4=>(f_r10_shortest v0.serial).bind fun y5=>(f_r10_shortest v0.start).bind fun y6=>(f_r10_shortest v0.units).bind fun y7=>(f_r10_shortest v0.call).bind fun y8=>(f_r10_shortest v0.part).bind fun y9=>(f_r10_shortest v0.trunk).bind fun y10=>(f_r10_flags v0).bind fun y11=>(f_r10_shortest y11).bind fun y12=>loop (fun s=>f_r10_Encode_l1 y2 v7j1 y3 y4 y5 y6 y7 y8 y9 y10 y12 s.1 s.2) (([]:List Element),1)
def f_r10_Encode (v0:Record):Option ((List UInt8)×Int) :=
 (f_r09_Error v0).bind fun y1=>if (y1 != 0)=true then some (([]:List UInt8),y1) else (f_r02_Pack v0.a).bind fun y2=>if (v0.b != ([]:List UInt8))=true then ((f_r02_Pack v0.b).bind fun y14=>f_r10_Encode_j1 v0 y2 y14.1) else f_r10_Encode_j1 v0 y2 []
def f_r11_PutDecimal_j1 (v0b:List UInt8) (y0tj1:List UInt8) (v1nj1:Int):Option ((List UInt8)×Int) :=
 if (decide (v1nj1 > 0))=true then some (([]:List UInt8),6) else ck (([]:List UInt8).length+v0b.length≤1000000000) (ck ((([]:List UInt8)++v0b).length+y0tj1.length≤1000000000) (some ((([]:List UInt8)++v0b)++y0tj1,0)))
def f_r11_PutDecimal_l1 (v0b:List UInt8) (y0tl1:List UInt8) (v1nl1:Int) (v9il1:Int):Option ((List UInt8×Int×Int) ⊕ ((List UInt8)×Int)) :=
 if (decide (v9il1≥0))=true then (ck (10≠(0:Int)∧R64 (Int.tdiv v1nl1 10)) (ck (10≠(0:Int)) (ck (R64 ((Int.tmod (Int.tdiv v1nl1 10) 10)*16)) (ck (10≠(0:Int)) (ck (R64 (((Int.tmod (Int.tdiv v1nl1 10) 10)*16)+(Int.tmod v1nl1 10))) (ck ((0:Int)≤v9il1∧v9il1 < (y0tl1.length:Int)) (ck (v9il1.toNat < y0tl1.length) (ck (100≠(0:Int)∧R64 (Int.tdiv v1nl1 100)) (ck (R64 (v9il1-1)) (some (.inl (y0tl1.set v9il1.toNat (UInt8.ofInt (((Int.tmod (Int.tdiv v1nl1 10) 10)*16)+(Int.tmod v1nl1 10))),Int.tdiv v1nl1 100,v9il1-1)))))))))))) else (f_r11_PutDecimal_j1 v0b y0tl1 v1nl1).map (fun z=>.inr z)
def f_r11_PutDecimal (v0b:List UInt8) (v1n:Int) (v2size:Int):Option ((List UInt8)×Int) :=
 if (((decide (v2size < 1)) || (decide (v2size > 9))) || (decide (v1n < 0)))=true then some (([]:List UInt8),6) else ck ((0:Int)≤v2size∧v2size≤v2size∧v2size≤(1000000000:Int)) (ck (R64 (v2size-1)) (loop (fun s=>f_r11_PutDecimal_l1 v0b s.1 s.2.1 s.2.2) ((List.replicate v2size.toNat 0:List UInt8),v1n,v2size-1)))
def f_r11_digits_l1 (v0s:List UInt8) (y0tl1:List UInt8) (v4il1:Int):Option ((List UInt8×Int) ⊕ (List UInt8)) :=
 if (decide (v4il1 < (v0s.length:Int)))=true then (ck (R64 (v4il1+1)) (ck (2≠(0:Int)) (if ((Int.tmod (v4il1+1) 2)==0)=true then (ck (2≠(0:Int)∧R64 (Int.tdiv (v4il1+1) 2)) (ck (2≠(0:Int)∧R64 (Int.tdiv (v4il1+1) 2)) (ck ((0:Int)≤(Int.tdiv (v4il1+1) 2)∧(Int.tdiv (v4il1+1) 2) < (y0tl1.length:Int)) (ck ((Int.tdiv (v4il1+1) 2).toNat < y0tl1.length) (ck ((0:Int)≤v4il1∧v4il1 < (v0s.length:Int)) (ck ((0:Int)≤(Int.tdiv (v4il1+1) 2)∧(Int.tdiv (v4il1+1) 2) < (y0tl1.length:Int)) (ck ((Int.tdiv (v4il1+1) 2).toNat < y0tl1.length) (ck (R64 (v4il1+1)) (some (.inl (y0tl1.set (Int.tdiv (v4il1+1) 2).toNat ((nth y0tl1 (Int.tdiv (v4il1+1) 2).toNat)+(((nth v0s v4il1.toNat) - 48)*16)),v4il1+1))))))))))) else ck (2≠(0:Int)∧R64 (Int.tdiv (v4il1+1) 2)) (ck (2≠(0:Int)∧R64 (Int.tdiv (v4il1+1) 2)) (ck ((0:Int)≤(Int.tdiv (v4il1+1) 2)∧(Int.tdiv (v4il1+1) 2) < (y0tl1.length:Int)) (ck ((Int.tdiv (v4il1+1) 2).toNat < y0tl1.length) (ck ((0:Int)≤v4il1∧v4il1 < (v0s.length:Int)) (ck ((0:Int)≤(Int.tdiv (v4il1+1) 2)∧(Int.tdiv (v4il1+1) 2) < (y0tl1.length:Int)) (ck ((Int.tdiv (v4il1+1) 2).toNat < y0tl1.length) (ck (R64 (v4il1+1)) (some (.inl (y0tl1.set (Int.tdiv (v4il1+1) 2).toNat ((nth y0tl1 (Int.tdiv (v4il1+1) 2).toNat)+((nth v0s v4il1.toNat) - 48)),v4il1+1))))))))))))) else some (.inr y0tl1)
def f_r11_digits (v0s:List UInt8):Option (List UInt8) :=
 ck ((0:Int)≤8∧(8:Int)≤8∧8≤(1000000000:Int)) (ck (R64 ((v0s.length:Int)*16)) (ck ((0:Int)≤0∧0 < ((List.replicate (Int.toNat (8)) 0:List UInt8).length:Int)) (ck (Int.toNat (0) < (List.replicate (Int.toNat (8)) 0:List UInt8).length) (loop (fun s=>f_r11_digits_l1 v0s s.1 s.2) ((List.replicate (Int.toNat (8)) 0:List UInt8).set (Int.toNat (0)) (UInt8.ofInt ((v0s.length:Int)*16)),0)))))
def f_r11_Encode_j2 (v0:Record) (v5j2:Int):Option ((List UInt8)×Int) :=
 (f_r11_PutDecimal ([]:List UInt8) v0.source 1).bind fun y2=>(f_r11_PutDecimal y2.1 v0.serial 5).bind fun y3=>ck (R64 (v0.kind*16)) (ck (R64 ((v0.kind*16)+v5j2)) (ck (y3.1.length+([UInt8.ofInt ((v0.kind*16)+v5j2)]:List UInt8).length≤1000000000) ((f_r11_digits v0.a).bind fun y4=>ck ((y3.1++([UInt8.ofInt ((v0.kind*16)+v5j2)]:List UInt8)).length+y4.length≤1000000000) ((f_r11_digits v0.b).bind fun y5=>ck (((y3.1++([UInt8.ofInt ((v0.kind*16)+v5j2)]:List UInt8))++y4).length+y5.length≤1000000000) ((f_r11_PutDecimal (((y3.1++([UInt8.ofInt ((v0.kind*16)+v5j2)]:List UInt8))++y4)++y5) v0.start 6).bind fun y6=>(f_r11_PutDecimal y6.1 v0.units 7).bind fun y7=>(f_r11_PutDecimal y7.1 v0.call 5).bind fun y8=>(f_r11_PutDecimal y8.1 v0.part 1).bind fun y9=>(f_r11_PutDecimal y9.1 v0.trunk 2).bind fun y10=>(f_r11_sum y10.1).bind fun y11=>ck (y10.1.length+([y11]:List UInt8).length≤1000000000) (some (y10.1++([y11]:List UInt8),0)))))))
def f_r11_Encode_j1 (v0:Record) (v5j1:Int):Option ((List UInt8)×Int) :=
 if v0.inbound=true then (ck (R64 (v5j1+2)) (f_r11_Encode_j2 v0 (v5j1+2))) else f_r11_Encode_j2 v0 v5j1
def f_r11_Encode (v0:Record):Option ((List UInt8)×Int) :=
 (f_r09_Error v0).bind fun y1=>if (y1 != 0)=true then some (([]:List UInt8),y1) else if v0.last=true then (ck (R64 (0+1)) (f_r11_Encode_j1 v0 (0+1))) else f_r11_Encode_j1 v0 0
def f_r07_Bytes_j2 (v3uj2:Int) (v4outj2:List UInt8):Option (List UInt8) :=
 ck (v4outj2.length+([UInt8.ofInt v3uj2]:List UInt8).length≤1000000000) (some (v4outj2++([UInt8.ofInt v3uj2]:List UInt8)))
def f_r07_Bytes_l1 (v3ul1:Int) (v4outl1:List UInt8):Option ((Int×List UInt8) ⊕ (List UInt8)) :=
 if (decide (v3ul1 > 127))=true then (ck (128≠(0:Int)) (ck (v4outl1.length+([UInt8.ofInt (IntKind.wrap .u64 (128+(Int.tmod v3ul1 128)))]:List UInt8).length≤1000000000) (ck (128≠(0:Int)) (some (.inl (IntKind.wrap .u64 (Int.tdiv v3ul1 128),v4outl1++([UInt8.ofInt (IntKind.wrap .u64 (128+(Int.tmod v3ul1 128)))]:List UInt8))))))) else (f_r07_Bytes_j2 v3ul1 v4outl1).map (fun z=>.inr z)
def f_r07_Bytes_j1 (v3uj1:Int):Option (List UInt8) :=
 loop (fun s=>f_r07_Bytes_l1 s.1 s.2) (v3uj1,([]:List UInt8))
def f_r07_Bytes (v0n:Int):Option (List UInt8) :=
 if (decide (v0n < 0))=true then (ck (R64 (v0n+1)) (ck ((-9223372036854775807:Int)≤v0n+1∧v0n+1≤9223372036854775807) (f_r07_Bytes_j1 (IntKind.wrap .u64 ((IntKind.wrap .u64 (2*(IntKind.wrap .u64 (-(v0n+1)))))+1))))) else f_r07_Bytes_j1 (IntKind.wrap .u64 (2*(IntKind.wrap .u64 v0n)))
def f_r07_PutNumber (v0b:List UInt8) (v1n:Int):Option (List UInt8) :=
 (f_r07_Bytes v1n).bind fun y1=>(f_r07_join v0b y1).bind fun y2=>some y2
def f_r12_numbers_l1 (v0l:List Int) (v3outl1:List UInt8) (v4il1:Int):Option ((List UInt8×Int) ⊕ (List UInt8)) :=
 if (decide (v4il1 < (v0l.length:Int)))=true then (ck ((0:Int)≤v4il1∧v4il1 < (v0l.length:Int)) ((f_r07_PutNumber v3outl1 (nth v0l v4il1.toNat)).bind fun y1=>ck (R64 (v4il1+1)) (some (.inl (y1,v4il1+1))))) else some (.inr v3outl1)
def f_r12_numbers (v0l:List Int):Option (List UInt8) :=
 loop (fun s=>f_r12_numbers_l1 v0l s.1 s.2) ([],0)
def f_r12_Payloads_j1 (v0:Batch) (v3j1:List UInt8):Option (List (List UInt8)) :=
 (f_r12_Totals v0.records).bind fun y1=>(f_r12_numbers ([v0.source,v0.number,v0.format,y1.count]:List Int)).bind fun y2=>(f_r12_numbers ([y1.count,nth y1.units 1,nth y1.units 2,nth y1.units 3,nth y1.units 4]:List Int)).bind fun y3=>some ([y2,v3j1,y3]:List (List UInt8))
def f_r12_Payloads_l1 (v0:Batch) (v3l1:List UInt8) (v4l1:Int):Option ((List UInt8×Int) ⊕ (List (List UInt8))) :=
 if (decide (v4l1 < (v0.records.length:Int)))=true then (ck ((0:Int)≤v4l1∧v4l1 < (v0.records.length:Int)) (if (v0.format==1)=true then ((f_r09_Encode (nth v0.records v4l1.toNat)).bind fun y4=>ck (y4.1.length+([10]:List UInt8).length≤9223372036854775807) (ck (v3l1.length+(y4.1++([10]:List UInt8)).length≤1000000000) (ck (R64 (v4l1+1)) (some (.inl (v3l1++(y4.1++([10]:List UInt8)),v4l1+1)))))) else if (v0.format==2)=true then ((f_r10_Encode (nth v0.records v4l1.toNat)).bind fun y5=>ck (v3l1.length+y5.1.length≤1000000000) (ck (R64 (v4l1+1)) (some (.inl (v3l1++y5.1,v4l1+1))))) else (f_r11_Encode (nth v0.records v4l1.toNat)).bind fun y6=>ck (v3l1.length+y6.1.length≤1000000000) (ck (R64 (v4l1+1)) (some (.inl (v3l1++y6.1,v4l1+1)))))) else (f_r12_Payloads_j1 v0 v3l1).map (fun z=>.inr z)
def f_r12_Payloads (v0:Batch):Option (List (List UInt8)) :=
 loop (fun s=>f_r12_Payloads_l1 v0 s.1 s.2) (([]:List UInt8),0)
def f_r08_Wrap (v0b:List UInt8):Option ((List UInt8)×Int) :=
 if (decide ((v0b.length:Int) > 1048576))=true then some (([]:List UInt8),5) else (f_r08_Sum v0b).bind fun y1=>(f_r07_PutNumber ([]:List UInt8) (v0b.length:Int)).bind fun y2=>ck ((0:Int)≤24) (ck ((0:Int)≤16) (ck ((0:Int)≤8) (ck (y2.length+([UInt8.ofInt (Int.fdiv y1 (2 ^ (min (Int.toNat (24)) 32))),UInt8.ofInt (Int.fdiv y1 (2 ^ (min (Int.toNat (16)) 32))),UInt8.ofInt (Int.fdiv y1 (2 ^ (min (Int.toNat (8)) 32))),UInt8.ofInt y1]:List UInt8).length≤1000000000) (ck ((y2++([UInt8.ofInt (Int.fdiv y1 (2 ^ (min (Int.toNat (24)) 32))),UInt8.ofInt (Int.fdiv y1 (2 ^ (min (Int.toNat (16)) 32))),UInt8.ofInt (Int.fdiv y1 (2 ^ (min (Int.toNat (8)) 32))),UInt8.ofInt y1]:List UInt8)).length+v0b.length≤1000000000) (some ((y2++([UInt8.ofInt (Int.fdiv y1 (2 ^ (min (Int.toNat (24)) 32))),UInt8.ofInt (Int.fdiv y1 (2 ^ (min (Int.toNat (16)) 32))),UInt8.ofInt (Int.fdiv y1 (2 ^ (min (Int.toNat (8)) 32))),UInt8.ofInt y1]:List UInt8))++v0b,0))))))
def f_w12_guarded_l1 (v0payloads:List (List UInt8)) (v1at:Int) (v5froml1:Int) (v6il1:Int):Option ((Int×Int) ⊕ Bool) :=
 if (decide (v6il1 < (v0payloads.length:Int)))=true then (ck ((0:Int)≤v6il1∧v6il1 < (v0payloads.length:Int)) ((f_r08_Wrap (nth v0payloads v6il1.toNat)).bind fun y1=>if (y1.2 != 0)=true then some (.inr false) else ck (R64 (v5froml1+(y1.1.length:Int))) (ck ((0:Int)≤v6il1∧v6il1 < (v0payloads.length:Int)) (ck (R64 ((v5froml1+(y1.1.length:Int)) - ((nth v0payloads v6il1.toNat).length:Int))) (ck (R64 (((v5froml1+(y1.1.length:Int)) - ((nth v0payloads v6il1.toNat).length:Int)) - 4)) (ck ((decide (v1at≥(((v5froml1+(y1.1.length:Int)) - ((nth v0payloads v6il1.toNat).length:Int)) - 4)))=true→(R64 (v5froml1+(y1.1.length:Int)))) (if ((decide (v1at≥(((v5froml1+(y1.1.length:Int)) - ((nth v0payloads v6il1.toNat).length:Int)) - 4))) && (decide (v1at < (v5froml1+(y1.1.length:Int)))))=true then some (.inr true) else ck (R64 (v5froml1+(y1.1.length:Int))) (ck (R64 (v6il1+1)) (some (.inl (v5froml1+(y1.1.length:Int),v6il1+1))))))))))) else some (.inr false)
def f_w12_guarded (v0payloads:List (List UInt8)) (v1at:Int):Option Bool :=
 loop (fun s=>f_w12_guarded_l1 v0payloads v1at s.1 s.2) (0,0)
def f_w12_BatchBack (v0:Batch) (v1:Billinglaw12Change):Option Bool :=
 (f_w12_few v0.records).bind fun y1=>if (!y1)=true then ((f_w12_awake).bind fun y2=>some y2) else (f_batch_Write v0).bind fun y3=>if (y3.2 != 0)=true then ((gcall ((y3.1.length:Int)==0) (f_w12_awake)).bind fun y4=>some (((y3.1.length:Int)==0) && y4)) else (f_batch_Read y3.1).bind fun y5=>(f_batch_Head y3.1).bind fun y6=>(gcall (!(((y5.2.2 != 0) || (y6.2 != 0)) || ((y5.2.1.length:Int) != 0))) (f_r12_Same y5.1 v0)).bind fun y7=>if (((((y5.2.2 != 0) || (y6.2 != 0)) || ((y5.2.1.length:Int) != 0)) || (!y7)) || (!(eqVs (Head.vals y6.1) (Head.vals (⟨v0.source,v0.number,v0.format,(v0.records.length:Int)⟩:Head)))))=true then some false else ck ((!((decide (v1.at_ < 0)) || (decide (v1.at_≥(y3.1.length:Int)))))=true→((0:Int)≤v1.at_∧v1.at_ < (y3.1.length:Int))) ((gcall (!(((decide (v1.at_ < 0)) || (decide (v1.at_≥(y3.1.length:Int)))) || ((nth y3.1 v1.at_.toNat)==v1.to_))) (f_r12_Payloads v0)).bind fun y8=>(gcall (!(((decide (v1.at_ < 0)) || (decide (v1.at_≥(y3.1.length:Int)))) || ((nth y3.1 v1.at_.toNat)==v1.to_))) (f_w12_guarded y8 v1.at_)).bind fun y9=>if ((((decide (v1.at_ < 0)) || (decide (v1.at_≥(y3.1.length:Int)))) || ((nth y3.1 v1.at_.toNat)==v1.to_)) || (!y9))=true then ((f_w12_awake).bind fun y10=>some y10) else ck (([]:List UInt8).length+y3.1.length≤1000000000) (ck ((0:Int)≤v1.at_∧v1.at_ < ((([]:List UInt8)++y3.1).length:Int)) (ck (v1.at_.toNat < (([]:List UInt8)++y3.1).length) ((f_batch_Read ((([]:List UInt8)++y3.1).set v1.at_.toNat v1.to_)).bind fun y11=>(gcall (y11.2.2==4) (f_w12_awake)).bind fun y12=>some ((y11.2.2==4) && y12)))))
theorem gcall_mk {α:Type} [Inhabited α] {b:Bool} {x:α}:gcall b (some x)=some (if b=true then x else default):=by
 unfold gcall; split <;> rfl
theorem loop_all {α R:Type} [Inhabited α] {step:Int→Option (Int ⊕ R)} (l:List α) (p:α→Bool) (fin bad:R) (hl:l.length < 18446744073709551616)
  (h1:∀ i:Int,0≤i→i < (l.length:Int)→step i=some (if p (nth l i.toNat)=true then .inl (i+1) else .inr bad)) (h2:∀ i:Int,i=(l.length:Int)→step i=some (.inr fin)):loop step 0=some (if l.all p=true then fin else bad):=by
 have:=loop_spec (step:=step) (fun i:Int=>some (if (l.drop i.toNat).all p=true then fin else bad)) (fun i=>0≤i∧i≤(l.length:Int)) (fun i=>((l.length:Int) - i).toNat) (fun i hI=>by
  by_cases hi:i < (l.length:Int)
  ·have hd:=drop_nth (l:=l) (k:=i.toNat) (by omega)
   rw [h1 i hI.1 hi]
   by_cases hp:p (nth l i.toNat)=true
   ·rw [if_pos hp]
    refine .inr ⟨i+1,rfl,⟨by omega,by omega⟩,by omega,?_⟩
    rw [show (i+1).toNat=i.toNat+1 from by omega,hd]
    simp [hp]
   ·rw [if_neg hp]
    refine .inl ⟨bad,rfl,?_⟩
    rw [hd]
    simp [hp]
  ·have:i=(l.length:Int):=by omega
   refine .inl ⟨fin,h2 i this,?_⟩
   rw [List.drop_of_length_le (by omega)]
   simp) (s:=0) ⟨by omega,by omega⟩ (by omega)
 simpa using this
def isDig (c:UInt8):Bool:=decide (48≤c) && decide (c≤57)
def validB (s:List UInt8):Bool:=s.all isDig && decide (1≤s.length) && decide (s.length≤15)
theorem p_Valid (s:List UInt8) (hl:s.length < 1000000000):f_digits_Valid s=some (validB s):=by
 unfold f_digits_Valid
 rw [loop_all s isDig (decide ((s.length:Int)≥1) && decide ((s.length:Int)≤15)) false (by omega) (fun i h0 h1=>?_) (fun i hi=>?_)]
 ·unfold validB
  cases s.all isDig <;> simp
  rw [Bool.eq_iff_iff]; simp; omega
 ·unfold f_digits_Valid_l1 f_digits_digit
  rw [if_pos (by simpa using h1),ck_pos (by omega)]
  simp only [Option.bind_some]
  rw [ck_pos (by omega)]
  unfold isDig
  simp only [ge_iff_le]
  cases decide (48≤nth s i.toNat) <;> cases decide (nth s i.toNat≤57) <;> rfl
 ·unfold f_digits_Valid_l1 f_digits_Valid_j1
  rw [if_neg (by simp; omega)]
  rfl
theorem p_rValid (s:List UInt8) (hl:s.length < 1000000000):f_r02_Valid s=some (validB s):=by
 unfold f_r02_Valid
 rw [loop_all s isDig (decide ((s.length:Int)≥1) && decide ((s.length:Int)≤15)) false (by omega) (fun i h0 h1=>?_) (fun i hi=>?_)]
 ·unfold validB
  cases s.all isDig <;> simp
  rw [Bool.eq_iff_iff]; simp; omega
 ·unfold f_r02_Valid_l1
  rw [if_pos (by simpa using h1),ck_pos (by omega),ck_pos (by omega),ck_pos (by omega)]
  unfold isDig
  have e1:decide (nth s i.toNat < 48)=!decide (48≤nth s i.toNat):=by rw [←decide_not]; simp
  have e2:decide (nth s i.toNat > 57)=!decide (nth s i.toNat≤57):=by rw [←decide_not]; simp
  rw [e1,e2]
  cases decide (48≤nth s i.toNat) <;> cases decide (nth s i.toNat≤57) <;> rfl
 ·unfold f_r02_Valid_l1 f_r02_Valid_j1
  rw [if_neg (by simp; omega)]
  rfl
def errF (r:Record):Int :=
 if ¬(1≤r.source∧r.source≤99∧1≤r.serial∧r.serial≤999999999) then 6
 else if ¬(1≤r.kind∧r.kind≤4) then 7
 else if validB r.a=false∨(validB r.b=false∧¬((r.kind=3∨r.kind=4)∧r.b=[])) then 12
 else if ¬(0≤r.start∧r.start≤12622780799) then 15
 else if ¬(0≤r.units∧r.units≤1099511627776)∨(r.kind=1∧r.units > 604800) then 6
 else if r.kind=1∧r.start+r.units > 12622780800 then 15
 else if ¬(0≤r.call∧r.call≤999999999∧0≤r.part∧r.part≤99) then 6
 else if ¬(r.part=0↔r.call=0)∨(r.last=true∧r.part=0) then 8
 else if ¬(0≤r.trunk∧r.trunk≤999) then 6
 else if r.inbound=true∧r.trunk=0 then 8
 else 0
theorem ite_same {α:Type} {b:Bool} {p:Prop} [Decidable p] {x y x' y':α} (h:b=true↔p) (hx:p→x=x') (hy:¬p→y=y'):(if b=true then x else y)=if p then x' else y':=by
 by_cases hp:p
 ·rw [if_pos hp,if_pos (h.2 hp),hx hp]
 ·rw [if_neg hp,if_neg (fun hb=>hp (h.1 hb)),hy hp]
theorem ite_some {α:Type} {p:Prop} [Decidable p] {x y:α}:(if p then some x else some y)=some (if p then x else y):=by split <;> rfl
theorem p_check (r:Record) (ha:r.a.length < 1000000000) (hb:r.b.length < 1000000000):f_textual_check r=some (errF r):=by
 have key:∀ m,(m=1099511627776∧r.kind≠1)∨(m=604800∧r.kind=1)→f_textual_check_j1 r m=some (errF r):=by
  intro m hm
  unfold f_textual_check_j1 errF
  simp only [f_textual_within,p_Valid _ ha,p_Valid _ hb,Option.bind_some,gcall_mk]
  simp only [←ite_some]
  refine ite_same (by simp; grind) (fun _=>rfl) (fun h1=>?_)
  refine ite_same (by simp; grind) (fun _=>rfl) (fun h2=>?_)
  refine ite_same (by simp; grind) (fun _=>rfl) (fun h3=>?_)
  refine ite_same (by simp; grind) (fun _=>rfl) (fun h4=>?_)
  refine ite_same (by simp; grind) (fun _=>rfl) (fun h5=>?_)
  rw [ck_pos (by omega)]
  refine ite_same (by simp) (fun _=>rfl) (fun h6=>?_)
  refine ite_same (by simp; grind) (fun _=>rfl) (fun h7=>?_)
  refine ite_same (by simp; grind) (fun _=>rfl) (fun h8=>?_)
  refine ite_same (by simp; grind) (fun _=>rfl) (fun h9=>?_)
  refine ite_same (by simp) (fun _=>rfl) (fun h10=>rfl)
 unfold f_textual_check
 split
 ·rename_i h
  exact key _ (.inr ⟨rfl,by simpa using h⟩)
 ·rename_i h
  exact key _ (.inl ⟨rfl,by simpa using h⟩)
theorem p_rError (r:Record) (ha:r.a.length < 1000000000) (hb:r.b.length < 1000000000):f_r09_Error r=some (errF r):=by
 unfold f_r09_Error errF
 simp only [f_r09_in,p_rValid _ ha,p_rValid _ hb,Option.bind_some,gcall_mk]
 simp only [←ite_some]
 refine ite_same (by simp; grind) (fun _=>rfl) (fun h1=>?_)
 refine ite_same (by simp; grind) (fun _=>rfl) (fun h2=>?_)
 by_cases hva:validB r.a=true
 ·rw [if_neg (by simp [hva])]
  refine ite_same (by simp [hva]; grind) (fun _=>rfl) (fun h3=>?_)
  refine ite_same (by simp; grind) (fun _=>rfl) (fun h4=>?_)
  refine ite_same (by simp; grind) (fun _=>rfl) (fun h5=>?_)
  rw [ck_pos (by omega)]
  refine ite_same (by simp) (fun _=>rfl) (fun h6=>?_)
  refine ite_same (by simp; grind) (fun _=>rfl) (fun h7=>?_)
  refine ite_same (by simp; grind) (fun _=>rfl) (fun h8=>?_)
  refine ite_same (by simp; grind) (fun _=>rfl) (fun h9=>?_)
  refine ite_same (by simp) (fun _=>rfl) (fun h10=>rfl)
 ·rw [if_pos (by simp [hva]),if_pos (by simp [hva])]
structure Good (r:Record):Prop where
 source:1≤r.source∧r.source≤99
 serial:1≤r.serial∧r.serial≤999999999
 kind:1≤r.kind∧r.kind≤4
 a:validB r.a=true
 b:validB r.b=true∨(r.kind=3∨r.kind=4)∧r.b=[]
 start:0≤r.start∧r.start≤12622780799
 units:0≤r.units∧r.units≤1099511627776
 call:0≤r.call∧r.call≤999999999
 part:0≤r.part∧r.part≤99
 trunk:0≤r.trunk∧r.trunk≤999
theorem errF_good {r:Record} (h:errF r=0):Good r:=by
 unfold errF at h
 split at h; · cases h
 split at h; · cases h
 split at h; · cases h
 split at h; · cases h
 split at h; · cases h
 split at h; · cases h
 split at h; · cases h
 split at h; · cases h
 split at h; · cases h
 split at h; · cases h
 rename_i h1 h2 h3 h4 h5 h6 h7 h8 h9 h10
 refine ⟨by omega,by omega,by omega,?_,?_,by omega,by omega,by omega,by omega,by omega⟩
 ·cases hv:validB r.a with
  | true=>rfl
  | false=>exact absurd (.inl hv) h3
 ·cases hv:validB r.b with
  | true=>exact .inl rfl
  | false =>
   right
   by_cases hh:(r.kind=3∨r.kind=4)∧r.b=[]
   ·exact hh
   ·exact absurd (.inr ⟨hv,hh⟩) h3
theorem validB_len {s:List UInt8} (h:validB s=true):s.length≤15:=by
 unfold validB at h
 simp at h
 exact h.2
def headF (r:Record):List (List UInt8):=[(([118,116,100,99]:List UInt8).take r.kind.toNat).drop (r.kind-1).toNat,Go.Lib.itoa r.source,Go.Lib.itoa r.serial,r.a,if r.b=[] then [45] else r.b,Go.Lib.itoa r.start,Go.Lib.itoa r.units]
def partF (r:Record):List (List UInt8):=if r.part=0 then [] else [[112,97,114,116],Go.Lib.itoa r.call,Go.Lib.itoa r.part]++if r.last=true then [[108,97,115,116]] else []
def trunkF (r:Record):List (List UInt8):=if r.trunk=0 then [] else [if r.inbound=true then [105,110] else [111,117,116],Go.Lib.itoa r.trunk]
def wordsF (r:Record):List (List UInt8):=headF r++partF r++trunkF r
def lineF (r:Record):List UInt8:=Go.Lib.join (wordsF r) [32]
theorem join_len (sep:List UInt8) (xs:List (List UInt8)) (m:Nat) (h:∀ x,x∈xs→x.length≤m):(Go.Lib.join xs sep).length≤xs.length*(m+sep.length):=by
 cases xs with
 | nil=>simp [Go.Lib.join]
 | cons x r =>
  rw [Go.Lib.join_cons]
  have h1:∀ (r:List (List UInt8)),(∀ x,x∈r→x.length≤m)→(Go.Lib.joinTail sep r).length≤r.length*(m+sep.length):=by
   intro r
   induction r with
   | nil=>simp [Go.Lib.joinTail]
   | cons y r ih =>
    intro hr
    have:=ih fun z hz=>hr z (List.mem_cons_of_mem _ hz)
    have h2:=hr y List.mem_cons_self
    simp only [Go.Lib.joinTail,List.map_cons,List.flatten_cons,List.length_append,List.length_cons,Nat.add_mul] at *
    omega
  have h3:=h1 r fun z hz=>h z (List.mem_cons_of_mem _ hz)
  have h4:=h x List.mem_cons_self
  simp only [List.length_append,List.length_cons,Nat.add_mul] at *
  omega
theorem itoa_le {n:Int} (h0:0≤n) (h1:n≤9223372036854775807):(Go.Lib.itoa n).length≤21:=Go.Lib.itoa_length_le n (by omega) h1
theorem words_le {r:Record} (g:Good r):(wordsF r).length≤13∧∀ x,x∈wordsF r→x.length≤21:=by
 have ha:=validB_len g.a
 have hb:r.b.length≤15:=by
  rcases g.b with h | h
  ·exact validB_len h
  ·rw [h.2]; simp
 obtain ⟨gs,ge,gk,_,_,gst,gu,gc,gp,gt⟩:=g
 refine ⟨?_,fun x hx=>?_⟩
 ·have h1:(partF r).length≤4:=by unfold partF; split; simp; split <;> simp
  have h2:(trunkF r).length≤2:=by unfold trunkF; split <;> simp
  have h3:(headF r).length=7:=rfl
  simp only [wordsF,List.length_append]; omega
 ·unfold wordsF at hx
  rcases List.mem_append.1 hx with hx | hx
  ·rcases List.mem_append.1 hx with hx | hx
   ·unfold headF at hx
    simp only [List.mem_cons,List.not_mem_nil,or_false] at hx
    rcases hx with rfl | rfl | rfl | rfl | rfl | rfl | rfl
    ·simp; omega
    ·exact itoa_le (by omega) (by omega)
    ·exact itoa_le (by omega) (by omega)
    ·omega
    ·split
     ·simp
     ·omega
    ·exact itoa_le (by omega) (by omega)
    ·exact itoa_le (by omega) (by omega)
   ·unfold partF at hx
    split at hx
    ·cases hx
    ·rcases List.mem_append.1 hx with hx | hx
     ·simp only [List.mem_cons,List.not_mem_nil,or_false] at hx
      rcases hx with rfl | rfl | rfl
      ·simp
      ·exact itoa_le (by omega) (by omega)
      ·exact itoa_le (by omega) (by omega)
     ·split at hx
      ·simp only [List.mem_cons,List.not_mem_nil,or_false] at hx
       subst hx; simp
      ·cases hx
  ·unfold trunkF at hx
   split at hx
   ·cases hx
   ·simp only [List.mem_cons,List.not_mem_nil,or_false] at hx
    rcases hx with rfl | rfl
    ·split <;> simp
    ·exact itoa_le (by omega) (by omega)
theorem p_Itoa {n:Int} (h0:0≤n) (h1:n≤9223372036854775807):x_Itoa n=some (Go.Lib.itoa n):=by
 unfold x_Itoa; rw [ck_pos (by omega)]
theorem p_Encode_ok (r:Record) (h:errF r=0):f_textual_Encode r=some (lineF r,0):=by
 have g:=errF_good h
 have ha:=validB_len g.a
 have hb:r.b.length≤15:=by
  rcases g.b with h | h
  ·exact validB_len h
  ·rw [h.2]; simp
 have hj3:∀ ws,ws=wordsF r→f_textual_Encode_j3 ws=some (lineF r,0):=by
  rintro ws rfl
  unfold f_textual_Encode_j3 x_Join
  obtain ⟨w1,w2⟩:=words_le g
  have:=join_len [32] (wordsF r) 21 w2
  simp only [List.length_cons,List.length_nil] at this
  have h3:(wordsF r).length*22≤13*22:=Nat.mul_le_mul_right _ w1
  rw [ck_pos ⟨by omega,by omega⟩]
  rfl
 have hj2:∀ ws,ws=headF r++partF r→ws.length≤11→f_textual_Encode_j2 r ws=some (lineF r,0):=by
  intro ws hw hl
  unfold f_textual_Encode_j2
  by_cases ht:r.trunk=0
  ·rw [if_neg (by simp [ht])]
   exact hj3 _ (by rw [hw,wordsF,trunkF,if_pos ht]; simp)
  ·rw [if_pos (by simp [ht])]
   unfold f_textual_Encode_j4
   rw [p_Itoa g.trunk.1 (by have:=g.trunk.2; omega)]
   simp only [Option.bind_some]
   split
   ·rename_i hi
    rw [ck_pos (by simp; omega)]
    exact hj3 _ (by rw [hw,wordsF,trunkF,if_neg ht,if_pos hi])
   ·rename_i hi
    rw [ck_pos (by simp; omega)]
    exact hj3 _ (by rw [hw,wordsF,trunkF,if_neg ht,if_neg hi])
 have hj1:∀ b,b=(if r.b=[] then [45] else r.b)→f_textual_Encode_j1 r b=some (lineF r,0):=by
  rintro b rfl
  unfold f_textual_Encode_j1
  have gk:=g.kind
  rw [ck_pos (by omega),ck_pos (by simp; omega),p_Itoa (by have:=g.source; omega) (by have:=g.source; omega),p_Itoa (by have:=g.serial; omega) (by have:=g.serial; omega),p_Itoa g.start.1 (by have:=g.start; omega),p_Itoa g.units.1 (by have:=g.units; omega)]
  simp only [Option.bind_some]
  by_cases hp:r.part=0
  ·rw [if_neg (by simp [hp])]
   exact hj2 _ (by rw [partF,if_pos hp]; simp [headF]) (by simp)
  ·rw [if_pos (by simp [hp]),p_Itoa g.call.1 (by have:=g.call; omega),p_Itoa g.part.1 (by have:=g.part; omega)]
   simp only [Option.bind_some]
   rw [ck_pos (by simp)]
   split
   ·rename_i hl
    rw [ck_pos (by simp)]
    exact hj2 _ (by rw [partF,if_neg hp,if_pos hl]; simp [headF]) (by simp)
   ·rename_i hl
    exact hj2 _ (by rw [partF,if_neg hp,if_neg hl]; simp [headF]) (by simp)
 unfold f_textual_Encode
 rw [p_check r (by omega) (by omega),h]
 simp only [Option.bind_some]
 rw [if_neg (by simp)]
 split
 ·rename_i hb0
  exact hj1 _ (by rw [if_pos (by simpa using hb0)])
 ·rename_i hb0
  exact hj1 _ (by rw [if_neg (by simpa using hb0)])
theorem p_Encode (r:Record) (ha:r.a.length < 1000000000) (hb:r.b.length < 1000000000):f_textual_Encode r=some (if errF r=0 then lineF r else [],errF r):=by
 by_cases h:errF r=0
 ·rw [p_Encode_ok r h,if_pos h,h]
 ·unfold f_textual_Encode
  rw [p_check r ha hb,if_neg h]
  simp only [Option.bind_some]
  rw [if_pos (by simpa using h)]
def chkL (src:Int):List Record→Int
 | []=>0
 | r :: l=>if errF r=0 then (if r.source=src then chkL src l else 8) else errF r
def hdF (s n f:Int):Int:=if (s < 1∨99 < s)∨(n < 1∨999999999 < n) then 6 else if f < 1∨3 < f then 7 else 0
def chkF (b:Batch):Int:=if hdF b.source b.number b.format=0 then (if 4096 < b.records.length then 5 else chkL b.source b.records) else hdF b.source b.number b.format
def SmL (l:List Record):Prop:=∀ r,r∈l→r.a.length < 1000000000∧r.b.length < 1000000000
theorem SmL.nth {l:List Record} (h:SmL l) {k:Nat} (hk:k < l.length):(Go.Abs.nth l k).a.length < 1000000000∧(Go.Abs.nth l k).b.length < 1000000000:=by
 rw [nth_eq hk]; exact h _ (List.getElem_mem hk)
theorem p_checkL (b:Batch) (h:SmL b.records) (hl:b.records.length≤4096):loop (fun s=>f_batch_Check_l1 b s) 0=some (chkL b.source b.records):=by
 have:=loop_spec (step:=fun s=>f_batch_Check_l1 b s) (fun i:Int=>some (chkL b.source (b.records.drop i.toNat))) (fun i=>0≤i∧i≤(b.records.length:Int)) (fun i=>((b.records.length:Int) - i).toNat) (fun i hI=>by
  obtain ⟨h0,h1⟩:=hI
  show (∃ r,f_batch_Check_l1 b i=_∧_)∨∃ s',f_batch_Check_l1 b i=_∧_
  unfold f_batch_Check_l1
  by_cases hi:i < (b.records.length:Int)
  ·have hd:=drop_nth (l:=b.records) (k:=i.toNat) (by omega)
   have hs:=h.nth (k:=i.toNat) (by omega)
   rw [if_pos (by simpa using hi),ck_pos ⟨h0,hi⟩,p_Encode _ hs.1 hs.2,hd]
   generalize Go.Abs.nth b.records i.toNat=r at *
   simp only [Option.bind_some,chkL]
   by_cases he:errF r=0
   ·rw [if_neg (by simp [he]),if_pos he]
    by_cases hsrc:r.source=b.source
    ·rw [if_neg (by simp [hsrc]),if_pos hsrc,ck_pos (by omega)]
     refine .inr ⟨i+1,rfl,⟨by omega,by omega⟩,by omega,?_⟩
     rw [show (i+1).toNat=i.toNat+1 from by omega]
    ·rw [if_pos (by simpa using hsrc),if_neg hsrc]
     exact .inl ⟨_,rfl,rfl⟩
   ·rw [if_pos (by simpa using he),if_neg he]
    exact .inl ⟨_,rfl,rfl⟩
  ·rw [if_neg (by simpa using hi),List.drop_of_length_le (by omega)]
   exact .inl ⟨_,rfl,rfl⟩) (s:=0) ⟨by omega,by omega⟩ (by omega)
 simpa using this
theorem p_head (h:Head):f_batch_checkHead h=some (if hdF h.source h.number h.format=0 then (if h.count < 0∨4096 < h.count then 5 else 0) else hdF h.source h.number h.format):=by
 unfold f_batch_checkHead
 simp only [f_batch_within,Option.bind_some,gcall_mk]
 by_cases h1:(h.source < 1∨99 < h.source)∨(h.number < 1∨999999999 < h.number)
 ·have e:hdF h.source h.number h.format=6:=if_pos h1
  rw [e]
  show _=some (6:Int)
  by_cases hs:h.source < 1∨99 < h.source
  ·rw [if_pos (by simp; omega)]
  ·have hn:h.number < 1∨999999999 < h.number:=by omega
   rw [if_pos (by simp; omega)]
 ·by_cases h2:h.format < 1∨3 < h.format
  ·have e:hdF h.source h.number h.format=7:=by unfold hdF; rw [if_neg h1,if_pos h2]
   rw [e]
   show _=some (7:Int)
   rw [if_neg (by simp; omega),if_pos (by simp; omega)]
  ·have e:hdF h.source h.number h.format=0:=by unfold hdF; rw [if_neg h1,if_neg h2]
   rw [e]
   show _=some (if h.count < 0∨4096 < h.count then 5 else 0)
   rw [if_neg (by simp; omega),if_neg (by simp; omega)]
   by_cases h3:h.count < 0∨4096 < h.count
   ·rw [if_pos h3,if_pos (by simp; omega)]
   ·rw [if_neg h3,if_neg (by simp; omega)]
theorem p_Check (b:Batch) (h:SmL b.records):f_batch_Check b=some (chkF b):=by
 unfold f_batch_Check f_batch_headOf chkF
 simp only [Option.bind_some,p_head]
 by_cases h1:hdF b.source b.number b.format=0
 ·simp only [h1,if_true]
  by_cases h2:4096 < b.records.length
  ·have h2':(b.records.length:Int) < 0∨4096 < (b.records.length:Int):=by omega
   rw [if_pos h2',if_pos h2]; rfl
  ·have h2':¬ ((b.records.length:Int) < 0∨4096 < (b.records.length:Int)):=by omega
   rw [if_neg h2',if_neg h2]
   exact p_checkL b h (by omega)
 ·simp only [if_neg h1]
  rw [if_pos (by simpa using h1)]
def vb (u:Int):List UInt8:=if 127 < u then UInt8.ofInt (128+u % 128) :: vb (u / 128) else [UInt8.ofInt u]
termination_by u.toNat
decreasing_by omega
theorem vb_len:∀ (k:Nat) (u:Int),u < 128 ^ k*128→(vb u).length≤k+1
 | 0,u,h=>by
  unfold vb
  rw [if_neg (by simp at h; omega)]; simp
 | k+1,u,h=>by
  unfold vb
  split
  ·have e:(128:Int) ^ (k+1)=128 ^ k*128:=Int.pow_succ _ _
   rw [e] at h
   have:=vb_len k (u / 128) (by
    generalize (128:Int) ^ k=p at *
    omega)
   simp only [List.length_cons]; omega
  ·simp
theorem vb_le {u:Int} (h:u < 18446744073709551616):(vb u).length≤10:=vb_len 9 u (by
 have:(128:Int) ^ 9=9223372036854775808:=by decide
 rw [this]; omega)
theorem or_tab128:∀ r:Fin 256,UInt8.ofNat r.val ||| 128=UInt8.ofNat (128+r.val % 128):=by decide +kernel
theorem ofInt_nat {u:Int} (h:0≤u):UInt8.ofInt u=UInt8.ofNat (u.toNat % 256):=by
 unfold UInt8.ofInt
 congr 1
 have:(2:Int) ^ 8=256:=by decide
 rw [this]; omega
theorem or128 {u:Int} (h:0≤u):UInt8.ofInt u ||| 128=UInt8.ofInt (128+u % 128):=by
 rw [ofInt_nat h,or_tab128 ⟨u.toNat % 256,Nat.mod_lt _ (by decide)⟩,ofInt_nat (by omega)]
 congr 1
 have:(128+u % 128).toNat=128+u.toNat % 128:=by omega
 rw [this]
 simp only
 omega
theorem p_addC (n:Int) (b:List UInt8) (h0:0≤n) (h1:n≤9223372036854775807) (hb:b.length≤900000000):g_codec_add n b=some (b++vb (2*n)):=by
 unfold g_codec_add f_codec_zigzag
 have hz:bXor .u64 (IntKind.wrap .u64 ((IntKind.wrap .u64 n)*2 ^ (min (Int.toNat (1)) 64))) (IntKind.wrap .u64 (n / 2 ^ (Int.toNat (63))))=2*n:=by
  have e1:IntKind.wrap .u64 n=n:=by simp [IntKind.wrap,IntKind.bits,IntKind.signed]; omega
  have e2:n / 2 ^ (Int.toNat (63))=0:=by
   have:(2:Int) ^ (Int.toNat 63)=9223372036854775808:=by decide
   rw [this]; omega
  have e3:(2:Int) ^ (min (Int.toNat 1) 64)=2:=by decide
  rw [e1,e2,e3]
  have e4:IntKind.wrap .u64 (n*2)=2*n:=by simp [IntKind.wrap,IntKind.bits,IntKind.signed]; omega
  have e5:IntKind.wrap .u64 0=0:=by decide
  rw [e4,e5]
  unfold bXor
  have e6:(BitVec.ofInt (IntKind.bits .u64) (2*n) ^^^ BitVec.ofInt (IntKind.bits .u64) 0)=BitVec.ofInt (IntKind.bits .u64) (2*n):=by
   have:BitVec.ofInt (IntKind.bits .u64) 0=0#(IntKind.bits .u64):=by decide
   rw [this,BitVec.xor_zero]
  rw [e6,BitVec.toNat_ofInt]
  have e7:(((2*n) % ((2 ^ IntKind.bits .u64:Nat):Int)).toNat:Int)=2*n:=by
   have:((2 ^ IntKind.bits .u64:Nat):Int)=18446744073709551616:=by decide
   rw [this]; omega
  rw [e7]
  simp [IntKind.wrap,IntKind.bits,IntKind.signed]; omega
 rw [ck_pos (by decide),hz]
 simp only [Option.bind_some]
 have hl:=vb_le (u:=2*n) (by omega)
 have:=loop_spec (step:=fun s:List UInt8×Int=>g_codec_add_l1 s.1 s.2) (fun s=>some (s.1++vb s.2)) (fun s=>0≤s.2∧s.2 < 18446744073709551616∧s.1.length+(vb s.2).length≤1000000000) (fun s=>s.2.toNat) (by
  rintro ⟨c,u⟩ ⟨k0,k1,k2⟩
  simp only at k0 k1 k2 ⊢
  unfold g_codec_add_l1
  by_cases hu:127 < u
  ·have hv:vb u=UInt8.ofInt (128+u % 128) :: vb (u / 128):=by rw [vb]; rw [if_pos hu]
   have hf:Int.fdiv u (2 ^ (min (Int.toNat (7)) 64))=u / 128:=by
    have:(2:Int) ^ (min (Int.toNat (7)) 64)=128:=by decide
    rw [this,Int.fdiv_eq_ediv_of_nonneg _ (by decide)]
   rw [hv] at k2 ⊢
   simp only [List.length_cons] at k2
   rw [if_pos (by simp; omega),ck_pos (by simp; omega),ck_pos (by decide),or128 k0,hf]
   exact .inr ⟨_,rfl,⟨by simp only; omega,by simp only; omega,by simp; omega⟩,by simp only; omega,by simp⟩
  ·have hv:vb u=[UInt8.ofInt u]:=by rw [vb]; rw [if_neg hu]
   rw [hv] at k2 ⊢
   rw [if_neg (by simp; omega)]
   unfold g_codec_add_j1
   rw [ck_pos (by simpa using k2)]
   exact .inl ⟨_,rfl,rfl⟩) (s:=(b,2*n)) ⟨by simp only; omega,by simp only; omega,by simp only; omega⟩ (by simp only; omega)
 rw [this]
theorem p_PutC (n:Int) (h0:0≤n) (h1:n≤9223372036854775807):f_codec_PutNumber [] n=some (vb (2*n)):=by
 unfold f_codec_PutNumber f_codec_grown
 rw [ck_pos (by simp <;> omega),ck_pos (by simp)]
 simp only [Option.bind_some]
 rw [p_addC n _ h0 h1 (by simp)]
 rfl
theorem p_BytesL (u:Int) (h0:0≤u) (h1:u < 18446744073709551616):f_r07_Bytes_j1 u=some (vb u):=by
 unfold f_r07_Bytes_j1
 have hl:=vb_le h1
 have:=loop_spec (step:=fun s:Int×List UInt8=>f_r07_Bytes_l1 s.1 s.2) (fun s=>some (s.2++vb s.1)) (fun s=>0≤s.1∧s.1 < 18446744073709551616∧s.2.length+(vb s.1).length≤1000000000) (fun s=>s.1.toNat) (by
  rintro ⟨u,c⟩ ⟨k0,k1,k2⟩
  simp only at k0 k1 k2 ⊢
  unfold f_r07_Bytes_l1
  by_cases hu:127 < u
  ·have hv:vb u=UInt8.ofInt (128+u % 128) :: vb (u / 128):=by rw [vb]; rw [if_pos hu]
   have ht:Int.tmod u 128=u % 128:=Int.tmod_eq_emod_of_nonneg k0
   have hd:Int.tdiv u 128=u / 128:=Int.tdiv_eq_ediv_of_nonneg k0
   have hw1:IntKind.wrap .u64 (128+u % 128)=128+u % 128:=by simp [IntKind.wrap,IntKind.bits,IntKind.signed]; omega
   have hw2:IntKind.wrap .u64 (u / 128)=u / 128:=by simp [IntKind.wrap,IntKind.bits,IntKind.signed]; omega
   rw [hv] at k2 ⊢
   simp only [List.length_cons] at k2
   rw [if_pos (by simp; omega),ck_pos (by decide),ht,hd,hw1,hw2,ck_pos (by simp; omega),ck_pos (by decide)]
   exact .inr ⟨_,rfl,⟨by simp only; omega,by simp only; omega,by simp; omega⟩,by simp only; omega,by simp⟩
  ·have hv:vb u=[UInt8.ofInt u]:=by rw [vb]; rw [if_neg hu]
   rw [hv] at k2 ⊢
   rw [if_neg (by simp; omega)]
   unfold f_r07_Bytes_j2
   rw [ck_pos (by simpa using k2)]
   exact .inl ⟨_,rfl,rfl⟩) (s:=(u,[])) ⟨h0,h1,by simp; omega⟩ (by simp only; omega)
 rw [this]; rfl
theorem p_rPut (b:List UInt8) (n:Int) (h0:0≤n) (h1:n≤9223372036854775807) (hb:b.length≤900000000):f_r07_PutNumber b n=some (b++vb (2*n)):=by
 unfold f_r07_PutNumber f_r07_Bytes f_r07_join
 have e1:IntKind.wrap .u64 n=n:=by simp [IntKind.wrap,IntKind.bits,IntKind.signed]; omega
 have e2:IntKind.wrap .u64 (2*n)=2*n:=by simp [IntKind.wrap,IntKind.bits,IntKind.signed]; omega
 have hl:=vb_le (u:=2*n) (by omega)
 rw [if_neg (by simp; omega),e1,e2,p_BytesL _ (by omega) (by omega)]
 simp only [Option.bind_some]
 rw [ck_pos (by simp; omega),ck_pos (by simp; omega)]
 rfl
def Sh200 (r:Record):Prop:=r.a.length≤200∧r.b.length≤200
instance (r:Record):Decidable (Sh200 r):=by unfold Sh200; infer_instance
theorem few_tot (l:List Record):∃ b,f_w12_few l=some b∧(b=true→l.length≤40∧∀ r,r∈l→Sh200 r):=by
 unfold f_w12_few
 obtain ⟨b,h1,h2⟩:=loop_post (step:=fun i:Int=>f_w12_few_l1 l i) (fun b=>b=true→l.length≤40∧∀ r,r∈l→Sh200 r) (fun i:Int=>0≤i∧i≤41∧i≤(l.length:Int)∧∀ r,r∈l.take i.toNat→Sh200 r) (fun i=>(41-i).toNat) (fun i hI=>by
  obtain ⟨h0,h1,h2,h3⟩:=hI
  show (∃ r,f_w12_few_l1 l i=_∧_)∨∃ s',f_w12_few_l1 l i=_∧_
  unfold f_w12_few_l1
  by_cases h:i < (l.length:Int)∧i < 41
  ·rw [if_pos (by simp [h]),ck_pos (by omega),ck_pos (by omega)]
   by_cases hs:Sh200 (nth l i.toNat)
   ·have hs':=hs
    unfold Sh200 at hs'
    rw [if_neg (by simp; omega),ck_pos (by omega)]
    refine .inr ⟨i+1,rfl,⟨by omega,by omega,by omega,?_⟩,by omega⟩
    rw [show (i+1).toNat=i.toNat+1 from by omega,take_nth (by omega)]
    intro r hr
    rcases List.mem_append.1 hr with hr | hr
    ·exact h3 r hr
    ·simp at hr; subst hr; exact hs
   ·have hs':=hs
    unfold Sh200 at hs'
    rw [if_pos (by simp; omega)]
    exact .inl ⟨_,rfl,by simp⟩
  ·rw [if_neg (by simp; omega)]
   unfold f_w12_few_j1
   refine .inl ⟨_,rfl,fun hb=>?_⟩
   simp at hb
   have:i=l.length:=by omega
   refine ⟨by omega,fun r hr=>h3 r ?_⟩
   rw [List.take_of_length_le (by omega)]
   exact hr) (s:=0) ⟨by omega,by omega,by omega,by simp⟩ (by simp)
 exact ⟨b,h1,h2⟩
def okT (r:Record):Bool:=decide (1≤r.kind∧r.kind≤4∧0≤r.units∧r.units≤1099511627776)
def addT (u:List Int) (r:Record):List Int:=if okT r=true then setN u 5 r.kind.toNat (nth u r.kind.toNat+r.units) else u
def totT (l:List Record):List Int:=l.foldl addT [0,0,0,0,0]
def conT (r:Record) (k:Nat):Int:=if okT r=true∧r.kind.toNat=k then r.units else 0
def sumT:List Record→Nat→Int
 | [],_=>0
 | r :: l,k=>conT r k+sumT l k
theorem conT_bd (r:Record) (k:Nat):0≤conT r k∧conT r k≤1099511627776:=by
 unfold conT
 split
 ·rename_i h
  have:=h.1
  simp only [okT,decide_eq_true_eq] at this
  exact ⟨this.2.2.1,this.2.2.2⟩
 ·omega
theorem sumT_bd:∀ (l:List Record) (k:Nat),0≤sumT l k∧sumT l k≤l.length*1099511627776
 | [],k=>by simp [sumT]
 | r :: l,k=>by
  have h1:=conT_bd r k
  have h2:=sumT_bd l k
  simp only [sumT,List.length_cons]
  omega
theorem addT_len {u:List Int} (h:u.length=5) (r:Record):(addT u r).length=5:=by
 unfold addT; split
 ·exact setN_len _ _ _ _
 ·exact h
theorem nth_addT (u:List Int) (r:Record) {k:Nat} (hk:k < 5):nth (addT u r) k=nth u k+conT r k:=by
 unfold addT conT
 by_cases h:okT r=true
 ·rw [if_pos h,nth_setN hk]
  by_cases h2:r.kind.toNat=k
  ·rw [if_pos h2,if_pos ⟨h,h2⟩,h2]
  ·rw [if_neg h2,if_neg (fun h3=>h2 h3.2)]; omega
 ·rw [if_neg h,if_neg (fun h3=>h h3.1)]; omega
theorem nth_fold:∀ (l:List Record) (u:List Int) {k:Nat},k < 5→nth (l.foldl addT u) k=nth u k+sumT l k
 | [],u,k,_=>by simp [sumT]
 | r :: l,u,k,hk=>by
  simp only [List.foldl_cons,sumT]
  rw [nth_fold l _ hk,nth_addT u r hk]; omega
theorem nth_totT (l:List Record) {k:Nat} (hk:k < 5):nth (totT l) k=sumT l k:=by
 unfold totT
 rw [nth_fold l _ hk]
 have:nth ([0,0,0,0,0]:List Int) k=0:=by
  match k,hk with
  | 0,_=>rfl
  | 1,_=>rfl
  | 2,_=>rfl
  | 3,_=>rfl
  | 4,_=>rfl
 omega
theorem five {u:List Int} (h:u.length=5):[nth u 0,nth u 1,nth u 2,nth u 3,nth u 4]=u:=by
 match u,h with
 | [a,b,c,d,e],_=>rfl
theorem five_bd {u:List Int} {x:Int} (h:∀ j,j < 5→0≤nth u j∧nth u j≤x) {n:Int} (h1:1≤n) (h2:n≤4):0≤nth u n.toNat∧nth u n.toNat≤x:=h _ (by omega)
theorem p_Totals (l:List Record) (hl:l.length≤1000000):f_batch_Totals l=some ⟨(l.length:Int),totT l⟩:=by
 unfold f_batch_Totals
 have:=loop_spec (step:=fun s:Int×Int×Int×Int×Int×Int=>f_batch_Totals_l1 l s.1 s.2.1 s.2.2.1 s.2.2.2.1 s.2.2.2.2.1 s.2.2.2.2.2)
  (fun s=>some ⟨(l.length:Int),(l.drop s.1.toNat).foldl addT [s.2.1,s.2.2.1,s.2.2.2.1,s.2.2.2.2.1,s.2.2.2.2.2]⟩)
  (fun s=>0≤s.1∧s.1≤(l.length:Int)∧∀ j,j < 5→0≤nth [s.2.1,s.2.2.1,s.2.2.2.1,s.2.2.2.2.1,s.2.2.2.2.2] j∧nth [s.2.1,s.2.2.1,s.2.2.2.1,s.2.2.2.2.1,s.2.2.2.2.2] j≤s.1*1099511627776)
  (fun s=>((l.length:Int) - s.1).toNat) (by
   rintro ⟨i,c1,c2,c3,c4,c5⟩ ⟨h0,h1,h2⟩
   simp only at h0 h1 h2 ⊢
   unfold f_batch_Totals_l1
   by_cases hi:i < (l.length:Int)
   ·right
    have hd:=drop_nth (l:=l) (k:=i.toNat) (by omega)
    rw [if_pos (by simpa using hi),ck_pos ⟨h0,hi⟩]
    generalize nth l i.toNat=r at *
    simp only [f_batch_within,Option.bind_some,gcall_mk]
    have hfive:=five (u:=[c1,c2,c3,c4,c5]) rfl
    generalize hu:[c1,c2,c3,c4,c5]=u at *
    have hul:u.length=5:=by rw [←hu]; rfl
    by_cases hk:okT r=true
    ·have hk':=hk
     simp only [okT,decide_eq_true_eq] at hk'
     have hb:=five_bd h2 hk'.1 hk'.2.1
     have hadd:addT u r=setN u 5 r.kind.toNat (nth u r.kind.toNat+r.units):=if_pos hk
     rw [if_pos (by simp; omega),ck_pos (by omega),ck_pos (by omega),ck_pos (by omega),ck_pos (by omega),ck_pos (by omega),ck_pos (by omega)]
     refine ⟨_,rfl,⟨by omega,by omega,?_⟩,by omega,?_⟩
     ·simp only
      rw [←hadd,five (addT_len hul r)]
      intro j hj
      rw [nth_addT u r hj]
      have:=h2 j hj
      have:=conT_bd r j
      omega
     ·simp only
      rw [←hadd,five (addT_len hul r),show (i+1).toNat=i.toNat+1 from by omega,hd,List.foldl_cons]
    ·have hk':=hk
     simp only [okT,decide_eq_true_eq] at hk'
     have hadd:addT u r=u:=if_neg hk
     rw [if_neg (by simp; omega),ck_pos (by omega)]
     refine ⟨_,rfl,⟨by omega,by omega,?_⟩,by omega,?_⟩
     ·simp only
      rw [hu]
      intro j hj
      have:=h2 j hj
      omega
     ·simp only
      rw [hu,show (i+1).toNat=i.toNat+1 from by omega,hd,List.foldl_cons,hadd]
   ·left
    rw [if_neg (by simpa using hi),List.drop_of_length_le (by omega)]
    exact ⟨_,rfl,rfl⟩) (s:=(0,0,0,0,0,0)) ⟨by simp,by simp,by
     intro j hj
     match j,hj with
     | 0,_=>simp [nth]
     | 1,_=>simp [nth]
     | 2,_=>simp [nth]
     | 3,_=>simp [nth]
     | 4,_=>simp [nth]⟩ (by simp; omega)
 rw [this]; rfl
theorem p_rTotals (l:List Record) (hl:l.length≤1000000):f_r12_Totals l=some ⟨(l.length:Int),totT l⟩:=by
 unfold f_r12_Totals
 have:=loop_spec (step:=fun s:Int×Int×Int×Int×Int×Int=>f_r12_Totals_l1 l s.1 s.2.1 s.2.2.1 s.2.2.2.1 s.2.2.2.2.1 s.2.2.2.2.2)
  (fun s=>some ⟨(l.length:Int),(l.drop s.1.toNat).foldl addT [s.2.1,s.2.2.1,s.2.2.2.1,s.2.2.2.2.1,s.2.2.2.2.2]⟩)
  (fun s=>0≤s.1∧s.1≤(l.length:Int)∧∀ j,j < 5→0≤nth [s.2.1,s.2.2.1,s.2.2.2.1,s.2.2.2.2.1,s.2.2.2.2.2] j∧nth [s.2.1,s.2.2.1,s.2.2.2.1,s.2.2.2.2.1,s.2.2.2.2.2] j≤s.1*1099511627776)
  (fun s=>((l.length:Int) - s.1).toNat) (by
   rintro ⟨i,c1,c2,c3,c4,c5⟩ ⟨h0,h1,h2⟩
   simp only at h0 h1 h2 ⊢
   unfold f_r12_Totals_l1
   by_cases hi:i < (l.length:Int)
   ·right
    have hd:=drop_nth (l:=l) (k:=i.toNat) (by omega)
    rw [if_pos (by simpa using hi),ck_pos ⟨h0,hi⟩]
    generalize nth l i.toNat=r at *
    have hfive:=five (u:=[c1,c2,c3,c4,c5]) rfl
    generalize hu:[c1,c2,c3,c4,c5]=u at *
    have hul:u.length=5:=by rw [←hu]; rfl
    by_cases hk:okT r=true
    ·have hk':=hk
     simp only [okT,decide_eq_true_eq] at hk'
     have hb:=five_bd h2 hk'.1 hk'.2.1
     have hadd:addT u r=setN u 5 r.kind.toNat (nth u r.kind.toNat+r.units):=if_pos hk
     rw [if_pos (by simp; omega),ck_pos (by omega),ck_pos (by omega),ck_pos (by omega),ck_pos (by omega),ck_pos (by omega),ck_pos (by omega)]
     refine ⟨_,rfl,⟨by omega,by omega,?_⟩,by omega,?_⟩
     ·simp only
      rw [←hadd,five (addT_len hul r)]
      intro j hj
      rw [nth_addT u r hj]
      have:=h2 j hj
      have:=conT_bd r j
      omega
     ·simp only
      rw [←hadd,five (addT_len hul r),show (i+1).toNat=i.toNat+1 from by omega,hd,List.foldl_cons]
    ·have hk':=hk
     simp only [okT,decide_eq_true_eq] at hk'
     have hadd:addT u r=u:=if_neg hk
     rw [if_neg (by simp; omega),ck_pos (by omega)]
     refine ⟨_,rfl,⟨by omega,by omega,?_⟩,by omega,?_⟩
     ·simp only
      rw [hu]
      intro j hj
      have:=h2 j hj
      omega
     ·simp only
      rw [hu,show (i+1).toNat=i.toNat+1 from by omega,hd,List.foldl_cons,hadd]
   ·left
    rw [if_neg (by simpa using hi),List.drop_of_length_le (by omega)]
    exact ⟨_,rfl,rfl⟩) (s:=(0,0,0,0,0,0)) ⟨by simp,by simp,by
     intro j hj
     match j,hj with
     | 0,_=>simp [nth]
     | 1,_=>simp [nth]
     | 2,_=>simp [nth]
     | 3,_=>simp [nth]
     | 4,_=>simp [nth]⟩ (by simp; omega)
 rw [this]; rfl
theorem collect {α R:Type} [Inhabited α] {step:List UInt8×Int→Option ((List UInt8×Int) ⊕ R)} (l:List α) (f:α→List UInt8) (G:List UInt8→Option R) (B:Nat) (hB:∀ x,x∈l→(f x).length≤B) (hb:l.length*B≤900000000) (hl:l.length≤1000000000)
  (h1:∀ (out:List UInt8) (i:Int),0≤i→i < (l.length:Int)→out.length≤900000000→step (out,i)=some (.inl (out++f (nth l i.toNat),i+1)))
  (h2:∀ (out:List UInt8),out.length≤900000000→∃ r,step (out,(l.length:Int))=some (.inr r)∧G out=some r):loop step ([],0)=G (l.map f).flatten:=by
 have:=loop_spec (step:=step) (fun s=>G (s.1++((l.drop s.2.toNat).map f).flatten)) (fun s=>0≤s.2∧s.2≤(l.length:Int)∧s.1.length≤s.2.toNat*B) (fun s=>((l.length:Int) - s.2).toNat) (by
  rintro ⟨out,i⟩ ⟨k0,k1,k2⟩
  simp only at k0 k1 k2 ⊢
  have hle:out.length≤900000000:=Nat.le_trans k2 (Nat.le_trans (Nat.mul_le_mul_right B (by omega)) hb)
  by_cases hi:i < (l.length:Int)
  ·right
   have hd:=drop_nth (l:=l) (k:=i.toNat) (by omega)
   have hm:nth l i.toNat∈l:=by rw [nth_eq (by omega)]; exact List.getElem_mem _
   have hx:=hB _ hm
   refine ⟨_,h1 out i k0 hi hle,⟨by simp only; omega,by simp only; omega,?_⟩,by simp only; omega,?_⟩
   ·simp only
    rw [show (i+1).toNat=i.toNat+1 from by omega,Nat.succ_mul,List.length_append]; omega
   ·simp only
    rw [show (i+1).toNat=i.toNat+1 from by omega,hd]
    simp
  ·left
   have e:i=(l.length:Int):=by omega
   subst e
   obtain ⟨r,a1,a2⟩:=h2 out hle
   exact ⟨r,a1,by rw [List.drop_of_length_le (by omega)]; simpa using a2⟩) (s:=([],0)) ⟨by simp,by simp,by simp⟩ (by simp; omega)
 rw [this]; simp
def numsF (l:List Int):List UInt8:=(l.map fun n=>vb (2*n)).flatten
def NumL (l:List Int):Prop:=∀ n,n∈l→0≤n∧n≤9223372036854775807
theorem NumL.nth {l:List Int} (h:NumL l) {k:Nat} (hk:k < l.length):0≤Go.Abs.nth l k∧Go.Abs.nth l k≤9223372036854775807:=by
 rw [nth_eq hk]; exact h _ (List.getElem_mem hk)
theorem p_nums (l:List Int) (h:NumL l) (hl:l.length≤1000000):g_batch_all_int_byte l=some (numsF l):=by
 unfold g_batch_all_int_byte
 refine collect (step:=fun s:List UInt8×Int=>g_batch_all_int_byte_l1 l s.1 s.2) l (fun n=>vb (2*n)) some 10 (fun n hn=>vb_le (by have:=h n hn; omega)) (by omega) (by omega) (fun out i h0 hi ho=>?_) (fun out ho=>?_)
 ·have hn:=h.nth (k:=i.toNat) (by omega)
  have hv:=vb_le (u:=2*Go.Abs.nth l i.toNat) (by omega)
  show g_batch_all_int_byte_l1 l out i=_
  unfold g_batch_all_int_byte_l1 f_batch_number
  rw [if_pos (by simpa using hi),ck_pos ⟨h0,hi⟩,p_PutC _ hn.1 hn.2]
  simp only [Option.bind_some]
  rw [ck_pos (by omega),ck_pos (by omega)]
 ·show ∃ r,g_batch_all_int_byte_l1 l out (l.length:Int)=_∧_
  unfold g_batch_all_int_byte_l1
  rw [if_neg (by simp)]
  exact ⟨_,rfl,rfl⟩
theorem p_rnums (l:List Int) (h:NumL l) (hl:l.length≤1000000):f_r12_numbers l=some (numsF l):=by
 unfold f_r12_numbers
 refine collect (step:=fun s:List UInt8×Int=>f_r12_numbers_l1 l s.1 s.2) l (fun n=>vb (2*n)) some 10 (fun n hn=>vb_le (by have:=h n hn; omega)) (by omega) (by omega) (fun out i h0 hi ho=>?_) (fun out ho=>?_)
 ·have hn:=h.nth (k:=i.toNat) (by omega)
  show f_r12_numbers_l1 l out i=_
  unfold f_r12_numbers_l1
  rw [if_pos (by simpa using hi),ck_pos ⟨h0,hi⟩,p_rPut _ _ hn.1 hn.2 ho]
  simp only [Option.bind_some]
  rw [ck_pos (by omega)]
 ·show ∃ r,f_r12_numbers_l1 l out (l.length:Int)=_∧_
  unfold f_r12_numbers_l1
  rw [if_neg (by simp)]
  exact ⟨_,rfl,rfl⟩
theorem sum_same (b:List UInt8):f_r08_Sum b=f_frame_Sum b:=rfl
theorem sum_tot (b:List UInt8) (hb:b.length≤1000000000):∃ n,f_frame_Sum b=some n:=by
 unfold f_frame_Sum
 obtain ⟨r,h,_⟩:=loop_post (step:=fun s:Int×Int=>f_frame_Sum_l1 b s.1 s.2) (fun _=>True) (fun s=>0≤s.2∧s.2≤(b.length:Int)) (fun s=>((b.length:Int) - s.2).toNat) (by
  rintro ⟨n,i⟩ ⟨h0,h1⟩
  simp only at h0 h1 ⊢
  unfold f_frame_Sum_l1
  by_cases hi:i < (b.length:Int)
  ·rw [if_pos (by simpa using hi),ck_pos ⟨h0,hi⟩,ck_pos (by omega)]
   exact .inr ⟨_,rfl,⟨by simp only; omega,by simp only; omega⟩,by simp only; omega⟩
  ·rw [if_neg (by simpa using hi)]
   exact .inl ⟨_,rfl,trivial⟩) (s:=(2166136261,0)) ⟨by simp,by simp⟩ (by simp; omega)
 exact ⟨r,h⟩
def sumW (b:List UInt8):Int:=(f_frame_Sum b).getD 0
theorem p_Sum (b:List UInt8) (hb:b.length≤1000000000):f_frame_Sum b=some (sumW b):=by
 obtain ⟨n,h⟩:=sum_tot b hb
 unfold sumW; rw [h]; rfl
def wrapF (b:List UInt8):List UInt8:=vb (2*(b.length:Int))++[UInt8.ofInt (Int.fdiv (sumW b) (2 ^ (min (Int.toNat (24)) 32))),UInt8.ofInt (Int.fdiv (sumW b) (2 ^ (min (Int.toNat (16)) 32))),UInt8.ofInt (Int.fdiv (sumW b) (2 ^ (min (Int.toNat (8)) 32))),UInt8.ofInt (sumW b)]++b
theorem wrapF_len (b:List UInt8) (hb:b.length≤1000000000):(wrapF b).length≤b.length+14:=by
 have:=vb_le (u:=2*(b.length:Int)) (by omega)
 simp [wrapF]; omega
theorem p_wrap (b out:List UInt8) (hb:b.length≤1048576) (ho:out.length≤900000000):g_frame_wrap_v1 b out=some (out++wrapF b):=by
 have hv:=vb_le (u:=2*(b.length:Int)) (by omega)
 unfold g_frame_wrap_v1
 rw [p_Sum b (by omega),p_PutC _ (by omega) (by omega)]
 simp only [Option.bind_some]
 rw [ck_pos (by omega),ck_pos (by decide),ck_pos (by decide),ck_pos (by decide),ck_pos (by simp; omega),ck_pos (by simp; omega)]
 simp [wrapF]
theorem p_rWrap (b:List UInt8) (hb:b.length≤1048576):f_r08_Wrap b=some (wrapF b,0):=by
 have hv:=vb_le (u:=2*(b.length:Int)) (by omega)
 unfold f_r08_Wrap
 rw [if_neg (by simp; omega),sum_same,p_Sum b (by omega),p_rPut [] _ (by omega) (by omega) (by simp)]
 simp only [Option.bind_some,List.nil_append]
 rw [ck_pos (by decide),ck_pos (by decide),ck_pos (by decide),ck_pos (by simp; omega),ck_pos (by simp; omega)]
 simp [wrapF]
def joinW (l:List (List UInt8)):List UInt8:=(l.map wrapF).flatten
theorem nth_mem' {α:Type} [Inhabited α] {l:List α} {k:Nat} (h:k < l.length):nth l k∈l:=by rw [nth_eq h]; exact List.getElem_mem _
theorem p_Join (l:List (List UInt8)) (h:∀ x,x∈l→x.length≤1048576) (hl:l.length≤100):f_frame_Join l=some (joinW l,0):=by
 unfold f_frame_Join
 refine collect (step:=fun s:List UInt8×Int=>f_frame_Join_l1 l s.1 s.2) l wrapF (fun o=>some (o,0)) 1048590 (fun x hx=>by have:=wrapF_len x (by have:=h x hx; omega); have:=h x hx; omega) (by omega) (by omega) (fun out i h0 hi ho=>?_) (fun out ho=>?_)
 ·have hx:=h _ (nth_mem' (l:=l) (k:=i.toNat) (by omega))
  show f_frame_Join_l1 l out i=_
  unfold f_frame_Join_l1
  rw [if_pos (by simpa using hi),ck_pos ⟨h0,hi⟩,if_neg (by simp; omega),p_wrap _ _ hx ho]
  simp only [Option.bind_some]
  rw [ck_pos (by omega)]
 ·show ∃ r,f_frame_Join_l1 l out (l.length:Int)=_∧_
  unfold f_frame_Join_l1
  rw [if_neg (by simp)]
  exact ⟨_,rfl,rfl⟩
end Go.Proofs.YthoengcicaicoaaGreatDoor
namespace Go.Proofs.YthoengcicaicoaaGreatDoor.C11
open Go.RowKit Go.Abs
def pk (n:Int):UInt8:=UInt8.ofInt (n / 10 % 10*16+n % 10)
def packF:Nat→Int→List UInt8
 | 0,_=>[]
 | k+1,n=>pk (n / 100 ^ k) :: packF k n
theorem packF_len:∀ (k:Nat) (n:Int),(packF k n).length=k
 | 0,_=>rfl
 | k+1,n=>by simp [packF,packF_len k n]
def putF (b:List UInt8) (n size:Int):List UInt8×Int :=
 if size < 1∨size > 9∨n < 0 then ([],6) else if n / 100 ^ size.toNat > 0 then ([],6) else (b++packF size.toNat n,0)
theorem tdiv_nn {n m:Int} (h:0≤n):Int.tdiv n m=n / m:=Int.tdiv_eq_ediv_of_nonneg h
theorem tmod_nn {n m:Int} (h:0≤n):Int.tmod n m=n % m:=Int.tmod_eq_emod_of_nonneg h
theorem or_tab:∀ x y:Fin 10,bOr .i64 ((x.val:Int)*2 ^ 4) (y.val:Int)=(x.val:Int)*16+(y.val:Int):=by decide +kernel
theorem or_dig {x y:Int} (hx:0≤x∧x < 10) (hy:0≤y∧y < 10):bOr .i64 (x*2 ^ (Int.toNat 4)) y=x*16+y:=by
 have:=or_tab ⟨x.toNat,by omega⟩ ⟨y.toNat,by omega⟩
 simpa [Int.toNat_of_nonneg hx.1,Int.toNat_of_nonneg hy.1] using this
theorem pow100_succ (k:Nat):(100:Int) ^ (k+1)=100 ^ k*100:=by rw [Int.pow_succ]
theorem pow100_pos (k:Nat):(0:Int) < 100 ^ k:=Int.pow_pos (by decide)
theorem div_pow {n:Int} (k:Nat):n / 100 ^ k / 100=n / 100 ^ (k+1):=by
 rw [pow100_succ,Int.ediv_ediv_of_nonneg (Int.le_of_lt (pow100_pos k))]
theorem div_pow_nn {n:Int} (h:0≤n) (k:Nat):0≤n / 100 ^ k:=Int.ediv_nonneg h (Int.le_of_lt (pow100_pos k))
theorem div_pow_le {n:Int} (h:0≤n) (k:Nat):n / 100 ^ k≤n:=Int.ediv_le_self _ h
theorem set_last (b t:List UInt8) (m:Nat) (x:UInt8):((b++List.replicate (m+1) 0)++t).set (b.length+m) x=(b++List.replicate m 0)++(x :: t):=by
 rw [List.replicate_succ',←List.append_assoc,List.append_assoc (b++List.replicate m 0),List.set_append_right _ _ (by simp)]
 simp
theorem p_PutDecimal (b:List UInt8) (n size:Int) (hb:b.length≤100000000) (hn:n≤9223372036854775807):f_packed_PutDecimal b n size=some (putF b n size):=by
 unfold f_packed_PutDecimal putF
 by_cases h:size < 1∨size > 9∨n < 0
 ·rw [if_pos (by simpa [or_assoc] using h),if_pos h]
 ·rw [if_neg (by simpa [or_assoc] using h),if_neg h]
  have h1:1≤size∧size≤9∧0≤n:=by omega
  obtain ⟨k,rfl⟩:∃ k:Nat,size=k:=⟨size.toNat,by omega⟩
  have e0:Int.toNat ((b.length:Int)+(k:Int))=b.length+k:=by omega
  have e1:b.take (min b.length (List.replicate (Int.toNat ((b.length:Int)+(k:Int))) 0:List UInt8).length)++(List.replicate (Int.toNat ((b.length:Int)+(k:Int))) 0:List UInt8).drop (min b.length (List.replicate (Int.toNat ((b.length:Int)+(k:Int))) 0:List UInt8).length)=b++List.replicate k 0:=by
   rw [e0,List.length_replicate,Nat.min_eq_left (by omega),List.take_length,List.drop_replicate]
   congr 2; omega
  rw [e1,ck_pos (by omega),ck_pos (by omega),ck_pos (by simp; omega)]
  have:=loop_post (step:=fun s=>f_packed_PutDecimal_l1 b s.1 s.2.1 s.2.2) (fun r=>r=if n / 100 ^ (k:Int).toNat > 0 then ([],6) else (b++packF (k:Int).toNat n,0))
   (fun s:List UInt8×Int×Int=>∃ j,j≤k∧s=((b++List.replicate (k-j) 0)++packF j n,n / 100 ^ j,((b.length+k-j:Nat):Int) - 1)) (fun s=>(s.2.2+1).toNat) (fun s hI=>by
    obtain ⟨j,hj,rfl⟩:=hI
    simp only []
    have hnn:=div_pow_nn h1.2.2 j
    have hle:=div_pow_le h1.2.2 j
    unfold f_packed_PutDecimal_l1
    by_cases hjk:j=k
    ·subst hjk
     rw [if_neg (by simp; omega)]
     refine .inl ⟨_,?_,rfl⟩
     unfold f_packed_PutDecimal_j1
     simp only [Nat.sub_self,List.replicate_zero,List.append_nil,Int.toNat_natCast]
     by_cases hp:n / 100 ^ j > 0
     ·rw [if_pos (by simpa using hp),if_pos hp]; rfl
     ·rw [if_neg (by simpa using hp),if_neg hp]; rfl
    ·obtain ⟨m,hm⟩:∃ m,k-j=m+1:=⟨k-j-1,by omega⟩
     rw [if_pos (by simp; omega)]
     generalize hq:n / 100 ^ j=q at hnn hle
     have hq10:0≤q / 10:=by omega
     rw [tdiv_nn hnn,tdiv_nn hnn,tmod_nn hq10,tmod_nn hnn]
     have hx:0≤q / 10 % 10∧q / 10 % 10 < 10:=by omega
     have e4:(2:Int) ^ (Int.toNat 4)=16:=by decide
     rw [or_dig hx (by omega),e4]
     have hlen:((b++List.replicate (k-j) 0)++packF j n).length=b.length+k:=by simp [packF_len]; omega
     have ei:Int.toNat (((b.length+k-j:Nat):Int) - 1)=b.length+m:=by omega
     rw [ck_pos (by omega),ck_pos (by omega),ck_pos (by omega),ck_pos (by omega),ck_pos (by rw [hlen]; omega),ck_pos (by rw [hlen]; omega),ck_pos (by omega),ck_pos (by omega)]
     refine .inr ⟨_,rfl,⟨j+1,by omega,?_⟩,?_⟩
     ·have e5:k-(j+1)=m:=by omega
      rw [ei,hm,set_last,e5]
      refine Prod.ext ?_ (Prod.ext ?_ ?_)
      ·show _=_++packF (j+1) n
       rw [packF,hq]; rfl
      ·show q / 100=n / 100 ^ (j+1)
       rw [←hq,div_pow]
      ·simp only []; omega
     ·simp only []; omega) (s:=(b++List.replicate k 0,n,((b++List.replicate k 0).length:Int) - 1)) ⟨0,by omega,by simp [packF]⟩ (by simp; omega)
  obtain ⟨r,hr,rfl⟩:=this
  exact hr
theorem p_rPutDecimal (b:List UInt8) (n size:Int) (hb:b.length≤100000000) (hn:n≤9223372036854775807):f_r11_PutDecimal b n size=some (putF b n size):=by
 unfold f_r11_PutDecimal putF
 by_cases h:size < 1∨size > 9∨n < 0
 ·rw [if_pos (by simpa [or_assoc] using h),if_pos h]
 ·rw [if_neg (by simpa [or_assoc] using h),if_neg h]
  have h1:1≤size∧size≤9∧0≤n:=by omega
  obtain ⟨k,rfl⟩:∃ k:Nat,size=k:=⟨size.toNat,by omega⟩
  rw [ck_pos (by omega),ck_pos (by omega)]
  have:=loop_post (step:=fun s=>f_r11_PutDecimal_l1 b s.1 s.2.1 s.2.2) (fun r=>r=if n / 100 ^ (k:Int).toNat > 0 then ([],6) else (b++packF (k:Int).toNat n,0))
   (fun s:List UInt8×Int×Int=>∃ j,j≤k∧s=(([]++List.replicate (k-j) 0)++packF j n,n / 100 ^ j,((k-j:Nat):Int) - 1)) (fun s=>(s.2.2+1).toNat) (fun s hI=>by
    obtain ⟨j,hj,rfl⟩:=hI
    simp only []
    have hnn:=div_pow_nn h1.2.2 j
    have hle:=div_pow_le h1.2.2 j
    unfold f_r11_PutDecimal_l1
    by_cases hjk:j=k
    ·subst hjk
     rw [if_neg (by simp)]
     refine .inl ⟨_,?_,rfl⟩
     unfold f_r11_PutDecimal_j1
     simp only [Nat.sub_self,List.replicate_zero,List.append_nil,List.nil_append,Int.toNat_natCast]
     by_cases hp:n / 100 ^ j > 0
     ·rw [if_pos (by simpa using hp),if_pos hp]; rfl
     ·rw [if_neg (by simpa using hp),if_neg hp,ck_pos (by simp; omega),ck_pos (by simp [packF_len]; omega)]; rfl
    ·obtain ⟨m,hm⟩:∃ m,k-j=m+1:=⟨k-j-1,by omega⟩
     rw [if_pos (by simp; omega)]
     generalize hq:n / 100 ^ j=q at hnn hle
     have hq10:0≤q / 10:=by omega
     rw [tdiv_nn hnn,tdiv_nn hnn,tmod_nn hq10,tmod_nn hnn]
     have hx:0≤q / 10 % 10∧q / 10 % 10 < 10:=by omega
     have hlen:(([]++List.replicate (k-j) 0)++packF j n).length=k:=by simp [packF_len]; omega
     have ei:Int.toNat (((k-j:Nat):Int) - 1)=([]:List UInt8).length+m:=by simp; omega
     rw [ck_pos (by omega),ck_pos (by omega),ck_pos (by omega),ck_pos (by omega),ck_pos (by omega),ck_pos (by rw [hlen]; omega),ck_pos (by rw [hlen]; omega),ck_pos (by omega),ck_pos (by omega)]
     refine .inr ⟨_,rfl,⟨j+1,by omega,?_⟩,?_⟩
     ·have e5:k-(j+1)=m:=by omega
      rw [ei,hm,set_last,e5]
      refine Prod.ext ?_ (Prod.ext ?_ ?_)
      ·show _=_++packF (j+1) n
       rw [packF,hq]; rfl
      ·show q / 100=n / 100 ^ (j+1)
       rw [←hq,div_pow]
      ·simp only []; omega
     ·simp only []; omega) (s:=(List.replicate (Int.toNat (k:Int)) 0,n,(k:Int) - 1)) ⟨0,by omega,by simp [packF]⟩ (by simp; omega)
  obtain ⟨r,hr,rfl⟩:=this
  exact hr
theorem u8_all {p:UInt8→Prop} (h:∀ n:Fin 256,p (UInt8.ofNat n.val)) (x:UInt8):p x:=by
 have:=h ⟨x.toNat,x.toNat_lt⟩
 simpa using this
theorem u8_hi (x:UInt8):u8shr x 4=x / 16:=u8_all (p:=fun x=>u8shr x 4=x / 16) (by decide +kernel) x
theorem u8_lo (x:UInt8):x &&& 15=x % 16:=u8_all (p:=fun x=>x &&& 15=x % 16) (by decide +kernel) x
theorem u8_hin (x:UInt8):(x / 16).toNat=x.toNat / 16:=by simp
theorem u8_lon (x:UInt8):(x % 16).toNat=x.toNat % 16:=by simp
def decS:Int→List UInt8→Int×Int
 | n,[]=>(n,0)
 | n,x :: xs=>if 9 < x.toNat / 16∨9 < x.toNat % 16 then (0,1) else decS (100*n+((x.toNat / 16:Nat):Int)*10+((x.toNat % 16:Nat):Int)) xs
def decD (b:List UInt8):Int×Int:=if b.length < 1∨b.length > 9 then (0,6) else decS 0 b
theorem decS_drop {b:List UInt8} {i:Nat} (n:Int) (h:i < b.length):decS n (b.drop i)=if 9 < (nth b i).toNat / 16∨9 < (nth b i).toNat % 16 then (0,1) else decS (100*n+(((nth b i).toNat / 16:Nat):Int)*10+(((nth b i).toNat % 16:Nat):Int)) (b.drop (i+1)):=by
 rw [nth_eq h,List.drop_eq_getElem_cons h,decS]
theorem u8_gt9h (x:UInt8):(decide ((x / 16) > 9))=decide (9 < x.toNat / 16):=by
 rw [Bool.eq_iff_iff,decide_eq_true_iff,decide_eq_true_iff,gt_iff_lt,UInt8.lt_iff_toNat_lt,u8_hin]; exact Iff.rfl
theorem u8_gt9l (x:UInt8):(decide ((x % 16) > 9))=decide (9 < x.toNat % 16):=by
 rw [Bool.eq_iff_iff,decide_eq_true_iff,decide_eq_true_iff,gt_iff_lt,UInt8.lt_iff_toNat_lt,u8_lon]; exact Iff.rfl
def decI (b:List UInt8) (n i:Int):Prop:=0≤i∧i≤(b.length:Int)∧0≤n∧n < 100 ^ i.toNat
theorem decI_step {b:List UInt8} {n i:Int} {x y:Nat} (h:decI b n i) (hi:i < (b.length:Int)) (hx:x≤9) (hy:y≤9):decI b (100*n+(x:Int)*10+(y:Int)) (i+1):=by
 obtain ⟨h1,h2,h3,h4⟩:=h
 have:(i+1).toNat=i.toNat+1:=by omega
 refine ⟨by omega,by omega,by omega,?_⟩
 rw [this,pow100_succ]
 omega
theorem pow_le8 {k:Nat} (h:k≤8):(100:Int) ^ k≤10000000000000000:=by
 have:∀ j:Fin 9,(100:Int) ^ j.val≤10000000000000000:=by decide +kernel
 exact this ⟨k,by omega⟩
theorem p_Decimal (b:List UInt8) (hb:b.length≤1000000000):f_packed_Decimal b=some (decD b):=by
 unfold f_packed_Decimal decD
 by_cases h:b.length < 1∨b.length > 9
 ·rw [if_pos (by simp; omega),if_pos h]
 ·rw [if_neg (by simp; omega),if_neg h]
  refine loop_spec (fun s=>some (decS s.1 (b.drop s.2.toNat))) (fun s:Int×Int=>decI b s.1 s.2) (fun s=>((b.length:Int) - s.2).toNat) (fun s hI=>?_) ⟨by omega,by omega,by omega,by simp⟩ (by simp; omega)
  obtain ⟨n,i⟩:=s
  obtain ⟨h1,h2,h3,h4⟩:=id hI
  simp only [] at *
  unfold f_packed_Decimal_l1
  by_cases hi:i < (b.length:Int)
  ·have hp:=pow_le8 (k:=i.toNat) (by omega)
   rw [if_pos (by simpa using hi),ck_pos ⟨h1,hi⟩,ck_pos (by decide),u8_hi,u8_lo,u8_gt9h,u8_gt9l]
   have hd:=decS_drop n (show i.toNat < b.length by omega)
   generalize nth b (i.toNat)=x at hd
   by_cases hx:9 < x.toNat / 16∨9 < x.toNat % 16
   ·rw [if_pos (by simpa using hx)]
    exact .inl ⟨_,rfl,by rw [hd,if_pos hx]⟩
   ·rw [if_neg (by simpa using hx),u8_hin,u8_lon,ck_pos (by omega),ck_pos (by decide),ck_pos (by omega),ck_pos (by omega),ck_pos (by omega),ck_pos (by omega)]
    refine .inr ⟨_,rfl,decI_step hI hi (by omega) (by omega),by simp only []; omega,?_⟩
    rw [hd,if_neg hx,show (i+1).toNat=i.toNat+1 by omega]
  ·rw [if_neg (by simpa using hi)]
   refine .inl ⟨_,rfl,?_⟩
   rw [List.drop_of_length_le (by omega)]; rfl
theorem pk_nat (q:Int) (h:0≤q):(pk q).toNat / 16=(q / 10 % 10).toNat∧(pk q).toNat % 16=(q % 10).toNat:=by
 have key:∀ x y:Fin 10,(UInt8.ofInt ((x.val:Int)*16+(y.val:Int))).toNat=x.val*16+y.val:=by decide +kernel
 have:=key ⟨(q / 10 % 10).toNat,by omega⟩ ⟨(q % 10).toNat,by omega⟩
 simp only [Int.toNat_of_nonneg (show 0≤q / 10 % 10 by omega),Int.toNat_of_nonneg (show 0≤q % 10 by omega)] at this
 unfold pk
 rw [this]
 omega
theorem dec_pack {n:Int} (h:0≤n):∀ (k:Nat) (m:Int),decS m (packF k n)=(m*100 ^ k+n % 100 ^ k,0)
 | 0,m=>by simp [packF,decS,Int.emod_one]
 | k+1,m=>by
  obtain ⟨h1,h2⟩:=pk_nat (n / 100 ^ k) (div_pow_nn h k)
  have hq:=div_pow_nn h k
  rw [packF,decS,h1,h2,if_neg (by omega),dec_pack h k]
  have e:n % 100 ^ (k+1)=(n / 100 ^ k % 100)*100 ^ k+n % 100 ^ k:=by
   rw [Int.emod_def n (100 ^ (k+1)),←div_pow,pow100_succ,Int.emod_def n (100 ^ k),Int.emod_def (n / 100 ^ k) 100]
   generalize n / 100 ^ k / 100=u
   generalize n / 100 ^ k=q
   generalize (100:Int) ^ k=P
   have a1:P*100*u=100*(P*u):=by rw [Int.mul_comm P 100,Int.mul_assoc]
   have a2:(q-100*u)*P=P*q-100*(P*u):=by rw [Int.sub_mul,Int.mul_comm q P,Int.mul_assoc,Int.mul_comm u P]
   omega
  have e2:((n / 100 ^ k / 10 % 10).toNat:Int)*10+((n / 100 ^ k % 10).toNat:Int)=n / 100 ^ k % 100:=by omega
  refine Prod.ext ?_ rfl
  simp only []
  rw [e,←e2,pow100_succ,Int.add_mul,Int.add_mul,Int.add_mul]
  have e3:100*m*100 ^ k=m*(100 ^ k*100):=by rw [Int.mul_comm 100 m,Int.mul_assoc,Int.mul_comm 100]
  rw [e3]; omega
theorem decD_pack {n:Int} {k:Nat} (h:0≤n) (hn:n < 100 ^ k) (hk:1≤k∧k≤9):decD (packF k n)=(n,0):=by
 unfold decD
 rw [packF_len,if_neg (by omega),dec_pack h,Int.emod_eq_of_lt h hn]
 simp
end Go.Proofs.YthoengcicaicoaaGreatDoor.C11
namespace Go.Proofs.YthoengcicaicoaaGreatDoor
open Go.RowKit Go.Abs
def zz (u:Int):Int:=if u % 2=1 then -(u / 2) - 1 else u / 2
def numC:Nat→Int→List UInt8→Int×Nat×Int
 | _,_,[]=>(0,0,2)
 | i,u,x :: t=>if (i=9∧x≠1)∨(0 < i∧x=0) then (0,0,1) else if x.toNat < 128 then (zz (u+(x.toNat:Int)*128 ^ i),i+1,0) else numC (i+1) (u+((x.toNat % 128:Nat):Int)*128 ^ i) t
def numN (b:List UInt8):Int×List UInt8×Int:=if (numC 0 0 b).2.2=0 then ((numC 0 0 b).1,b.drop (numC 0 0 b).2.1,0) else (0,[],(numC 0 0 b).2.2)
theorem pow128 (i:Nat):(128:Int) ^ i=((2 ^ (7*i):Nat):Int):=by
 rw [Nat.pow_mul]; simp
theorem pow128_tab:∀ i:Fin 10,(128:Int) ^ i.val≤9223372036854775808∧1≤(128:Int) ^ i.val:=by decide
theorem pow128_tab8:∀ i:Fin 9,(128:Int) ^ i.val≤72057594037927936:=by decide
theorem pow128_le {i:Nat} (h:i≤9):(128:Int) ^ i≤9223372036854775808∧1≤(128:Int) ^ i:=pow128_tab ⟨i,by omega⟩
theorem pow128_8 {i:Nat} (h:i≤8):(128:Int) ^ i≤72057594037927936:=pow128_tab8 ⟨i,by omega⟩
theorem wrap_u64 {n:Int} (h0:0≤n) (h1:n < 18446744073709551616):IntKind.wrap .u64 n=n:=by simp [IntKind.wrap,IntKind.bits,IntKind.signed]; omega
theorem wrap_i64' {n:Int} (h0:-9223372036854775808≤n) (h1:n≤9223372036854775807):IntKind.wrap .i64 n=n:=by simp [IntKind.wrap,IntKind.bits,IntKind.signed]; omega
theorem bor_add {i:Nat} {u c:Int} (hu0:0≤u) (hu:u < 128 ^ i) (hc:0≤c) (h:u+c*128 ^ i < 18446744073709551616):bOr .u64 u (c*128 ^ i)=u+c*128 ^ i:=by
 have hp:=pow128 i
 have hcp:0≤c*128 ^ i:=Int.mul_nonneg hc (by have:=Int.pow_pos (n:=128) (m:=i) (by decide); omega)
 unfold bOr
 obtain ⟨a,rfl⟩:=Int.eq_ofNat_of_zero_le hu0
 obtain ⟨k,rfl⟩:=Int.eq_ofNat_of_zero_le hc
 rw [hp] at hu h hcp ⊢
 have hu':a < 2 ^ (7*i):=by exact_mod_cast hu
 have e1:((k:Int)*((2 ^ (7*i):Nat):Int))=((2 ^ (7*i)*k:Nat):Int):=by push_cast; exact Int.mul_comm _ _
 rw [e1] at h hcp ⊢
 have h':a+2 ^ (7*i)*k < 18446744073709551616:=by have:=h; generalize 2 ^ (7*i)*k=z at this ⊢; omega
 have e2:(BitVec.ofInt (IntKind.bits .u64) (a:Int) ||| BitVec.ofInt (IntKind.bits .u64) ((2 ^ (7*i)*k:Nat):Int)).toNat=a+2 ^ (7*i)*k:=by
  rw [BitVec.toNat_or,BitVec.ofInt_natCast,BitVec.ofInt_natCast,BitVec.toNat_ofNat,BitVec.toNat_ofNat]
  have b1:a % 2 ^ IntKind.bits .u64=a:=Nat.mod_eq_of_lt (show a < 18446744073709551616 by omega)
  have b2:2 ^ (7*i)*k % 2 ^ IntKind.bits .u64=2 ^ (7*i)*k:=Nat.mod_eq_of_lt (show 2 ^ (7*i)*k < 18446744073709551616 by omega)
  rw [b1,b2,Nat.or_comm,←Nat.two_pow_add_eq_or_of_lt hu',Nat.add_comm]
 rw [e2,wrap_u64 (by omega) (by have:=h'; generalize 2 ^ (7*i)*k=z at this ⊢; omega)]
 push_cast; rfl
theorem and127:∀ x:UInt8,(x &&& 127).toNat=x.toNat % 128:=by
 intro x
 have h:=C11.u8_all (p:=fun x=>(x &&& 127).toNat=x.toNat % 128) (by decide +kernel) x
 exact h
theorem p_back (u:Int) (h0:0≤u) (h1:u < 18446744073709551616):f_codec_back u=some (zz u):=by
 unfold f_codec_back
 have ea:bAnd .u64 u 1=u % 2:=by
  unfold bAnd
  obtain ⟨a,rfl⟩:=Int.eq_ofNat_of_zero_le h0
  have e2:(BitVec.ofInt (IntKind.bits .u64) (a:Int) &&& BitVec.ofInt (IntKind.bits .u64) 1).toNat=a % 2:=by
   rw [BitVec.toNat_and,BitVec.ofInt_natCast,BitVec.toNat_ofNat]
   have b1:a % 2 ^ IntKind.bits .u64=a:=Nat.mod_eq_of_lt (show a < 18446744073709551616 by omega)
   have b2:(BitVec.ofInt (IntKind.bits .u64) 1).toNat=1:=by decide
   rw [b1,b2,Nat.and_one_is_mod]
  rw [e2,wrap_u64 (by omega) (by omega)]; omega
 have ef:Int.fdiv u (2 ^ (min (Int.toNat (1)) 64))=u / 2:=by
  have:(2:Int) ^ (min (Int.toNat (1)) 64)=2:=by decide
  rw [this,Int.fdiv_eq_ediv_of_nonneg _ (by decide)]
 rw [ea,ef,wrap_i64' (n:=u % 2) (by omega) (by omega),wrap_i64' (n:=u / 2) (by omega) (by omega),ck_pos (by decide),ck_pos (by omega)]
 congr 1
 unfold zz
 have hm:0≤u / 2∧u / 2≤9223372036854775807:=by omega
 generalize u / 2=q at *
 by_cases ho:u % 2=1
 ·rw [if_pos ho,ho]
  unfold bXor
  obtain ⟨a,rfl⟩:=Int.eq_ofNat_of_zero_le hm.1
  have e2:BitVec.ofInt (IntKind.bits .i64) (-1)=BitVec.allOnes (IntKind.bits .i64):=by decide
  rw [e2,BitVec.xor_allOnes,BitVec.toNat_not,BitVec.ofInt_natCast,BitVec.toNat_ofNat]
  have b1:a % 2 ^ IntKind.bits .i64=a:=Nat.mod_eq_of_lt (show a < 18446744073709551616 by omega)
  rw [b1]
  simp [IntKind.wrap,IntKind.bits,IntKind.signed]
  omega
 ·rw [if_neg ho]
  have:u % 2=0:=by omega
  rw [this]
  unfold bXor
  obtain ⟨a,rfl⟩:=Int.eq_ofNat_of_zero_le hm.1
  have e2:BitVec.ofInt (IntKind.bits .i64) (-0)=0#(IntKind.bits .i64):=by decide
  rw [e2,BitVec.xor_zero,BitVec.ofInt_natCast,BitVec.toNat_ofNat]
  have b1:a % 2 ^ IntKind.bits .i64=a:=Nat.mod_eq_of_lt (show a < 18446744073709551616 by omega)
  rw [b1,wrap_i64' (by omega) (by omega)]
theorem numC_drop {b:List UInt8} {k:Nat} (i:Nat) (u:Int) (h:k < b.length):numC i u (b.drop k)=if (i=9∧nth b k≠1)∨(0 < i∧nth b k=0) then (0,0,1) else if (nth b k).toNat < 128 then (zz (u+((nth b k).toNat:Int)*128 ^ i),i+1,0) else numC (i+1) (u+(((nth b k).toNat % 128:Nat):Int)*128 ^ i) (b.drop (k+1)):=by
 rw [drop_nth h]; rfl
theorem lt128 {x:UInt8}:decide (x < 128)=decide (x.toNat < 128):=by
 congr 1
def numI (b:List UInt8) (u i:Int):Prop:=0≤i∧i≤9∧i≤(b.length:Int)∧0≤u∧u < 128 ^ i.toNat
theorem numI_step {b:List UInt8} {u i:Int} {x:UInt8} (h:numI b u i) (hi:i < (b.length:Int)) (hx:¬ ((i.toNat=9∧x≠1)∨(0 < i.toNat∧x=0))) :
  u+(x.toNat:Int)*128 ^ i.toNat < 18446744073709551616∧(¬ x.toNat < 128→numI b (u+((x.toNat % 128:Nat):Int)*128 ^ i.toNat) (i+1)):=by
 obtain ⟨h0,h9,hl,hu0,hu⟩:=h
 have hp:=pow128_le (i:=i.toNat) (by omega)
 have hx8:=x.toNat_lt
 by_cases h9':i.toNat=9
 ·have hx1:x=1:=by
   rcases Decidable.em (x=1) with h | h
   ·exact h
   ·exact absurd (.inl ⟨h9',h⟩) hx
  subst hx1
  have:(1:UInt8).toNat=1:=rfl
  rw [this]
  exact ⟨by omega,fun h=>absurd (by omega) h⟩
 ·have h8:=pow128_8 (i:=i.toNat) (by omega)
  have hmul:(x.toNat:Int)*128 ^ i.toNat≤255*128 ^ i.toNat:=Int.mul_le_mul_of_nonneg_right (by omega) (by omega)
  refine ⟨by omega,fun hn=>⟨by omega,by omega,by omega,?_,?_⟩⟩
  ·have:0≤((x.toNat % 128:Nat):Int)*128 ^ i.toNat:=Int.mul_nonneg (by omega) (by omega)
   omega
  ·have e:(i+1).toNat=i.toNat+1:=by omega
   have hm2:((x.toNat % 128:Nat):Int)*128 ^ i.toNat≤127*128 ^ i.toNat:=Int.mul_le_mul_of_nonneg_right (by omega) (by omega)
   rw [e,Int.pow_succ]; omega
theorem p_scan (b:List UInt8) (hb:b.length≤1000000):f_codec_scan b=some ((numC 0 0 b).1,((numC 0 0 b).2.1:Int),(numC 0 0 b).2.2):=by
 unfold f_codec_scan
 have:=loop_spec (step:=fun s:Int×Int=>f_codec_scan_l1 b s.1 s.2) (fun s=>let r:=numC s.2.toNat s.1 (b.drop s.2.toNat); some (r.1,(r.2.1:Int),r.2.2)) (fun s=>numI b s.1 s.2) (fun s=>((b.length:Int) - s.2).toNat) (by
  rintro ⟨u,i⟩ hI
  have hI0:numI b u i:=hI
  clear hI
  obtain ⟨h0,h9,hl,hu0,hu⟩:=id hI0
  simp only
  unfold f_codec_scan_l1
  by_cases hi:i < (b.length:Int)
  ·rw [if_pos (by simpa using hi),ck_pos ⟨h0,hi⟩,numC_drop _ _ (by omega)]
   generalize hx:nth b i.toNat=x
   by_cases hc:(i.toNat=9∧x≠1)∨(0 < i.toNat∧x=0)
   ·have hc':(((i==9) && (x != 1)) || ((decide (i > 0)) && (x==0)))=true:=by
     simp only [Bool.or_eq_true,Bool.and_eq_true,beq_iff_eq,bne_iff_ne,decide_eq_true_eq]
     rcases hc with ⟨a,c⟩ | ⟨a,c⟩
     ·exact .inl ⟨by omega,c⟩
     ·exact .inr ⟨by omega,c⟩
    rw [if_pos hc',if_pos hc]
    exact .inl ⟨_,rfl,rfl⟩
   ·have hc':¬ (((i==9) && (x != 1)) || ((decide (i > 0)) && (x==0)))=true:=by
     simp only [Bool.or_eq_true,Bool.and_eq_true,beq_iff_eq,bne_iff_ne,decide_eq_true_eq]
     rintro (⟨a,c⟩ | ⟨a,c⟩)
     ·exact hc (.inl ⟨by omega,c⟩)
     ·exact hc (.inr ⟨by omega,c⟩)
    obtain ⟨s1,s2⟩:=numI_step hI0 hi hc
    have hp:=pow128_le (i:=i.toNat) (by omega)
    have hsh:IntKind.wrap .u64 ((IntKind.wrap .u64 ((x &&& 127).toNat:Int))*2 ^ (min (Int.toNat (7*i)) 64))=((x.toNat % 128:Nat):Int)*128 ^ i.toNat:=by
     rw [and127,wrap_u64 (n:=((x.toNat % 128:Nat):Int)) (by omega) (by omega)]
     have e1:min (Int.toNat (7*i)) 64=7*i.toNat:=by omega
     have e2:(2:Int) ^ (7*i.toNat)=128 ^ i.toNat:=by rw [pow128]; simp
     rw [e1,e2]
     refine wrap_u64 (Int.mul_nonneg (by omega) (by omega)) ?_
     have:((x.toNat % 128:Nat):Int)*128 ^ i.toNat≤(x.toNat:Int)*128 ^ i.toNat:=Int.mul_le_mul_of_nonneg_right (by omega) (by omega)
     omega
    have hor:bOr .u64 u (((x.toNat % 128:Nat):Int)*128 ^ i.toNat)=u+((x.toNat % 128:Nat):Int)*128 ^ i.toNat:=by
     refine bor_add hu0 hu (by omega) ?_
     have:((x.toNat % 128:Nat):Int)*128 ^ i.toNat≤(x.toNat:Int)*128 ^ i.toNat:=Int.mul_le_mul_of_nonneg_right (by omega) (by omega)
     omega
    rw [if_neg hc',if_neg hc,ck_pos (by omega),ck_pos (by omega),hsh,hor,lt128]
    by_cases hx1:x.toNat < 128
    ·have hm:((x.toNat % 128:Nat):Int)=(x.toNat:Int):=by omega
     have hnn:0≤(x.toNat:Int)*128 ^ i.toNat:=Int.mul_nonneg (by omega) (by omega)
     rw [if_pos (by simpa using hx1),if_pos hx1,hm,p_back _ (by omega) s1]
     simp only [Option.bind_some]
     rw [ck_pos (by omega)]
     refine .inl ⟨_,rfl,?_⟩
     simp only [Option.some.injEq,Prod.mk.injEq,true_and,and_true]
     omega
    ·rw [if_neg (by simpa using hx1),if_neg hx1,ck_pos (by omega)]
     refine .inr ⟨_,rfl,s2 hx1,by simp only; omega,?_⟩
     simp only
     rw [show (i+1).toNat=i.toNat+1 from by omega]
  ·have e:i=(b.length:Int):=by omega
   subst e
   rw [if_neg (by simp)]
   refine .inl ⟨_,rfl,?_⟩
   simp [numC]) (s:=(0,0)) ⟨by simp,by simp,by simp,by simp,by simp⟩ (by simp; omega)
 simpa using this
theorem p_rest (b:List UInt8) (c:Nat) (hc:c≤b.length) (hb:b.length≤1000000):f_codec_rest b (c:Int)=some (b.drop c):=by
 unfold f_codec_rest
 rw [ck_pos (by omega),ck_pos (by omega),ck_pos (by omega)]
 have e1:b.take (Int.toNat ((b.length:Int)))=b:=List.take_of_length_le (by omega)
 have e2:Int.toNat (c:Int)=c:=by omega
 have e3:Int.toNat ((b.length:Int) - (c:Int))=b.length-c:=by omega
 rw [e1,e2,e3]
 simp
 exact List.take_of_length_le (by simp)
theorem numC_le:∀ (b:List UInt8) (i:Nat) (u:Int),(numC i u b).2.2=0→i < (numC i u b).2.1∧(numC i u b).2.1≤i+b.length
 | [],i,u,h=>by simp [numC] at h
 | x :: t,i,u,h=>by
  unfold numC at h ⊢
  split at h
  ·cases h
  ·rename_i hc
   rw [if_neg hc]
   split at h
   ·rename_i hx
    rw [if_pos hx]; simp
   ·rename_i hx
    rw [if_neg hx]
    have:=numC_le t (i+1) _ h
    simp only [List.length_cons]; omega
theorem p_Number (b:List UInt8) (hb:b.length≤1000000):f_codec_Number b=some (numN b):=by
 unfold f_codec_Number numN
 rw [p_scan b hb]
 simp only [Option.bind_some]
 by_cases h:(numC 0 0 b).2.2=0
 ·have:=numC_le b 0 0 h
  rw [if_neg (by simp [h]),if_pos h,p_rest b _ (by omega) hb]
  rfl
 ·rw [if_pos (by simpa using h),if_neg h]
theorem numN_of {b:List UInt8}:numN b=let r:=numC 0 0 b; if r.2.2=0 then (r.1,b.drop r.2.1,0) else (0,[],r.2.2):=rfl
theorem numC_take:∀ (b:List UInt8) (i:Nat) (u:Int),i≤9→numC i u (b.take (10-i))=numC i u b
 | [],i,u,_=>by simp
 | x :: t,i,u,h=>by
  have e:10-i=(9-i)+1:=by omega
  rw [e,List.take_succ_cons]
  unfold numC
  split
  ·rfl
  ·rename_i hc
   split
   ·rfl
   ·rename_i hx
    have h8:i≠9:=fun h9=>by
     have h1:x=1:=by
      rcases Decidable.em (x=1) with h | h
      ·exact h
      ·exact absurd (.inl ⟨h9,h⟩) hc
     subst h1
     exact hx (by decide)
    have:=numC_take t (i+1) (u+((x.toNat % 128:Nat):Int)*128 ^ i) (by omega)
    rw [show 10-(i+1)=9-i from by omega] at this
    exact this
def be4 (a b c d:UInt8):Int:=(a.toNat:Int)*16777216+(b.toNat:Int)*65536+(c.toNat:Int)*256+(d.toNat:Int)
def unwF (b:List UInt8):List UInt8×List UInt8×Int :=
 let r:=numC 0 0 b
 if r.2.2≠0 then ([],[],r.2.2) else if r.1 < 0 then ([],[],1) else if 1048576 < r.1 then ([],[],5) else
 if b.length < r.2.1+4+r.1.toNat then ([],[],2) else
 if sumW ((b.drop (r.2.1+4)).take r.1.toNat)≠be4 (nth b r.2.1) (nth b (r.2.1+1)) (nth b (r.2.1+2)) (nth b (r.2.1+3)) then ([],[],4) else
 ((b.drop (r.2.1+4)).take r.1.toNat,b.drop (r.2.1+4+r.1.toNat),0)
theorem wrap_u32 {n:Int} (h0:0≤n) (h1:n < 4294967296):IntKind.wrap .u32 n=n:=by simp [IntKind.wrap,IntKind.bits,IntKind.signed]; omega
theorem bor32 {k a c:Nat} (ha:a < 2 ^ k) (h:a+2 ^ k*c < 4294967296):bOr .u32 ((2 ^ k*c:Nat):Int) ((a:Nat):Int)=((2 ^ k*c+a:Nat):Int):=by
 unfold bOr
 have e2:(BitVec.ofInt (IntKind.bits .u32) ((2 ^ k*c:Nat):Int) ||| BitVec.ofInt (IntKind.bits .u32) (a:Int)).toNat=2 ^ k*c+a:=by
  rw [BitVec.toNat_or,BitVec.ofInt_natCast,BitVec.ofInt_natCast,BitVec.toNat_ofNat,BitVec.toNat_ofNat]
  have b1:a % 2 ^ IntKind.bits .u32=a:=Nat.mod_eq_of_lt (show a < 4294967296 by omega)
  have b2:2 ^ k*c % 2 ^ IntKind.bits .u32=2 ^ k*c:=Nat.mod_eq_of_lt (show 2 ^ k*c < 4294967296 by omega)
  rw [b1,b2,←Nat.two_pow_add_eq_or_of_lt ha]
 rw [e2]
 exact wrap_u32 (by omega) (by omega)
theorem be4_or (a b c d:UInt8):bOr .u32 (bOr .u32 (bOr .u32 ((a.toNat:Int)*16777216) ((b.toNat:Int)*65536)) ((c.toNat:Int)*256)) (d.toNat:Int)=be4 a b c d:=by
 have ha:=a.toNat_lt; have hb:=b.toNat_lt; have hc:=c.toNat_lt; have hd:=d.toNat_lt
 have h1:=bor32 (k:=24) (a:=b.toNat*65536) (c:=a.toNat) (by omega) (by omega)
 have h2:=bor32 (k:=16) (a:=c.toNat*256) (c:=a.toNat*256+b.toNat) (by omega) (by omega)
 have h3:=bor32 (k:=8) (a:=d.toNat) (c:=a.toNat*65536+b.toNat*256+c.toNat) (by omega) (by omega)
 have e1:(a.toNat:Int)*16777216=((2 ^ 24*a.toNat:Nat):Int):=by omega
 have e2:(b.toNat:Int)*65536=((b.toNat*65536:Nat):Int):=by omega
 have e3:(c.toNat:Int)*256=((c.toNat*256:Nat):Int):=by omega
 rw [e1,e2,h1,show ((2 ^ 24*a.toNat+b.toNat*65536:Nat):Int)=((2 ^ 16*(a.toNat*256+b.toNat):Nat):Int) from by omega,e3,h2,
  show ((2 ^ 16*(a.toNat*256+b.toNat)+c.toNat*256:Nat):Int)=((2 ^ 8*(a.toNat*65536+b.toNat*256+c.toNat):Nat):Int) from by omega,h3]
 unfold be4; omega
theorem shl32 (x:UInt8) (k:Nat) (hk:k=24∨k=16∨k=8):IntKind.wrap .u32 ((IntKind.wrap .u32 (x.toNat:Int))*2 ^ (min (Int.toNat (k:Int)) 32))=(x.toNat:Int)*2 ^ k:=by
 have hx:=x.toNat_lt
 rw [wrap_u32 (n:=(x.toNat:Int)) (by omega) (by omega)]
 rcases hk with rfl | rfl | rfl
 ·have e:(2:Int) ^ (min (Int.toNat ((24:Nat):Int)) 32)=16777216:=by decide
  have e':(2:Int) ^ 24=16777216:=by decide
  rw [e,e',wrap_u32 (by omega) (by omega)]
 ·have e:(2:Int) ^ (min (Int.toNat ((16:Nat):Int)) 32)=65536:=by decide
  have e':(2:Int) ^ 16=65536:=by decide
  rw [e,e',wrap_u32 (by omega) (by omega)]
 ·have e:(2:Int) ^ (min (Int.toNat ((8:Nat):Int)) 32)=256:=by decide
  have e':(2:Int) ^ 8=256:=by decide
  rw [e,e',wrap_u32 (by omega) (by omega)]
theorem shl24 (x:UInt8):IntKind.wrap .u32 ((IntKind.wrap .u32 (x.toNat:Int))*2 ^ (min (Int.toNat (24)) 32))=(x.toNat:Int)*16777216:=shl32 x 24 (by simp)
theorem shl16 (x:UInt8):IntKind.wrap .u32 ((IntKind.wrap .u32 (x.toNat:Int))*2 ^ (min (Int.toNat (16)) 32))=(x.toNat:Int)*65536:=shl32 x 16 (by simp)
theorem shl8 (x:UInt8):IntKind.wrap .u32 ((IntKind.wrap .u32 (x.toNat:Int))*2 ^ (min (Int.toNat (8)) 32))=(x.toNat:Int)*256:=shl32 x 8 (by simp)
theorem take_m (b:List UInt8):b.take (Int.toNat (if 10 < (b.length:Int) then 10 else (b.length:Int)))=b.take 10:=by
 split
 ·rfl
 ·rw [List.take_of_length_le (by omega),List.take_of_length_le (by omega)]
theorem p_copied (b:List UInt8) (i j:Nat) (h1:i≤j) (h2:j≤b.length) (hb:b.length≤1000000):f_frame_copied b (i:Int) (j:Int)=some ((b.drop i).take (j-i)):=by
 unfold f_frame_copied
 rw [ck_pos (by omega),ck_pos (by omega),ck_pos (by omega)]
 have e1:Int.toNat (i:Int)=i:=by omega
 have e2:Int.toNat (j:Int)=j:=by omega
 have e3:Int.toNat ((j:Int) - (i:Int))=j-i:=by omega
 rw [e1,e2,e3,List.drop_take]
 have e4:((b.drop i).take (j-i)).length=j-i:=by simp; omega
 simp only [e4,List.length_replicate,Nat.min_self]
 rw [List.take_take,Nat.min_self,List.drop_of_length_le (l:=List.replicate (j-i) (0:UInt8)) (by simp),List.append_nil]
theorem p_Unwrap (b:List UInt8) (hb:b.length≤1000000):f_frame_Unwrap b=some (unwF b):=by
 unfold f_frame_Unwrap f_frame_locate unwF
 rw [ck_pos (by split <;> omega),take_m,p_Number _ (by simp; omega),numN_of,numC_take b 0 0 (by omega)]
 have hle:=numC_le (b.take 10) 0 0
 rw [numC_take b 0 0 (by omega)] at hle
 generalize numC 0 0 b=r at hle ⊢
 obtain ⟨n,c,e⟩:=r
 simp only [Option.bind_some] at hle ⊢
 have hl10:(b.take 10).length=min 10 b.length:=List.length_take
 by_cases he:e=0
 ·subst he
  have hle:=hle rfl
  simp only [if_true,ne_eq,not_true_eq_false,if_false]
  rw [if_neg (by simp)]
  by_cases h1:n < 0
  ·rw [if_pos (by simpa using h1),if_pos h1]; rfl
  ·rw [if_neg (by simpa using h1),if_neg h1]
   by_cases h2:1048576 < n
   ·rw [if_pos (by simpa using h2),if_pos h2]; rfl
   ·rw [if_neg (by simpa using h2),if_neg h2]
    have hE:((b.take 10).length:Int) - (((b.take 10).drop c).length:Int)=(c:Int):=by
     rw [List.length_drop]; omega
    have hn:(n.toNat:Int)=n:=by omega
    simp only [hE]
    rw [ck_pos (by omega),ck_pos (by omega),ck_pos (by omega)]
    by_cases h3:b.length < c+4+n.toNat
    ·rw [if_pos (by simp; omega),if_pos h3]; rfl
    ·have g1:Int.toNat (c:Int)=c:=by omega
     have g2:Int.toNat ((c:Int)+1)=c+1:=by omega
     have g3:Int.toNat ((c:Int)+2)=c+2:=by omega
     have g4:Int.toNat ((c:Int)+3)=c+3:=by omega
     have g5:Int.toNat ((c:Int)+4)=c+4:=by omega
     have g6:Int.toNat ((c:Int)+4+n)=c+4+n.toNat:=by omega
     have ep:(b.take (c+4+n.toNat)).drop (c+4)=(b.drop (c+4)).take n.toNat:=by
      rw [List.drop_take]; congr 1; omega
     rw [if_neg (by simp; omega),if_neg h3,ck_pos (by omega),ck_pos (by decide),ck_pos (by omega),ck_pos (by omega),ck_pos (by decide),ck_pos (by omega),ck_pos (by omega),ck_pos (by decide),ck_pos (by omega),ck_pos (by omega),ck_pos (by omega),ck_pos (by omega),ck_pos (by omega),ck_pos (by omega),
      g1,g2,g3,g4,g5,g6,ep,p_Sum _ (by simp; omega)]
     simp only [Option.bind_some]
     have s1:=shl24 (nth b c)
     have s2:=shl16 (nth b (c+1))
     have s3:=shl8 (nth b (c+2))
     have hd:=(nth b (c+3)).toNat_lt
     rw [s1,s2,s3,wrap_u32 (n:=((nth b (c+3)).toNat:Int)) (by omega) (by omega),be4_or]
     by_cases h4:sumW ((b.drop (c+4)).take n.toNat)=be4 (nth b c) (nth b (c+1)) (nth b (c+2)) (nth b (c+3))
     ·rw [if_neg (by simpa using h4),if_neg (by simpa using h4),ck_pos (by omega),ck_pos (by omega),ck_pos (by omega)]
      simp only [Option.bind_some]
      have k1:(c:Int)+4=((c+4:Nat):Int):=by omega
      have k2:(c:Int)+4+n=((c+4+n.toNat:Nat):Int):=by omega
      rw [if_neg (by simp),k2,k1,p_copied b _ _ (by omega) (by omega) hb]
      simp only [Option.bind_some]
      rw [p_copied b _ _ (by omega) (by omega) hb]
      simp only [Option.bind_some]
      rw [show c+4+n.toNat-(c+4)=n.toNat from by omega,List.take_of_length_le (l:=b.drop (c+4+n.toNat)) (by simp)]
     ·rw [if_pos (by simpa using h4),if_pos h4]; rfl
 ·simp only [if_neg he]
  rw [if_pos (by simpa using he),if_pos he]
  simp only [Option.bind_some]
  rw [if_pos (by simpa using he)]
theorem unwF_le (b:List UInt8):(unwF b).1.length≤b.length∧(unwF b).2.1.length≤b.length:=by
 unfold unwF
 simp only
 split
 ·simp
 ·split
  ·simp
  ·split
   ·simp
   ·split
    ·simp
    ·split
     ·simp
     ·simp; omega
def takF:Nat→List UInt8→List Int×Int
 | 0,b=>([],if b.length > 0 then 3 else 0)
 | k+1,b=>if (numN b).2.2≠0 then ([],(numN b).2.2) else ((numN b).1 :: (takF k (numN b).2.1).1,(takF k (numN b).2.1).2)
theorem numN_le (b:List UInt8):(numN b).2.1.length≤b.length:=by
 unfold numN
 split
 ·simp
 ·simp
theorem p_nums4 (b:List UInt8) (h:Head) (hb:b.length≤1000000):∃ h',g_batch_numbers b h=some ((takF 4 b).2,h')∧((takF 4 b).2=0→h'=⟨nth (takF 4 b).1 0,nth (takF 4 b).1 1,nth (takF 4 b).1 2,nth (takF 4 b).1 3⟩):=by
 unfold g_batch_numbers
 have l1:=numN_le b
 rw [p_Number b hb]
 simp only [Option.bind_some,takF]
 by_cases e1:(numN b).2.2=0
 ·have l2:=numN_le (numN b).2.1
  rw [if_neg (by simp [e1]),p_Number _ (by omega)]
  simp only [Option.bind_some,e1,ne_eq,not_true_eq_false,if_false]
  generalize (numN b).2.1=b2 at *
  by_cases e2:(numN b2).2.2=0
  ·have l3:=numN_le (numN b2).2.1
   rw [if_neg (by simp [e2]),p_Number _ (by omega)]
   simp only [Option.bind_some,e2,ne_eq,not_true_eq_false,if_false]
   generalize (numN b2).2.1=b3 at *
   by_cases e3:(numN b3).2.2=0
   ·have l4:=numN_le (numN b3).2.1
    rw [if_neg (by simp [e3]),p_Number _ (by omega)]
    simp only [Option.bind_some,e3,ne_eq,not_true_eq_false,if_false]
    generalize (numN b3).2.1=b4 at *
    by_cases e4:(numN b4).2.2=0
    ·rw [if_neg (by simp [e4])]
     simp only [e4,not_true_eq_false,if_false]
     unfold g_batch_numbers_j1
     generalize (numN b4).2.1=b5
     by_cases e5:b5.length > 0
     ·rw [if_pos (by simp only [decide_eq_true_eq]; omega),if_pos e5]
      exact ⟨_,rfl,fun h=>absurd h (by decide)⟩
     ·rw [if_neg (by simp only [decide_eq_true_eq]; omega),if_neg e5]
      exact ⟨_,rfl,fun _=>rfl⟩
    ·rw [if_pos (by simpa using e4)]
     simp only [e4,not_false_eq_true,if_true]
     exact ⟨_,rfl,fun h=>by first | exact absurd h e4 | exact False.elim h⟩
   ·rw [if_pos (by simpa using e3)]
    simp only [e3,not_false_eq_true,if_true]
    exact ⟨_,rfl,fun h=>by first | exact absurd h e3 | exact False.elim h⟩
  ·rw [if_pos (by simpa using e2)]
   simp only [e2,not_false_eq_true,if_true,ne_eq]
   exact ⟨_,rfl,fun h=>by first | exact absurd h e2 | exact False.elim h⟩
 ·rw [if_pos (by simpa using e1)]
  simp only [e1,not_false_eq_true,if_true,ne_eq]
  exact ⟨_,rfl,fun h=>by first | exact absurd h e1 | exact False.elim h⟩
theorem p_nums5 (b:List UInt8) (u:List Int) (c:Int) (hb:b.length≤1000000):∃ h',g_batch_numbers_v1 b ⟨c,u⟩=some ((takF 5 b).2,h')∧((takF 5 b).2=0→h'=⟨nth (takF 5 b).1 0,[nth u 0,nth (takF 5 b).1 1,nth (takF 5 b).1 2,nth (takF 5 b).1 3,nth (takF 5 b).1 4]⟩):=by
 unfold g_batch_numbers_v1
 have l1:=numN_le b
 rw [p_Number b hb]
 simp only [Option.bind_some,takF]
 by_cases e1:(numN b).2.2=0
 ·have l2:=numN_le (numN b).2.1
  rw [if_neg (by simp [e1]),p_Number _ (by omega)]
  simp only [Option.bind_some,e1,ne_eq,not_true_eq_false,if_false]
  generalize (numN b).2.1=b2 at *
  by_cases e2:(numN b2).2.2=0
  ·have l3:=numN_le (numN b2).2.1
   rw [if_neg (by simp [e2]),p_Number _ (by omega)]
   simp only [Option.bind_some,e2,ne_eq,not_true_eq_false,if_false]
   generalize (numN b2).2.1=b3 at *
   by_cases e3:(numN b3).2.2=0
   ·have l4:=numN_le (numN b3).2.1
    rw [if_neg (by simp [e3]),p_Number _ (by omega)]
    simp only [Option.bind_some,e3,ne_eq,not_true_eq_false,if_false]
    generalize (numN b3).2.1=b4 at *
    by_cases e4:(numN b4).2.2=0
    ·have l5:=numN_le (numN b4).2.1
     rw [if_neg (by simp [e4]),p_Number _ (by omega)]
     simp only [Option.bind_some,e4,ne_eq,not_true_eq_false,if_false]
     generalize (numN b4).2.1=b5 at *
     by_cases e5:(numN b5).2.2=0
     ·rw [if_neg (by simp [e5])]
      simp only [e5,not_true_eq_false,if_false]
      unfold g_batch_numbers_v1_j1
      generalize (numN b5).2.1=b6
      by_cases e6:b6.length > 0
      ·rw [if_pos (by simp only [decide_eq_true_eq]; omega),if_pos e6]
       exact ⟨_,rfl,fun h=>absurd h (by decide)⟩
      ·rw [if_neg (by simp only [decide_eq_true_eq]; omega),if_neg e6]
       exact ⟨_,rfl,fun _=>rfl⟩
     ·rw [if_pos (by simpa using e5)]
      simp only [e5,not_false_eq_true,if_true]
      exact ⟨_,rfl,fun h=>by first | exact absurd h e5 | exact False.elim h⟩
    ·rw [if_pos (by simpa using e4)]
     simp only [e4,not_false_eq_true,if_true]
     exact ⟨_,rfl,fun h=>by first | exact absurd h e4 | exact False.elim h⟩
   ·rw [if_pos (by simpa using e3)]
    simp only [e3,not_false_eq_true,if_true]
    exact ⟨_,rfl,fun h=>by first | exact absurd h e3 | exact False.elim h⟩
  ·rw [if_pos (by simpa using e2)]
   simp only [e2,not_false_eq_true,if_true,ne_eq]
   exact ⟨_,rfl,fun h=>by first | exact absurd h e2 | exact False.elim h⟩
 ·rw [if_pos (by simpa using e1)]
  simp only [e1,not_false_eq_true,if_true,ne_eq]
  exact ⟨_,rfl,fun h=>by first | exact absurd h e1 | exact False.elim h⟩
def hdE (h:Head):Int:=if hdF h.source h.number h.format=0 then (if h.count < 0∨4096 < h.count then 5 else 0) else hdF h.source h.number h.format
def hdT (l:List Int):Head:=⟨nth l 0,nth l 1,nth l 2,nth l 3⟩
def fstF (b:List UInt8):Head×List UInt8×Int :=
 if (unwF b).2.2≠0 then (⟨0,0,0,0⟩,[],(unwF b).2.2) else
 if (takF 4 (unwF b).1).2≠0 then (⟨0,0,0,0⟩,[],(takF 4 (unwF b).1).2) else
 if hdE (hdT (takF 4 (unwF b).1).1)≠0 then (⟨0,0,0,0⟩,[],hdE (hdT (takF 4 (unwF b).1).1)) else (hdT (takF 4 (unwF b).1).1,(unwF b).2.1,0)
theorem p_first (b:List UInt8) (hb:b.length≤100000):f_batch_first b=some (fstF b):=by
 unfold f_batch_first fstF
 have hl:=unwF_le b
 rw [p_Unwrap b (by omega)]
 simp only [Option.bind_some]
 by_cases e1:(unwF b).2.2=0
 ·obtain ⟨h',g1,g2⟩:=p_nums4 (unwF b).1 ⟨0,0,0,0⟩ (by omega)
  rw [if_neg (by simp [e1]),if_neg (by simp [e1]),g1]
  simp only [Option.bind_some]
  by_cases e2:(takF 4 (unwF b).1).2=0
  ·have g3:=g2 e2
   subst g3
   rw [if_neg (by simp [e2]),if_neg (by simp [e2]),p_head]
   simp only [Option.bind_some]
   show (if (hdE (hdT (takF 4 (unwF b).1).1) != 0)=true then _ else _)=_
   by_cases e3:hdE (hdT (takF 4 (unwF b).1).1)=0
   ·rw [if_neg (by simp [e3]),if_neg (by simp [e3])]; rfl
   ·rw [if_pos (by simpa using e3),if_pos e3]; rfl
  ·rw [if_pos (by simpa using e2),if_pos e2]
 ·rw [if_pos (by simpa using e1),if_pos e1]
def totL (l:List Int):Totals:=⟨nth l 0,[0,nth l 1,nth l 2,nth l 3,nth l 4]⟩
def trlF (b:List UInt8):Totals×Int :=
 if (unwF b).2.2≠0 then (⟨0,[0,0,0,0,0]⟩,(unwF b).2.2) else if (unwF b).2.1.length > 0 then (⟨0,[0,0,0,0,0]⟩,3) else
 if (takF 5 (unwF b).1).2≠0 then (⟨0,[0,0,0,0,0]⟩,(takF 5 (unwF b).1).2) else (totL (takF 5 (unwF b).1).1,0)
theorem p_trailer (b:List UInt8) (hb:b.length≤100000):∃ t,f_batch_trailer b=some (t,(trlF b).2)∧((trlF b).2=0→t=(trlF b).1):=by
 unfold f_batch_trailer trlF
 have hl:=unwF_le b
 rw [p_Unwrap b (by omega)]
 simp only [Option.bind_some]
 by_cases e1:(unwF b).2.2=0
 ·by_cases e2:(unwF b).2.1.length > 0
  ·have:(((unwF b).2.2==0) && (decide (((unwF b).2.1.length:Int) > 0)))=true:=by
    simp only [Bool.and_eq_true,beq_iff_eq,decide_eq_true_eq]; exact ⟨e1,by omega⟩
   rw [if_pos this]
   simp only [e1,e2,ne_eq,not_true_eq_false,if_false,if_true]
   unfold f_batch_trailer_j1
   rw [if_pos (by decide)]
   exact ⟨_,rfl,fun h=>absurd h (by decide)⟩
  ·have:¬ (((unwF b).2.2==0) && (decide (((unwF b).2.1.length:Int) > 0)))=true:=by
    simp only [Bool.and_eq_true,beq_iff_eq,decide_eq_true_eq]; exact fun h=>e2 (by omega)
   obtain ⟨h',g1,g2⟩:=p_nums5 (unwF b).1 [0,0,0,0,0] 0 (by omega)
   rw [if_neg this]
   simp only [e1,e2,ne_eq,not_true_eq_false,if_false]
   unfold f_batch_trailer_j1
   rw [if_neg (by decide),g1]
   simp only [Option.bind_some]
   by_cases e3:(takF 5 (unwF b).1).2=0
   ·simp only [e3,not_true_eq_false,if_false]
    exact ⟨_,rfl,fun _=>(g2 e3).trans rfl⟩
   ·simp only [e3,not_false_eq_true,if_true]
    exact ⟨_,rfl,fun h=>by first | exact absurd h e3 | exact False.elim h⟩
 ·have:¬ (((unwF b).2.2==0) && (decide (((unwF b).2.1.length:Int) > 0)))=true:=by
   simp only [Bool.and_eq_true,beq_iff_eq,decide_eq_true_eq]; exact fun h=>e1 h.1
  rw [if_neg this]
  unfold f_batch_trailer_j1
  rw [if_pos (by simpa using e1)]
  simp only [e1,ne_eq,not_false_eq_true,if_true]
  exact ⟨_,rfl,fun h=>by first | exact absurd h e1 | exact False.elim h⟩
end Go.Proofs.YthoengcicaicoaaGreatDoor
namespace Go.Proofs.YthoengcicaicoaaGreatDoor.C11
open Go.RowKit Go.Abs
def nibI (s:List UInt8) (i k:Nat):UInt8:=if k=0 then UInt8.ofNat s.length else if k≤i then nth s (k-1) - 48 else 0
def telI (s:List UInt8) (i:Nat):List UInt8:=(List.range 8).map fun j=>nibI s i (2*j)*16+nibI s i (2*j+1)
def telF (s:List UInt8):List UInt8:=telI s s.length
theorem telI_len (s:List UInt8) (i:Nat):(telI s i).length=8:=by simp [telI]
theorem telI_nth {s:List UInt8} {i j:Nat} (h:j < 8):nth (telI s i) j=nibI s i (2*j)*16+nibI s i (2*j+1):=by
 rw [nth_eq (by rw [telI_len]; exact h)]
 simp [telI]
theorem telI_next {s:List UInt8} {i:Nat} (hi:i < 15):telI s (i+1)=(telI s i).set ((i+1) / 2) (nibI s (i+1) (2*((i+1) / 2))*16+nibI s (i+1) (2*((i+1) / 2)+1)):=by
 apply List.ext_getElem?
 intro j
 rw [List.getElem?_set,telI_len]
 by_cases hj:j < 8
 ·by_cases e:(i+1) / 2=j
  ·subst e
   rw [if_pos rfl,if_pos hj]
   simp [telI,hj]
  ·rw [if_neg e]
   simp only [telI,List.getElem?_map,List.getElem?_range hj,Option.map_some,Option.some.injEq]
   have a:∀ k,k≠i+1→nibI s (i+1) k=nibI s i k:=fun k hk=>by
    unfold nibI
    by_cases h0:k=0
    ·rw [if_pos h0,if_pos h0]
    ·rw [if_neg h0,if_neg h0]
     by_cases h1:k≤i
     ·rw [if_pos h1,if_pos (by omega)]
     ·rw [if_neg h1,if_neg (by omega)]
   rw [a _ (by omega),a _ (by omega)]
 ·rw [List.getElem?_eq_none (by rw [telI_len]; omega)]
  rw [if_neg (by omega),List.getElem?_eq_none (by rw [telI_len]; omega)]
theorem nib_digs {s:List UInt8} (hs:s.all isDig=true) {i k:Nat} (hk:1≤k) (hi:i≤s.length):(nibI s i k).toNat≤9:=by
 unfold nibI
 rw [if_neg (by omega)]
 by_cases h:k≤i
 ·rw [if_pos h]
  have hm:nth s (k-1)∈s:=by rw [nth_eq (by omega)]; exact List.getElem_mem _
  have:=List.all_eq_true.1 hs _ hm
  simp only [isDig,Bool.and_eq_true,decide_eq_true_eq,UInt8.le_iff_toNat_le] at this
  have e:(nth s (k-1) - 48).toNat=(nth s (k-1)).toNat-48:=UInt8.toNat_sub_of_le _ _ (by rw [UInt8.le_iff_toNat_le]; exact this.1)
  rw [e]
  have h2:(nth s (k-1)).toNat≤57:=this.2
  omega
 ·rw [if_neg h]; decide
theorem or_lo:∀ x y:Fin 16,(UInt8.ofNat x.val*16+0) ||| UInt8.ofNat y.val=UInt8.ofNat x.val*16+UInt8.ofNat y.val:=by decide +kernel
theorem or_nib {x y:UInt8} (hx:x.toNat < 16) (hy:y.toNat < 16):(x*16+0) ||| y=x*16+y:=by
 have:=or_lo ⟨x.toNat,hx⟩ ⟨y.toNat,hy⟩
 simpa using this
theorem shl4 (x:UInt8):u8shl x 4=x*16:=u8_all (p:=fun x=>u8shl x 4=x*16) (by decide +kernel) x
theorem len16 {n:Nat} (h:n≤15):UInt8.ofInt ((n:Int)*16)=UInt8.ofNat n*16:=by
 have:∀ j:Fin 16,UInt8.ofInt ((j.val:Int)*16)=UInt8.ofNat j.val*16:=by decide +kernel
 exact this ⟨n,by omega⟩
theorem nib_lt {s:List UInt8} (hs:s.all isDig=true) (hl:s.length≤15) {i k:Nat} (hi:i≤s.length):(nibI s i k).toNat < 16:=by
 by_cases h:k=0
 ·subst h
  unfold nibI
  rw [if_pos rfl]
  simp; omega
 ·have:=nib_digs hs (i:=i) (k:=k) (by omega) hi; omega
theorem telI_zero {s:List UInt8} (hl:s.length≤15):telI s 0=(List.replicate 8 0:List UInt8).set 0 (UInt8.ofInt ((s.length:Int)*16)):=by
 rw [len16 hl]
 simp [telI,nibI,List.range_succ,List.replicate]
theorem nib_new {s:List UInt8} {i:Nat}:nibI s (i+1) (i+1)=nth s i-48:=by simp [nibI]
theorem nib_zero {s:List UInt8} {i k:Nat} (h:i < k):nibI s i k=0:=by unfold nibI; rw [if_neg (by omega),if_neg (by omega)]
theorem nib_old {s:List UInt8} {i k:Nat} (h:k≠i+1):nibI s (i+1) k=nibI s i k:=by
 unfold nibI
 by_cases h0:k=0
 ·rw [if_pos h0,if_pos h0]
 ·rw [if_neg h0,if_neg h0]
  by_cases h1:k≤i
  ·rw [if_pos h1,if_pos (by omega)]
  ·rw [if_neg h1,if_neg (by omega)]
theorem p_putNumber (s out:List UInt8) (hs:s.all isDig=true) (hl:s.length≤15) (ho:out.length≤100000000):g_packed_putNumber s out=some (out++telF s):=by
 unfold g_packed_putNumber
 have e4:(2:Int) ^ (Int.toNat 4)=16:=by decide
 rw [e4,ck_pos (by omega),ck_pos (by decide),ck_pos (by decide),show Int.toNat 0=0 from rfl,←telI_zero hl]
 have:=loop_post (step:=fun q=>g_packed_putNumber_l1 s out q.1 q.2) (fun r=>r=out++telF s) (fun q:Int×List UInt8=>∃ i:Nat,i≤s.length∧q=((i:Int),telI s i)) (fun q=>((s.length:Int) - q.1).toNat) (fun q hI=>by
  obtain ⟨i,hi,rfl⟩:=hI
  simp only []
  unfold g_packed_putNumber_l1
  by_cases h:i < s.length
  ·rw [if_pos (by simpa using h),ck_pos (by omega),ck_pos (by decide),tmod_nn (by omega)]
   have hlen:=telI_len s i
   have hnx:=telI_next (s:=s) (i:=i) (by omega)
   refine .inr ⟨((i:Int)+1,telI s (i+1)),?_,⟨i+1,by omega,by simp⟩,by simp only []; omega⟩
   by_cases hp:i % 2=0
   ·rw [if_pos (by simp; omega),tdiv_nn (by omega)]
    have ei:Int.toNat ((i:Int) / 2)=(i+1) / 2:=by omega
    rw [ck_pos (by omega),ck_pos (by omega),ck_pos (by rw [hlen]; omega),ck_pos (by omega),ck_pos (by rw [hlen]; omega),ck_pos (by omega),ei,telI_nth (by omega),Int.toNat_natCast]
    have e1:2*((i+1) / 2)=i:=by omega
    rw [hnx,e1,nib_zero (by omega:i < i+1),nib_new,nib_old (by omega:i≠i+1),or_nib (nib_lt hs hl (by omega)) (by rw [←nib_new (i:=i)]; exact nib_lt hs hl (by omega))]
   ·rw [if_neg (by simp; omega),tdiv_nn (by omega)]
    have ei:Int.toNat (((i:Int)+1) / 2)=(i+1) / 2:=by omega
    rw [ck_pos (by omega),ck_pos (by omega),ck_pos (by decide),ck_pos (by omega),ck_pos (by rw [hlen]; omega),ck_pos (by omega),ei,Int.toNat_natCast]
    have e1:2*((i+1) / 2)=i+1:=by omega
    rw [hnx,e1,nib_zero (by omega:i+1 < i+1+1),nib_new,shl4]
    simp
  ·have:i=s.length:=by omega
   subst this
   rw [if_neg (by simp)]
   refine .inl ⟨_,?_,rfl⟩
   unfold g_packed_putNumber_j1
   rw [ck_pos ⟨telI_len _ _,by rw [telI_len]; omega⟩]
   rfl) (s:=(0,telI s 0)) ⟨0,by omega,by simp⟩ (by simp; omega)
 obtain ⟨r,hr,rfl⟩:=this
 exact hr
theorem p_digits (s:List UInt8) (hs:s.all isDig=true) (hl:s.length≤15):f_r11_digits s=some (telF s):=by
 unfold f_r11_digits
 rw [ck_pos (by decide),ck_pos (by omega),ck_pos (by decide),ck_pos (by decide),show Int.toNat 0=0 from rfl,show Int.toNat 8=8 from rfl,←telI_zero hl]
 have:=loop_post (step:=fun q=>f_r11_digits_l1 s q.1 q.2) (fun r=>r=telF s) (fun q:List UInt8×Int=>∃ i:Nat,i≤s.length∧q=(telI s i,(i:Int))) (fun q=>((s.length:Int) - q.2).toNat) (fun q hI=>by
  obtain ⟨i,hi,rfl⟩:=hI
  simp only []
  unfold f_r11_digits_l1
  by_cases h:i < s.length
  ·rw [if_pos (by simpa using h),ck_pos (by omega),ck_pos (by decide),tmod_nn (by omega)]
   have hlen:=telI_len s i
   have hnx:=telI_next (s:=s) (i:=i) (by omega)
   refine .inr ⟨(telI s (i+1),(i:Int)+1),?_,⟨i+1,by omega,by simp⟩,by simp only []; omega⟩
   have ei:Int.toNat (((i:Int)+1) / 2)=(i+1) / 2:=by omega
   by_cases hp:i % 2=0
   ·rw [if_neg (by simp; omega),tdiv_nn (by omega)]
    rw [ck_pos (by omega),ck_pos (by omega),ck_pos (by rw [hlen]; omega),ck_pos (by rw [hlen]; omega),ck_pos (by omega),ck_pos (by rw [hlen]; omega),ck_pos (by rw [hlen]; omega),ck_pos (by omega),ei,telI_nth (by omega),Int.toNat_natCast]
    have e1:2*((i+1) / 2)=i:=by omega
    rw [hnx,e1,nib_zero (by omega:i < i+1),nib_new,nib_old (by omega:i≠i+1)]
    simp
   ·rw [if_pos (by simp; omega),tdiv_nn (by omega)]
    rw [ck_pos (by omega),ck_pos (by omega),ck_pos (by rw [hlen]; omega),ck_pos (by rw [hlen]; omega),ck_pos (by omega),ck_pos (by rw [hlen]; omega),ck_pos (by rw [hlen]; omega),ck_pos (by omega),ei,telI_nth (by omega),Int.toNat_natCast]
    have e1:2*((i+1) / 2)=i+1:=by omega
    rw [hnx,e1,nib_zero (by omega:i < i+1+1),nib_zero (by omega:i+1 < i+1+1),nib_new,nib_zero (by omega:i < i+1)]
    simp
  ·have:i=s.length:=by omega
   subst this
   rw [if_neg (by simp)]
   exact .inl ⟨_,rfl,rfl⟩) (s:=(telI s 0,0)) ⟨0,by omega,by simp⟩ (by simp; omega)
 obtain ⟨r,hr,rfl⟩:=this
 exact hr
def sumF (b:List UInt8):UInt8:=b.foldl (·+·) 0
theorem foldl_drop {b:List UInt8} {i:Nat} (n:UInt8) (h:i < b.length):(b.drop i).foldl (·+·) n=(b.drop (i+1)).foldl (·+·) (n+nth b i):=by
 rw [nth_eq h,List.drop_eq_getElem_cons h,List.foldl_cons]
theorem p_sum (b:List UInt8) (hb:b.length≤1000000000):f_packed_sum b=some (sumF b):=by
 unfold f_packed_sum
 refine loop_spec (fun s=>some ((b.drop s.2.toNat).foldl (·+·) s.1)) (fun s:UInt8×Int=>0≤s.2∧s.2≤(b.length:Int)) (fun s=>((b.length:Int) - s.2).toNat) (fun s hI=>?_) ⟨by omega,by omega⟩ (by simp; omega)
 obtain ⟨n,i⟩:=s
 simp only [] at hI ⊢
 unfold f_packed_sum_l1
 by_cases hi:i < (b.length:Int)
 ·rw [if_pos (by simpa using hi),ck_pos ⟨hI.1,hi⟩,ck_pos (by omega)]
  refine .inr ⟨_,rfl,by simp only []; omega,by simp only []; omega,?_⟩
  rw [foldl_drop n (by omega:i.toNat < b.length),show (i+1).toNat=i.toNat+1 by omega]
 ·rw [if_neg (by simpa using hi)]
  refine .inl ⟨_,rfl,?_⟩
  rw [List.drop_of_length_le (by omega)]; rfl
theorem add_mod (n:Int) (x:UInt8) (h:0≤n):UInt8.ofInt ((n+(x.toNat:Int)) % 256)=UInt8.ofInt n+x:=by
 have e1:∀ m:Int,0≤m→UInt8.ofInt m=UInt8.ofNat m.toNat:=fun m hm=>by
  apply UInt8.toNat_inj.1
  simp [UInt8.ofInt]
  omega
 rw [e1 _ (by omega),e1 n h]
 apply UInt8.toNat_inj.1
 simp only [UInt8.toNat_add,UInt8.toNat_ofNat']
 have:=x.toNat_lt
 omega
theorem p_rsum (b:List UInt8) (hb:b.length≤1000000000):f_r11_sum b=some (sumF b):=by
 unfold f_r11_sum
 refine loop_spec (fun s=>some ((b.drop s.2.toNat).foldl (·+·) (UInt8.ofInt s.1))) (fun s:Int×Int=>0≤s.2∧s.2≤(b.length:Int)∧0≤s.1∧s.1 < 256) (fun s=>((b.length:Int) - s.2).toNat) (fun s hI=>?_) ⟨by omega,by omega,by omega,by omega⟩ (by simp; omega)
 obtain ⟨n,i⟩:=s
 simp only [] at hI ⊢
 unfold f_r11_sum_l1
 by_cases hi:i < (b.length:Int)
 ·have hx:=(nth b i.toNat).toNat_lt
  rw [if_pos (by simpa using hi),ck_pos ⟨hI.1,hi⟩,ck_pos (by omega),ck_pos (by decide),ck_pos (by omega),tmod_nn (by omega)]
  refine .inr ⟨_,rfl,⟨by simp only []; omega,by simp only []; omega,by simp only []; omega,by simp only []; omega⟩,by simp only []; omega,?_⟩
  rw [foldl_drop _ (by omega:i.toNat < b.length),show (i+1).toNat=i.toNat+1 by omega]
  simp only []
  rw [add_mod n _ hI.2.2.1]
 ·rw [if_neg (by simpa using hi)]
  refine .inl ⟨_,rfl,?_⟩
  rw [List.drop_of_length_le (by omega)]; rfl
def flagF (r:Record):UInt8:=UInt8.ofInt (r.kind*16+((if r.last=true then 1 else 0)+(if r.inbound=true then 2 else 0)))
def headB (r:Record):List UInt8:=packF 1 r.source++packF 5 r.serial++[flagF r]++telF r.a++telF r.b
def bodyF (r:Record):List UInt8:=headB r++packF 6 r.start++packF 7 r.units++packF 5 r.call++packF 1 r.part++packF 2 r.trunk
def bytesF (r:Record):List UInt8:=bodyF r++[sumF (bodyF r)]
theorem telF_len (s:List UInt8):(telF s).length=8:=telI_len _ _
theorem headB_len (r:Record):(headB r).length=23:=by simp [headB,packF_len,telF_len]
theorem bodyF_len (r:Record):(bodyF r).length=44:=by simp [bodyF,headB_len,packF_len]
theorem putF_ok {b:List UInt8} {n:Int} {k:Nat} (hk:1≤k∧k≤9) (h0:0≤n) (h1:n < 100 ^ k):putF b n (k:Int)=(b++packF k n,0):=by
 unfold putF
 rw [if_neg (by omega),Int.toNat_natCast,Int.ediv_eq_zero_of_lt h0 h1,if_neg (by omega)]
theorem good_tel {r:Record} (g:Good r):(r.a.all isDig=true∧r.a.length≤15)∧r.b.all isDig=true∧r.b.length≤15:=by
 have key:∀ s:List UInt8,validB s=true→s.all isDig=true∧s.length≤15:=fun s h=>by
  unfold validB at h
  simp only [Bool.and_eq_true,decide_eq_true_eq] at h
  exact ⟨h.1.1,h.2⟩
 refine ⟨key _ g.a,?_⟩
 rcases g.b with h | ⟨_,h⟩
 ·exact key _ h
 ·rw [h]; exact ⟨rfl,by simp⟩
theorem put1 {b:List UInt8} {n:Int} {k:Nat} (hb:b.length≤100000) (hk:1≤k∧k≤9) (h0:0≤n) (h1:n < 100 ^ k):g_packed_Encode_1_v1 n (k:Int) b=some (b++packF k n):=by
 have h2:(100:Int) ^ k≤1000000000000000000:=by
  have:∀ j:Fin 10,(100:Int) ^ j.val≤1000000000000000000:=by decide +kernel
  exact this ⟨k,by omega⟩
 unfold g_packed_Encode_1_v1
 rw [p_PutDecimal b n k (by omega) (by omega),putF_ok hk h0 h1]
 rfl
theorem rput1 {b:List UInt8} {n:Int} {k:Nat} (hb:b.length≤100000) (hk:1≤k∧k≤9) (h0:0≤n) (h1:n < 100 ^ k):f_r11_PutDecimal b n (k:Int)=some (b++packF k n,0):=by
 have h2:(100:Int) ^ k≤1000000000000000000:=by
  have:∀ j:Fin 10,(100:Int) ^ j.val≤1000000000000000000:=by decide +kernel
  exact this ⟨k,by omega⟩
 rw [p_rPutDecimal b n k (by omega) (by omega),putF_ok hk h0 h1]
theorem flag_or {r:Record} (hk:1≤r.kind∧r.kind≤4):(UInt8.ofInt (r.kind*2 ^ (Int.toNat 4)) ||| (if r.last=true then 1 else 0)) ||| (if r.inbound=true then 2 else 0)=flagF r:=by
 unfold flagF
 obtain ⟨h1,h2⟩:=hk
 have:r.kind=1∨r.kind=2∨r.kind=3∨r.kind=4:=by omega
 rcases this with h | h | h | h <;> rw [h] <;> cases r.last <;> cases r.inbound <;> decide
theorem p_bit (b:Bool) (n:UInt8):f_packed_bit b n=some (if b=true then n else 0):=by unfold f_packed_bit; cases b <;> rfl
theorem p_Encode11 (r:Record) (ha:r.a.length < 1000000000) (hb:r.b.length < 1000000000):f_packed_Encode r=some (if errF r=0 then bytesF r else [],errF r):=by
 unfold f_packed_Encode
 rw [p_Encode r ha hb]
 simp only [Option.bind_some]
 by_cases h:errF r=0
 ·have g:=errF_good h
  obtain ⟨⟨a1,a2⟩,b1,b2⟩:=good_tel g
  have e1:g_packed_Encode_1 r.source 1=some (packF 1 r.source):=by
   unfold g_packed_Encode_1
   rw [p_PutDecimal [] _ 1 (by simp) (by have:=g.source; omega)]
   rw [show ((1:Int))=((1:Nat):Int) from rfl,putF_ok ⟨by omega,by omega⟩ (by have:=g.source; omega) (by have:=g.source; omega)]
   rfl
  have e4:(2:Int) ^ (Int.toNat 4)=16:=by decide
  rw [if_neg (by simpa using h),e1,if_pos h,h]
  simp only [Option.bind_some]
  rw [show (5:Int)=((5:Nat):Int) from rfl,put1 (by simp [packF_len]) ⟨by omega,by omega⟩ (by have:=g.serial; omega) (by have:=g.serial; omega)]
  simp only [Option.bind_some]
  rw [ck_pos (by rw [e4]; have:=g.kind; omega),p_bit,p_bit]
  simp only [Option.bind_some]
  rw [ck_pos (by simp [packF_len]),flag_or g.kind,p_putNumber r.a _ a1 a2 (by simp [packF_len])]
  simp only [Option.bind_some]
  rw [p_putNumber r.b _ b1 b2 (by simp [packF_len,telF_len])]
  simp only [Option.bind_some]
  rw [show packF 1 r.source++packF 5 r.serial++[flagF r]++telF r.a++telF r.b=headB r from rfl]
  rw [show (6:Int)=((6:Nat):Int) from rfl,put1 (by simp [headB_len]) ⟨by omega,by omega⟩ (by have:=g.start; omega) (by have:=g.start; omega)]
  simp only [Option.bind_some]
  rw [show (7:Int)=((7:Nat):Int) from rfl,put1 (by simp [headB_len,packF_len]) ⟨by omega,by omega⟩ (by have:=g.units; omega) (by have:=g.units; omega)]
  simp only [Option.bind_some]
  rw [put1 (by simp [headB_len,packF_len]) ⟨by omega,by omega⟩ (by have:=g.call; omega) (by have:=g.call; omega)]
  simp only [Option.bind_some]
  rw [show (1:Int)=((1:Nat):Int) from rfl,put1 (by simp [headB_len,packF_len]) ⟨by omega,by omega⟩ (by have:=g.part; omega) (by have:=g.part; omega)]
  simp only [Option.bind_some]
  rw [show (2:Int)=((2:Nat):Int) from rfl,put1 (by simp [headB_len,packF_len]) ⟨by omega,by omega⟩ (by have:=g.trunk; omega) (by have:=g.trunk; omega)]
  simp only [Option.bind_some]
  rw [show headB r++packF 6 r.start++packF 7 r.units++packF 5 r.call++packF 1 r.part++packF 2 r.trunk=bodyF r from rfl,p_sum _ (by rw [bodyF_len]; omega)]
  simp only [Option.bind_some]
  rw [ck_pos (by simp [bodyF_len])]
  rfl
 ·rw [if_pos (by simpa using h),if_neg h]
theorem p_rEncode11 (r:Record) (ha:r.a.length < 1000000000) (hb:r.b.length < 1000000000):f_r11_Encode r=some (if errF r=0 then bytesF r else [],errF r):=by
 unfold f_r11_Encode
 rw [p_rError r ha hb]
 simp only [Option.bind_some]
 by_cases h:errF r=0
 ·have g:=errF_good h
  obtain ⟨⟨a1,a2⟩,b1,b2⟩:=good_tel g
  have key:∀ fl:Int,0≤fl→fl≤3→UInt8.ofInt (r.kind*16+fl)=flagF r→f_r11_Encode_j2 r fl=some (bytesF r,0):=by
   intro fl f0 f1 hf
   unfold f_r11_Encode_j2
   rw [show (1:Int)=((1:Nat):Int) from rfl,rput1 (by simp) ⟨by omega,by omega⟩ (by have:=g.source; omega) (by have:=g.source; omega)]
   simp only [Option.bind_some]
   rw [show (5:Int)=((5:Nat):Int) from rfl,rput1 (by simp [packF_len]) ⟨by omega,by omega⟩ (by have:=g.serial; omega) (by have:=g.serial; omega)]
   simp only [Option.bind_some]
   rw [ck_pos (by have:=g.kind; omega),ck_pos (by have:=g.kind; omega),hf,ck_pos (by simp [packF_len]),p_digits r.a a1 a2]
   simp only [Option.bind_some]
   rw [ck_pos (by simp [packF_len,telF_len]),p_digits r.b b1 b2]
   simp only [Option.bind_some]
   rw [ck_pos (by simp [packF_len,telF_len]),List.nil_append]
   rw [show packF 1 r.source++packF 5 r.serial++[flagF r]++telF r.a++telF r.b=headB r from rfl]
   rw [show (6:Int)=((6:Nat):Int) from rfl,rput1 (by simp [headB_len]) ⟨by omega,by omega⟩ (by have:=g.start; omega) (by have:=g.start; omega)]
   simp only [Option.bind_some]
   rw [show (7:Int)=((7:Nat):Int) from rfl,rput1 (by simp [headB_len,packF_len]) ⟨by omega,by omega⟩ (by have:=g.units; omega) (by have:=g.units; omega)]
   simp only [Option.bind_some]
   rw [rput1 (by simp [headB_len,packF_len]) ⟨by omega,by omega⟩ (by have:=g.call; omega) (by have:=g.call; omega)]
   simp only [Option.bind_some]
   rw [rput1 (by simp [headB_len,packF_len]) ⟨by omega,by omega⟩ (by have:=g.part; omega) (by have:=g.part; omega)]
   simp only [Option.bind_some]
   rw [show (2:Int)=((2:Nat):Int) from rfl,rput1 (by simp [headB_len,packF_len]) ⟨by omega,by omega⟩ (by have:=g.trunk; omega) (by have:=g.trunk; omega)]
   simp only [Option.bind_some]
   rw [show headB r++packF 6 r.start++packF 7 r.units++packF 5 r.call++packF 1 r.part++packF 2 r.trunk=bodyF r from rfl,p_rsum _ (by rw [bodyF_len]; omega)]
   simp only [Option.bind_some]
   rw [ck_pos (by simp [bodyF_len])]
   rfl
  rw [if_neg (by simpa using h),if_pos h,h]
  unfold flagF at key
  unfold f_r11_Encode_j1
  cases hl:r.last <;> cases hi:r.inbound
  ·exact key 0 (by omega) (by omega) (by rw [hl,hi]; rfl)
  ·rw [if_neg (by decide),if_pos rfl,ck_pos (by decide)]
   exact key 2 (by omega) (by omega) (by rw [hl,hi]; rfl)
  ·rw [if_pos rfl,ck_pos (by decide),if_neg (by decide)]
   exact key 1 (by omega) (by omega) (by rw [hl,hi]; rfl)
  ·rw [if_pos rfl,ck_pos (by decide),if_pos rfl,ck_pos (by decide)]
   exact key 3 (by omega) (by omega) (by rw [hl,hi]; rfl)
 ·rw [if_pos (by simpa using h),if_neg h]
def nibAt (f:List UInt8) (k:Nat):UInt8:=if k % 2=0 then nth f (k / 2) / 16 else nth f (k / 2) % 16
def telN (f:List UInt8):Nat:=(nth f 0).toNat / 16
def telG (f:List UInt8):Nat→Nat→List UInt8→List UInt8×Bool
 | _,0,out=>(out,true)
 | k,m+1,out=>if k≤telN f∧(nibAt f k).toNat≤9 then telG f (k+1) m (out++[48+nibAt f k]) else if k≤telN f∨nibAt f k≠0 then ([],false) else telG f (k+1) m out
def telD (f:List UInt8):List UInt8×Bool:=telG f 1 15 []
theorem le9 (x:UInt8):decide (x≤9)=decide (x.toNat≤9):=by
 rw [Bool.eq_iff_iff,decide_eq_true_iff,decide_eq_true_iff,UInt8.le_iff_toNat_le]; exact Iff.rfl
theorem p_number (f:List UInt8) (hf:f.length=8):f_packed_number f=some (telD f):=by
 unfold f_packed_number
 rw [ck_pos (by omega),ck_pos (by decide)]
 refine loop_spec (fun s=>some (telG f (s.2.toNat+1) (15-s.2.toNat) s.1)) (fun s:List UInt8×Int=>0≤s.2∧s.2≤15∧(s.1.length:Int)≤s.2) (fun s=>(15-s.2).toNat) (fun s hI=>?_) ⟨by omega,by omega,by simp⟩ (by simp)
 obtain ⟨out,i⟩:=s
 obtain ⟨h1,h2,h3⟩:=hI
 simp only [] at h1 h2 h3 ⊢
 unfold f_packed_number_l1
 by_cases hi:i < 15
 ·rw [if_pos (by simpa using hi),ck_pos (by omega),tmod_nn h1,tdiv_nn h1,tdiv_nn (by omega),ck_pos (by omega),ck_pos (by rw [hf]; omega),ck_pos (by decide),ck_pos (by decide)]
  obtain ⟨m,hm⟩:∃ m,15-i.toNat=m+1:=⟨14-i.toNat,by omega⟩
  have hm2:15-(i+1).toNat=m:=by omega
  have hk2:(i+1).toNat+1=i.toNat+1+1:=by omega
  have main:∀ y:UInt8,y=nibAt f (i.toNat+1)→(∃ r,f_packed_number_j1 f out i y=some (.inr r)∧some (telG f (i.toNat+1) (15-i.toNat) out)=some r)∨∃ s':List UInt8×Int,f_packed_number_j1 f out i y=some (.inl s')∧(0≤s'.2∧s'.2≤15∧(s'.1.length:Int)≤s'.2)∧(15-s'.2).toNat < (15-i).toNat∧some (telG f (s'.2.toNat+1) (15-s'.2.toNat) s'.1)=some (telG f (i.toNat+1) (15-i.toNat) out):=by
   rintro y rfl
   unfold f_packed_number_j1
   rw [u8_hi,u8_hin,le9,hm,telG]
   have e1:(i < (((nth f (Int.toNat 0)).toNat / 16:Nat):Int))↔i.toNat+1≤telN f:=by unfold telN; rw [show Int.toNat 0=0 from rfl]; omega
   by_cases c1:i.toNat+1≤telN f
   ·by_cases c2:(nibAt f (i.toNat+1)).toNat≤9
    ·rw [if_pos (by simp only [Bool.and_eq_true,decide_eq_true_eq]; exact ⟨e1.2 c1,c2⟩),if_pos ⟨c1,c2⟩,ck_pos (by simp; omega),ck_pos (by omega)]
     refine .inr ⟨_,rfl,⟨by simp only []; omega,by simp only []; omega,by simp; omega⟩,by simp only []; omega,?_⟩
     simp only []
     rw [hm2,hk2]
    ·rw [if_neg (fun h=>c2 h.2:¬ (i.toNat+1≤telN f∧(nibAt f (i.toNat+1)).toNat≤9)),if_neg (by simp only [Bool.and_eq_true,decide_eq_true_eq]; exact fun h=>c2 h.2),if_pos (by simp only [Bool.or_eq_true,decide_eq_true_eq]; exact .inl (e1.2 c1)),if_pos (.inl c1)]
     exact .inl ⟨_,rfl,rfl⟩
   ·rw [if_neg (fun h=>c1 h.1:¬ (i.toNat+1≤telN f∧(nibAt f (i.toNat+1)).toNat≤9)),if_neg (by simp only [Bool.and_eq_true,decide_eq_true_eq]; exact fun h=>c1 (e1.1 h.1))]
    by_cases c3:nibAt f (i.toNat+1)≠0
    ·rw [if_pos (by simp only [Bool.or_eq_true,bne_iff_ne]; exact .inr c3),if_pos (.inr c3)]
     exact .inl ⟨_,rfl,rfl⟩
    ·rw [if_neg (by simp only [Bool.or_eq_true,decide_eq_true_eq,bne_iff_ne]; exact fun h=>h.elim (fun h=>c1 (e1.1 h)) c3),if_neg (fun h=>h.elim c1 c3),ck_pos (by omega)]
     refine .inr ⟨_,rfl,⟨by simp only []; omega,by simp only []; omega,by simp only []; omega⟩,by simp only []; omega,?_⟩
     simp only []
     rw [hm2,hk2]
  by_cases hp:i % 2=0
  ·rw [if_pos (by simpa using hp),ck_pos (by omega),ck_pos (by rw [hf]; omega)]
   refine main _ ?_
   unfold nibAt
   rw [if_neg (by omega),u8_lo,show Int.toNat (i / 2)=(i.toNat+1) / 2 by omega]
  ·rw [if_neg (by simpa using hp)]
   refine main _ ?_
   unfold nibAt
   rw [if_pos (by omega),u8_hi,show Int.toNat ((i+1) / 2)=(i.toNat+1) / 2 by omega]
 ·have:i=15:=by omega
  subst this
  rw [if_neg (by simp)]
  exact .inl ⟨_,rfl,rfl⟩
theorem telG_len (f:List UInt8):∀ (m k:Nat) (out:List UInt8),(telG f k m out).1.length≤out.length+m
 | 0,k,out=>by simp [telG]
 | m+1,k,out=>by
  unfold telG
  split
  ·have:=telG_len f m (k+1) (out++[48+nibAt f k])
   simp at this ⊢; omega
  ·split
   ·simp
   ·have:=telG_len f m (k+1) out
    omega
theorem telD_len (f:List UInt8):(telD f).1.length≤15:=by have:=telG_len f 15 1 []; simpa [telD] using this
def Z:Record:=⟨0,0,0,[],[],0,0,0,0,false,0,false⟩
def cut (b:List UInt8) (i n:Nat):List UInt8:=(b.drop i).take n
def recF (b:List UInt8):Record:=⟨(decD (cut b 0 1)).1,(decD (cut b 1 5)).1,(((nth b 6).toNat / 16:Nat):Int),(telD (cut b 7 8)).1,(telD (cut b 15 8)).1,(decD (cut b 23 6)).1,(decD (cut b 29 7)).1,(decD (cut b 36 5)).1,(decD (cut b 41 1)).1,(nth b 6 % 2)==1,(decD (cut b 42 2)).1,decide (nth b 6 % 16≥2)⟩
def formB (b:List UInt8):Bool:=((decD (cut b 0 1)).2==0) && ((decD (cut b 1 5)).2==0) && (telD (cut b 7 8)).2 && (telD (cut b 15 8)).2 && ((decD (cut b 23 6)).2==0) && ((decD (cut b 29 7)).2==0) && ((decD (cut b 36 5)).2==0) && ((decD (cut b 41 1)).2==0) && ((decD (cut b 42 2)).2==0) && decide (nth b 6 % 16≤3)
def unpackF (b:List UInt8):Record×Int :=
 if b.length < 45 then (Z,2) else if b.length > 45 then (Z,3) else if sumF (b.take 44)≠nth b 44 then (Z,4)
 else if formB b=false then (Z,1) else if errF (recF b)≠0 then (Z,errF (recF b)) else (recF b,0)
theorem p_field (b:List UInt8) (bad:Bool) (n:Nat) (h:n≤b.length):g_packed_reader_field (n:Int) ⟨b,bad⟩=some (b.take n,⟨b.drop n,bad⟩):=by
 unfold g_packed_reader_field
 simp only []
 rw [ck_pos (by omega),ck_pos (by omega),Int.toNat_natCast]
theorem p_rdecimal (b:List UInt8) (bad:Bool) (n:Nat) (h:n≤b.length) (hn:n≤1000):g_packed_reader_decimal (n:Int) ⟨b,bad⟩=some ((decD (b.take n)).1,⟨b.drop n,bad || ((decD (b.take n)).2 != 0)⟩):=by
 unfold g_packed_reader_decimal
 rw [p_field b bad n h]
 simp only [Option.bind_some]
 rw [p_Decimal _ (by simp; omega)]
 rfl
theorem p_rnumber (b:List UInt8) (bad:Bool) (h:8≤b.length):g_packed_reader_number ⟨b,bad⟩=some ((telD (b.take 8)).1,⟨b.drop 8,bad || !(telD (b.take 8)).2⟩):=by
 unfold g_packed_reader_number
 rw [show (8:Int)=((8:Nat):Int) from rfl,p_field b bad 8 h]
 simp only [Option.bind_some]
 rw [p_number _ (by simp; omega)]
 rfl
theorem drop_cut (b:List UInt8) (i n:Nat):(b.drop i).take n=cut b i n:=rfl
theorem u8_bits (x:UInt8):(x % 16≤3)→((x &&& 1) != 0)=((x % 2)==1)∧((x &&& 2) != 0)=decide (x % 16≥2):=u8_all (p:=fun x=>x % 16≤3→((x &&& 1) != 0)=((x % 2)==1)∧((x &&& 2) != 0)=decide (x % 16≥2)) (by decide +kernel) x
theorem p_Decode11 (b:List UInt8) (hb:b.length≤100000):f_packed_Decode b=some (unpackF b):=by
 unfold f_packed_Decode unpackF
 by_cases h1:b.length < 45
 ·rw [if_pos (by simp; omega),if_pos h1]; rfl
 ·rw [if_neg (by simp; omega),if_neg h1]
  by_cases h2:b.length > 45
  ·rw [if_pos (by simp; omega),if_pos h2]; rfl
  ·have hl:b.length=45:=by omega
   rw [if_neg (by simp; omega),if_neg h2,ck_pos (by omega),p_sum _ (by simp; omega)]
   simp only [Option.bind_some]
   rw [ck_pos (by omega),show Int.toNat 44=44 from rfl]
   by_cases h3:sumF (b.take 44)≠nth b 44
   ·rw [if_pos (by simpa using h3),if_pos h3]; rfl
   ·rw [if_neg (by simpa using h3),if_neg h3]
    rw [show (1:Int)=((1:Nat):Int) from rfl,p_rdecimal _ _ 1 (by omega) (by omega)]
    simp only [Option.bind_some]
    rw [show (5:Int)=((5:Nat):Int) from rfl,p_rdecimal _ _ 5 (by simp; omega) (by omega)]
    simp only [Option.bind_some]
    rw [p_field _ _ 1 (by simp; omega)]
    simp only [Option.bind_some]
    rw [ck_pos (by simp; omega),ck_pos (by decide),p_rnumber _ _ (by simp; omega)]
    simp only [Option.bind_some]
    rw [p_rnumber _ _ (by simp; omega)]
    simp only [Option.bind_some]
    rw [show (6:Int)=((6:Nat):Int) from rfl,p_rdecimal _ _ 6 (by simp; omega) (by omega)]
    simp only [Option.bind_some]
    rw [show (7:Int)=((7:Nat):Int) from rfl,p_rdecimal _ _ 7 (by simp; omega) (by omega)]
    simp only [Option.bind_some]
    rw [p_rdecimal _ _ 5 (by simp; omega) (by omega)]
    simp only [Option.bind_some]
    rw [p_rdecimal _ _ 1 (by simp; omega) (by omega)]
    simp only [Option.bind_some]
    rw [show (2:Int)=((2:Nat):Int) from rfl,p_rdecimal _ _ 2 (by simp; omega) (by omega)]
    simp only [Option.bind_some,List.drop_drop,drop_cut,Nat.reduceAdd,Bool.false_or,u8_hi,u8_lo,u8_hin]
    have e0:b.take 1=cut b 0 1:=rfl
    have e6:nth (cut b 6 1) (Int.toNat 0)=nth b 6:=by
     rw [show Int.toNat 0=0 from rfl,nth_eq (by simp [cut]; omega),nth_eq (by omega)]
     simp [cut]
    rw [e0,e6]
    have hbad:(((((((((((decD (cut b 0 1)).2 != 0) || ((decD (cut b 1 5)).2 != 0)) || !(telD (cut b 7 8)).2) || !(telD (cut b 15 8)).2) || ((decD (cut b 23 6)).2 != 0)) || ((decD (cut b 29 7)).2 != 0)) || ((decD (cut b 36 5)).2 != 0)) || ((decD (cut b 41 1)).2 != 0)) || ((decD (cut b 42 2)).2 != 0)) || decide (nth b 6 % 16 > 3))=!formB b:=by
     have:decide (nth b 6 % 16 > 3)=!decide (nth b 6 % 16≤3):=by
      rw [Bool.eq_iff_iff]; simp
     unfold formB
     rw [this]
     simp only [Bool.not_and,bne,Bool.or_assoc]
    rw [hbad]
    by_cases hf:formB b=false
    ·rw [if_pos (by simp [hf]),if_pos hf]; rfl
    ·rw [if_neg (by simpa using hf),if_neg hf]
     have h16:nth b 6 % 16≤3:=by
      have hf':formB b=true:=by simpa using hf
      unfold formB at hf'
      simp only [Bool.and_eq_true,decide_eq_true_eq] at hf'
      exact hf'.2
     obtain ⟨b1,b2⟩:=u8_bits _ h16
     rw [b1,b2]
     rw [show (⟨(decD (cut b 0 1)).1,(decD (cut b 1 5)).1,(((nth b 6).toNat / 16:Nat):Int),(telD (cut b 7 8)).1,(telD (cut b 15 8)).1,(decD (cut b 23 6)).1,(decD (cut b 29 7)).1,(decD (cut b 36 5)).1,(decD (cut b 41 1)).1,(nth b 6 % 2)==1,(decD (cut b 42 2)).1,decide (nth b 6 % 16≥2)⟩:Record)=recF b from rfl]
     rw [p_Encode (recF b) (by have:=telD_len (cut b 7 8); simp only [recF]; omega) (by have:=telD_len (cut b 15 8); simp only [recF]; omega)]
     simp only [Option.bind_some]
     by_cases he:errF (recF b)≠0
     ·rw [if_pos (by simpa using he),if_pos he]; rfl
     ·rw [if_neg (by simpa using he),if_neg he]
theorem u8_two {x y:UInt8} (hx:x.toNat < 16) (hy:y.toNat < 16):(x*16+y) / 16=x∧(x*16+y) % 16=y:=by
 have h:(x*16+y).toNat=x.toNat*16+y.toNat:=by
  rw [UInt8.toNat_add,UInt8.toNat_mul,show (16:UInt8).toNat=16 from rfl]; omega
 constructor
 ·apply UInt8.toNat_inj.1; rw [u8_hin,h]; omega
 ·apply UInt8.toNat_inj.1; rw [u8_lon,h]; omega
theorem nibAt_telF {s:List UInt8} (hs:s.all isDig=true) (hl:s.length≤15) {k:Nat} (hk:k < 16):nibAt (telF s) k=nibI s s.length k:=by
 have h2:=u8_two (nib_lt hs hl (k:=2*(k / 2)) (Nat.le_refl _)) (nib_lt hs hl (k:=2*(k / 2)+1) (Nat.le_refl _))
 unfold nibAt telF
 rw [telI_nth (by omega)]
 split
 ·rw [h2.1,show 2*(k / 2)=k by omega]
 ·rw [h2.2,show 2*(k / 2)+1=k by omega]
theorem telN_telF {s:List UInt8} (hs:s.all isDig=true) (hl:s.length≤15):telN (telF s)=s.length:=by
 have h:=nibAt_telF hs hl (k:=0) (by omega)
 unfold nibAt at h
 rw [if_pos rfl] at h
 unfold telN
 have h':=congrArg UInt8.toNat h
 rw [u8_hin] at h'
 rw [show (0 / 2:Nat)=0 from rfl] at h'
 rw [h']
 simp [nibI]; omega
theorem dig48 (x:UInt8):(48:UInt8)+(x-48)=x:=u8_all (p:=fun x=>(48:UInt8)+(x-48)=x) (by decide +kernel) x
theorem telG_telF {s:List UInt8} (hs:s.all isDig=true) (hl:s.length≤15):∀ m i:Nat,i+m=15→telG (telF s) (i+1) m (s.take i)=(s,true)
 | 0,i,e=>by rw [telG,List.take_of_length_le (by omega)]
 | m+1,i,e=>by
  rw [telG,telN_telF hs hl,nibAt_telF hs hl (by omega)]
  by_cases hi:i < s.length
  ·rw [if_pos ⟨by omega,nib_digs hs (by omega) (Nat.le_refl _)⟩]
   have:nibI s s.length (i+1)=nth s i-48:=by unfold nibI; rw [if_neg (by omega),if_pos (by omega)]; rfl
   rw [this,dig48]
   have e1:s.take i++[nth s i]=s.take (i+1):=by rw [nth_eq hi,List.take_append_getElem hi]
   rw [e1]
   exact telG_telF hs hl m (i+1) (by omega)
  ·rw [if_neg (by omega),nib_zero (by omega),if_neg (by simp; omega)]
   have:=telG_telF hs hl m (i+1) (by omega)
   rw [List.take_of_length_le (by omega)] at this ⊢
   exact this
theorem telD_telF {s:List UInt8} (hs:s.all isDig=true) (hl:s.length≤15):telD (telF s)=(s,true):=by
 have:=telG_telF hs hl 15 0 rfl
 simpa [telD] using this
theorem cut_all (b:List UInt8):cut b 0 b.length=b:=by simp [cut]
theorem cut_left (x y:List UInt8) (i n:Nat) (h:i+n≤x.length):cut (x++y) i n=cut x i n:=by
 unfold cut
 rw [List.drop_append_of_le_length (by omega),List.take_append_of_le_length (by simp; omega)]
theorem cut_end (x y:List UInt8) (i n:Nat) (h:x.length=i) (hy:y.length=n):cut (x++y) i n=y:=by
 subst h hy
 simp [cut]
theorem bytes_len (r:Record):(bytesF r).length=45:=by simp [bytesF,bodyF_len]
theorem nth_left (x y:List UInt8) (i:Nat) (h:i < x.length):nth (x++y) i=nth x i:=by
 rw [nth_eq (by simp; omega),nth_eq h,List.getElem_append_left h]
theorem nth_end (x:List UInt8) (y:UInt8) (i:Nat) (h:x.length=i):nth (x++[y]) i=y:=by
 subst h
 rw [nth_eq (by simp)]; simp
theorem flag_read {r:Record} (hk:1≤r.kind∧r.kind≤4):(((flagF r).toNat / 16:Nat):Int)=r.kind∧((flagF r % 2)==1)=r.last∧decide (flagF r % 16≥2)=r.inbound∧flagF r % 16≤3:=by
 unfold flagF
 obtain ⟨h1,h2⟩:=hk
 have:r.kind=1∨r.kind=2∨r.kind=3∨r.kind=4:=by omega
 rcases this with h | h | h | h <;> rw [h] <;> cases r.last <;> cases r.inbound <;> decide
theorem fields_of {r:Record} (g:Good r):recF (bytesF r)=r∧formB (bytesF r)=true:=by
 have hf:=flag_read g.kind
 have c1:cut (bytesF r) 0 1=packF 1 r.source:=by
  unfold bytesF bodyF headB
  iterate 10 rw [cut_left _ _ _ _ (by simp [packF_len,telF_len])]
  have e:(packF 1 r.source).length=1:=packF_len _ _
  have:=cut_all (packF 1 r.source)
  rw [e] at this; exact this
 have c2:cut (bytesF r) 1 5=packF 5 r.serial:=by
  unfold bytesF bodyF headB
  iterate 9 rw [cut_left _ _ _ _ (by simp [packF_len,telF_len])]
  exact cut_end _ _ _ _ (by simp [packF_len,telF_len]) (by simp [packF_len,telF_len])
 have c3:nth (bytesF r) 6=flagF r:=by
  unfold bytesF bodyF headB
  iterate 8 rw [nth_left _ _ _ (by simp [packF_len,telF_len])]
  exact nth_end _ _ _ (by simp [packF_len,telF_len])
 have c4:cut (bytesF r) 7 8=telF r.a:=by
  unfold bytesF bodyF headB
  iterate 7 rw [cut_left _ _ _ _ (by simp [packF_len,telF_len])]
  exact cut_end _ _ _ _ (by simp [packF_len,telF_len]) (by simp [packF_len,telF_len])
 have c5:cut (bytesF r) 15 8=telF r.b:=by
  unfold bytesF bodyF headB
  iterate 6 rw [cut_left _ _ _ _ (by simp [packF_len,telF_len])]
  exact cut_end _ _ _ _ (by simp [packF_len,telF_len]) (by simp [packF_len,telF_len])
 have c6:cut (bytesF r) 23 6=packF 6 r.start:=by
  unfold bytesF bodyF headB
  iterate 5 rw [cut_left _ _ _ _ (by simp [packF_len,telF_len])]
  exact cut_end _ _ _ _ (by simp [packF_len,telF_len]) (by simp [packF_len,telF_len])
 have c7:cut (bytesF r) 29 7=packF 7 r.units:=by
  unfold bytesF bodyF headB
  iterate 4 rw [cut_left _ _ _ _ (by simp [packF_len,telF_len])]
  exact cut_end _ _ _ _ (by simp [packF_len,telF_len]) (by simp [packF_len,telF_len])
 have c8:cut (bytesF r) 36 5=packF 5 r.call:=by
  unfold bytesF bodyF headB
  iterate 3 rw [cut_left _ _ _ _ (by simp [packF_len,telF_len])]
  exact cut_end _ _ _ _ (by simp [packF_len,telF_len]) (by simp [packF_len,telF_len])
 have c9:cut (bytesF r) 41 1=packF 1 r.part:=by
  unfold bytesF bodyF headB
  iterate 2 rw [cut_left _ _ _ _ (by simp [packF_len,telF_len])]
  exact cut_end _ _ _ _ (by simp [packF_len,telF_len]) (by simp [packF_len,telF_len])
 have c10:cut (bytesF r) 42 2=packF 2 r.trunk:=by
  unfold bytesF bodyF headB
  rw [cut_left _ _ _ _ (by simp [packF_len,telF_len])]
  exact cut_end _ _ _ _ (by simp [packF_len,telF_len]) (by simp [packF_len,telF_len])
 obtain ⟨⟨ga,gal⟩,gb,gbl⟩:=good_tel g
 have gs:=g.source; have gr:=g.serial; have gt:=g.start; have gu:=g.units; have gc:=g.call; have gp:=g.part; have gk:=g.trunk
 have d1:decD (packF 1 r.source)=(r.source,0):=decD_pack (by omega) (by omega) (by omega)
 have d2:decD (packF 5 r.serial)=(r.serial,0):=decD_pack (by omega) (by omega) (by omega)
 have d3:decD (packF 6 r.start)=(r.start,0):=decD_pack (by omega) (by omega) (by omega)
 have d4:decD (packF 7 r.units)=(r.units,0):=decD_pack (by omega) (by omega) (by omega)
 have d5:decD (packF 5 r.call)=(r.call,0):=decD_pack (by omega) (by omega) (by omega)
 have d6:decD (packF 1 r.part)=(r.part,0):=decD_pack (by omega) (by omega) (by omega)
 have d7:decD (packF 2 r.trunk)=(r.trunk,0):=decD_pack (by omega) (by omega) (by omega)
 constructor
 ·unfold recF
  rw [c1,c2,c3,c4,c5,c6,c7,c8,c9,c10,d1,d2,d3,d4,d5,d6,d7,telD_telF ga gal,telD_telF gb gbl,hf.1,hf.2.1,hf.2.2.1]
 ·unfold formB
  rw [c1,c2,c3,c4,c5,c6,c7,c8,c9,c10,d1,d2,d3,d4,d5,d6,d7,telD_telF ga gal,telD_telF gb gbl]
  simp [hf.2.2.2]
theorem read_back {r:Record} (h:errF r=0):unpackF (bytesF r)=(r,0):=by
 have hf:=fields_of (errF_good h)
 unfold unpackF
 rw [bytes_len,if_neg (by omega),if_neg (by omega),hf.1,hf.2,if_neg,if_neg (by simp),if_neg (by simp [h])]
 unfold bytesF
 rw [List.take_append_of_le_length (by rw [bodyF_len]; omega),List.take_of_length_le (by rw [bodyF_len]; omega),nth_end _ _ _ (bodyF_len r)]
 simp
def okRs (b:List UInt8):Nat→Nat→List Record
 | _,0=>[]
 | i,n+1=>if (unpackF (cut b (i*45) 45)).2=0 then (unpackF (cut b (i*45) 45)).1 :: okRs b (i+1) n else okRs b (i+1) n
def noRs (b:List UInt8):Nat→Nat→List Reject
 | _,0=>[]
 | i,n+1=>if (unpackF (cut b (i*45) 45)).2=0 then noRs b (i+1) n else ⟨0,0,i,(unpackF (cut b (i*45) 45)).2⟩ :: noRs b (i+1) n
theorem okRs_len (b:List UInt8):∀ n i:Nat,(okRs b i n).length≤n
 | 0,i=>by simp [okRs]
 | n+1,i=>by
  have:=okRs_len b n (i+1)
  unfold okRs
  split
  ·simp; omega
  ·omega
theorem noRs_len (b:List UInt8):∀ n i:Nat,(noRs b i n).length≤n
 | 0,i=>by simp [noRs]
 | n+1,i=>by
  have:=noRs_len b n (i+1)
  unfold noRs
  split
  ·omega
  ·simp; omega
def allF (b:List UInt8):List Record×List Reject×Int :=
 if b.length % 45≠0 then ([],[],2) else if b.length / 45 > 4096 then ([],[],5) else (okRs b 0 (b.length / 45),noRs b 0 (b.length / 45),0)
theorem cut_len (b:List UInt8) {i:Nat} (h:i < b.length / 45):(cut b (i*45) 45).length=45:=by
 simp [cut]; omega
theorem len_mod (b:List UInt8):(Int.tmod (b.length:Int) 45 != 0)=decide (b.length % 45≠0):=by
 rw [Bool.eq_iff_iff,decide_eq_true_iff,tmod_nn (by omega)]
 simp; omega
theorem len_div (b:List UInt8):Int.tdiv (b.length:Int) 45=((b.length / 45:Nat):Int):=by
 rw [tdiv_nn (by omega)]; omega
theorem p_All11 (b:List UInt8) (hb:b.length≤100000):f_packed_All b=some (allF b):=by
 unfold f_packed_All allF
 rw [len_mod,len_div,ck_pos (by decide)]
 by_cases h1:b.length % 45≠0
 ·rw [if_pos (by simpa using h1),if_pos h1]
 ·rw [if_neg (by simpa using h1),if_neg h1,ck_pos (by omega)]
  by_cases h2:b.length / 45 > 4096
  ·rw [if_pos (by simp; omega),if_pos h2]
  ·rw [if_neg (by simp; omega),if_neg h2,ck_pos (by omega)]
   have:=loop_spec (step:=fun st=>f_packed_All_l1 b st.1 st.2.1 st.2.2.1 st.2.2.2.1 st.2.2.2.2)
    (fun st:List Record×List Reject×Int×List UInt8×Bool=>some (st.1++okRs b st.2.2.1.toNat (b.length / 45-st.2.2.1.toNat),st.2.1++noRs b st.2.2.1.toNat (b.length / 45-st.2.2.1.toNat),(0:Int)))
    (fun st=>(0≤st.2.2.1∧st.2.2.1≤((b.length / 45:Nat):Int)∧(st.1.length:Int)≤st.2.2.1∧(st.2.1.length:Int)≤st.2.2.1)∧st.2.2.2.1=b.drop (st.2.2.1.toNat*45)∧st.2.2.2.2=false) (fun st=>(((b.length / 45:Nat):Int) - st.2.2.1).toNat) (fun st hI=>by
     obtain ⟨out,no,i,c,bad⟩:=st
     obtain ⟨⟨i0,i1,i2,i3⟩,e1,e2⟩:=hI
     simp only at i0 i1 i2 i3 e1 e2 ⊢
     subst e1 e2
     unfold f_packed_All_l1
     rw [len_div]
     by_cases hi:i < ((b.length / 45:Nat):Int)
     ·rw [if_pos (by simpa using hi),show (45:Int)=((45:Nat):Int) from rfl,p_field _ _ 45 (by rw [List.length_drop]; omega),Option.bind_some]
      simp only [drop_cut]
      rw [p_Decode11 _ (by rw [cut_len b (by omega)]; omega),Option.bind_some]
      rw [show b.length / 45-i.toNat=(b.length / 45-(i.toNat+1))+1 by omega]
      by_cases hd:(unpackF (cut b (i.toNat*45) 45)).2=0
      ·rw [if_neg (by simp [hd]),ck_pos (by simp; omega),ck_pos (by omega)]
       refine .inr ⟨_,rfl,⟨⟨by simp only; omega,by simp only; omega,by simp; omega,by simp only; omega⟩,by simp only [List.drop_drop]; congr 1; omega,rfl⟩,by simp only; omega,?_⟩
       simp only
       rw [show (i+1).toNat=i.toNat+1 from by omega]
       simp [okRs,noRs,hd]
      ·rw [if_pos (by simpa using hd),ck_pos (by simp; omega),ck_pos (by omega)]
       refine .inr ⟨_,rfl,⟨⟨by simp only; omega,by simp only; omega,by simp only; omega,by simp; omega⟩,by simp only [List.drop_drop]; congr 1; omega,rfl⟩,by simp only; omega,?_⟩
       simp only
       rw [show (i+1).toNat=i.toNat+1 from by omega]
       simp [okRs,noRs,hd]
       omega
     ·rw [if_neg (by simpa using hi)]
      refine .inl ⟨_,rfl,?_⟩
      rw [show b.length / 45-i.toNat=0 by omega]
      simp [okRs,noRs]) (s:=([],[],0,b,false)) ⟨⟨by simp,by simp; omega,by simp,by simp⟩,by simp,rfl⟩ (by simp only; omega)
   rw [this]
   simp
end Go.Proofs.YthoengcicaicoaaGreatDoor.C11
namespace Go.Proofs.YthoengcicaicoaaGreatDoor.C10
open Go.RowKit Go.Abs
def bldF:Int→List UInt8→List Element→List UInt8×Int
 | _,out,[]=>(out,0)
 | last,out,x :: r=>if x.tag < 1∨x.tag > 255 then ([],6) else if x.tag≤last then ([],9) else if x.value.length > 255 then ([],5)
  else bldF x.tag (out++[UInt8.ofInt x.tag,UInt8.ofInt (x.value.length:Int)]++x.value) r
theorem p_rBuild (l:List Element) (hl:l.length≤100000):f_r10_Build l=some (bldF 0 [] l):=by
 unfold f_r10_Build
 have:=loop_spec (step:=fun st=>f_r10_Build_l1 l st.1 st.2.1 st.2.2) (fun st:List UInt8×Int×Int=>some (bldF st.2.1 st.1 (l.drop st.2.2.toNat)))
  (fun st=>0≤st.2.2∧st.2.2≤(l.length:Int)∧(st.1.length:Int)≤257*st.2.2) (fun st=>((l.length:Int) - st.2.2).toNat) (fun st hI=>by
   obtain ⟨out,last,i⟩:=st
   obtain ⟨i0,i1,i2⟩:=hI
   simp only at i0 i1 i2 ⊢
   unfold f_r10_Build_l1
   by_cases hi:i < (l.length:Int)
   ·rw [if_pos (by simpa using hi),ck_pos (by omega),drop_nth (show i.toNat < l.length by omega),bldF]
    generalize nth l i.toNat=x
    by_cases h1:x.tag < 1∨x.tag > 255
    ·rw [if_pos (by simpa using h1),if_pos h1]; exact .inl ⟨_,rfl,rfl⟩
    ·rw [if_neg (by simpa using h1),if_neg h1]
     by_cases h2:x.tag≤last
     ·rw [if_pos (by simpa using h2),if_pos h2]; exact .inl ⟨_,rfl,rfl⟩
     ·rw [if_neg (by simpa using h2),if_neg h2]
      by_cases h3:x.value.length > 255
      ·rw [if_pos (by simp; omega),if_pos h3]; exact .inl ⟨_,rfl,rfl⟩
      ·rw [if_neg (by simp; omega),if_neg h3,ck_pos (by simp; omega),ck_pos (by simp; omega),ck_pos (by omega)]
       refine .inr ⟨_,rfl,⟨by simp only; omega,by simp only; omega,by simp; omega⟩,by simp only; omega,?_⟩
       simp only
       rw [show (i+1).toNat=i.toNat+1 by omega]
   ·rw [if_neg (by simpa using hi)]
    refine .inl ⟨_,rfl,?_⟩
    rw [List.drop_of_length_le (by omega),bldF]) (s:=([],0,0)) ⟨by simp,by simp,by simp⟩ (by simp only; omega)
 rw [this]
 simp
def elmF (last:Int) (out:List Element) (b:List UInt8):List Element×Int :=
 if b.length=0 then (out,0) else if (nth b 0).toNat=0 then ([],6) else if ((nth b 0).toNat:Int)≤last then ([],9)
 else if b.length < 2∨b.length-2 < (nth b 1).toNat then ([],2)
 else elmF (nth b 0).toNat (out++[⟨((nth b 0).toNat:Int),(b.drop 2).take (nth b 1).toNat⟩]) (b.drop (2+(nth b 1).toNat))
termination_by b.length
decreasing_by simp; omega
theorem slice_dt (b:List UInt8) (i j:Nat):(b.take j).drop i=(b.drop i).take (j-i):=List.drop_take
theorem p_Elements (b:List UInt8) (hb:b.length≤1000000):f_tagged_Elements b=some (elmF 0 [] b):=by
 unfold f_tagged_Elements
 have:=loop_spec (step:=fun st=>f_tagged_Elements_l1 st.1 st.2.1 st.2.2) (fun st:List UInt8×List Element×Int=>some (elmF st.2.2 st.2.1 st.1))
  (fun st=>st.1.length+st.2.1.length≤1000000) (fun st=>st.1.length) (fun st hI=>by
   obtain ⟨b,out,last⟩:=st
   simp only at hI ⊢
   unfold f_tagged_Elements_l1
   rw [elmF]
   by_cases h0:b.length=0
   ·rw [if_neg (by simp; simpa using h0),if_pos h0]; exact .inl ⟨_,rfl,rfl⟩
   ·rw [if_pos (by simp; omega),if_neg h0,ck_pos (by omega)]
    simp only [show Int.toNat 0=0 from rfl,show Int.toNat 1=1 from rfl]
    by_cases h1:(nth b 0).toNat=0
    ·rw [if_pos (by simp [h1]),if_pos h1]; exact .inl ⟨_,rfl,rfl⟩
    ·rw [if_neg (by simp; omega),if_neg h1]
     by_cases h2:((nth b 0).toNat:Int)≤last
     ·rw [if_pos (by simpa using h2),if_pos h2]; exact .inl ⟨_,rfl,rfl⟩
     ·rw [if_neg (by simpa using h2),if_neg h2,ck_pos (by intro _; omega),ck_pos (by intro h; simp at h; omega)]
      by_cases h3:b.length < 2∨b.length-2 < (nth b 1).toNat
      ·rw [if_pos (by simp; omega),if_pos h3]; exact .inl ⟨_,rfl,rfl⟩
      ·have ht:(Int.toNat (2+((nth b 1).toNat:Int)))=2+(nth b 1).toNat:=by omega
       rw [if_neg (by simp; omega),if_neg h3,ck_pos (by omega),ck_pos (by omega),ck_pos (by omega),ht,ck_pos (by simp; omega),ck_pos (by simp; omega),ck_pos (by omega)]
       refine .inr ⟨_,rfl,by simp; omega,by simp; omega,?_⟩
       simp only
       rw [show Int.toNat 2=2 from rfl,slice_dt,show 2+(nth b 1).toNat-2=(nth b 1).toNat by omega]) (s:=(b,[],0)) (by simp; omega) (by simp only; omega)
 rw [this]
theorem nth_drop (b:List UInt8) (i j:Nat) (h:i+j < b.length):nth (b.drop i) j=nth b (i+j):=by
 rw [nth_eq (by simp; omega),nth_eq h,List.getElem_drop]
def okL:Int→List Element→Prop
 | _,[]=>True
 | last,x :: r=>1≤x.tag∧x.tag≤255∧last < x.tag∧x.value.length≤255∧okL x.tag r
def encL:List Element→List UInt8
 | []=>[]
 | x :: r=>[UInt8.ofInt x.tag,UInt8.ofInt (x.value.length:Int)]++x.value++encL r
theorem bld_of_ok:∀ (l:List Element) (last:Int) (out:List UInt8),okL last l→bldF last out l=(out++encL l,0)
 | [],last,out,_=>by simp [bldF,encL]
 | x :: r,last,out,h=>by
  obtain ⟨h1,h2,h3,h4,h5⟩:=h
  rw [bldF,if_neg (by omega),if_neg (by omega),if_neg (by omega),bld_of_ok r _ _ h5,encL]
  simp
theorem byte_back {n:Int} (h:0≤n∧n≤255):((UInt8.ofInt n).toNat:Int)=n:=by
 have key:∀ x:Fin 256,((UInt8.ofInt (x.val:Int)).toNat:Int)=(x.val:Int):=by decide +kernel
 have:=key ⟨n.toNat,by omega⟩
 simp only [Int.toNat_of_nonneg h.1] at this
 exact this
theorem elm_enc:∀ (l:List Element) (last:Int) (out:List Element),okL last l→elmF last out (encL l)=(out++l,0)
 | [],last,out,_=>by rw [elmF]; simp [encL]
 | x :: r,last,out,h=>by
  obtain ⟨h1,h2,h3,h4,h5⟩:=h
  have e1:=byte_back (n:=x.tag) (by omega)
  have e2:=byte_back (n:=(x.value.length:Int)) (by omega)
  have n0:nth (encL (x :: r)) 0=UInt8.ofInt x.tag:=rfl
  have n1:nth (encL (x :: r)) 1=UInt8.ofInt (x.value.length:Int):=rfl
  have hl:(encL (x :: r)).length=2+x.value.length+(encL r).length:=by simp [encL]; omega
  rw [elmF,n0,n1,e1,show (UInt8.ofInt (x.value.length:Int)).toNat=x.value.length by omega,if_neg (by omega),if_neg (by omega),if_neg (by omega),if_neg (by omega)]
  have d1:((encL (x :: r)).drop 2).take x.value.length=x.value:=by simp [encL]
  have d2:(encL (x :: r)).drop (2+x.value.length)=encL r:=by
   rw [←List.drop_drop]; simp [encL]
  rw [d1,d2,elm_enc r _ _ h5]
  simp
theorem byte_fwd (x:UInt8):UInt8.ofInt (x.toNat:Int)=x:=by
 apply UInt8.toNat_inj.1
 have:=byte_back (n:=(x.toNat:Int)) (by have:=x.toNat_lt; omega)
 omega
theorem elm_back:∀ (n:Nat) (b:List UInt8) (last:Int) (out:List Element),b.length≤n→0≤last→(elmF last out b).2=0→∃ l,(elmF last out b).1=out++l∧okL last l∧encL l=b
 | n,b,last,out,hn,hl,h=>by
  rw [elmF] at h ⊢
  by_cases h0:b.length=0
  ·rw [if_pos h0]
   exact ⟨[],by simp,trivial,by rw [List.length_eq_zero_iff] at h0; rw [h0]; rfl⟩
  ·rw [if_neg h0] at h ⊢
   split at h; · cases h
   rename_i h1
   rw [if_neg h1]
   split at h; · cases h
   rename_i h2
   rw [if_neg h2]
   split at h; · cases h
   rename_i h3
   rw [if_neg h3]
   obtain ⟨n,rfl⟩:∃ m,n=m+1:=⟨n-1,by omega⟩
   obtain ⟨l,e1,e2,e3⟩:=elm_back n _ _ _ (by rw [List.length_drop]; omega) (by omega) h
   have hb0:=(nth b 0).toNat_lt
   have hb1:=(nth b 1).toNat_lt
   have htl:((b.drop 2).take (nth b 1).toNat).length=(nth b 1).toNat:=by simp; omega
   refine ⟨⟨((nth b 0).toNat:Int),(b.drop 2).take (nth b 1).toNat⟩ :: l,by rw [e1]; simp,⟨by simp only; omega,by simp only; omega,by simp only; omega,by simp only; omega,e2⟩,?_⟩
   rw [encL,e3]
   simp only [htl,byte_fwd]
   have:b=[nth b 0,nth b 1]++((b.drop 2).take (nth b 1).toNat++(b.drop 2).drop (nth b 1).toNat):=by
    rw [List.take_append_drop,nth_eq (show 0 < b.length by omega),nth_eq (show 1 < b.length by omega)]
    match b,h3 with
    | x :: y :: r,_=>rfl
    | [x],h3=>simp at h3
    | [],h3=>simp at h3
   conv=>rhs; rw [this]
   rw [List.drop_drop,List.append_assoc]
def byG (n:Int) (out:List UInt8):List UInt8:=if n > 0 then byG (n / 256) (UInt8.ofInt n :: out) else out
termination_by n.toNat
decreasing_by omega
def byF (n:Int):List UInt8:=byG n []
theorem pow256 (k:Nat):(256:Int) ^ (k+1)=256 ^ k*256:=Int.pow_succ _ _
theorem byG_len:∀ (k:Nat) (n:Int) (out:List UInt8),n < 256 ^ k→(byG n out).length≤out.length+k
 | k,n,out,h=>by
  rw [byG]
  split
  ·match k,h with
   | 0,h=>simp at h; omega
   | k+1,h =>
    have:=byG_len k (n / 256) (UInt8.ofInt n :: out) (by rw [pow256] at h; exact Int.ediv_lt_of_lt_mul (by omega) h)
    simp at this ⊢; omega
  ·omega
theorem byF_len {n:Int} (h:n≤9223372036854775807):(byF n).length≤8:=by
 have:=byG_len 8 n [] (by rw [show (256:Int) ^ 8=18446744073709551616 from by decide]; omega)
 simpa [byF] using this
theorem ofInt_mod {n:Int} (h:0≤n):UInt8.ofInt (n % 256)=UInt8.ofInt n:=by
 apply UInt8.toNat_inj.1
 simp [UInt8.ofInt]
theorem p_bytes (n:Int) (h:n≤9223372036854775807):f_tagged_bytes n=some (byF n):=by
 unfold f_tagged_bytes byF
 exact loop_spec (step:=fun st=>f_tagged_bytes_l1 st.1 st.2) (fun st:Int×List UInt8=>some (byG st.1 st.2)) (fun st=>∃ k,st.2.length+k≤8∧st.1 < 256 ^ k) (fun st=>st.1.toNat) (fun st hI=>by
  obtain ⟨n,out⟩:=st
  obtain ⟨k,i0,i1⟩:=hI
  simp only at i0 i1 ⊢
  unfold f_tagged_bytes_l1
  rw [byG]
  by_cases hn:n > 0
  ·rw [if_pos (by simpa using hn),if_pos hn,ck_pos (by simp; omega),ck_pos (by decide),show (2:Int) ^ Int.toNat 8=256 from rfl]
   match k,i1 with
   | 0,i1=>simp at i1; omega
   | k+1,i1=>exact .inr ⟨_,rfl,⟨k,by simp; omega,by rw [pow256] at i1; exact Int.ediv_lt_of_lt_mul (by omega) i1⟩,by simp only; omega,rfl⟩
  ·rw [if_neg (by simpa using hn),if_neg hn]
   exact .inl ⟨_,rfl,rfl⟩) ⟨8,by simp,by simp only; rw [show (256:Int) ^ 8=18446744073709551616 from by decide]; omega⟩ (by simp only; omega)
theorem p_shortest (n:Int) (h:n≤9223372036854775807):f_r10_shortest n=some (byF n):=by
 unfold f_r10_shortest byF
 exact loop_spec (step:=fun st=>f_r10_shortest_l1 st.1 st.2) (fun st:Int×List UInt8=>some (byG st.1 st.2)) (fun st=>st.1≤9223372036854775807∧∃ k,st.2.length+k≤8∧st.1 < 256 ^ k) (fun st=>st.1.toNat) (fun st hI=>by
  obtain ⟨n,out⟩:=st
  obtain ⟨i2,k,i0,i1⟩:=hI
  simp only at i0 i1 i2 ⊢
  unfold f_r10_shortest_l1
  rw [byG]
  by_cases hn:n > 0
  ·have ht:Int.tdiv n 256=n / 256:=Int.tdiv_eq_ediv_of_nonneg (by omega)
   have hm:Int.tmod n 256=n % 256:=Int.tmod_eq_emod_of_nonneg (by omega)
   rw [if_pos (by simpa using hn),if_pos hn,ht,hm,ofInt_mod (by omega),ck_pos (by decide),ck_pos (by simp; omega),ck_pos (by omega)]
   match k,i1 with
   | 0,i1=>simp at i1; omega
   | k+1,i1=>exact .inr ⟨_,rfl,⟨by simp only; omega,k,by simp; omega,by rw [pow256] at i1; exact Int.ediv_lt_of_lt_mul (by omega) i1⟩,by simp only; omega,rfl⟩
  ·rw [if_neg (by simpa using hn),if_neg hn]
   exact .inl ⟨_,rfl,rfl⟩) ⟨h,8,by simp,by simp only; rw [show (256:Int) ^ 8=18446744073709551616 from by decide]; omega⟩ (by simp only; omega)
theorem pack_post (s:List UInt8) (hs:s.length < 1000000000):∃ r,f_digits_Pack s=some r∧r.1.length≤8∧(validB s=false→r.1=[]):=by
 unfold f_digits_Pack
 rw [p_Valid s hs,Option.bind_some]
 cases hv:validB s with
 | false=>exact ⟨_,by rw [if_pos (by rfl)],by simp,fun _=>rfl⟩
 | true =>
  have hl:=validB_len hv
  rw [if_neg (by simp)]
  have:=loop_post (step:=fun st=>f_digits_Pack_l1 s st.1 st.2) (fun r:List UInt8×Int=>r.1.length≤8) (fun st:List UInt8×Int=>0≤st.2∧(2*st.1.length:Int)=st.2∧st.2≤(s.length:Int)+1) (fun st=>((s.length:Int) - st.2).toNat) (fun st hI=>by
   obtain ⟨b,i⟩:=st
   obtain ⟨i0,i1,i2⟩:=hI
   simp only at i0 i1 i2 ⊢
   unfold f_digits_Pack_l1
   by_cases hi:i < (s.length:Int)
   ·rw [if_pos (by simpa using hi),ck_pos (by omega)]
    by_cases hj:i+1 < (s.length:Int)
    ·rw [if_pos (by simpa using hj),ck_pos (by omega),ck_pos (by omega)]
     unfold f_digits_Pack_j1
     rw [ck_pos (by omega),ck_pos (by decide),ck_pos (by simp; omega),ck_pos (by omega)]
     exact .inr ⟨_,rfl,⟨by simp only; omega,by simp; omega,by simp only; omega⟩,by simp only; omega⟩
    ·rw [if_neg (by simpa using hj)]
     unfold f_digits_Pack_j1
     rw [ck_pos (by omega),ck_pos (by decide),ck_pos (by simp; omega),ck_pos (by omega)]
     exact .inr ⟨_,rfl,⟨by simp only; omega,by simp; omega,by simp only; omega⟩,by simp only; omega⟩
   ·rw [if_neg (by simpa using hi)]
    refine .inl ⟨_,rfl,?_⟩
    simp only
    omega) (s:=([],0)) ⟨by simp,by simp,by simp; omega⟩ (by simp only; omega)
  obtain ⟨r,h1,h2⟩:=this
  exact ⟨r,h1,h2,fun h=>by cases h⟩
theorem pack_same (s:List UInt8) (hs:s.length < 1000000000):f_r02_Pack s=f_digits_Pack s:=by
 unfold f_r02_Pack f_digits_Pack
 rw [p_Valid s hs,p_rValid s hs]
 rfl
def pkF (s:List UInt8):List UInt8:=((f_digits_Pack s).getD ([],0)).1
theorem p_Pack (s:List UInt8) (hs:s.length < 1000000000):∃ e,f_digits_Pack s=some (pkF s,e):=by
 obtain ⟨r,h,_⟩:=pack_post s hs
 exact ⟨r.2,by unfold pkF; rw [h]; rfl⟩
theorem pkF_len (s:List UInt8) (hs:s.length < 1000000000):(pkF s).length≤8:=by
 obtain ⟨r,h,h1,_⟩:=pack_post s hs
 unfold pkF; rw [h]; exact h1
theorem pkF_nil:pkF []=[]:=by
 obtain ⟨r,h,_,h2⟩:=pack_post [] (by simp)
 unfold pkF; rw [h]; exact h2 rfl
def one (tag:Int) (v:List UInt8):List Element:=if v.length=0 then [] else [⟨tag,v⟩]
theorem encL_app:∀ x y:List Element,encL (x++y)=encL x++encL y
 | [],y=>rfl
 | a :: x,y=>by rw [List.cons_append,encL,encL,encL_app x y]; simp only [List.append_assoc]
theorem one_len (tag:Int) (v:List UInt8) (h:v.length≤8):(encL (one tag v)).length≤10:=by
 unfold one; split
 ·simp [encL]
 ·simp [encL]; omega
theorem p_add (tag:Int) (v out:List UInt8) (h:out.length+v.length≤900000000):g_tagged_Encode_1 tag v out=some (out++encL (one tag v)):=by
 unfold g_tagged_Encode_1 one
 by_cases hv:v.length=0
 ·rw [if_neg (by simp; exact List.length_eq_zero_iff.1 hv),if_pos hv]; simp [encL]
 ·rw [if_pos (by simp; omega),if_neg hv]
  unfold g_tagged_put
  rw [ck_pos (by simp; omega),ck_pos (by simp; omega)]
  simp [encL]
def flI (r:Record):Int:=(if r.last=true then 1 else 0)+(if r.inbound=true then 2 else 0)
def valsF (r:Record):List (List UInt8):=[[],byF r.kind,byF r.source,byF r.serial,pkF r.a,pkF r.b,byF r.start,byF r.units,byF r.call,byF r.part,byF r.trunk,byF (flI r)]
def elsF (r:Record):List Element:=one 1 (byF r.kind)++one 2 (byF r.source)++one 3 (byF r.serial)++one 4 (pkF r.a)++one 5 (pkF r.b)++one 6 (byF r.start)++one 7 (byF r.units)++one 8 (byF r.call)++one 9 (byF r.part)++one 10 (byF r.trunk)++one 11 (byF (flI r))
def bytesT (r:Record):List UInt8:=[UInt8.ofInt (((encL (elsF r)).length:Int) / 256),UInt8.ofInt ((encL (elsF r)).length:Int)]++encL (elsF r)
theorem p_flag (b:Bool) (n:Int):f_tagged_flag b n=some (if b=true then n else 0):=by unfold f_tagged_flag; cases b <;> rfl
theorem p_flags (r:Record):f_r10_flags r=some (flI r):=by
 unfold f_r10_flags flI f_r10_flags_j1
 cases r.last <;> cases r.inbound <;> rfl
theorem flI_le (r:Record):0≤flI r∧flI r≤3:=by unfold flI; cases r.last <;> cases r.inbound <;> decide
theorem p_Encode10 (r:Record) (ha:r.a.length < 1000000000) (hb:r.b.length < 1000000000):f_tagged_Encode r=some (if errF r=0 then bytesT r else [],errF r):=by
 unfold f_tagged_Encode
 rw [p_Encode r ha hb,Option.bind_some]
 by_cases he:errF r=0
 ·have g:=errF_good he
  have gs:=g.source; have gr:=g.serial; have gk:=g.kind; have gt:=g.start; have gu:=g.units; have gc:=g.call; have gp:=g.part; have gkk:=g.trunk
  obtain ⟨e1,h1⟩:=p_Pack r.a ha
  obtain ⟨e2,h2⟩:=p_Pack r.b hb
  have k1:=pkF_len r.a ha
  have k2:=pkF_len r.b hb
  have hf:=flI_le r
  have b1:=byF_len (n:=r.kind) (by omega); have b2:=byF_len (n:=r.source) (by omega); have b3:=byF_len (n:=r.serial) (by omega); have b4:=byF_len (n:=r.start) (by omega)
  have b5:=byF_len (n:=r.units) (by omega); have b6:=byF_len (n:=r.call) (by omega); have b7:=byF_len (n:=r.part) (by omega); have b8:=byF_len (n:=r.trunk) (by omega); have b9:=byF_len (n:=flI r) (by omega)
  have o1:=one_len 1 _ b1; have o2:=one_len 2 _ b2; have o3:=one_len 3 _ b3; have o4:=one_len 4 _ k1; have o5:=one_len 5 _ k2; have o6:=one_len 6 _ b4
  have o7:=one_len 7 _ b5; have o8:=one_len 8 _ b6; have o9:=one_len 9 _ b7; have o10:=one_len 10 _ b8; have o11:=one_len 11 _ b9
  rw [if_neg (by simp [he]),h1,h2,if_pos he,he]
  simp only [Option.bind_some,p_flag]
  rw [ck_pos (by decide),show (List.replicate (Int.toNat 2) 0:List UInt8)=[0,0] from rfl]
  rw [p_bytes _ (by omega),Option.bind_some,p_add _ _ _ (by simp; omega),Option.bind_some,p_bytes _ (by omega),Option.bind_some,p_add _ _ _ (by simp; omega),Option.bind_some]
  rw [p_bytes _ (by omega),Option.bind_some,p_add _ _ _ (by simp; omega),Option.bind_some,p_add _ _ _ (by simp; omega),Option.bind_some,p_add _ _ _ (by simp; omega),Option.bind_some]
  rw [p_bytes _ (by omega),Option.bind_some,p_add _ _ _ (by simp; omega),Option.bind_some,p_bytes _ (by omega),Option.bind_some,p_add _ _ _ (by simp; omega),Option.bind_some]
  rw [p_bytes _ (by omega),Option.bind_some,p_add _ _ _ (by simp; omega),Option.bind_some,p_bytes _ (by omega),Option.bind_some,p_add _ _ _ (by simp; omega),Option.bind_some]
  rw [p_bytes _ (by omega),Option.bind_some,p_add _ _ _ (by simp; omega),Option.bind_some]
  rw [show ((if r.last=true then 1 else 0)+(if r.inbound=true then 2 else 0):Int)=flI r from rfl]
  rw [ck_pos (by omega),p_bytes _ (by omega),Option.bind_some,p_add _ _ _ (by simp; omega),Option.bind_some]
  have e:([0,0]++encL (one 1 (byF r.kind))++encL (one 2 (byF r.source))++encL (one 3 (byF r.serial))++encL (one 4 (pkF r.a))++encL (one 5 (pkF r.b))++encL (one 6 (byF r.start))++encL (one 7 (byF r.units))++encL (one 8 (byF r.call))++encL (one 9 (byF r.part))++encL (one 10 (byF r.trunk))++encL (one 11 (byF (flI r))):List UInt8)=0 :: 0 :: encL (elsF r):=by
   unfold elsF
   simp only [encL_app,List.append_assoc,List.cons_append,List.nil_append]
  have hl:(encL (elsF r)).length≤110:=by
   unfold elsF
   simp only [encL_app,List.length_append]
   omega
  rw [e]
  rw [ck_pos (by simp; omega),ck_pos (by decide),ck_pos (by simp; omega),ck_pos (by simp),ck_pos (by simp; omega),ck_pos (by simp)]
  have e3:(((0 :: 0 :: encL (elsF r):List UInt8).length:Int) - 2)=((encL (elsF r)).length:Int):=by simp; omega
  rw [e3,show (2:Int) ^ Int.toNat 8=256 from rfl]
  rfl
 ·rw [if_pos (by simpa using he)]; simp [he]
theorem okL_app:∀ (x y:List Element) (last m:Int),okL last x→(∀ e,e∈x→e.tag≤m)→last≤m→okL m y→okL last (x++y)
 | [],y,last,m,_,_,hm,hy=>by
  cases y with
  | nil=>trivial
  | cons a y=>exact ⟨hy.1,hy.2.1,by have:=hy.2.2.1; omega,hy.2.2.2⟩
 | a :: x,y,last,m,hx,hm,hl,hy=>⟨hx.1,hx.2.1,hx.2.2.1,hx.2.2.2.1,okL_app x y a.tag m hx.2.2.2.2 (fun e he=>hm e (List.mem_cons_of_mem _ he)) (hm a List.mem_cons_self) hy⟩
theorem okL_one {tag last:Int} {v:List UInt8} (h:1≤tag∧tag≤255∧last < tag) (hv:v.length≤8):okL last (one tag v):=by
 unfold one; split
 ·trivial
 ·exact ⟨h.1,h.2.1,h.2.2,by simp only; omega,trivial⟩
theorem one_tag {tag m:Int} {v:List UInt8} (h:tag≤m):∀ e,e∈one tag v→e.tag≤m:=by
 intro e he
 unfold one at he
 split at he
 ·cases he
 ·rw [List.mem_singleton] at he; subst he; exact h
theorem els_ok {r:Record} (g:Good r) (ha:r.a.length < 1000000000) (hb:r.b.length < 1000000000):okL 0 (elsF r):=by
 have gs:=g.source; have gr:=g.serial; have gk:=g.kind; have gt:=g.start; have gu:=g.units; have gc:=g.call; have gp:=g.part; have gkk:=g.trunk
 have k1:=pkF_len r.a ha
 have k2:=pkF_len r.b hb
 have hf:=flI_le r
 have b1:=byF_len (n:=r.kind) (by omega); have b2:=byF_len (n:=r.source) (by omega); have b3:=byF_len (n:=r.serial) (by omega); have b4:=byF_len (n:=r.start) (by omega)
 have b5:=byF_len (n:=r.units) (by omega); have b6:=byF_len (n:=r.call) (by omega); have b7:=byF_len (n:=r.part) (by omega); have b8:=byF_len (n:=r.trunk) (by omega); have b9:=byF_len (n:=flI r) (by omega)
 unfold elsF
 simp only [List.append_assoc]
 refine okL_app _ _ 0 1 (okL_one (by omega) b1) (one_tag (by omega)) (by omega) ?_
 refine okL_app _ _ 1 2 (okL_one (by omega) b2) (one_tag (by omega)) (by omega) ?_
 refine okL_app _ _ 2 3 (okL_one (by omega) b3) (one_tag (by omega)) (by omega) ?_
 refine okL_app _ _ 3 4 (okL_one (by omega) k1) (one_tag (by omega)) (by omega) ?_
 refine okL_app _ _ 4 5 (okL_one (by omega) k2) (one_tag (by omega)) (by omega) ?_
 refine okL_app _ _ 5 6 (okL_one (by omega) b4) (one_tag (by omega)) (by omega) ?_
 refine okL_app _ _ 6 7 (okL_one (by omega) b5) (one_tag (by omega)) (by omega) ?_
 refine okL_app _ _ 7 8 (okL_one (by omega) b6) (one_tag (by omega)) (by omega) ?_
 refine okL_app _ _ 8 9 (okL_one (by omega) b7) (one_tag (by omega)) (by omega) ?_
 refine okL_app _ _ 9 10 (okL_one (by omega) b8) (one_tag (by omega)) (by omega) ?_
 exact okL_one (by omega) b9
theorem els_count (r:Record):(elsF r).length≤11:=by
 have:∀ t v,(one t v).length≤1:=fun t v=>by unfold one; split <;> simp
 unfold elsF
 simp only [List.length_append]
 have h1:=this 1 (byF r.kind); have h2:=this 2 (byF r.source); have h3:=this 3 (byF r.serial); have h4:=this 4 (pkF r.a); have h5:=this 5 (pkF r.b); have h6:=this 6 (byF r.start)
 have h7:=this 7 (byF r.units); have h8:=this 8 (byF r.call); have h9:=this 9 (byF r.part); have h10:=this 10 (byF r.trunk); have h11:=this 11 (byF (flI r))
 omega
theorem enc_len {r:Record} (g:Good r) (ha:r.a.length < 1000000000) (hb:r.b.length < 1000000000):(encL (elsF r)).length≤110:=by
 have gs:=g.source; have gr:=g.serial; have gk:=g.kind; have gt:=g.start; have gu:=g.units; have gc:=g.call; have gp:=g.part; have gkk:=g.trunk
 have hf:=flI_le r
 have o1:=one_len 1 _ (byF_len (n:=r.kind) (by omega)); have o2:=one_len 2 _ (byF_len (n:=r.source) (by omega)); have o3:=one_len 3 _ (byF_len (n:=r.serial) (by omega)); have o4:=one_len 4 _ (pkF_len r.a ha); have o5:=one_len 5 _ (pkF_len r.b hb); have o6:=one_len 6 _ (byF_len (n:=r.start) (by omega))
 have o7:=one_len 7 _ (byF_len (n:=r.units) (by omega)); have o8:=one_len 8 _ (byF_len (n:=r.call) (by omega)); have o9:=one_len 9 _ (byF_len (n:=r.part) (by omega)); have o10:=one_len 10 _ (byF_len (n:=r.trunk) (by omega)); have o11:=one_len 11 _ (byF_len (n:=flI r) (by omega))
 unfold elsF
 simp only [encL_app,List.length_append]
 omega
theorem p_j2 {r:Record} (g:Good r) (ha:r.a.length < 1000000000) (hb:r.b.length < 1000000000):f_r10_Encode_j2 (elsF r)=some (bytesT r,0):=by
 have hl:=enc_len g ha hb
 unfold f_r10_Encode_j2
 rw [p_rBuild _ (by have:=els_count r; omega),bld_of_ok _ 0 [] (els_ok g ha hb),Option.bind_some,List.nil_append]
 have ht:Int.tdiv ((encL (elsF r)).length:Int) 256=((encL (elsF r)).length:Int) / 256:=Int.tdiv_eq_ediv_of_nonneg (by omega)
 have hm:Int.tmod ((encL (elsF r)).length:Int) 256=((encL (elsF r)).length:Int) % 256:=Int.tmod_eq_emod_of_nonneg (by omega)
 rw [ht,hm,ofInt_mod (by omega),ck_pos (by omega),ck_pos (by decide),ck_pos (by simp; omega)]
 rfl
theorem p_rEncode10 (r:Record) (ha:r.a.length < 1000000000) (hb:r.b.length < 1000000000):f_r10_Encode r=some (if errF r=0 then bytesT r else [],errF r):=by
 unfold f_r10_Encode
 rw [p_rError r ha hb,Option.bind_some]
 by_cases he:errF r=0
 ·have g:=errF_good he
  have gs:=g.source; have gr:=g.serial; have gk:=g.kind; have gt:=g.start; have gu:=g.units; have gc:=g.call; have gp:=g.part; have gkk:=g.trunk
  have hf:=flI_le r
  rw [if_neg (by simp [he]),if_pos he,he,pack_same _ ha,pack_same _ hb]
  obtain ⟨e1,h1⟩:=p_Pack r.a ha
  obtain ⟨e2,h2⟩:=p_Pack r.b hb
  rw [h1,Option.bind_some]
  have hj:f_r10_Encode_j1 r (pkF r.a,e1) (pkF r.b)=some (bytesT r,0):=by
   unfold f_r10_Encode_j1
   rw [p_shortest _ (by omega),Option.bind_some,p_shortest _ (by omega),Option.bind_some,p_shortest _ (by omega),Option.bind_some,p_shortest _ (by omega),Option.bind_some,p_shortest _ (by omega),Option.bind_some,p_shortest _ (by omega),Option.bind_some,p_shortest _ (by omega),Option.bind_some,p_shortest _ (by omega),Option.bind_some,p_flags,Option.bind_some,p_shortest _ (by omega),Option.bind_some]
   have step:∀ (acc:List Element) (k:Nat),acc.length≤12→1≤k→k < 12→f_r10_Encode_l1 (pkF r.a,e1) (pkF r.b) (byF r.kind) (byF r.source) (byF r.serial) (byF r.start) (byF r.units) (byF r.call) (byF r.part) (byF r.trunk) (byF (flI r)) acc (k:Int)=some (.inl (acc++one (k:Int) (nth (valsF r) k),(k:Int)+1)):=by
    intro acc k ha h1 h2
    unfold f_r10_Encode_l1
    rw [if_pos (by simp; omega),ck_pos (by simp; omega),Int.toNat_natCast]
    show (if (decide (((nth (valsF r) k).length:Int) > 0))=true then _ else _)=_
    unfold one
    by_cases hv:(nth (valsF r) k).length=0
    ·rw [if_neg (by simp; exact List.length_eq_zero_iff.1 hv),if_pos hv,ck_pos (by omega),List.append_nil]
    ·rw [if_pos (by simp; omega),if_neg hv,ck_pos (by simp; omega),ck_pos (by simp; omega),ck_pos (by omega)]
     rfl
   have oneS:∀ (n:Nat) (acc:List Element) (k:Nat),acc.length≤12→1≤k→k < 12 →
     iter (fun s=>f_r10_Encode_l1 (pkF r.a,e1) (pkF r.b) (byF r.kind) (byF r.source) (byF r.serial) (byF r.start) (byF r.units) (byF r.call) (byF r.part) (byF r.trunk) (byF (flI r)) s.1 s.2) (n+1) (acc,(k:Int)) =
     iter (fun s=>f_r10_Encode_l1 (pkF r.a,e1) (pkF r.b) (byF r.kind) (byF r.source) (byF r.serial) (byF r.start) (byF r.units) (byF r.call) (byF r.part) (byF r.trunk) (byF (flI r)) s.1 s.2) n (acc++one (k:Int) (nth (valsF r) k),((k+1:Nat):Int)):=by
    intro n acc k ha h1 h2
    conv=>lhs; unfold iter
    rw [step acc k ha h1 h2]
    rfl
   have stop:∀ (n:Nat) (acc:List Element) (q:List UInt8×Int),f_r10_Encode_l1 (pkF r.a,e1) (pkF r.b) (byF r.kind) (byF r.source) (byF r.serial) (byF r.start) (byF r.units) (byF r.call) (byF r.part) (byF r.trunk) (byF (flI r)) acc 12=some (.inr q)→iter (fun s=>f_r10_Encode_l1 (pkF r.a,e1) (pkF r.b) (byF r.kind) (byF r.source) (byF r.serial) (byF r.start) (byF r.units) (byF r.call) (byF r.part) (byF r.trunk) (byF (flI r)) s.1 s.2) (n+1) (acc,((11+1:Nat):Int))=some q:=by
    intro n acc q h
    unfold iter
    simp only [show ((11+1:Nat):Int)=12 from rfl,h]
   have len1:∀ t v,(one t v).length≤1:=fun t v=>by unfold one; split <;> simp
   have l1:=len1 1 (byF r.kind); have l2:=len1 2 (byF r.source); have l3:=len1 3 (byF r.serial); have l4:=len1 4 (pkF r.a); have l5:=len1 5 (pkF r.b); have l6:=len1 6 (byF r.start)
   have l7:=len1 7 (byF r.units); have l8:=len1 8 (byF r.call); have l9:=len1 9 (byF r.part); have l10:=len1 10 (byF r.trunk); have l11:=len1 11 (byF (flI r))
   unfold loop
   rw [show (18446744073709551616:Nat)=18446744073709551604+12 from rfl]
   rw [show (([]:List Element),(1:Int))=(([]:List Element),((1:Nat):Int)) from rfl]
   rw [oneS _ _ 1 (by simp) (by omega) (by omega),show nth (valsF r) 1=byF r.kind from rfl,oneS _ _ 2 (by simp; omega) (by omega) (by omega),show nth (valsF r) (1+1)=byF r.source from rfl]
   rw [oneS _ _ 3 (by simp; omega) (by omega) (by omega),show nth (valsF r) (2+1)=byF r.serial from rfl,oneS _ _ 4 (by simp; omega) (by omega) (by omega),show nth (valsF r) (3+1)=pkF r.a from rfl]
   rw [oneS _ _ 5 (by simp; omega) (by omega) (by omega),show nth (valsF r) (4+1)=pkF r.b from rfl,oneS _ _ 6 (by simp; omega) (by omega) (by omega),show nth (valsF r) (5+1)=byF r.start from rfl]
   rw [oneS _ _ 7 (by simp; omega) (by omega) (by omega),show nth (valsF r) (6+1)=byF r.units from rfl,oneS _ _ 8 (by simp; omega) (by omega) (by omega),show nth (valsF r) (7+1)=byF r.call from rfl]
   rw [oneS _ _ 9 (by simp; omega) (by omega) (by omega),show nth (valsF r) (8+1)=byF r.part from rfl,oneS _ _ 10 (by simp; omega) (by omega) (by omega),show nth (valsF r) (9+1)=byF r.trunk from rfl]
   rw [oneS _ _ 11 (by simp; omega) (by omega) (by omega),show nth (valsF r) (10+1)=byF (flI r) from rfl]
   refine stop _ _ _ ?_
   unfold f_r10_Encode_l1
   rw [if_neg (by simp)]
   exact (congrArg (Option.map fun z=>Sum.inr z) (p_j2 g ha hb)).trans rfl
  by_cases hbn:r.b=[]
  ·rw [if_neg (by simp [hbn])]
   rw [hbn,pkF_nil] at hj
   exact hj
  ·rw [if_pos (by simpa using hbn),h2,Option.bind_some]
   exact hj
 ·rw [if_pos (by simpa using he),if_neg he]
theorem u8_all {p:UInt8→Prop} (h:∀ n:Fin 256,p (UInt8.ofNat n.val)) (x:UInt8):p x:=by
 have:=h ⟨x.toNat,x.toNat_lt⟩
 simpa using this
theorem u8_hi (x:UInt8):u8shr x 4=x / 16:=u8_all (p:=fun x=>u8shr x 4=x / 16) (by decide +kernel) x
theorem u8_lo (x:UInt8):x &&& 15=x % 16:=u8_all (p:=fun x=>x &&& 15=x % 16) (by decide +kernel) x
def upkG:List UInt8→List UInt8
 | []=>[]
 | x :: r=>if x % 16≠15∨r≠[] then [48+x / 16]++[48+x % 16]++upkG r else [48+x / 16]
def finU (s:List UInt8):List UInt8×Int:=if validB s=true then (s,0) else ([],12)
def unpF (b:List UInt8):List UInt8×Int:=finU (upkG b)
theorem drop_ne {b:List UInt8} {i:Int} (h0:0≤i) (hi:i < (b.length:Int)):(b.drop (i.toNat+1)≠[])↔i < (b.length:Int) - 1:=by
 rw [ne_eq,List.drop_eq_nil_iff]; omega
theorem p_Unpack (b:List UInt8) (hb:b.length≤100000):f_digits_Unpack b=some (unpF b):=by
 unfold f_digits_Unpack
 have:=loop_spec (step:=fun st=>f_digits_Unpack_l1 b st.1 st.2) (fun st:List UInt8×Int=>some (finU (st.1++upkG (b.drop st.2.toNat)))) (fun st=>0≤st.2∧st.2≤(b.length:Int)∧(st.1.length:Int)≤2*st.2) (fun st=>((b.length:Int) - st.2).toNat) (fun st hI=>by
  obtain ⟨s,i⟩:=st
  obtain ⟨i0,i1,i2⟩:=hI
  simp only at i0 i1 i2 ⊢
  unfold f_digits_Unpack_l1
  by_cases hi:i < (b.length:Int)
  ·rw [if_pos (by simpa using hi),ck_pos (by omega),ck_pos (by decide),ck_pos (by simp; omega),ck_pos (by intro _; omega),drop_nth (show i.toNat < b.length by omega),upkG,u8_hi,u8_lo]
   by_cases hc:nth b i.toNat % 16≠15∨b.drop (i.toNat+1)≠[]
   ·have hc':((nth b i.toNat % 16 != 15) || decide (i < (b.length:Int) - 1))=true:=by
     rw [drop_ne i0 hi] at hc; simpa using hc
    rw [if_pos hc',if_pos hc,ck_pos (by simp; omega),ck_pos (by omega)]
    refine .inr ⟨_,rfl,⟨by simp only; omega,by simp only; omega,by simp; omega⟩,by simp only; omega,?_⟩
    simp only
    rw [show (i+1).toNat=i.toNat+1 by omega]
    simp
   ·have hc':¬ ((nth b i.toNat % 16 != 15) || decide (i < (b.length:Int) - 1))=true:=by
     rw [drop_ne i0 hi] at hc; simpa using hc
    rw [if_neg hc',if_neg hc,ck_pos (by omega)]
    refine .inr ⟨_,rfl,⟨by simp only; omega,by simp only; omega,by simp; omega⟩,by simp only; omega,?_⟩
    simp only
    have hd:b.drop (i.toNat+1)=[]:=Decidable.byContradiction fun h=>hc (.inr h)
    rw [show (i+1).toNat=i.toNat+1 by omega,hd]
    simp [upkG]
  ·rw [if_neg (by simpa using hi)]
   have hj:f_digits_Unpack_j1 s=some (finU s):=by
    unfold f_digits_Unpack_j1 finU
    rw [p_Valid s (by omega),Option.bind_some]
    cases validB s <;> rfl
   rw [hj]
   refine .inl ⟨_,rfl,?_⟩
   rw [List.drop_of_length_le (by omega)]
   simp [upkG]) (s:=([],0)) ⟨by simp,by simp,by simp⟩ (by simp only; omega)
 rw [this]
 simp [unpF]
def numS:Int→List UInt8→Int
 | n,[]=>n
 | n,x :: r=>numS (n*256+(x.toNat:Int)) r
def badN (v:List UInt8):Bool:=((decide ((v.length:Int) < 1)) || (decide ((v.length:Int) > 6))) || (nth v 0==0)
theorem pow_le6 {k:Nat} (h:k≤6):(256:Int) ^ k≤281474976710656:=by
 have:∀ j:Fin 7,(256:Int) ^ j.val≤281474976710656:=by decide +kernel
 exact this ⟨k,by omega⟩
theorem p_number (v:List UInt8) (hv:v.length≤100000):f_tagged_number v=some (if badN v=true then (0,false) else (numS 0 v,true)):=by
 unfold f_tagged_number badN
 rw [show Int.toNat 0=0 from rfl,ck_pos (by intro h; simp at h; omega)]
 by_cases hb:(((decide ((v.length:Int) < 1)) || (decide ((v.length:Int) > 6))) || (nth v 0==0))=true
 ·rw [if_pos hb,if_pos hb]
 ·rw [if_neg hb,if_neg hb]
  simp at hb
  have:=loop_spec (step:=fun st=>f_tagged_number_l1 v st.1 st.2) (fun st:Int×Int=>some (numS st.1 (v.drop st.2.toNat),true)) (fun st=>0≤st.2∧st.2≤(v.length:Int)∧0≤st.1∧st.1 < 256 ^ st.2.toNat) (fun st=>((v.length:Int) - st.2).toNat) (fun st hI=>by
   obtain ⟨n,i⟩:=st
   obtain ⟨i0,i1,i2,i3⟩:=hI
   simp only at i0 i1 i2 i3 ⊢
   unfold f_tagged_number_l1
   have hp:=pow_le6 (k:=i.toNat) (by omega)
   rw [show (2:Int) ^ Int.toNat 8=256 from rfl]
   by_cases hi:i < (v.length:Int)
   ·have hx:=(nth v i.toNat).toNat_lt
    rw [if_pos (by simpa using hi),ck_pos (by omega),ck_pos (by refine ⟨by omega,by omega,?_,?_⟩ <;> omega),ck_pos (by omega),ck_pos (by omega),drop_nth (show i.toNat < v.length by omega),numS]
    refine .inr ⟨_,rfl,⟨by simp only; omega,by simp only; omega,by simp only; omega,?_⟩,by simp only; omega,?_⟩
    ·simp only
     rw [show (i+1).toNat=i.toNat+1 by omega,pow256]
     omega
    ·simp only
     rw [show (i+1).toNat=i.toNat+1 by omega]
   ·rw [if_neg (by simpa using hi),List.drop_of_length_le (by omega)]
    exact .inl ⟨_,rfl,rfl⟩) (s:=(0,0)) ⟨by simp,by simp,by simp,by simp⟩ (by simp only; omega)
  rw [this]; rfl
def Z:Record:=⟨0,0,0,[],[],0,0,0,0,false,0,false⟩
def flagV (v:List UInt8):Bool:=decide (v.length=1) && decide (1≤(nth v 0).toNat) && decide ((nth v 0).toNat≤3)
def fldF (r:Record) (x:Element):Option Record :=
 if x.tag=4 then (if (unpF x.value).2=0 then some { r with a:=(unpF x.value).1 } else none)
 else if x.tag=5 then (if (unpF x.value).2=0 then some { r with b:=(unpF x.value).1 } else none)
 else if x.tag=11 then (if flagV x.value=true then some { r with last:=(nth x.value 0 % 2==1),inbound:=decide (nth x.value 0≥2) } else none)
 else if badN x.value=true then none
 else if x.tag=1 then some { r with kind:=numS 0 x.value }
 else if x.tag=2 then some { r with source:=numS 0 x.value }
 else if x.tag=3 then some { r with serial:=numS 0 x.value }
 else if x.tag=6 then some { r with start:=numS 0 x.value }
 else if x.tag=7 then some { r with units:=numS 0 x.value }
 else if x.tag=8 then some { r with call:=numS 0 x.value }
 else if x.tag=9 then some { r with part:=numS 0 x.value }
 else if x.tag=10 then some { r with trunk:=numS 0 x.value }
 else none
theorem unp_len (b:List UInt8):(unpF b).1.length≤15:=by
 unfold unpF finU
 split
 ·rename_i h; exact validB_len h
 ·simp
def SmallAB (r:Record):Prop:=r.a.length≤15∧r.b.length≤15
def foldF:Record→List Element→Option Record
 | r,[]=>some r
 | r,x :: l=>match fldF r x with
  | some r'=>foldF r' l
  | none=>none
def endF (r:Record):Record×Int:=if errF r≠0 then (Z,errF r) else (r,0)
def finD (ok:Bool) (r:Record) (l:List Element):Record×Int:=if ok=true then (match foldF r l with
 | some r'=>endF r'
 | none=>(Z,1)) else (Z,1)
theorem finD_nil (r:Record):finD true r []=endF r:=rfl
theorem finD_some {r r':Record} {x:Element} {l:List Element} (h:fldF r x=some r'):finD true r (x :: l)=finD true r' l:=by
 unfold finD; rw [foldF,h]
theorem finD_none {r:Record} {x:Element} {l:List Element} (h:fldF r x=none):finD true r (x :: l)=(Z,1):=by
 unfold finD; rw [foldF,h]; rfl
def headN (b:List UInt8):Nat:=(nth b 0).toNat*256+(nth b 1).toNat
def decT (b:List UInt8):Record×Int :=
 if b.length < 2∨b.length-2 < headN b then (Z,2) else if b.length-2 > headN b then (Z,3)
 else if (elmF 0 [] (b.drop 2)).2≠0 then (Z,(elmF 0 [] (b.drop 2)).2) else finD true Z (elmF 0 [] (b.drop 2)).1
theorem okL_mem:∀ (l:List Element) (last:Int),okL last l→0≤last→∀ x,x∈l→1≤x.tag∧x.value.length≤255
 | [],_,_,_,x,hx=>by cases hx
 | a :: l,last,h,h0,x,hx=>by
  rcases List.mem_cons.1 hx with e | e
  ·subst e; exact ⟨h.1,h.2.2.2.1⟩
  ·exact okL_mem l a.tag h.2.2.2.2 (by have:=h.1; omega) x e
def mkR (t:Int×Int×Int×List UInt8×List UInt8×Int×Int×Int×Int×Bool×Int×Bool):Record :=
 ⟨t.1,t.2.1,t.2.2.1,t.2.2.2.1,t.2.2.2.2.1,t.2.2.2.2.2.1,t.2.2.2.2.2.2.1,t.2.2.2.2.2.2.2.1,t.2.2.2.2.2.2.2.2.1,t.2.2.2.2.2.2.2.2.2.1,t.2.2.2.2.2.2.2.2.2.2.1,t.2.2.2.2.2.2.2.2.2.2.2⟩
theorem elm_len' (b:List UInt8):(elmF 0 [] b).1.length≤b.length:=by
 have key:∀ (n:Nat) (b:List UInt8) (last:Int) (out:List Element),b.length≤n→(elmF last out b).1.length≤out.length+b.length:=by
  intro n
  induction n with
  | zero=>intro b last out hn; rw [elmF,if_pos (by omega)]; simp
  | succ n ih =>
   intro b last out hn
   rw [elmF]
   split
   ·simp
   ·split
    ·simp
    ·split
     ·simp
     ·split
      ·simp
      ·have:=ih (b.drop (2+(nth b 1).toNat)) (nth b 0).toNat (out++[⟨((nth b 0).toNat:Int),(b.drop 2).take (nth b 1).toNat⟩]) (by rw [List.length_drop]; omega)
       simp at this ⊢
       omega
 have:=key _ b 0 [] (Nat.le_refl _)
 simpa using this
theorem elm_mem {b:List UInt8} (h:(elmF 0 [] b).2=0):∀ x,x∈(elmF 0 [] b).1→1≤x.tag∧x.value.length≤255:=by
 obtain ⟨l,e1,e2,_⟩:=elm_back _ b 0 [] (Nat.le_refl _) (by omega) h
 rw [List.nil_append] at e1
 rw [e1]
 exact okL_mem l 0 e2 (by omega)
theorem byG_app:∀ (k:Nat) (n:Int) (out:List UInt8),n.toNat≤k→byG n out=byF n++out
 | k,n,out,h=>by
  unfold byF
  rw [byG]
  conv=>rhs; rw [byG]
  by_cases hn:n > 0
  ·rw [if_pos hn,if_pos hn]
   match k,h with
   | 0,h=>omega
   | k+1,h =>
    rw [byG_app k (n / 256) _ (by omega),byG_app k (n / 256) [UInt8.ofInt n] (by omega)]
    simp
  ·rw [if_neg hn,if_neg hn]; rfl
theorem byF_pos {n:Int} (h:n > 0):byF n=byF (n / 256)++[UInt8.ofInt n]:=by
 conv=>lhs; unfold byF; rw [byG,if_pos h]
 exact byG_app _ _ _ (Nat.le_refl _)
theorem byF_zero {n:Int} (h:n≤0):byF n=[]:=by unfold byF; rw [byG,if_neg (by omega)]
theorem ofInt_nat (n:Int) (h:0≤n):((UInt8.ofInt n).toNat:Int)=n % 256:=by
 rw [←ofInt_mod h]; exact byte_back (by omega)
theorem numS_app:∀ (x y:List UInt8) (m:Int),numS m (x++y)=numS (numS m x) y
 | [],y,m=>rfl
 | a :: x,y,m=>by rw [List.cons_append,numS,numS,numS_app x y]
theorem numS_byF:∀ (k:Nat) (n:Int),0≤n→n.toNat≤k→numS 0 (byF n)=n
 | k,n,h0,h=>by
  by_cases hn:n > 0
  ·match k,h with
   | 0,h=>omega
   | k+1,h =>
    rw [byF_pos hn,numS_app,numS_byF k (n / 256) (by omega) (by omega),numS,numS,ofInt_nat n h0]
    omega
  ·rw [byF_zero (by omega),numS]; omega
theorem byF_first:∀ (k:Nat) (n:Int),0 < n→n.toNat≤k→byF n≠[]∧nth (byF n) 0≠0
 | k,n,h0,h=>by
  rw [byF_pos h0]
  by_cases hq:n / 256 > 0
  ·match k,h with
   | 0,h=>omega
   | k+1,h =>
    obtain ⟨h1,h2⟩:=byF_first k (n / 256) hq (by omega)
    refine ⟨by simp,?_⟩
    match hb:byF (n / 256),h1,h2 with
    | x :: r,_,h2=>exact h2
  ·rw [byF_zero (by omega)]
   refine ⟨by simp,fun e=>?_⟩
   have e':UInt8.ofInt n=0:=e
   have:=ofInt_nat n (by omega)
   rw [e'] at this
   simp at this
   omega
theorem byF_good {n:Int} (h0:0 < n) (h1:n < 281474976710656):badN (byF n)=false:=by
 obtain ⟨a1,a2⟩:=byF_first n.toNat n h0 (Nat.le_refl _)
 have hl:=byG_len 6 n [] (by rw [show (256:Int) ^ 6=281474976710656 from by decide]; omega)
 have hl':(byF n).length≤6:=by simpa [byF] using hl
 have hp:0 < (byF n).length:=List.length_pos_iff.2 a1
 unfold badN
 simp [a2]
 omega
theorem num_back {n:Int} (h0:0 < n):numS 0 (byF n)=n:=numS_byF n.toNat n (by omega) (Nat.le_refl _)
def pkG:List UInt8→List UInt8
 | []=>[]
 | [c]=>[(u8shl (c-48) 4) ||| 15]
 | c :: d :: r=>((u8shl (c-48) 4) ||| (d-48)) :: pkG r
theorem pkG_one {l:List UInt8} (h:l.length=1):pkG l=[(u8shl (nth l 0-48) 4) ||| 15]:=by
 match l,h with
 | [c],_=>rfl
theorem pkG_two {l:List UInt8} (h:2≤l.length):pkG l=((u8shl (nth l 0-48) 4) ||| (nth l 1-48)) :: pkG (l.drop 2):=by
 match l,h with
 | c :: d :: r,_=>rfl
theorem p_PackG (s:List UInt8) (hv:validB s=true):f_digits_Pack s=some (pkG s,0):=by
 have hl:=validB_len hv
 unfold f_digits_Pack
 rw [p_Valid s (by omega),Option.bind_some,hv,if_neg (by simp)]
 have:=loop_spec (step:=fun st=>f_digits_Pack_l1 s st.1 st.2) (fun st:List UInt8×Int=>some (st.1++pkG (s.drop st.2.toNat),(0:Int))) (fun st:List UInt8×Int=>0≤st.2∧(2*st.1.length:Int)=st.2∧st.2≤(s.length:Int)+1) (fun st=>((s.length:Int) - st.2).toNat) (fun st hI=>by
  obtain ⟨b,i⟩:=st
  obtain ⟨i0,i1,i2⟩:=hI
  simp only at i0 i1 i2 ⊢
  unfold f_digits_Pack_l1
  by_cases hi:i < (s.length:Int)
  ·have n0:nth (s.drop i.toNat) 0=nth s i.toNat:=by rw [nth_drop _ _ _ (by omega)]; rfl
   rw [if_pos (by simpa using hi),ck_pos (by omega)]
   by_cases hj:i+1 < (s.length:Int)
   ·have n1:nth (s.drop i.toNat) 1=nth s (i.toNat+1):=by rw [nth_drop _ _ _ (by omega)]
    rw [if_pos (by simpa using hj),ck_pos (by omega),ck_pos (by omega)]
    unfold f_digits_Pack_j1
    rw [ck_pos (by omega),ck_pos (by decide),ck_pos (by simp; omega),ck_pos (by omega),pkG_two (by rw [List.length_drop]; omega),n0,n1,show Int.toNat (i+1)=i.toNat+1 by omega]
    refine .inr ⟨_,rfl,⟨by simp only; omega,by simp; omega,by simp only; omega⟩,by simp only; omega,?_⟩
    simp only
    rw [List.drop_drop,show (i+2).toNat=i.toNat+2 by omega]
    simp
   ·rw [if_neg (by simpa using hj)]
    unfold f_digits_Pack_j1
    rw [ck_pos (by omega),ck_pos (by decide),ck_pos (by simp; omega),ck_pos (by omega),pkG_one (by rw [List.length_drop]; omega),n0]
    refine .inr ⟨_,rfl,⟨by simp only; omega,by simp; omega,by simp only; omega⟩,by simp only; omega,?_⟩
    simp only
    rw [List.drop_of_length_le (show s.length≤(i+2).toNat by omega)]
    simp [pkG]
  ·rw [if_neg (by simpa using hi),List.drop_of_length_le (by omega)]
   exact .inl ⟨_,rfl,by simp [pkG]⟩) (s:=([],0)) ⟨by simp,by simp,by simp; omega⟩ (by simp only; omega)
 rw [this]; simp
theorem pkF_valid {s:List UInt8} (hv:validB s=true):pkF s=pkG s:=by
 unfold pkF; rw [p_PackG s hv]; rfl
theorem two_tab:∀ x y:Fin 10,let c:=UInt8.ofNat (48+x.val); let d:=UInt8.ofNat (48+y.val); let b:=(u8shl (c-48) 4) ||| (d-48); (b % 16≠15)∧48+b / 16=c∧48+b % 16=d:=by decide +kernel
theorem one_tab:∀ x:Fin 10,let c:=UInt8.ofNat (48+x.val); let b:=(u8shl (c-48) 4) ||| 15; (b % 16=15)∧48+b / 16=c:=by decide +kernel
theorem dig_fin {c:UInt8} (h:isDig c=true):∃ x:Fin 10,c=UInt8.ofNat (48+x.val):=by
 unfold isDig at h
 simp only [Bool.and_eq_true,decide_eq_true_eq,UInt8.le_iff_toNat_le] at h
 have h1:(48:UInt8).toNat=48:=rfl
 have h2:(57:UInt8).toNat=57:=rfl
 refine ⟨⟨c.toNat-48,by omega⟩,?_⟩
 apply UInt8.toNat_inj.1
 rw [UInt8.toNat_ofNat']
 have:=c.toNat_lt
 show c.toNat=(48+(c.toNat-48)) % 2 ^ 8
 omega
theorem upk_pk:∀ s:List UInt8,s.all isDig=true→upkG (pkG s)=s
 | [],_=>rfl
 | [c],h=>by
  simp at h
  obtain ⟨x,rfl⟩:=dig_fin h
  have:=one_tab x
  simp only at this
  rw [pkG,upkG,if_neg (fun h=>h.elim (fun h=>h this.1) (fun h=>h rfl)),this.2]
 | c :: d :: r,h=>by
  simp at h
  obtain ⟨x,rfl⟩:=dig_fin h.1
  obtain ⟨y,rfl⟩:=dig_fin h.2.1
  have:=two_tab x y
  simp only at this
  rw [pkG,upkG,if_pos (.inl this.1),this.2.1,this.2.2,upk_pk r (by simpa using h.2.2)]
  rfl
theorem tel_back {s:List UInt8} (hv:validB s=true):unpF (pkF s)=(s,0):=by
 have hd:s.all isDig=true:=by
  unfold validB at hv
  simp only [Bool.and_eq_true] at hv
  exact hv.1.1
 rw [pkF_valid hv]
 unfold unpF finU
 rw [upk_pk s hd,if_pos hv]
theorem num_step {r0:Record} {rest:List Element} {t n:Int} (set:Int→Record) (h0:0≤n) (h1:n < 281474976710656) (hz:set 0=r0) (hf:∀ v,badN v=false→fldF r0 ⟨t,v⟩=some (set (numS 0 v))) :
  foldF r0 (one t (byF n)++rest)=foldF (set n) rest:=by
 unfold one
 by_cases hn:n > 0
 ·obtain ⟨a1,_⟩:=byF_first n.toNat n hn (Nat.le_refl _)
  rw [if_neg (fun h=>a1 (List.length_eq_zero_iff.1 h)),List.singleton_append,foldF,hf _ (byF_good hn h1),num_back hn]
 ·have:n=0:=by omega
  subst this
  rw [byF_zero (by omega),if_pos (show ([]:List UInt8).length=0 from rfl),List.nil_append,hz]
theorem tel_step {r0:Record} {rest:List Element} {t:Int} {s:List UInt8} (set:List UInt8→Record) (hv:validB s=true∨s=[]) (hz:set []=r0) (hf:∀ v,(unpF v).2=0→fldF r0 ⟨t,v⟩=some (set (unpF v).1)) :
  foldF r0 (one t (pkF s)++rest)=foldF (set s) rest:=by
 unfold one
 rcases hv with hv | hv
 ·have hb:=tel_back hv
  have hne:¬ (pkF s).length=0:=by
   intro h
   have:pkF s=[]:=List.length_eq_zero_iff.1 h
   rw [this] at hb
   have e:=congrArg Prod.snd hb
   have e2:(unpF []).2=12:=rfl
   rw [e2] at e
   cases e
  rw [if_neg hne,List.singleton_append,foldF,hf _ (by rw [hb]),hb]
 ·subst hv
  rw [pkF_nil,if_pos (show ([]:List UInt8).length=0 from rfl),List.nil_append,hz]
theorem flag_step {r0:Record} {r:Record} (hl:r0.last=false) (hi:r0.inbound=false):foldF r0 (one 11 (byF (flI r)))=some { r0 with last:=r.last,inbound:=r.inbound }:=by
 have hb:∀ n:Fin 4,byF (n.val:Int)=if n.val=0 then [] else [UInt8.ofNat n.val]:=by
  intro n
  match n with
  | ⟨0,_⟩=>rw [byF_zero (by simp)]; rfl
  | ⟨1,_⟩=>rw [byF_pos (by simp),byF_zero (by simp)]; rfl
  | ⟨2,_⟩=>rw [byF_pos (by simp),byF_zero (by simp)]; rfl
  | ⟨3,_⟩=>rw [byF_pos (by simp),byF_zero (by simp)]; rfl
 have h0:byF 0=[]:=hb 0
 have h1:byF 1=[1]:=hb 1
 have h2:byF 2=[2]:=hb 2
 have h3:byF 3=[3]:=hb 3
 obtain ⟨s,e,k,a,b,st,u,c,p,la,tr,ib⟩:=r0
 simp only at hl hi
 subst hl hi
 unfold flI one
 cases r.last <;> cases r.inbound
 ·simp only [Bool.false_eq_true,if_false,Int.add_zero]; rw [h0]; rfl
 ·simp only [Bool.false_eq_true,if_false,if_true,Int.zero_add]; rw [h2]; rfl
 ·simp only [Bool.false_eq_true,if_false,if_true,Int.add_zero]; rw [h1]; rfl
 ·simp only [if_true]; rw [show (1+2:Int)=3 from rfl,h3]; rfl
theorem fold_els {r:Record} (g:Good r):foldF Z (elsF r)=some r:=by
 have gs:=g.source; have gr:=g.serial; have gk:=g.kind; have gt:=g.start; have gu:=g.units; have gc:=g.call; have gp:=g.part; have gkk:=g.trunk
 have gb:validB r.b=true∨r.b=[]:=g.b.elim .inl (fun h=>.inr h.2)
 have nb:∀ {t:Int} {v:List UInt8} {r0:Record},badN v=false→(¬ t=4∧¬ t=5∧¬ t=11)→fldF r0 ⟨t,v⟩=(if t=1 then some { r0 with kind:=numS 0 v } else if t=2 then some { r0 with source:=numS 0 v } else if t=3 then some { r0 with serial:=numS 0 v } else if t=6 then some { r0 with start:=numS 0 v } else if t=7 then some { r0 with units:=numS 0 v } else if t=8 then some { r0 with call:=numS 0 v } else if t=9 then some { r0 with part:=numS 0 v } else if t=10 then some { r0 with trunk:=numS 0 v } else none):=by
  intro t v r0 hv ht
  unfold fldF
  simp only
  rw [if_neg ht.1,if_neg ht.2.1,if_neg ht.2.2,if_neg (by rw [hv]; simp)]
 unfold elsF
 simp only [List.append_assoc]
 unfold Z
 rw [num_step (r0:=⟨0,0,0,[],[],0,0,0,0,false,0,false⟩) (fun n=>⟨0,0,n,[],[],0,0,0,0,false,0,false⟩) (by omega) (by omega) rfl (fun v hv=>by rw [nb hv (by decide)]; rfl)]
 rw [num_step (r0:=⟨0,0,r.kind,[],[],0,0,0,0,false,0,false⟩) (fun n=>⟨n,0,r.kind,[],[],0,0,0,0,false,0,false⟩) (by omega) (by omega) rfl (fun v hv=>by rw [nb hv (by decide)]; rfl)]
 rw [num_step (r0:=⟨r.source,0,r.kind,[],[],0,0,0,0,false,0,false⟩) (fun n=>⟨r.source,n,r.kind,[],[],0,0,0,0,false,0,false⟩) (by omega) (by omega) rfl (fun v hv=>by rw [nb hv (by decide)]; rfl)]
 rw [tel_step (r0:=⟨r.source,r.serial,r.kind,[],[],0,0,0,0,false,0,false⟩) (fun n=>⟨r.source,r.serial,r.kind,n,[],0,0,0,0,false,0,false⟩) (.inl g.a) rfl (fun v hv=>by unfold fldF; simp only; rw [if_pos trivial,if_pos hv])]
 rw [tel_step (r0:=⟨r.source,r.serial,r.kind,r.a,[],0,0,0,0,false,0,false⟩) (fun n=>⟨r.source,r.serial,r.kind,r.a,n,0,0,0,0,false,0,false⟩) gb rfl (fun v hv=>by unfold fldF; simp only; rw [if_neg (by decide),if_pos trivial,if_pos hv])]
 rw [num_step (r0:=⟨r.source,r.serial,r.kind,r.a,r.b,0,0,0,0,false,0,false⟩) (fun n=>⟨r.source,r.serial,r.kind,r.a,r.b,n,0,0,0,false,0,false⟩) (by omega) (by omega) rfl (fun v hv=>by rw [nb hv (by decide)]; rfl)]
 rw [num_step (r0:=⟨r.source,r.serial,r.kind,r.a,r.b,r.start,0,0,0,false,0,false⟩) (fun n=>⟨r.source,r.serial,r.kind,r.a,r.b,r.start,n,0,0,false,0,false⟩) (by omega) (by omega) rfl (fun v hv=>by rw [nb hv (by decide)]; rfl)]
 rw [num_step (r0:=⟨r.source,r.serial,r.kind,r.a,r.b,r.start,r.units,0,0,false,0,false⟩) (fun n=>⟨r.source,r.serial,r.kind,r.a,r.b,r.start,r.units,n,0,false,0,false⟩) (by omega) (by omega) rfl (fun v hv=>by rw [nb hv (by decide)]; rfl)]
 rw [num_step (r0:=⟨r.source,r.serial,r.kind,r.a,r.b,r.start,r.units,r.call,0,false,0,false⟩) (fun n=>⟨r.source,r.serial,r.kind,r.a,r.b,r.start,r.units,r.call,n,false,0,false⟩) (by omega) (by omega) rfl (fun v hv=>by rw [nb hv (by decide)]; rfl)]
 rw [num_step (r0:=⟨r.source,r.serial,r.kind,r.a,r.b,r.start,r.units,r.call,r.part,false,0,false⟩) (fun n=>⟨r.source,r.serial,r.kind,r.a,r.b,r.start,r.units,r.call,r.part,false,n,false⟩) (by omega) (by omega) rfl (fun v hv=>by rw [nb hv (by decide)]; rfl)]
 rw [flag_step rfl rfl]
theorem bytesT_parts {r:Record} (h:(encL (elsF r)).length≤110):(bytesT r).length=2+(encL (elsF r)).length∧headN (bytesT r)=(encL (elsF r)).length∧(bytesT r).drop 2=encL (elsF r):=by
 refine ⟨by simp [bytesT]; omega,?_,rfl⟩
 unfold headN
 have e0:nth (bytesT r) 0=UInt8.ofInt (((encL (elsF r)).length:Int) / 256):=rfl
 have e1:nth (bytesT r) 1=UInt8.ofInt ((encL (elsF r)).length:Int):=rfl
 rw [e0,e1]
 have h1:=ofInt_nat (((encL (elsF r)).length:Int) / 256) (by omega)
 have h2:=ofInt_nat ((encL (elsF r)).length:Int) (by omega)
 omega
theorem dec_back {r:Record} (ha:r.a.length < 1000000000) (hb:r.b.length < 1000000000) (h:errF r=0):decT (bytesT r)=(r,0):=by
 have g:=errF_good h
 obtain ⟨e1,e2,e3⟩:=bytesT_parts (enc_len g ha hb)
 unfold decT
 rw [e1,e2,e3,if_neg (by omega),if_neg (by omega),elm_enc _ 0 [] (els_ok g ha hb),if_neg (by simp),List.nil_append]
 unfold finD endF
 rw [fold_els g]
 simp [h]
theorem nth_app (x y:List UInt8) (i:Nat) (h:i < x.length):nth (x++y) i=nth x i:=by
 rw [nth_eq (by simp; omega),nth_eq h,List.getElem_append_left h]
theorem and1:∀ x:UInt8,((x &&& 1) != 0)=(x % 2==1):=u8_all (by decide +kernel)
theorem and2:∀ x:UInt8,x.toNat≤3→((x &&& 2) != 0)=decide (x≥2):=u8_all (by decide +kernel)
theorem small_a {r:Record} {s:List UInt8} (h:SmallAB r) (hs:s.length≤15):SmallAB { r with a:=s }:=⟨hs,h.2⟩
theorem small_b {r:Record} {s:List UInt8} (h:SmallAB r) (hs:s.length≤15):SmallAB { r with b:=s }:=⟨h.1,hs⟩
def Fits (r:Record) (x:Element) (ok:Bool) (r':Record):Prop:=(ok=true∧fldF r x=some r'∧SmallAB r')∨(ok=false∧fldF r x=none)
theorem p_tfield_j1 (r:Record) (x:Element) (hx:x.value.length≤100000) (hs:SmallAB r) (hn:x.tag≠1∧x.tag≠2∧x.tag≠3∧x.tag≠6∧x.tag≠7∧x.tag≠8∧x.tag≠9∧x.tag≠10) :
  ∃ ok r',g_tagged_field_j1 x r (x.tag==4 || x.tag==5)=some (ok,r')∧Fits r x ok r':=by
 obtain ⟨n1,n2,n3,n6,n7,n8,n9,n10⟩:=hn
 have hu:=unp_len x.value
 unfold g_tagged_field_j1 Fits fldF
 by_cases h4:x.tag=4
 ·rw [if_pos (by simp [h4]),p_Unpack _ hx,Option.bind_some,if_pos (by simp [h4]),if_pos h4]
  refine ⟨_,_,rfl,?_⟩
  by_cases he:(unpF x.value).2=0
  ·rw [if_pos he]; exact .inl ⟨by simpa using he,rfl,small_a hs hu⟩
  ·rw [if_neg he]; exact .inr ⟨by simpa using he,rfl⟩
 rw [if_neg h4]
 by_cases h5:x.tag=5
 ·rw [if_pos (by simp [h5]),p_Unpack _ hx,Option.bind_some,if_neg (by simp [h5]),if_pos h5]
  refine ⟨_,_,rfl,?_⟩
  by_cases he:(unpF x.value).2=0
  ·rw [if_pos he]; exact .inl ⟨by simpa using he,rfl,small_b hs hu⟩
  ·rw [if_neg he]; exact .inr ⟨by simpa using he,rfl⟩
 rw [if_neg (by simp [h4,h5]),if_neg h5]
 by_cases h11:x.tag=11
 ·rw [if_pos (by simpa using h11),if_pos h11,show Int.toNat 0=0 from rfl,ck_pos (by intro h; simp at h; omega),ck_pos (by intro h; simp at h; omega)]
  have hf:(((((x.value.length:Int) != 1) || (decide (nth x.value 0 < 1))) || (decide (nth x.value 0 > 3)))=true)↔¬ flagV x.value=true:=by
   unfold flagV
   have a1:(nth x.value 0 < 1)↔(nth x.value 0).toNat < 1:=UInt8.lt_iff_toNat_lt
   have a2:(nth x.value 0 > 3)↔3 < (nth x.value 0).toNat:=UInt8.lt_iff_toNat_lt
   simp only [Bool.or_eq_true,bne_iff_ne,ne_eq,decide_eq_true_eq,Bool.and_eq_true,a1,a2]
   omega
  by_cases hv:flagV x.value=true
  ·rw [if_neg (fun h=>(hf.1 h) hv),if_pos hv]
   have h1:x.value.length=1∧(nth x.value 0).toNat≤3:=by
    unfold flagV at hv
    simp only [Bool.and_eq_true,decide_eq_true_eq] at hv
    exact ⟨hv.1.1,hv.2⟩
   rw [ck_pos (by omega),ck_pos (by omega),and1,and2 _ h1.2]
   exact ⟨_,_,rfl,.inl ⟨rfl,rfl,hs⟩⟩
  ·rw [if_pos (hf.2 hv),if_neg hv]
   exact ⟨_,_,rfl,.inr ⟨rfl,rfl⟩⟩
 rw [if_neg (by simpa using h11),if_neg h11]
 refine ⟨_,_,rfl,.inr ⟨rfl,?_⟩⟩
 by_cases hb:badN x.value=true
 ·rw [if_pos hb]
 ·rw [if_neg hb,if_neg n1,if_neg n2,if_neg n3,if_neg n6,if_neg n7,if_neg n8,if_neg n9,if_neg n10]
theorem p_tfield (r:Record) (x:Element) (hx:x.value.length≤100000) (hs:SmallAB r):∃ ok r',g_tagged_field x r=some (ok,r')∧Fits r x ok r':=by
 unfold g_tagged_field
 by_cases h1:x.tag=1
 ·rw [if_pos (decide_eq_true h1),p_number _ hx,Option.bind_some]
  refine ⟨_,_,rfl,?_⟩
  unfold Fits fldF
  rw [if_neg (show ¬ x.tag=4 by omega),if_neg (show ¬ x.tag=5 by omega),if_neg (show ¬ x.tag=11 by omega)]
  by_cases hb:badN x.value=true
  ·rw [if_pos hb,if_pos hb]; exact .inr ⟨rfl,rfl⟩
  ·rw [if_neg hb,if_neg hb,if_pos h1]; exact .inl ⟨rfl,rfl,hs⟩
 rw [if_neg (by simpa using h1)]
 by_cases h2:x.tag=2
 ·rw [if_pos (decide_eq_true h2),p_number _ hx,Option.bind_some]
  refine ⟨_,_,rfl,?_⟩
  unfold Fits fldF
  rw [if_neg (show ¬ x.tag=4 by omega),if_neg (show ¬ x.tag=5 by omega),if_neg (show ¬ x.tag=11 by omega)]
  by_cases hb:badN x.value=true
  ·rw [if_pos hb,if_pos hb]; exact .inr ⟨rfl,rfl⟩
  ·rw [if_neg hb,if_neg hb,if_neg h1,if_pos h2]; exact .inl ⟨rfl,rfl,hs⟩
 rw [if_neg (by simpa using h2)]
 by_cases h3:x.tag=3
 ·rw [if_pos (decide_eq_true h3),p_number _ hx,Option.bind_some]
  refine ⟨_,_,rfl,?_⟩
  unfold Fits fldF
  rw [if_neg (show ¬ x.tag=4 by omega),if_neg (show ¬ x.tag=5 by omega),if_neg (show ¬ x.tag=11 by omega)]
  by_cases hb:badN x.value=true
  ·rw [if_pos hb,if_pos hb]; exact .inr ⟨rfl,rfl⟩
  ·rw [if_neg hb,if_neg hb,if_neg h1,if_neg h2,if_pos h3]; exact .inl ⟨rfl,rfl,hs⟩
 rw [if_neg (by simpa using h3)]
 by_cases h6:x.tag=6
 ·rw [if_pos (decide_eq_true h6),p_number _ hx,Option.bind_some]
  refine ⟨_,_,rfl,?_⟩
  unfold Fits fldF
  rw [if_neg (show ¬ x.tag=4 by omega),if_neg (show ¬ x.tag=5 by omega),if_neg (show ¬ x.tag=11 by omega)]
  by_cases hb:badN x.value=true
  ·rw [if_pos hb,if_pos hb]; exact .inr ⟨rfl,rfl⟩
  ·rw [if_neg hb,if_neg hb,if_neg h1,if_neg h2,if_neg h3,if_pos h6]; exact .inl ⟨rfl,rfl,hs⟩
 rw [if_neg (by simpa using h6)]
 by_cases h7:x.tag=7
 ·rw [if_pos (decide_eq_true h7),p_number _ hx,Option.bind_some]
  refine ⟨_,_,rfl,?_⟩
  unfold Fits fldF
  rw [if_neg (show ¬ x.tag=4 by omega),if_neg (show ¬ x.tag=5 by omega),if_neg (show ¬ x.tag=11 by omega)]
  by_cases hb:badN x.value=true
  ·rw [if_pos hb,if_pos hb]; exact .inr ⟨rfl,rfl⟩
  ·rw [if_neg hb,if_neg hb,if_neg h1,if_neg h2,if_neg h3,if_neg h6,if_pos h7]; exact .inl ⟨rfl,rfl,hs⟩
 rw [if_neg (by simpa using h7)]
 by_cases h8:x.tag=8
 ·rw [if_pos (decide_eq_true h8),p_number _ hx,Option.bind_some]
  refine ⟨_,_,rfl,?_⟩
  unfold Fits fldF
  rw [if_neg (show ¬ x.tag=4 by omega),if_neg (show ¬ x.tag=5 by omega),if_neg (show ¬ x.tag=11 by omega)]
  by_cases hb:badN x.value=true
  ·rw [if_pos hb,if_pos hb]; exact .inr ⟨rfl,rfl⟩
  ·rw [if_neg hb,if_neg hb,if_neg h1,if_neg h2,if_neg h3,if_neg h6,if_neg h7,if_pos h8]; exact .inl ⟨rfl,rfl,hs⟩
 rw [if_neg (by simpa using h8)]
 by_cases h9:x.tag=9
 ·rw [if_pos (decide_eq_true h9),p_number _ hx,Option.bind_some]
  refine ⟨_,_,rfl,?_⟩
  unfold Fits fldF
  rw [if_neg (show ¬ x.tag=4 by omega),if_neg (show ¬ x.tag=5 by omega),if_neg (show ¬ x.tag=11 by omega)]
  by_cases hb:badN x.value=true
  ·rw [if_pos hb,if_pos hb]; exact .inr ⟨rfl,rfl⟩
  ·rw [if_neg hb,if_neg hb,if_neg h1,if_neg h2,if_neg h3,if_neg h6,if_neg h7,if_neg h8,if_pos h9]; exact .inl ⟨rfl,rfl,hs⟩
 rw [if_neg (by simpa using h9)]
 by_cases h10:x.tag=10
 ·rw [if_pos (decide_eq_true h10),p_number _ hx,Option.bind_some]
  refine ⟨_,_,rfl,?_⟩
  unfold Fits fldF
  rw [if_neg (show ¬ x.tag=4 by omega),if_neg (show ¬ x.tag=5 by omega),if_neg (show ¬ x.tag=11 by omega)]
  by_cases hb:badN x.value=true
  ·rw [if_pos hb,if_pos hb]; exact .inr ⟨rfl,rfl⟩
  ·rw [if_neg hb,if_neg hb,if_neg h1,if_neg h2,if_neg h3,if_neg h6,if_neg h7,if_neg h8,if_neg h9,if_pos h10]; exact .inl ⟨rfl,rfl,hs⟩
 rw [if_neg (by simpa using h10)]
 have hj:=p_tfield_j1 r x hx hs ⟨h1,h2,h3,h6,h7,h8,h9,h10⟩
 by_cases h4:x.tag=4
 ·rw [if_pos (by simpa using h4)]
  have e:(x.tag==4 || x.tag==5)=(x.tag==4):=by simp [h4]
  rw [e] at hj; exact hj
 ·rw [if_neg (by simpa using h4)]
  have e:(x.tag==4 || x.tag==5)=(x.tag==5):=by simp [h4]
  rw [e] at hj; exact hj
theorem p_tsize (b:List UInt8) (hb:b.length≤100000):f_tagged_size b=some (if b.length < 2∨b.length-2 < headN b then (0,2) else (((2+headN b:Nat):Int),0)):=by
 have hx:=(nth b 0).toNat_lt
 have hy:=(nth b 1).toNat_lt
 unfold f_tagged_size headN
 simp only [show Int.toNat 0=0 from rfl,show Int.toNat 1=1 from rfl,show (2:Int) ^ Int.toNat 8=256 from rfl]
 by_cases h1:b.length < 2
 ·rw [if_pos (by simp; omega),if_pos (.inl h1)]
 ·rw [if_neg (by simp; omega),ck_pos (by omega),ck_pos (by refine ⟨by omega,by omega,?_,?_⟩ <;> omega),ck_pos (by omega),ck_pos (by omega),ck_pos (by omega)]
  by_cases h2:b.length-2 < (nth b 0).toNat*256+(nth b 1).toNat
  ·rw [if_pos (by simp; omega),if_pos (.inr h2)]
  ·rw [if_neg (by simp; omega),if_neg (by omega)]
   congr 2
   omega
theorem p_tDloop (y:List Element×Int) (hl:y.1.length≤1000000) (hm:∀ x,x∈y.1→1≤x.tag∧x.value.length≤255) :
  loop (fun s=>f_tagged_Decode_l1 y s.1 s.2.1 s.2.2.1 s.2.2.2.1 s.2.2.2.2.1 s.2.2.2.2.2.1 s.2.2.2.2.2.2.1 s.2.2.2.2.2.2.2.1 s.2.2.2.2.2.2.2.2.1 s.2.2.2.2.2.2.2.2.2.1 s.2.2.2.2.2.2.2.2.2.2.1 s.2.2.2.2.2.2.2.2.2.2.2.1 s.2.2.2.2.2.2.2.2.2.2.2.2) (0,0,0,0,([]:List UInt8),([]:List UInt8),0,0,0,0,false,0,false)=some (finD true Z y.1):=by
 have:=loop_spec (step:=fun s:Int×Int×Int×Int×List UInt8×List UInt8×Int×Int×Int×Int×Bool×Int×Bool=>f_tagged_Decode_l1 y s.1 s.2.1 s.2.2.1 s.2.2.2.1 s.2.2.2.2.1 s.2.2.2.2.2.1 s.2.2.2.2.2.2.1 s.2.2.2.2.2.2.2.1 s.2.2.2.2.2.2.2.2.1 s.2.2.2.2.2.2.2.2.2.1 s.2.2.2.2.2.2.2.2.2.2.1 s.2.2.2.2.2.2.2.2.2.2.2.1 s.2.2.2.2.2.2.2.2.2.2.2.2)
  (fun s=>some (finD true (mkR s.2) (y.1.drop s.1.toNat))) (fun s=>0≤s.1∧s.1≤(y.1.length:Int)∧SmallAB (mkR s.2)) (fun s=>((y.1.length:Int) - s.1).toNat) (fun s hI=>by
   obtain ⟨i,s⟩:=s
   obtain ⟨i0,i1,i2⟩:=hI
   simp only at i0 i1 i2 ⊢
   unfold f_tagged_Decode_l1
   have hr:(⟨s.1,s.2.1,s.2.2.1,s.2.2.2.1,s.2.2.2.2.1,s.2.2.2.2.2.1,s.2.2.2.2.2.2.1,s.2.2.2.2.2.2.2.1,s.2.2.2.2.2.2.2.2.1,s.2.2.2.2.2.2.2.2.2.1,s.2.2.2.2.2.2.2.2.2.2.1,s.2.2.2.2.2.2.2.2.2.2.2⟩:Record)=mkR s:=rfl
   rw [hr]
   by_cases hi:i < (y.1.length:Int)
   ·have hx:=hm (nth y.1 i.toNat) (by rw [nth_eq (show i.toNat < y.1.length by omega)]; exact List.getElem_mem _)
    obtain ⟨okx,r',e1,e2⟩:=p_tfield (mkR s) (nth y.1 i.toNat) (by omega) i2
    rw [if_pos (by simpa using hi),ck_pos (by omega),e1,Option.bind_some,drop_nth (show i.toNat < y.1.length by omega)]
    rcases e2 with ⟨o1,o2,o3⟩ | ⟨o1,o2⟩
    ·subst o1
     rw [if_neg (by simp),ck_pos (by omega)]
     refine .inr ⟨_,rfl,⟨by simp only; omega,by simp only; omega,o3⟩,by simp only; omega,?_⟩
     simp only
     rw [show (i+1).toNat=i.toNat+1 by omega]
     have hm':mkR (r'.source,r'.serial,r'.kind,r'.a,r'.b,r'.start,r'.units,r'.call,r'.part,r'.last,r'.trunk,r'.inbound)=r':=rfl
     rw [hm',finD_some o2]
    ·subst o1
     rw [if_pos (by simp),finD_none o2]
     exact .inl ⟨_,rfl,rfl⟩
   ·rw [if_neg (by simpa using hi),List.drop_of_length_le (by omega)]
    unfold f_tagged_Decode_j2
    rw [hr,p_Encode (mkR s) (by have:=i2.1; omega) (by have:=i2.2; omega),Option.bind_some,finD_nil]
    unfold endF
    by_cases he:errF (mkR s)≠0
    ·rw [if_pos (by simpa using he),if_pos he]; exact .inl ⟨_,rfl,rfl⟩
    ·rw [if_neg (by simpa using he),if_neg he]; exact .inl ⟨_,rfl,rfl⟩) (s:=(0,0,0,0,[],[],0,0,0,0,false,0,false)) ⟨by simp,by simp,by simp [SmallAB,mkR]⟩ (by simp only; omega)
 exact this
theorem p_tDecode (b:List UInt8) (hb:b.length≤100000):f_tagged_Decode b=some (decT b):=by
 have bad:∀ e:Int,e≠0→f_tagged_Decode_j1 b e=some (Z,e):=fun e he=>by
  unfold f_tagged_Decode_j1; rw [if_pos (by simpa using he)]; rfl
 unfold f_tagged_Decode decT
 rw [p_tsize b hb,Option.bind_some]
 by_cases h1:b.length < 2∨b.length-2 < headN b
 ·rw [if_pos h1,if_pos h1,if_neg (by simp)]
  exact bad 2 (by decide)
 ·rw [if_neg h1,if_neg h1]
  by_cases h2:b.length-2 > headN b
  ·rw [if_pos h2,if_pos (by simp; omega)]
   exact bad 3 (by decide)
  ·rw [if_neg h2,if_neg (by simp; omega)]
   unfold f_tagged_Decode_j1
   rw [if_neg (by simp),ck_pos (by omega),show Int.toNat 2=2 from rfl,p_Elements _ (by simp; omega),Option.bind_some]
   by_cases h3:(elmF 0 [] (b.drop 2)).2≠0
   ·rw [if_pos (by simpa using h3),if_pos h3]; rfl
   ·rw [if_neg (by simpa using h3),if_neg h3]
    exact p_tDloop _ (by have:=elm_len' (b.drop 2); rw [List.length_drop] at this; omega) (elm_mem (by simpa using h3))
def allT (i:Nat) (out:List Record) (no:List Reject) (b:List UInt8):List Record×List Reject×Int :=
 if b.length=0 then (out,no,0) else if i=4096 then ([],[],5) else if b.length < 2∨b.length-2 < headN b then ([],[],2)
 else if (decT (b.take (2+headN b))).2≠0 then allT (i+1) out (no++[⟨0,0,(i:Int),(decT (b.take (2+headN b))).2⟩]) (b.drop (2+headN b))
 else allT (i+1) (out++[(decT (b.take (2+headN b))).1]) no (b.drop (2+headN b))
termination_by b.length
decreasing_by all_goals (simp; omega)
theorem allT_len:∀ (n:Nat) (b:List UInt8) (i:Nat) (out:List Record) (no:List Reject),b.length≤n→(allT i out no b).1.length≤out.length+n∧(allT i out no b).2.1.length≤no.length+n:=by
 intro n
 induction n with
 | zero=>intro b i out no h; rw [allT,if_pos (by omega)]; simp
 | succ n ih =>
  intro b i out no h
  rw [allT]
  split
  ·simp
  ·split
   ·simp
   ·split
    ·simp
    ·rename_i h1 h2 h3
     have hd:(b.drop (2+headN b)).length≤n:=by simp; omega
     split
     ·have:=ih _ (i+1) out (no++[⟨0,0,(i:Int),(decT (b.take (2+headN b))).2⟩]) hd
      simp at this ⊢
      omega
     ·have:=ih _ (i+1) (out++[(decT (b.take (2+headN b))).1]) no hd
      simp at this ⊢
      omega
theorem p_tAll (b:List UInt8) (hb:b.length≤100000):f_tagged_All b=some (allT 0 [] [] b):=by
 unfold f_tagged_All
 have:=loop_spec (step:=fun s=>f_tagged_All_l1 s.1 s.2.1 s.2.2.1 s.2.2.2) (fun s:List UInt8×List Record×List Reject×Int=>some (allT s.2.2.2.toNat s.2.1 s.2.2.1 s.1))
  (fun s=>0≤s.2.2.2∧s.2.2.2≤4096∧(s.2.1.length:Int)≤s.2.2.2∧(s.2.2.1.length:Int)≤s.2.2.2∧s.1.length≤100000) (fun s=>s.1.length) (fun s hI=>by
   obtain ⟨b,out,no,i⟩:=s
   obtain ⟨i0,i1,i2,i3,i4⟩:=hI
   simp only at i0 i1 i2 i3 i4 ⊢
   unfold f_tagged_All_l1
   rw [allT]
   by_cases h0:b.length=0
   ·rw [if_neg (show ¬ decide ((b.length:Int) > 0)=true by simp only [decide_eq_true_eq]; omega),if_pos h0]
    exact .inl ⟨_,rfl,rfl⟩
   ·rw [if_pos (show decide ((b.length:Int) > 0)=true by simp only [decide_eq_true_eq]; omega),if_neg h0]
    by_cases h1:i=4096
    ·rw [if_pos (show (i==4096)=true by simpa using h1),if_pos (show i.toNat=4096 by omega)]
     exact .inl ⟨_,rfl,rfl⟩
    ·rw [if_neg (show ¬ (i==4096)=true by simpa using h1),if_neg (show ¬ i.toNat=4096 by omega),p_tsize b i4,Option.bind_some]
     by_cases h2:b.length < 2∨b.length-2 < headN b
     ·rw [if_pos h2,if_pos (by simp),if_pos h2]
      exact .inl ⟨_,rfl,rfl⟩
     ·rw [if_neg h2,if_neg (by simp),if_neg h2,ck_pos (by omega),show (((2+headN b:Nat):Int)).toNat=2+headN b from rfl,p_tDecode _ (by simp; omega),Option.bind_some]
      by_cases h3:(decT (b.take (2+headN b))).2≠0
      ·rw [if_pos (by simpa using h3),if_pos h3,ck_pos (by simp; omega)]
       unfold f_tagged_All_j2
       rw [ck_pos (by omega),ck_pos (by omega),show (((2+headN b:Nat):Int)).toNat=2+headN b from rfl]
       refine .inr ⟨_,rfl,⟨by simp only; omega,by simp only; omega,by simp only; omega,by simp; omega,by simp; omega⟩,by simp; omega,?_⟩
       simp only
       rw [show (i+1).toNat=i.toNat+1 by omega,show ((i.toNat:Nat):Int)=i by omega]
      ·rw [if_neg (by simpa using h3),if_neg h3,ck_pos (by simp; omega)]
       unfold f_tagged_All_j2
       rw [ck_pos (by omega),ck_pos (by omega),show (((2+headN b:Nat):Int)).toNat=2+headN b from rfl]
       refine .inr ⟨_,rfl,⟨by simp only; omega,by simp only; omega,by simp; omega,by simp only; omega,by simp; omega⟩,by simp; omega,?_⟩
       simp only
       rw [show (i+1).toNat=i.toNat+1 by omega]) (s:=(b,[],[],0)) ⟨by simp,by simp,by simp,by simp,hb⟩ (by simp only; omega)
 exact this
end Go.Proofs.YthoengcicaicoaaGreatDoor.C10
