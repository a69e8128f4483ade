/- Our own texts LF XA0 XB0 XC0 XD0 XE0 XF0 XG0 XK0 XA1 XB1 XC1 XD1 XH1 XK1 XK2 Sh E1 XS LX LW0 LW1 LW2 LW3 LW4 of this seat in one. -/
import Derived.Test.YtpnegjippkneoaaGreatDoorYP1
import Derived.Lib.ItoaNum
import Derived.Lib.Join
import Derived.Shelf.Strings.Builder1
import Derived.Shelf.Strings.Builder2
import Derived.Shelf.Strings.OnBuilder
import Derived.Shelf.Small.Bits
import Derived.Shelf.Small.Wraps
import Derived.Shelf.Strconv.Itoa0
import Derived.Shelf.Strconv.Itoa1
import Derived.Shelf.LaysM
import Derived.Shelf.Strconv.Itoa2
import Derived.Shelf.Strconv.Itoa3
import Derived.Shelf.SlGeneric
import Derived.Shelf.SlSortCmp.NoneTotal
import Derived.Ground.SlsfProg
import Derived.Test.YtpnegjippkneoaaGreatDoorProg
import Derived.Sort.Grow
import Derived.Deep.Draws
set_option linter.unusedSimpArgs false
set_option linter.unusedVariables false
set_option linter.unusedSectionVars false
namespace Go.Proofs.YtpnegjippkneoaaGreatDoor
open Go.RowKit Go.Abs
structure Record where
 source:Int
 serial:Int
 kind:Int
 a:(List UInt8)
 b:(List UInt8)
 start:Int
 units:Int
 call:Int
 part:Int
 last:Bool
 trunk:Int
 inbound:Bool
instance:Inhabited Record:=⟨⟨default,default,default,default,default,default,default,default,default,default,default,default⟩⟩
def Record.row (x:Record):List D:=[cI x.source,cI x.serial,cI x.kind,cS x.a,cS x.b,cI x.start,cI x.units,cI x.call,cI x.part,cB x.last,cI x.trunk,cB x.inbound]
def Record.vals (x:Record):List Value:=[.int .i64 x.source,.int .i64 x.serial,.int .i64 x.kind,.string ⟨x.a.toArray⟩,.string ⟨x.b.toArray⟩,.int .i64 x.start,.int .i64 x.units,.int .i64 x.call,.int .i64 x.part,.bool x.last,.int .i64 x.trunk,.bool x.inbound]
structure Range where
 source:Int
 from_:Int
 to_:Int
instance:Inhabited Range:=⟨⟨default,default,default⟩⟩
def Range.row (x:Range):List D:=[cI x.source,cI x.from_,cI x.to_]
structure Head where
 source:Int
 number:Int
 format:Int
 count:Int
instance:Inhabited Head:=⟨⟨default,default,default,default⟩⟩
def Head.row (x:Head):List D:=[cI x.source,cI x.number,cI x.format,cI x.count]
def Head.vals (x:Head):List Value:=[.int .i64 x.source,.int .i64 x.number,.int .i64 x.format,.int .i64 x.count]
structure Intake where
 seen:(List Range)
 open_:(List Record)
 heads:(List Head)
instance:Inhabited Intake:=⟨⟨default,default,default⟩⟩
def Intake.row (x:Intake):List D:=[slOf 3 Range.row x.seen,slOf 12 Record.row x.open_,slOf 4 Head.row x.heads]
structure Window where
 earliest:Int
 latest:Int
instance:Inhabited Window:=⟨⟨default,default⟩⟩
def Window.row (x:Window):List D:=[cI x.earliest,cI x.latest]
structure Batch where
 source:Int
 number:Int
 format:Int
 records:(List Record)
instance:Inhabited Batch:=⟨⟨default,default,default,default⟩⟩
def Batch.row (x:Batch):List D:=[cI x.source,cI x.number,cI x.format,slOf 12 Record.row x.records]
structure Reject where
 source:Int
 serial:Int
 index:Int
 err:Int
instance:Inhabited Reject:=⟨⟨default,default,default,default⟩⟩
def Reject.row (x:Reject):List D:=[cI x.source,cI x.serial,cI x.index,cI x.err]
def Reject.vals (x:Reject):List Value:=[.int .i64 x.source,.int .i64 x.serial,.int .i64 x.index,.int .i64 x.err]
structure CorrelateCall where
 source:Int
 number:Int
instance:Inhabited CorrelateCall:=⟨⟨default,default⟩⟩
def CorrelateCall.row (x:CorrelateCall):List D:=[cI x.source,cI x.number]
def CorrelateCall.vals (x:CorrelateCall):List Value:=[.int .i64 x.source,.int .i64 x.number]
structure CorrelateCommon where
 call:CorrelateCall
 kind:Int
 a:(List UInt8)
 b:(List UInt8)
 trunk:Int
 inbound:Bool
instance:Inhabited CorrelateCommon:=⟨⟨default,default,default,default,default,default⟩⟩
def CorrelateCommon.row (x:CorrelateCommon):List D:=[cI x.call.source,cI x.call.number,cI x.kind,cS x.a,cS x.b,cI x.trunk,cB x.inbound]
def CorrelateCommon.vals (x:CorrelateCommon):List Value:=[.int .i64 x.call.source,.int .i64 x.call.number,.int .i64 x.kind,.string ⟨x.a.toArray⟩,.string ⟨x.b.toArray⟩,.int .i64 x.trunk,.bool x.inbound]
structure IntakeIdentity where
 source:Int
 serial:Int
 deriving DecidableEq
instance:Inhabited IntakeIdentity:=⟨⟨default,default⟩⟩
def IntakeIdentity.row (x:IntakeIdentity):List D:=[cI x.source,cI x.serial]
def IntakeIdentity.vals (x:IntakeIdentity):List Value:=[.int .i64 x.source,.int .i64 x.serial]
structure Totals where
 count:Int
 units:(List Int)
instance:Inhabited Totals:=⟨⟨default,default⟩⟩
def Totals.row (x:Totals):List D:=[cI x.count,cI (nth x.units 0),cI (nth x.units 1),cI (nth x.units 2),cI (nth x.units 3),cI (nth x.units 4)]
structure Billinglaw16Step where
 batch:Batch
 window:Window
 close:Bool
 before:Int
instance:Inhabited Billinglaw16Step:=⟨⟨default,default,default,default⟩⟩
def Billinglaw16Step.row (x:Billinglaw16Step):List D:=[cI x.batch.source,cI x.batch.number,cI x.batch.format,slOf 12 Record.row x.batch.records,cI x.window.earliest,cI x.window.latest,cB x.close,cI x.before]
def x_Itoa (n:Int):Option (List UInt8):=ck (-9223372036854775808≤n∧n≤9223372036854775807) (some (Go.Lib.itoa n))
def x_Join (xs:List (List UInt8)) (sep:List UInt8):Option (List UInt8):=ck (xs.length≤1000000000∧(Go.Lib.join xs sep).length≤1000000000) (some (Go.Lib.join xs sep))
def x_CloneRecord (xs:List Record):Option (List Record):=ck (xs.length≤1000000000) (some xs)
def x_CloneRange (xs:List Range):Option (List Range):=ck (xs.length≤1000000000) (some xs)
def x_CloneHead (xs:List Head):Option (List Head):=ck (xs.length≤1000000000) (some xs)
def x_InsertRecord (i:Int) (l l':List Record):Option (List Record):=ck (0≤i∧i≤(l.length:Int)∧1≤l'.length∧l.length+l'.length≤1000000000) (some (l.take i.toNat++l'++l.drop i.toNat))
def x_InsertRange (i:Int) (l l':List Range):Option (List Range):=ck (0≤i∧i≤(l.length:Int)∧1≤l'.length∧l.length+l'.length≤1000000000) (some (l.take i.toNat++l'++l.drop i.toNat))
def x_ReplaceRecord (i j:Int) (l' l:List Record):Option (List Record):=ck (0≤i∧i < j∧j≤(l.length:Int)∧(l'.length:Int)≤j-i∧l.length≤1000000000) (some (l.take i.toNat++l'++l.drop j.toNat))
def x_DeleteRange (i j:Int) (l:List Range):Option (List Range):=ck (0≤i∧i < j∧j≤(l.length:Int)∧l.length≤1000000000) (some (l.take i.toNat++l.drop j.toNat))
def insR (x:Reject):List Reject→List Reject
 | []=>[x]
 | y :: l=>if x.index≤y.index then x :: y :: l else y :: insR x l
def sortR:List Reject→List Reject
 | []=>[]
 | x :: l=>insR x (sortR l)
def x_SortReject (l:List Reject):Option (List Reject):=ck (l.length≤1000000000∧(l.map (·.index)).Nodup) (some (sortR l))
def f_w16_few_j1 (v0l:List Record):Option Bool :=
 some (decide ((v0l.length:Int)≤40))
def f_w16_few_l1 (v0l:List Record) (v3il1:Int):Option ((Int) ⊕ Bool) :=
 if ((decide (v3il1 < (v0l.length:Int))) && (decide (v3il1 < 41)))=true then (ck ((0:Int)≤v3il1∧v3il1 < (v0l.length:Int)) (ck ((!(decide ((((nth v0l v3il1.toNat).a).length:Int) > 200)))=true→((0:Int)≤v3il1∧v3il1 < (v0l.length:Int))) (if ((decide ((((nth v0l v3il1.toNat).a).length:Int) > 200)) || (decide ((((nth v0l v3il1.toNat).b).length:Int) > 200)))=true then some (.inr false) else ck (R64 (v3il1+1)) (some (.inl (v3il1+1)))))) else (f_w16_few_j1 v0l).map (fun z=>.inr z)
def f_w16_few (v0l:List Record):Option Bool :=
 loop (fun s=>f_w16_few_l1 v0l s) 0
def f_w16_small (v0in:Intake):Option Bool :=
 (gcall ((decide ((v0in.seen.length:Int)≤40)) && (decide ((v0in.heads.length:Int)≤40))) (f_w16_few v0in.open_)).bind fun y1=>some (((decide ((v0in.seen.length:Int)≤40)) && (decide ((v0in.heads.length:Int)≤40))) && y1)
def f_w16_always:Option Window :=
 some (⟨0,12622780800⟩:Window)
def f_batch_headOf (v0b:Batch):Option Head :=
 some (⟨v0b.source,v0b.number,v0b.format,(v0b.records.length:Int)⟩:Head)
def f_batch_within (v0n:Int) (v1lo:Int) (v2hi:Int):Option Bool :=
 some ((decide (v0n≥v1lo)) && (decide (v0n≤v2hi)))
def f_batch_checkHead (v0h:Head):Option Int :=
 (f_batch_within v0h.source 1 99).bind fun y1=>(gcall (!(!y1)) (f_batch_within v0h.number 1 999999999)).bind fun y2=>if ((!y1) || (!y2))=true then some 6 else (f_batch_within v0h.format 1 3).bind fun y3=>if (!y3)=true then some 7 else (f_batch_within v0h.count 0 4096).bind fun y4=>if (!y4)=true then some 5 else some 0
def f_textual_within (v0n:Int) (v1lo:Int) (v2hi:Int):Option Bool :=
 some ((decide (v0n≥v1lo)) && (decide (v0n≤v2hi)))
def f_digits_digit (v0c:UInt8):Option Bool :=
 some ((decide (v0c≥48)) && (decide (v0c≤57)))
def f_digits_Valid_j1 (v0s:List UInt8):Option Bool :=
 some ((decide ((v0s.length:Int)≥1)) && (decide ((v0s.length:Int)≤15)))
def f_digits_Valid_l1 (v0s:List UInt8) (v6l1:Int):Option ((Int) ⊕ Bool) :=
 if (decide (v6l1 < (v0s.length:Int)))=true then (ck ((0:Int)≤v6l1∧v6l1 < (v0s.length:Int)) ((f_digits_digit (nth v0s v6l1.toNat)).bind fun y1=>if (!y1)=true then some (.inr false) else ck (R64 (v6l1+1)) (some (.inl (v6l1+1))))) else (f_digits_Valid_j1 v0s).map (fun z=>.inr z)
def f_digits_Valid (v0s:List UInt8):Option Bool :=
 loop (fun s=>f_digits_Valid_l1 v0s s) 0
def f_textual_check_j1 (v0:Record) (v4j1:Int):Option Int :=
 (f_textual_within v0.source 1 99).bind fun y1=>(gcall (!(!y1)) (f_textual_within v0.serial 1 999999999)).bind fun y2=>if ((!y1) || (!y2))=true then some 6 else (f_textual_within v0.kind 1 4).bind fun y3=>if (!y3)=true then some 7 else (f_digits_Valid v0.a).bind fun y4=>(gcall (!(!y4)) (f_digits_Valid v0.b)).bind fun y5=>if ((!y4) || ((!y5) && (!(((v0.kind==3) || (v0.kind==4)) && (v0.b==([]:List UInt8))))))=true then some 12 else (f_textual_within v0.start 0 12622780799).bind fun y6=>if (!y6)=true then some 15 else (f_textual_within v0.units 0 v4j1).bind fun y7=>if (!y7)=true then some 6 else ck ((v0.kind==1)=true→(R64 (v0.start+v0.units))) (if ((v0.kind==1) && (decide ((v0.start+v0.units) > 12622780800)))=true then some 15 else (f_textual_within v0.call 0 999999999).bind fun y8=>(gcall (!(!y8)) (f_textual_within v0.part 0 99)).bind fun y9=>if ((!y8) || (!y9))=true then some 6 else if (((v0.part==0) != (v0.call==0)) || (v0.last && (v0.part==0)))=true then some 8 else (f_textual_within v0.trunk 0 999).bind fun y10=>if (!y10)=true then some 6 else if (v0.inbound && (v0.trunk==0))=true then some 8 else some 0)
def f_textual_check (v0:Record):Option Int :=
 if (v0.kind==1)=true then (f_textual_check_j1 v0 604800) else f_textual_check_j1 v0 1099511627776
def f_textual_Encode_j3 (v7j3:List (List UInt8)):Option ((List UInt8)×Int) :=
 (x_Join v7j3 ([32]:List UInt8)).bind fun y6=>some (y6,0)
def f_textual_Encode_j4 (v0:Record) (v7j2:List (List UInt8)) (v8j4:List UInt8):Option ((List UInt8)×Int) :=
 (x_Itoa v0.trunk).bind fun y7=>ck (v7j2.length+([v8j4,y7]:List (List UInt8)).length≤1000000000) (f_textual_Encode_j3 (v7j2++([v8j4,y7]:List (List UInt8))))
def f_textual_Encode_j2 (v0:Record) (v7j2:List (List UInt8)):Option ((List UInt8)×Int) :=
 if (v0.trunk != 0)=true then (if v0.inbound=true then (f_textual_Encode_j4 v0 v7j2 ([105,110]:List UInt8)) else f_textual_Encode_j4 v0 v7j2 ([111,117,116]:List UInt8)) else f_textual_Encode_j3 v7j2
def f_textual_Encode_j1 (v0:Record) (v6j1:List UInt8):Option ((List UInt8)×Int) :=
 ck (R64 (v0.kind-1)) (ck ((0:Int)≤v0.kind-1∧v0.kind-1≤v0.kind∧v0.kind≤(([118,116,100,99]:List UInt8).length:Int)) ((x_Itoa v0.source).bind fun y2=>(x_Itoa v0.serial).bind fun y3=>(x_Itoa v0.start).bind fun y4=>(x_Itoa v0.units).bind fun y5=>if (v0.part != 0)=true then ((x_Itoa v0.call).bind fun y8=>(x_Itoa v0.part).bind fun y9=>ck (([(([118,116,100,99]:List UInt8).take v0.kind.toNat).drop (v0.kind-1).toNat,y2,y3,v0.a,v6j1,y4,y5]:List (List UInt8)).length+([([112,97,114,116]:List UInt8),y8,y9]:List (List UInt8)).length≤1000000000) (if v0.last=true then (ck ((([(([118,116,100,99]:List UInt8).take v0.kind.toNat).drop (v0.kind-1).toNat,y2,y3,v0.a,v6j1,y4,y5]:List (List UInt8))++([([112,97,114,116]:List UInt8),y8,y9]:List (List UInt8))).length+([([108,97,115,116]:List UInt8)]:List (List UInt8)).length≤1000000000) (f_textual_Encode_j2 v0 ((([(([118,116,100,99]:List UInt8).take v0.kind.toNat).drop (v0.kind-1).toNat,y2,y3,v0.a,v6j1,y4,y5]:List (List UInt8))++([([112,97,114,116]:List UInt8),y8,y9]:List (List UInt8)))++([([108,97,115,116]:List UInt8)]:List (List UInt8))))) else f_textual_Encode_j2 v0 (([(([118,116,100,99]:List UInt8).take v0.kind.toNat).drop (v0.kind-1).toNat,y2,y3,v0.a,v6j1,y4,y5]:List (List UInt8))++([([112,97,114,116]:List UInt8),y8,y9]:List (List UInt8))))) else f_textual_Encode_j2 v0 ([(([118,116,100,99]:List UInt8).take v0.kind.toNat).drop (v0.kind-1).toNat,y2,y3,v0.a,v6j1,y4,y5]:List (List UInt8))))
def f_textual_Encode (v0:Record):Option ((List UInt8)×Int) :=
 (f_textual_check v0).bind fun y1=>if (y1 != 0)=true then some (([]:List UInt8),y1) else if (v0.b==([]:List UInt8))=true then (f_textual_Encode_j1 v0 ([45]:List UInt8)) else f_textual_Encode_j1 v0 v0.b
def f_batch_Check_l1 (v0b:Batch) (v17l1:Int):Option ((Int) ⊕ Int) :=
 if (decide (v17l1 < (v0b.records.length:Int)))=true then (ck ((0:Int)≤v17l1∧v17l1 < (v0b.records.length:Int)) ((f_textual_Encode (nth v0b.records v17l1.toNat)).bind fun y3=>if (y3.2 != 0)=true then some (.inr y3.2) else if (((nth v0b.records v17l1.toNat).source) != v0b.source)=true then some (.inr 8) else ck (R64 (v17l1+1)) (some (.inl (v17l1+1))))) else some (.inr 0)
def f_batch_Check (v0b:Batch):Option Int :=
 (f_batch_headOf v0b).bind fun y1=>(f_batch_checkHead y1).bind fun y2=>if (y2 != 0)=true then some y2 else loop (fun s=>f_batch_Check_l1 v0b s) 0
def f_intake_Next_l1 (v0in:Intake) (v1source:Int) (v5il1:Int):Option ((Int) ⊕ Int) :=
 if (decide (v5il1≥0))=true then (ck ((0:Int)≤v5il1∧v5il1 < (v0in.heads.length:Int)) (if (((nth v0in.heads v5il1.toNat).source)==v1source)=true then (ck ((0:Int)≤v5il1∧v5il1 < (v0in.heads.length:Int)) (ck (R64 (((nth v0in.heads v5il1.toNat).number)+1)) (some (.inr (((nth v0in.heads v5il1.toNat).number)+1))))) else ck (R64 (v5il1-1)) (some (.inl (v5il1-1))))) else some (.inr 1)
def f_intake_Next (v0in:Intake) (v1source:Int):Option Int :=
 if ((decide (v1source < 1)) || (decide (v1source > 99)))=true then some 0 else ck (R64 ((v0in.heads.length:Int) - 1)) (loop (fun s=>f_intake_Next_l1 v0in v1source s) ((v0in.heads.length:Int) - 1))
def f_validate_Window (v0r:Record) (v1w:Window):Option Int :=
 if ((decide (v0r.start < v1w.earliest)) || (decide (v0r.start > v1w.latest)))=true then some 15 else some 0
def f_dedup_identity (v0source:Int) (v1serial:Int):Option Bool :=
 some ((((decide (v0source≥1)) && (decide (v0source≤99))) && (decide (v1serial≥1))) && (decide (v1serial≤999999999)))
def g_dedup_place_1 (v0i:Int) (o0c0p:(List Range)) (o1c0p:Int) (o2c0p:Int):Option Bool :=
 ck ((0:Int)≤v0i∧v0i < (o0c0p.length:Int)) (some ((decide (((nth o0c0p v0i.toNat).source) > o1c0p)) || ((((nth o0c0p v0i.toNat).source)==o1c0p) && (decide (((nth o0c0p v0i.toNat).to_)≥o2c0p)))))
def g_sort_Search_l1 (o0c0p:(List Range)) (o1c0p:Int) (o2c0p:Int) (v5il1:Int) (v6jl1:Int):Option ((Int×Int) ⊕ Int) :=
 if (decide (v5il1 < v6jl1))=true then (ck (R64 (v5il1+v6jl1)) (ck ((0:Int)≤1) ((g_dedup_place_1 (IntKind.wrap .i64 (Int.fdiv (IntKind.wrap .u64 (v5il1+v6jl1)) (2 ^ (min (Int.toNat (1)) 64)))) o0c0p o1c0p o2c0p).bind fun y1=>if (!y1)=true then (ck (R64 ((IntKind.wrap .i64 (Int.fdiv (IntKind.wrap .u64 (v5il1+v6jl1)) (2 ^ (min (Int.toNat (1)) 64))))+1)) (some (.inl ((IntKind.wrap .i64 (Int.fdiv (IntKind.wrap .u64 (v5il1+v6jl1)) (2 ^ (min (Int.toNat (1)) 64))))+1,v6jl1)))) else some (.inl (v5il1,IntKind.wrap .i64 (Int.fdiv (IntKind.wrap .u64 (v5il1+v6jl1)) (2 ^ (min (Int.toNat (1)) 64)))))))) else some (.inr v5il1)
def g_sort_Search (v0n:Int) (o0c0p:(List Range)) (o1c0p:Int) (o2c0p:Int):Option Int :=
 loop (fun s=>g_sort_Search_l1 o0c0p o1c0p o2c0p s.1 s.2) (0,v0n)
def f_dedup_place (v0seen:List Range) (v1source:Int) (v2serial:Int):Option Int :=
 (g_sort_Search (v0seen.length:Int) v0seen v1source v2serial).bind fun y1=>some y1
def f_dedup_Has (v0seen:List Range) (v1source:Int) (v2serial:Int):Option Bool :=
 (f_dedup_place v0seen v1source v2serial).bind fun y1=>(f_dedup_identity v1source v2serial).bind fun y2=>ck ((y2 && (decide (y1 < (v0seen.length:Int))))=true→((0:Int)≤y1∧y1 < (v0seen.length:Int))) (ck (((y2 && (decide (y1 < (v0seen.length:Int)))) && (((nth v0seen y1.toNat).source)==v1source))=true→((0:Int)≤y1∧y1 < (v0seen.length:Int))) (some (((y2 && (decide (y1 < (v0seen.length:Int)))) && (((nth v0seen y1.toNat).source)==v1source)) && (decide (((nth v0seen y1.toNat).from_)≤v2serial)))))
def f_dedup_touch (v0a:Range) (v1b:Range):Option Bool :=
 ck ((v0a.source==v1b.source)=true→(R64 (v0a.to_+1))) (some ((v0a.source==v1b.source) && ((v0a.to_+1)==v1b.from_)))
def g_dedup_Filter_1 (v0i:Int) (v1e:Int) (o1c0p:(List Record)) (y0t0p:List Reject):Option (List Reject) :=
 ck ((0:Int)≤v0i∧v0i < (o1c0p.length:Int)) (ck ((0:Int)≤v0i∧v0i < (o1c0p.length:Int)) (ck (y0t0p.length+([(⟨(nth o1c0p v0i.toNat).source,(nth o1c0p v0i.toNat).serial,v0i,v1e⟩:Reject)]:List Reject).length≤1000000000) (some (y0t0p++([(⟨(nth o1c0p v0i.toNat).source,(nth o1c0p v0i.toNat).serial,v0i,v1e⟩:Reject)]:List Reject)))))
def g_dedup_place_1_v1 (v0i:Int) (o1c0p:Int) (o2c0p:Int) (y0t0p:List Range):Option Bool :=
 ck ((0:Int)≤v0i∧v0i < (y0t0p.length:Int)) (ck (v0i.toNat < y0t0p.length) (some ((decide (((nth y0t0p v0i.toNat).source) > o1c0p)) || ((((nth y0t0p v0i.toNat).source)==o1c0p) && (decide (((nth y0t0p v0i.toNat).to_)≥o2c0p))))))
def g_sort_Search_v1_l1 (o1c0p:Int) (o2c0p:Int) (y0t0p:List Range) (v5il1:Int) (v6jl1:Int):Option ((Int×Int) ⊕ Int) :=
 if (decide (v5il1 < v6jl1))=true then (ck (R64 (v5il1+v6jl1)) (ck ((0:Int)≤1) ((g_dedup_place_1_v1 (IntKind.wrap .i64 (Int.fdiv (IntKind.wrap .u64 (v5il1+v6jl1)) (2 ^ (min (Int.toNat (1)) 64)))) o1c0p o2c0p y0t0p).bind fun y1=>if (!y1)=true then (ck (R64 ((IntKind.wrap .i64 (Int.fdiv (IntKind.wrap .u64 (v5il1+v6jl1)) (2 ^ (min (Int.toNat (1)) 64))))+1)) (some (.inl ((IntKind.wrap .i64 (Int.fdiv (IntKind.wrap .u64 (v5il1+v6jl1)) (2 ^ (min (Int.toNat (1)) 64))))+1,v6jl1)))) else some (.inl (v5il1,IntKind.wrap .i64 (Int.fdiv (IntKind.wrap .u64 (v5il1+v6jl1)) (2 ^ (min (Int.toNat (1)) 64)))))))) else some (.inr v5il1)
def g_sort_Search_v1 (v0n:Int) (o1c0p:Int) (o2c0p:Int) (y0t0p:List Range):Option Int :=
 loop (fun s=>g_sort_Search_v1_l1 o1c0p o2c0p y0t0p s.1 s.2) (0,v0n)
def g_dedup_place (v1source:Int) (v2serial:Int) (y0t0p:List Range):Option Int :=
 (g_sort_Search_v1 (y0t0p.length:Int) v1source v2serial y0t0p).bind fun y1=>some y1
def g_dedup_Has (v1source:Int) (v2serial:Int) (y0t0p:List Range):Option Bool :=
 (g_dedup_place v1source v2serial y0t0p).bind fun y1=>(f_dedup_identity v1source v2serial).bind fun y2=>ck ((y2 && (decide (y1 < (y0t0p.length:Int))))=true→((0:Int)≤y1∧y1 < (y0t0p.length:Int))) (ck ((y2 && (decide (y1 < (y0t0p.length:Int))))=true→(y1.toNat < y0t0p.length)) (ck (((y2 && (decide (y1 < (y0t0p.length:Int)))) && (((nth y0t0p y1.toNat).source)==v1source))=true→((0:Int)≤y1∧y1 < (y0t0p.length:Int))) (ck (((y2 && (decide (y1 < (y0t0p.length:Int)))) && (((nth y0t0p y1.toNat).source)==v1source))=true→(y1.toNat < y0t0p.length)) (some (((y2 && (decide (y1 < (y0t0p.length:Int)))) && (((nth y0t0p y1.toNat).source)==v1source)) && (decide (((nth y0t0p y1.toNat).from_)≤v2serial)))))))
def g_dedup_insert_j1 (y1:Int) (y2tj1:List Range):Option (List Range) :=
 ck ((decide (y1 > 0))=true→(R64 (y1-1))) (ck ((decide (y1 > 0))=true→((0:Int)≤(y1-1)∧(y1-1) < (y2tj1.length:Int))) (ck ((decide (y1 > 0))=true→((y1-1).toNat < y2tj1.length)) (ck ((decide (y1 > 0))=true→((0:Int)≤y1∧y1 < (y2tj1.length:Int))) (ck ((decide (y1 > 0))=true→(y1.toNat < y2tj1.length)) ((gcall (decide (y1 > 0)) (f_dedup_touch (nth y2tj1 (y1-1).toNat) (nth y2tj1 y1.toNat))).bind fun y3=>if ((decide (y1 > 0)) && y3)=true then (ck (R64 (y1-1)) (ck ((0:Int)≤y1∧y1 < (y2tj1.length:Int)) (ck (y1.toNat < y2tj1.length) (ck ((0:Int)≤(y1-1)∧(y1-1) < (y2tj1.length:Int)) (ck ((y1-1).toNat < y2tj1.length) (ck (R64 (y1+1)) ((x_DeleteRange y1 (y1+1) (y2tj1.set (y1-1).toNat (⟨(nth y2tj1 (y1-1).toNat).source,(nth y2tj1 (y1-1).toNat).from_,(nth y2tj1 y1.toNat).to_⟩:Range))).bind fun y4=>some y4))))))) else some y2tj1)))))
def g_dedup_insert (v1:Int) (v2:Int) (y0t0p:List Range):Option (List Range) :=
 (g_dedup_place v1 v2 y0t0p).bind fun y1=>(x_InsertRange y1 y0t0p ([(⟨v1,v2,v2⟩:Range)]:List Range)).bind fun y2=>ck (R64 (y1+1)) (ck ((decide ((y1+1) < (y2.length:Int)))=true→((0:Int)≤y1∧y1 < (y2.length:Int))) (ck ((decide ((y1+1) < (y2.length:Int)))=true→(y1.toNat < y2.length)) (ck ((decide ((y1+1) < (y2.length:Int)))=true→(R64 (y1+1))) (ck ((decide ((y1+1) < (y2.length:Int)))=true→((0:Int)≤(y1+1)∧(y1+1) < (y2.length:Int))) (ck ((decide ((y1+1) < (y2.length:Int)))=true→((y1+1).toNat < y2.length)) ((gcall (decide ((y1+1) < (y2.length:Int))) (f_dedup_touch (nth y2 y1.toNat) (nth y2 (y1+1).toNat))).bind fun y5=>if ((decide ((y1+1) < (y2.length:Int))) && y5)=true then (ck (R64 (y1+1)) (ck ((0:Int)≤(y1+1)∧(y1+1) < (y2.length:Int)) (ck ((y1+1).toNat < y2.length) (ck ((0:Int)≤y1∧y1 < (y2.length:Int)) (ck (y1.toNat < y2.length) (ck (R64 (y1+1)) (ck (R64 (y1+2)) ((x_DeleteRange (y1+1) (y1+2) (y2.set y1.toNat (⟨(nth y2 y1.toNat).source,(nth y2 y1.toNat).from_,(nth y2 (y1+1).toNat).to_⟩:Range))).bind fun y6=>g_dedup_insert_j1 y1 y6)))))))) else g_dedup_insert_j1 y1 y2))))))
def f_dedup_Filter_j1 (y0tj1:List Range) (v8outj1:List Record) (o1c0j1:List Reject):Option ((List Range)×(List Record)×(List Reject)) :=
 some (y0tj1,v8outj1,o1c0j1)
def f_dedup_Filter_l1 (v1records:List Record) (y0tl1:List Range) (v8outl1:List Record) (v18l1:Int) (o1c0l1:List Reject):Option ((List Range×List Record×Int×List Reject) ⊕ ((List Range)×(List Record)×(List Reject))) :=
 if (decide (v18l1 < (v1records.length:Int)))=true then (ck ((0:Int)≤v18l1∧v18l1 < (v1records.length:Int)) ((f_dedup_identity ((nth v1records v18l1.toNat).source) ((nth v1records v18l1.toNat).serial)).bind fun y2=>if (!y2)=true then ((g_dedup_Filter_1 v18l1 6 v1records o1c0l1).bind fun y3=>ck (R64 (v18l1+1)) (some (.inl (y0tl1,v8outl1,v18l1+1,y3)))) else (g_dedup_Has ((nth v1records v18l1.toNat).source) ((nth v1records v18l1.toNat).serial) y0tl1).bind fun y4=>if y4=true then ((g_dedup_Filter_1 v18l1 13 v1records o1c0l1).bind fun y5=>ck (R64 (v18l1+1)) (some (.inl (y0tl1,v8outl1,v18l1+1,y5)))) else (g_dedup_insert ((nth v1records v18l1.toNat).source) ((nth v1records v18l1.toNat).serial) y0tl1).bind fun y6=>ck (v8outl1.length+([nth v1records v18l1.toNat]:List Record).length≤1000000000) (ck (R64 (v18l1+1)) (some (.inl (y6,v8outl1++([nth v1records v18l1.toNat]:List Record),v18l1+1,o1c0l1)))))) else (f_dedup_Filter_j1 y0tl1 v8outl1 o1c0l1).map (fun z=>.inr z)
def f_dedup_Filter (v0seen:List Range) (v1records:List Record):Option ((List Range)×(List Record)×(List Reject)) :=
 (x_CloneRange v0seen).bind fun y1=>loop (fun s=>f_dedup_Filter_l1 v1records s.1 s.2.1 s.2.2.1 s.2.2.2) (y1,([]:List Record),0,([]:List Reject))
def f_cmp_isNaN_int (v0x:Int):Option Bool :=
 some (v0x != v0x)
def f_cmp_Compare_int (v0x:Int) (v1y:Int):Option Int :=
 (f_cmp_isNaN_int v0x).bind fun y1=>(f_cmp_isNaN_int v1y).bind fun y2=>if y1=true then (if y2=true then some 0 else some (-1)) else if y2=true then some 1 else if (decide (v0x < v1y))=true then some (-1) else if (decide (v0x > v1y))=true then some 1 else some 0
def f_cmp_Or_int_l1 (v0vals:List Int) (v8l1:Int):Option ((Int) ⊕ Int) :=
 if (decide (v8l1 < (v0vals.length:Int)))=true then (ck ((0:Int)≤v8l1∧v8l1 < (v0vals.length:Int)) (if ((nth v0vals v8l1.toNat) != 0)=true then some (.inr (nth v0vals v8l1.toNat)) else ck (R64 (v8l1+1)) (some (.inl (v8l1+1))))) else some (.inr 0)
def f_cmp_Or_int (v0vals:List Int):Option Int :=
 loop (fun s=>f_cmp_Or_int_l1 v0vals s) 0
def f_correlate_before (v0a:Record) (v1b:Record):Option Int :=
 (f_cmp_Compare_int v0a.source v1b.source).bind fun y1=>(f_cmp_Compare_int v0a.call v1b.call).bind fun y2=>(f_cmp_Compare_int v0a.part v1b.part).bind fun y3=>(f_cmp_Or_int ([y1,y2,y3]:List Int)).bind fun y4=>some y4
def f_correlate_callOf (v0r:Record):Option CorrelateCall :=
 some (⟨v0r.source,v0r.call⟩:CorrelateCall)
def g_correlate_span_1 (v0r:Record) (o0c0p:CorrelateCall):Option Bool :=
 (f_correlate_callOf v0r).bind fun y1=>some (eqVs (CorrelateCall.vals y1) (CorrelateCall.vals o0c0p))
def f_correlate_alone (v0r:Record):Option Record :=
 some (⟨v0r.source,v0r.serial,v0r.kind,v0r.a,v0r.b,v0r.start,v0r.units,0,0,false,v0r.trunk,v0r.inbound⟩:Record)
def f_validate_Check (v0r:Record):Option Int :=
 (f_textual_Encode v0r).bind fun y1=>some y1.2
def f_correlate_commonOf (v0r:Record):Option CorrelateCommon :=
 (f_correlate_callOf v0r).bind fun y1=>some (⟨y1,v0r.kind,v0r.a,v0r.b,v0r.trunk,v0r.inbound⟩:CorrelateCommon)
def f_correlate_whole_j1 (y1:Record) (o1c6j1:Int):Option (Record×Bool) :=
 (f_validate_Check (⟨y1.source,y1.serial,y1.kind,y1.a,y1.b,y1.start,o1c6j1,y1.call,y1.part,y1.last,y1.trunk,y1.inbound⟩:Record)).bind fun y2=>if (y2 != 0)=true then some ((⟨0,0,0,([]:List UInt8),([]:List UInt8),0,0,0,0,false,0,false⟩:Record),false) else some ((⟨y1.source,y1.serial,y1.kind,y1.a,y1.b,y1.start,o1c6j1,y1.call,y1.part,y1.last,y1.trunk,y1.inbound⟩:Record),true)
def f_correlate_whole_l1 (v0parts:List Record) (y1:Record) (v18l1:Int) (o1c6l1:Int):Option ((Int×Int) ⊕ (Record×Bool)) :=
 if (decide (v18l1 < (v0parts.length:Int)))=true then (ck ((0:Int)≤v18l1∧v18l1 < (v0parts.length:Int)) ((gcall (!(((nth v0parts v18l1.toNat).part)==0)) (f_validate_Check (nth v0parts v18l1.toNat))).bind fun y3=>(gcall (!((((nth v0parts v18l1.toNat).part)==0) || (y3 != 0))) (f_correlate_commonOf (nth v0parts v18l1.toNat))).bind fun y4=>ck ((!((((nth v0parts v18l1.toNat).part)==0) || (y3 != 0)))=true→((0:Int)≤0∧0 < (v0parts.length:Int))) ((gcall (!((((nth v0parts v18l1.toNat).part)==0) || (y3 != 0))) (f_correlate_commonOf (nth v0parts (Int.toNat (0))))).bind fun y5=>ck ((!(((((nth v0parts v18l1.toNat).part)==0) || (y3 != 0)) || (!(eqVs (CorrelateCommon.vals y4) (CorrelateCommon.vals y5)))))=true→(R64 (1099511627776-o1c6l1))) (if ((((((nth v0parts v18l1.toNat).part)==0) || (y3 != 0)) || (!(eqVs (CorrelateCommon.vals y4) (CorrelateCommon.vals y5)))) || (decide (((nth v0parts v18l1.toNat).units) > (1099511627776-o1c6l1))))=true then some (.inr ((⟨0,0,0,([]:List UInt8),([]:List UInt8),0,0,0,0,false,0,false⟩:Record),false)) else ck (R64 (o1c6l1+((nth v0parts v18l1.toNat).units))) (ck (R64 (v18l1+1)) (some (.inl (v18l1+1,o1c6l1+((nth v0parts v18l1.toNat).units))))))))) else (f_correlate_whole_j1 y1 o1c6l1).map (fun z=>.inr z)
def f_correlate_whole (v0parts:List Record):Option (Record×Bool) :=
 if ((v0parts.length:Int)==0)=true then some ((⟨0,0,0,([]:List UInt8),([]:List UInt8),0,0,0,0,false,0,false⟩:Record),false) else ck ((0:Int)≤0∧0 < (v0parts.length:Int)) ((f_correlate_alone (nth v0parts (Int.toNat (0)))).bind fun y1=>loop (fun s=>f_correlate_whole_l1 v0parts y1 s.1 s.2) (0,0))
def f_correlate_Complete_j1 (v0parts:List Record):Option (Record×Bool) :=
 (f_correlate_whole v0parts).bind fun y1=>some (y1.1,y1.2)
def f_correlate_Complete_l1 (v0parts:List Record) (v8l1:Int):Option ((Int) ⊕ (Record×Bool)) :=
 if (decide (v8l1 < (v0parts.length:Int)))=true then (ck ((0:Int)≤v8l1∧v8l1 < (v0parts.length:Int)) (ck (R64 (v8l1+1)) (ck ((!(((nth v0parts v8l1.toNat).part) != (v8l1+1)))=true→(R64 ((v0parts.length:Int) - 1))) (if ((((nth v0parts v8l1.toNat).part) != (v8l1+1)) || (((nth v0parts v8l1.toNat).last) != (v8l1==((v0parts.length:Int) - 1))))=true then some (.inr ((⟨0,0,0,([]:List UInt8),([]:List UInt8),0,0,0,0,false,0,false⟩:Record),false)) else ck (R64 (v8l1+1)) (some (.inl (v8l1+1))))))) else (f_correlate_Complete_j1 v0parts).map (fun z=>.inr z)
def f_correlate_Complete (v0parts:List Record):Option (Record×Bool) :=
 loop (fun s=>f_correlate_Complete_l1 v0parts s) 0
def g_api_Record_v1_l1 (o0c0p:CorrelateCall) (y0t0p:List Record) (v8l1:Int):Option ((Int) ⊕ Int) :=
 if (decide (v8l1 < (y0t0p.length:Int)))=true then (ck ((0:Int)≤v8l1∧v8l1 < (y0t0p.length:Int)) (ck (v8l1.toNat < y0t0p.length) ((g_correlate_span_1 (nth y0t0p v8l1.toNat) o0c0p).bind fun y1=>if y1=true then some (.inr v8l1) else ck (R64 (v8l1+1)) (some (.inl (v8l1+1)))))) else some (.inr (-1))
def g_api_Record_v1 (o0c0p:CorrelateCall) (y0t0p:List Record):Option Int :=
 loop (fun s=>g_api_Record_v1_l1 o0c0p y0t0p s) 0
def g_correlate_span_l1 (v1c:CorrelateCall) (y0t0p:List Record) (y1:Int) (v5tol1:Int):Option ((Int) ⊕ (Int×Int)) :=
 ck ((decide (v5tol1 < (y0t0p.length:Int)))=true→((0:Int)≤v5tol1∧v5tol1 < (y0t0p.length:Int))) (ck ((decide (v5tol1 < (y0t0p.length:Int)))=true→(v5tol1.toNat < y0t0p.length)) ((gcall (decide (v5tol1 < (y0t0p.length:Int))) (f_correlate_callOf (nth y0t0p v5tol1.toNat))).bind fun y2=>if ((decide (v5tol1 < (y0t0p.length:Int))) && (eqVs (CorrelateCall.vals y2) (CorrelateCall.vals v1c)))=true then (ck (R64 (v5tol1+1)) (some (.inl (v5tol1+1)))) else some (.inr (y1,v5tol1))))
def g_correlate_span (v1c:CorrelateCall) (y0t0p:List Record):Option (Int×Int) :=
 (g_api_Record_v1 v1c y0t0p).bind fun y1=>if (decide (y1 < 0))=true then some (0,0) else loop (fun s=>g_correlate_span_l1 v1c y0t0p y1 s) y1
def g_correlate_candidates_l1 (v0parts:List Record) (v1last:Bool) (o0c0j1:List (Int×Int)) (v10outl1:List Int) (v11kl1:Int):Option ((List Int×Int) ⊕ (List Int)) :=
 if (!((alook o0c0j1 v11kl1).isSome))=true then some (.inr v10outl1) else ck (v10outl1.length+([(alook o0c0j1 v11kl1).getD 0]:List Int).length≤1000000000) (ck (v1last=true→((0:Int)≤((alook o0c0j1 v11kl1).getD 0)∧((alook o0c0j1 v11kl1).getD 0) < (v0parts.length:Int))) (ck (v1last=true→(((alook o0c0j1 v11kl1).getD 0).toNat < v0parts.length)) (if (v1last && ((nth v0parts ((alook o0c0j1 v11kl1).getD 0).toNat).last))=true then some (.inr (v10outl1++([(alook o0c0j1 v11kl1).getD 0]:List Int))) else ck (R64 (v11kl1+1)) (some (.inl (v10outl1++([(alook o0c0j1 v11kl1).getD 0]:List Int),v11kl1+1))))))
def g_correlate_candidates_j1 (v0parts:List Record) (v1last:Bool) (o0c0j1:List (Int×Int)):Option (List Int) :=
 loop (fun s=>g_correlate_candidates_l1 v0parts v1last o0c0j1 s.1 s.2) (([]:List Int),1)
def g_correlate_candidates_l2 (v0parts:List Record) (v1last:Bool) (v17l2:Int) (o0c0l2:List (Int×Int)):Option ((Int×(List (Int×Int))) ⊕ (List Int)) :=
 if (decide (v17l2 < (v0parts.length:Int)))=true then (ck ((0:Int)≤v17l2∧v17l2 < (v0parts.length:Int)) (ck (v17l2.toNat < v0parts.length) (if (!((alook o0c0l2 ((nth v0parts v17l2.toNat).part)).isSome))=true then (ck (R64 (v17l2+1)) (some (.inl (v17l2+1,aset o0c0l2 ((nth v0parts v17l2.toNat).part) v17l2)))) else ck (R64 (v17l2+1)) (some (.inl (v17l2+1,o0c0l2)))))) else (g_correlate_candidates_j1 v0parts v1last o0c0l2).map (fun z=>.inr z)
def g_correlate_candidates (v0parts:List Record) (v1last:Bool):Option (List Int) :=
 loop (fun s=>g_correlate_candidates_l2 v0parts v1last s.1 s.2) (0,([]:List (Int×Int)))
def g_correlate_pick_l1 (v0parts:List Record) (v4pickedj1:List Record) (o0c0j1:List (Int×Bool)) (v5othersl1:List Record) (v30l1:Int):Option ((List Record×Int) ⊕ ((List Record)×(List Record))) :=
 if (decide (v30l1 < (v0parts.length:Int)))=true then (ck ((0:Int)≤v30l1∧v30l1 < (v0parts.length:Int)) (ck (v30l1.toNat < v0parts.length) (if (!((alook o0c0j1 v30l1).getD false))=true then (ck (v5othersl1.length+([nth v0parts v30l1.toNat]:List Record).length≤1000000000) (ck (R64 (v30l1+1)) (some (.inl (v5othersl1++([nth v0parts v30l1.toNat]:List Record),v30l1+1))))) else ck (R64 (v30l1+1)) (some (.inl (v5othersl1,v30l1+1)))))) else some (.inr (v4pickedj1,v5othersl1))
def g_correlate_pick_j1 (v0parts:List Record) (v4pickedj1:List Record) (o0c0j1:List (Int×Bool)):Option ((List Record)×(List Record)) :=
 loop (fun s=>g_correlate_pick_l1 v0parts v4pickedj1 o0c0j1 s.1 s.2) (([]:List Record),0)
def g_correlate_pick_l2 (v0parts:List Record) (v1at:List Int) (v4pickedl2:List Record) (v14l2:Int) (o0c0l2:List (Int×Bool)):Option ((List Record×Int×(List (Int×Bool))) ⊕ ((List Record)×(List Record))) :=
 if (decide (v14l2 < (v1at.length:Int)))=true then (ck ((0:Int)≤v14l2∧v14l2 < (v1at.length:Int)) (ck ((0:Int)≤(nth v1at v14l2.toNat)∧(nth v1at v14l2.toNat) < (v0parts.length:Int)) (ck ((nth v1at v14l2.toNat).toNat < v0parts.length) (ck (v4pickedl2.length+([nth v0parts (nth v1at v14l2.toNat).toNat]:List Record).length≤1000000000) (ck (R64 (v14l2+1)) (some (.inl (v4pickedl2++([nth v0parts (nth v1at v14l2.toNat).toNat]:List Record),v14l2+1,aset o0c0l2 (nth v1at v14l2.toNat) true)))))))) else (g_correlate_pick_j1 v0parts v4pickedl2 o0c0l2).map (fun z=>.inr z)
def g_correlate_pick (v0parts:List Record) (v1at:List Int):Option ((List Record)×(List Record)) :=
 loop (fun s=>g_correlate_pick_l2 v0parts v1at s.1 s.2.1 s.2.2) (([]:List Record),0,([]:List (Int×Bool)))
def g_correlate_join_v1_l1 (v2c:CorrelateCall) (y2tl1:List Record) (v1outl1:List Record):Option ((List Record×List Record) ⊕ ((List Record)×(List Record))) :=
 (g_correlate_span v2c y2tl1).bind fun y1=>ck ((0:Int)≤y1.1∧y1.1≤y1.2∧y1.2≤(y2tl1.length:Int)) (ck ((0:Int)≤y1.1∧y1.1≤y1.2∧y1.2≤(y2tl1.length:Int)) ((g_correlate_candidates ((y2tl1.take y1.2.toNat).drop y1.1.toNat) true).bind fun y2=>(g_correlate_pick ((y2tl1.take y1.2.toNat).drop y1.1.toNat) y2).bind fun y3=>(f_correlate_Complete y3.1).bind fun y4=>if (!y4.2)=true then some (.inr (y2tl1,v1outl1)) else (x_ReplaceRecord y1.1 y1.2 y3.2 y2tl1).bind fun y5=>ck (v1outl1.length+([y4.1]:List Record).length≤1000000000) (some (.inl (y5,v1outl1++([y4.1]:List Record))))))
def g_correlate_join_v1 (v2c:CorrelateCall) (y0t0p:List Record) (y1t0p:List Record):Option ((List Record)×(List Record)) :=
 loop (fun s=>g_correlate_join_v1_l1 v2c s.1 s.2) (y0t0p,y1t0p)
def f_correlate_Join_j1 (v1list:List Record) (y0tl1:List Record) (v6outl1:List Record) (v15l1:Int) (v10atj1:Int):Option ((List Record×List Record×Int) ⊕ ((List Record)×(List Record))) :=
 (x_InsertRecord v10atj1 y0tl1 ([nth v1list v15l1.toNat]:List Record)).bind fun y2=>(f_correlate_callOf (nth v1list v15l1.toNat)).bind fun y3=>(g_correlate_join_v1 y3 y2 v6outl1).bind fun y4=>ck (R64 (v15l1+1)) (some (.inl (y4.1,y4.2,v15l1+1)))
def f_correlate_Join_l2 (v1list:List Record) (y0tl1:List Record) (v6outl1:List Record) (v15l1:Int) (v10atl2:Int):Option ((Int) ⊕ ((List Record×List Record×Int) ⊕ ((List Record)×(List Record)))) :=
 ck ((decide (v10atl2 < (y0tl1.length:Int)))=true→((0:Int)≤v10atl2∧v10atl2 < (y0tl1.length:Int))) (ck ((decide (v10atl2 < (y0tl1.length:Int)))=true→(v10atl2.toNat < y0tl1.length)) ((gcall (decide (v10atl2 < (y0tl1.length:Int))) (f_correlate_before (nth y0tl1 v10atl2.toNat) (nth v1list v15l1.toNat))).bind fun y5=>if ((decide (v10atl2 < (y0tl1.length:Int))) && (decide (y5≤0)))=true then (ck (R64 (v10atl2+1)) (some (.inl (v10atl2+1)))) else (f_correlate_Join_j1 v1list y0tl1 v6outl1 v15l1 v10atl2).map (fun z=>.inr z)))
def f_correlate_Join_l1 (v1list:List Record) (y0tl1:List Record) (v6outl1:List Record) (v15l1:Int):Option ((List Record×List Record×Int) ⊕ ((List Record)×(List Record))) :=
 if (decide (v15l1 < (v1list.length:Int)))=true then (ck ((0:Int)≤v15l1∧v15l1 < (v1list.length:Int)) (if (((nth v1list v15l1.toNat).part)==0)=true then (ck (v6outl1.length+([nth v1list v15l1.toNat]:List Record).length≤1000000000) (ck (R64 (v15l1+1)) (some (.inl (y0tl1,v6outl1++([nth v1list v15l1.toNat]:List Record),v15l1+1))))) else loop (fun s=>f_correlate_Join_l2 v1list y0tl1 v6outl1 v15l1 s) 0)) else some (.inr (v6outl1,y0tl1))
def f_correlate_Join (v0open:List Record) (v1list:List Record):Option ((List Record)×(List Record)) :=
 (x_CloneRecord v0open).bind fun y1=>loop (fun s=>f_correlate_Join_l1 v1list s.1 s.2.1 s.2.2) (y1,([]:List Record),0)
def g_intake_timely_l1 (v0records:List Record) (v1w:Window) (y1tl1:List Reject) (v6atl1:List Int) (v13l1:Int):Option ((List Reject×List Int×Int) ⊕ ((List Int)×(List Reject))) :=
 if (decide (v13l1 < (v0records.length:Int)))=true then (ck ((0:Int)≤v13l1∧v13l1 < (v0records.length:Int)) ((f_validate_Window (nth v0records v13l1.toNat) v1w).bind fun y1=>if (y1 != 0)=true then (ck (y1tl1.length+([(⟨(nth v0records v13l1.toNat).source,(nth v0records v13l1.toNat).serial,v13l1,y1⟩:Reject)]:List Reject).length≤1000000000) (ck (R64 (v13l1+1)) (some (.inl (y1tl1++([(⟨(nth v0records v13l1.toNat).source,(nth v0records v13l1.toNat).serial,v13l1,y1⟩:Reject)]:List Reject),v6atl1,v13l1+1))))) else ck (v6atl1.length+([v13l1]:List Int).length≤1000000000) (ck (R64 (v13l1+1)) (some (.inl (y1tl1,v6atl1++([v13l1]:List Int),v13l1+1)))))) else some (.inr (v6atl1,y1tl1))
def g_intake_timely (v0records:List Record) (v1w:Window):Option ((List Int)×(List Reject)) :=
 loop (fun s=>g_intake_timely_l1 v0records v1w s.1 s.2.1 s.2.2) (([]:List Reject),([]:List Int),0)
def g_intake_copied (v0in:Intake):Option ((List Range)×(List Record)×(List Head)) :=
 (x_CloneRange v0in.seen).bind fun y1=>(x_CloneRecord v0in.open_).bind fun y2=>(x_CloneHead v0in.heads).bind fun y3=>some (y1,y2,y3)
def f_intake_Accept_j2 (v1:Batch) (y4:(List Range)×(List Record)×(List Head)) (y5:(List Range)×(List Record)×(List Reject)) (y0tj2:List Reject):Option (Intake×(List Record)×(List Reject)×Int) :=
 (x_SortReject y0tj2).bind fun y6=>(f_correlate_Join y4.2.1 y5.2.1).bind fun y7=>ck (y4.2.2.length+([(⟨v1.source,v1.number,v1.format,(v1.records.length:Int)⟩:Head)]:List Head).length≤1000000000) (some ((⟨y5.1,y7.2,y4.2.2++([(⟨v1.source,v1.number,v1.format,(v1.records.length:Int)⟩:Head)]:List Head)⟩:Intake),y7.1,y6,0))
def f_intake_Accept_l1 (v1:Batch) (y3:(List Int)×(List Reject)) (y4:(List Range)×(List Record)×(List Head)) (y5:(List Range)×(List Record)×(List Reject)) (y0tl1:List Reject) (v72l1:Int):Option ((List Reject×Int) ⊕ (Intake×(List Record)×(List Reject)×Int)) :=
 if (decide (v72l1 < (y5.2.2.length:Int)))=true then (ck ((0:Int)≤v72l1∧v72l1 < (y5.2.2.length:Int)) (ck ((0:Int)≤((nth y5.2.2 v72l1.toNat).index)∧((nth y5.2.2 v72l1.toNat).index) < (y3.1.length:Int)) (ck (y0tl1.length+([(⟨(nth y5.2.2 v72l1.toNat).source,(nth y5.2.2 v72l1.toNat).serial,nth y3.1 ((nth y5.2.2 v72l1.toNat).index).toNat,(nth y5.2.2 v72l1.toNat).err⟩:Reject)]:List Reject).length≤1000000000) (ck (R64 (v72l1+1)) (some (.inl (y0tl1++([(⟨(nth y5.2.2 v72l1.toNat).source,(nth y5.2.2 v72l1.toNat).serial,nth y3.1 ((nth y5.2.2 v72l1.toNat).index).toNat,(nth y5.2.2 v72l1.toNat).err⟩:Reject)]:List Reject),v72l1+1))))))) else (f_intake_Accept_j2 v1 y4 y5 y0tl1).map (fun z=>.inr z)
def f_intake_Accept_j1 (v0:Intake) (v1:Batch) (y3:(List Int)×(List Reject)) (v13j1:List Record):Option (Intake×(List Record)×(List Reject)×Int) :=
 (g_intake_copied v0).bind fun y4=>(f_dedup_Filter y4.1 v13j1).bind fun y5=>loop (fun s=>f_intake_Accept_l1 v1 y3 y4 y5 s.1 s.2) (y3.2,0)
def f_intake_Accept_l2 (v0:Intake) (v1:Batch) (y3:(List Int)×(List Reject)) (v13l2:List Record) (v47l2:Int):Option ((List Record×Int) ⊕ (Intake×(List Record)×(List Reject)×Int)) :=
 if (decide (v47l2 < (y3.1.length:Int)))=true then (ck ((0:Int)≤v47l2∧v47l2 < (y3.1.length:Int)) (ck ((0:Int)≤(nth y3.1 v47l2.toNat)∧(nth y3.1 v47l2.toNat) < (v1.records.length:Int)) (ck (v13l2.length+([nth v1.records (nth y3.1 v47l2.toNat).toNat]:List Record).length≤1000000000) (ck (R64 (v47l2+1)) (some (.inl (v13l2++([nth v1.records (nth y3.1 v47l2.toNat).toNat]:List Record),v47l2+1))))))) else (f_intake_Accept_j1 v0 v1 y3 v13l2).map (fun z=>.inr z)
def f_intake_Accept (v0:Intake) (v1:Batch) (v2:Window):Option (Intake×(List Record)×(List Reject)×Int) :=
 (f_batch_Check v1).bind fun y1=>if (y1 != 0)=true then some ((⟨([]:List Range),([]:List Record),([]:List Head)⟩:Intake),([]:List Record),([]:List Reject),y1) else (f_intake_Next v0 v1.source).bind fun y2=>if (v1.number != y2)=true then some ((⟨([]:List Range),([]:List Record),([]:List Head)⟩:Intake),([]:List Record),([]:List Reject),20) else (g_intake_timely v1.records v2).bind fun y3=>loop (fun s=>f_intake_Accept_l2 v0 v1 y3 s.1 s.2) (([]:List Record),0)
def f_dedup_Check_l1 (v0seen:List Range) (v8l1:Int):Option ((Int) ⊕ Bool) :=
 if (decide (v8l1 < (v0seen.length:Int)))=true then (ck ((0:Int)≤v8l1∧v8l1 < (v0seen.length:Int)) ((f_dedup_identity ((nth v0seen v8l1.toNat).source) ((nth v0seen v8l1.toNat).from_)).bind fun y1=>(gcall (!(!y1)) (f_dedup_identity ((nth v0seen v8l1.toNat).source) ((nth v0seen v8l1.toNat).to_))).bind fun y2=>if (((!y1) || (!y2)) || (decide (((nth v0seen v8l1.toNat).from_) > ((nth v0seen v8l1.toNat).to_))))=true then some (.inr false) else if (decide (v8l1 > 0))=true then (ck (R64 (v8l1-1)) (ck ((0:Int)≤(v8l1-1)∧(v8l1-1) < (v0seen.length:Int)) (ck (((!(decide (((nth v0seen (v8l1-1).toNat).source) > ((nth v0seen v8l1.toNat).source)))) && (((nth v0seen (v8l1-1).toNat).source)==((nth v0seen v8l1.toNat).source)))=true→(R64 (((nth v0seen (v8l1-1).toNat).to_)+1))) (if ((decide (((nth v0seen (v8l1-1).toNat).source) > ((nth v0seen v8l1.toNat).source))) || ((((nth v0seen (v8l1-1).toNat).source)==((nth v0seen v8l1.toNat).source)) && (decide ((((nth v0seen (v8l1-1).toNat).to_)+1)≥((nth v0seen v8l1.toNat).from_)))))=true then some (.inr false) else ck (R64 (v8l1+1)) (some (.inl (v8l1+1))))))) else ck (R64 (v8l1+1)) (some (.inl (v8l1+1))))) else some (.inr true)
def f_dedup_Check (v0seen:List Range):Option Bool :=
 loop (fun s=>f_dedup_Check_l1 v0seen s) 0
def f_api_Record_l1 (v0s1:List Record) (v1s2:List Record) (v13l1:Int):Option ((Int) ⊕ Bool) :=
 if (decide (v13l1 < (v0s1.length:Int)))=true then (ck ((0:Int)≤v13l1∧v13l1 < (v0s1.length:Int)) (ck ((0:Int)≤v13l1∧v13l1 < (v1s2.length:Int)) (if (!(eqVs (Record.vals (nth v0s1 v13l1.toNat)) (Record.vals (nth v1s2 v13l1.toNat))))=true then some (.inr false) else ck (R64 (v13l1+1)) (some (.inl (v13l1+1)))))) else some (.inr true)
def f_api_Record (v0s1:List Record) (v1s2:List Record):Option Bool :=
 if ((v0s1.length:Int) != (v1s2.length:Int))=true then some false else loop (fun s=>f_api_Record_l1 v0s1 v1s2 s) 0
def f_intake_open_j1 (v0in:Intake) (o1c0j1:List (IntakeIdentity×Bool)):Option Bool :=
 (f_correlate_Join ([]:List Record) v0in.open_).bind fun y1=>(gcall ((y1.1.length:Int)==0) (f_api_Record y1.2 v0in.open_)).bind fun y2=>some (((y1.1.length:Int)==0) && y2)
def f_intake_open_l1 (v0in:Intake) (v13l1:Int) (o1c0l1:List (IntakeIdentity×Bool)):Option ((Int×(List (IntakeIdentity×Bool))) ⊕ Bool) :=
 if (decide (v13l1 < (v0in.open_.length:Int)))=true then (ck ((0:Int)≤v13l1∧v13l1 < (v0in.open_.length:Int)) ((gcall (!(((nth v0in.open_ v13l1.toNat).part)==0)) (f_validate_Check (nth v0in.open_ v13l1.toNat))).bind fun y3=>(gcall (!(((((nth v0in.open_ v13l1.toNat).part)==0) || (y3 != 0)) || ((alook o1c0l1 (⟨(nth v0in.open_ v13l1.toNat).source,(nth v0in.open_ v13l1.toNat).serial⟩:IntakeIdentity)).getD false))) (f_dedup_Has v0in.seen ((nth v0in.open_ v13l1.toNat).source) ((nth v0in.open_ v13l1.toNat).serial))).bind fun y4=>if ((((((nth v0in.open_ v13l1.toNat).part)==0) || (y3 != 0)) || ((alook o1c0l1 (⟨(nth v0in.open_ v13l1.toNat).source,(nth v0in.open_ v13l1.toNat).serial⟩:IntakeIdentity)).getD false)) || (!y4))=true then some (.inr false) else ck (R64 (v13l1+1)) (some (.inl (v13l1+1,aset o1c0l1 (⟨(nth v0in.open_ v13l1.toNat).source,(nth v0in.open_ v13l1.toNat).serial⟩:IntakeIdentity) true))))) else (f_intake_open_j1 v0in o1c0l1).map (fun z=>.inr z)
def f_intake_open (v0in:Intake):Option Bool :=
 loop (fun s=>f_intake_open_l1 v0in s.1 s.2) (0,([]:List (IntakeIdentity×Bool)))
def g_intake_heads_l1 (v0:List Head) (v11l1:Int) (o0c0l1:List (Int×Int)):Option ((Int×(List (Int×Int))) ⊕ (List (Int×Int))) :=
 if (decide (v11l1 < (v0.length:Int)))=true then (ck ((0:Int)≤v11l1∧v11l1 < (v0.length:Int)) (ck ((0:Int)≤v11l1∧v11l1≤(v0.length:Int)) ((f_intake_Next (⟨([]:List Range),([]:List Record),v0.take v11l1.toNat⟩:Intake) ((nth v0 v11l1.toNat).source)).bind fun y1=>if ((((((((!(eqVs (Head.vals (nth v0 v11l1.toNat)) (Head.vals (⟨(nth v0 v11l1.toNat).source,y1,(nth v0 v11l1.toNat).format,(nth v0 v11l1.toNat).count⟩:Head)))) || (decide (((nth v0 v11l1.toNat).source) < 1))) || (decide (((nth v0 v11l1.toNat).source) > 99))) || (decide (((nth v0 v11l1.toNat).format) < 1))) || (decide (((nth v0 v11l1.toNat).format)≥4))) || (decide (((nth v0 v11l1.toNat).count) < 0))) || (decide (((nth v0 v11l1.toNat).count) > 4096))) || (decide (((nth v0 v11l1.toNat).number) > 999999999)))=true then (none) else ck (R64 (((alook o0c0l1 ((nth v0 v11l1.toNat).source)).getD 0)+((nth v0 v11l1.toNat).count))) (ck (R64 (v11l1+1)) (some (.inl (v11l1+1,aset o0c0l1 ((nth v0 v11l1.toNat).source) (((alook o0c0l1 ((nth v0 v11l1.toNat).source)).getD 0)+((nth v0 v11l1.toNat).count))))))))) else some (.inr o0c0l1)
def g_intake_heads (v0:List Head):Option (List (Int×Int)) :=
 loop (fun s=>g_intake_heads_l1 v0 s.1 s.2) (0,([]:List (Int×Int)))
def g_intake_heads_v1_l1 (v0:List Head) (v11l1:Int) (o0c0l1:List (Int×Int)):Option ((Int×(List (Int×Int))) ⊕ Unit) :=
 if (decide (v11l1 < (v0.length:Int)))=true then (ck ((0:Int)≤v11l1∧v11l1 < (v0.length:Int)) (ck ((0:Int)≤v11l1∧v11l1≤(v0.length:Int)) ((f_intake_Next (⟨([]:List Range),([]:List Record),v0.take v11l1.toNat⟩:Intake) ((nth v0 v11l1.toNat).source)).bind fun y1=>if ((((((((!(eqVs (Head.vals (nth v0 v11l1.toNat)) (Head.vals (⟨(nth v0 v11l1.toNat).source,y1,(nth v0 v11l1.toNat).format,(nth v0 v11l1.toNat).count⟩:Head)))) || (decide (((nth v0 v11l1.toNat).source) < 1))) || (decide (((nth v0 v11l1.toNat).source) > 99))) || (decide (((nth v0 v11l1.toNat).format) < 1))) || (decide (((nth v0 v11l1.toNat).format)≥4))) || (decide (((nth v0 v11l1.toNat).count) < 0))) || (decide (((nth v0 v11l1.toNat).count) > 4096))) || (decide (((nth v0 v11l1.toNat).number) > 999999999)))=true then some (.inr ()) else ck (R64 (((alook o0c0l1 ((nth v0 v11l1.toNat).source)).getD 0)+((nth v0 v11l1.toNat).count))) (ck (R64 (v11l1+1)) (some (.inl (v11l1+1,aset o0c0l1 ((nth v0 v11l1.toNat).source) (((alook o0c0l1 ((nth v0 v11l1.toNat).source)).getD 0)+((nth v0 v11l1.toNat).count))))))))) else none
def g_intake_heads_v1 (v0:List Head):Option Unit :=
 loop (fun s=>g_intake_heads_v1_l1 v0 s.1 s.2) (0,([]:List (Int×Int)))
def f_intake_Check_l1 (v0in:Intake) (y1:(List (Int×Int))) (v31l1:Int) (o2c0l1:List (Int×Int)):Option ((Int×(List (Int×Int))) ⊕ Bool) :=
 if (decide (v31l1 < (v0in.seen.length:Int)))=true then (ck ((0:Int)≤v31l1∧v31l1 < (v0in.seen.length:Int)) (ck (R64 (((nth v0in.seen v31l1.toNat).to_) - ((nth v0in.seen v31l1.toNat).from_))) (ck (R64 ((((nth v0in.seen v31l1.toNat).to_) - ((nth v0in.seen v31l1.toNat).from_))+1)) (ck (R64 (((alook o2c0l1 ((nth v0in.seen v31l1.toNat).source)).getD 0)+((((nth v0in.seen v31l1.toNat).to_) - ((nth v0in.seen v31l1.toNat).from_))+1))) (if (decide (((alook (aset o2c0l1 ((nth v0in.seen v31l1.toNat).source) (((alook o2c0l1 ((nth v0in.seen v31l1.toNat).source)).getD 0)+((((nth v0in.seen v31l1.toNat).to_) - ((nth v0in.seen v31l1.toNat).from_))+1))) ((nth v0in.seen v31l1.toNat).source)).getD 0) > ((alook y1 ((nth v0in.seen v31l1.toNat).source)).getD 0)))=true then some (.inr false) else ck (R64 (v31l1+1)) (some (.inl (v31l1+1,aset o2c0l1 ((nth v0in.seen v31l1.toNat).source) (((alook o2c0l1 ((nth v0in.seen v31l1.toNat).source)).getD 0)+((((nth v0in.seen v31l1.toNat).to_) - ((nth v0in.seen v31l1.toNat).from_))+1)))))))))) else some (.inr true)
def f_intake_Check (v0in:Intake):Option Bool :=
 if ((g_intake_heads v0in.heads).isSome)=true then ((g_intake_heads v0in.heads).bind fun y1=>(gcall (!(!true)) (f_dedup_Check v0in.seen)).bind fun y2=>(gcall (!((!true) || (!y2))) (f_intake_open v0in)).bind fun y3=>if (((!true) || (!y2)) || (!y3))=true then some false else loop (fun s=>f_intake_Check_l1 v0in y1 s.1 s.2) (0,([]:List (Int×Int)))) else (g_intake_heads_v1 v0in.heads).bind fun y4=>(gcall (!(!false)) (f_dedup_Check v0in.seen)).bind fun y5=>(gcall (!((!false) || (!y5))) (f_intake_open v0in)).bind fun y6=>some false
def f_w16_awake:Option Bool :=
 (f_w16_always).bind fun y1=>(f_intake_Accept (⟨([]:List Range),([]:List Record),([]:List Head)⟩:Intake) (⟨1,1,1,([(⟨1,1,2,([49]:List UInt8),([50]:List UInt8),0,1,0,0,false,0,false⟩:Record),(⟨1,2,2,([49]:List UInt8),([50]:List UInt8),0,1,0,0,false,0,false⟩:Record)]:List Record)⟩:Batch) y1).bind fun y2=>(f_w16_always).bind fun y3=>(f_intake_Accept y2.1 (⟨1,1,1,([(⟨1,1,2,([49]:List UInt8),([50]:List UInt8),0,1,0,0,false,0,false⟩:Record),(⟨1,2,2,([49]:List UInt8),([50]:List UInt8),0,1,0,0,false,0,false⟩:Record)]:List Record)⟩:Batch) y3).bind fun y4=>(f_w16_always).bind fun y5=>(f_intake_Accept (⟨([]:List Range),([]:List Record),([]:List Head)⟩:Intake) (⟨1,2,1,([(⟨1,1,2,([49]:List UInt8),([50]:List UInt8),0,1,0,0,false,0,false⟩:Record),(⟨1,2,2,([49]:List UInt8),([50]:List UInt8),0,1,0,0,false,0,false⟩:Record)]:List Record)⟩:Batch) y5).bind fun y6=>(f_w16_always).bind fun y7=>(f_intake_Accept y2.1 (⟨1,2,1,([(⟨1,1,2,([49]:List UInt8),([50]:List UInt8),0,1,0,0,false,0,false⟩:Record),(⟨1,2,2,([49]:List UInt8),([50]:List UInt8),0,1,0,0,false,0,false⟩:Record)]:List Record)⟩:Batch) y7).bind fun y8=>if ((((((((y2.2.2.2 != 0) || (y4.2.2.2 != 20)) || (y6.2.2.2 != 20)) || (y8.2.2.2 != 0)) || ((y2.2.1.length:Int) != 2)) || ((y2.2.2.1.length:Int) != 0)) || ((y8.2.1.length:Int) != 0)) || ((y8.2.2.1.length:Int) != 2))=true then some false else (f_intake_Next y2.1 1).bind fun y9=>(gcall (y9==2) (f_intake_Next y2.1 2)).bind fun y10=>(gcall ((y9==2) && (y10==1)) (f_intake_Check y2.1)).bind fun y11=>ck ((((y9==2) && (y10==1)) && y11)=true→((0:Int)≤1∧1 < (y8.2.2.1.length:Int))) (some ((((y9==2) && (y10==1)) && y11) && (eqVs (Reject.vals (nth y8.2.2.1 (Int.toNat (1)))) (Reject.vals (⟨1,2,1,13⟩:Reject)))))
def f_r16_next_l1 (v0heads:List Head) (v1n:Int) (v2source:Int) (v7kl1:Int) (v8il1:Int):Option ((Int×Int) ⊕ Int) :=
 if (decide (v8il1 < v1n))=true then (ck ((0:Int)≤v8il1∧v8il1 < (v0heads.length:Int)) (if (((nth v0heads v8il1.toNat).source)==v2source)=true then (ck ((0:Int)≤v8il1∧v8il1 < (v0heads.length:Int)) (ck (R64 (((nth v0heads v8il1.toNat).number)+1)) (ck (R64 (v8il1+1)) (some (.inl (((nth v0heads v8il1.toNat).number)+1,v8il1+1)))))) else ck (R64 (v8il1+1)) (some (.inl (v7kl1,v8il1+1))))) else some (.inr v7kl1)
def f_r16_next (v0heads:List Head) (v1n:Int) (v2source:Int):Option Int :=
 loop (fun s=>f_r16_next_l1 v0heads v1n v2source s.1 s.2) (1,0)
def f_r16_heads_l1 (v0:Intake) (v3l1:Int):Option ((Int) ⊕ Bool) :=
 if (decide (v3l1 < (v0.heads.length:Int)))=true then (ck ((0:Int)≤v3l1∧v3l1 < (v0.heads.length:Int)) ((gcall (!((((decide (((nth v0.heads v3l1.toNat).source) < 1)) || (decide (((nth v0.heads v3l1.toNat).source) > 99))) || (decide (((nth v0.heads v3l1.toNat).number) < 1))) || (decide (((nth v0.heads v3l1.toNat).number) > 999999999)))) (f_r16_next v0.heads v3l1 ((nth v0.heads v3l1.toNat).source))).bind fun y1=>if (((((((((decide (((nth v0.heads v3l1.toNat).source) < 1)) || (decide (((nth v0.heads v3l1.toNat).source) > 99))) || (decide (((nth v0.heads v3l1.toNat).number) < 1))) || (decide (((nth v0.heads v3l1.toNat).number) > 999999999))) || (((nth v0.heads v3l1.toNat).number) != y1)) || (decide (((nth v0.heads v3l1.toNat).format) < 1))) || (decide (((nth v0.heads v3l1.toNat).format)≥4))) || (decide (((nth v0.heads v3l1.toNat).count) < 0))) || (decide (((nth v0.heads v3l1.toNat).count) > 4096)))=true then some (.inr false) else ck (R64 (v3l1+1)) (some (.inl (v3l1+1))))) else some (.inr true)
def f_r16_heads (v0:Intake):Option Bool :=
 loop (fun s=>f_r16_heads_l1 v0 s) 0
def f_r14_identity (v0source:Int) (v1serial:Int):Option Bool :=
 some ((((decide (v0source≥1)) && (decide (v0source≤99))) && (decide (v1serial≥1))) && (decide (v1serial≤999999999)))
def f_r14_Check_l1 (v0:List Range) (v3l1:Int):Option ((Int) ⊕ Bool) :=
 if (decide (v3l1 < (v0.length:Int)))=true then (ck ((0:Int)≤v3l1∧v3l1 < (v0.length:Int)) ((f_r14_identity ((nth v0 v3l1.toNat).source) ((nth v0 v3l1.toNat).from_)).bind fun y1=>(gcall (!(!y1)) (f_r14_identity ((nth v0 v3l1.toNat).source) ((nth v0 v3l1.toNat).to_))).bind fun y2=>if (((!y1) || (!y2)) || (decide (((nth v0 v3l1.toNat).from_) > ((nth v0 v3l1.toNat).to_))))=true then some (.inr false) else ck ((decide (v3l1 > 0))=true→(R64 (v3l1-1))) (ck ((decide (v3l1 > 0))=true→((0:Int)≤(v3l1-1)∧(v3l1-1) < (v0.length:Int))) (ck (((decide (v3l1 > 0)) && (!(decide (((nth v0 (v3l1-1).toNat).source) > ((nth v0 v3l1.toNat).source)))))=true→(R64 (v3l1-1))) (ck (((decide (v3l1 > 0)) && (!(decide (((nth v0 (v3l1-1).toNat).source) > ((nth v0 v3l1.toNat).source)))))=true→((0:Int)≤(v3l1-1)∧(v3l1-1) < (v0.length:Int))) (ck ((((decide (v3l1 > 0)) && (!(decide (((nth v0 (v3l1-1).toNat).source) > ((nth v0 v3l1.toNat).source))))) && (((nth v0 (v3l1-1).toNat).source)==((nth v0 v3l1.toNat).source)))=true→(R64 (v3l1-1))) (ck ((((decide (v3l1 > 0)) && (!(decide (((nth v0 (v3l1-1).toNat).source) > ((nth v0 v3l1.toNat).source))))) && (((nth v0 (v3l1-1).toNat).source)==((nth v0 v3l1.toNat).source)))=true→((0:Int)≤(v3l1-1)∧(v3l1-1) < (v0.length:Int))) (ck ((((decide (v3l1 > 0)) && (!(decide (((nth v0 (v3l1-1).toNat).source) > ((nth v0 v3l1.toNat).source))))) && (((nth v0 (v3l1-1).toNat).source)==((nth v0 v3l1.toNat).source)))=true→(R64 (((nth v0 (v3l1-1).toNat).to_)+1))) (if ((decide (v3l1 > 0)) && ((decide (((nth v0 (v3l1-1).toNat).source) > ((nth v0 v3l1.toNat).source))) || ((((nth v0 (v3l1-1).toNat).source)==((nth v0 v3l1.toNat).source)) && (decide ((((nth v0 (v3l1-1).toNat).to_)+1)≥((nth v0 v3l1.toNat).from_))))))=true then some (.inr false) else ck (R64 (v3l1+1)) (some (.inl (v3l1+1)))))))))))) else some (.inr true)
def f_r14_Check (v0:List Range):Option Bool :=
 loop (fun s=>f_r14_Check_l1 v0 s) 0
def f_r09_in (v0n:Int) (v1low:Int) (v2high:Int):Option Bool :=
 some ((decide (v0n≥v1low)) && (decide (v0n≤v2high)))
def f_r02_Valid_j1 (v0s:List UInt8):Option Bool :=
 some ((decide ((v0s.length:Int)≥1)) && (decide ((v0s.length:Int)≤15)))
def f_r02_Valid_l1 (v0s:List UInt8) (v3il1:Int):Option ((Int) ⊕ Bool) :=
 if (decide (v3il1 < (v0s.length:Int)))=true then (ck ((0:Int)≤v3il1∧v3il1 < (v0s.length:Int)) (ck ((!(decide ((nth v0s v3il1.toNat) < 48)))=true→((0:Int)≤v3il1∧v3il1 < (v0s.length:Int))) (if ((decide ((nth v0s v3il1.toNat) < 48)) || (decide ((nth v0s v3il1.toNat) > 57)))=true then some (.inr false) else ck (R64 (v3il1+1)) (some (.inl (v3il1+1)))))) else (f_r02_Valid_j1 v0s).map (fun z=>.inr z)
def f_r02_Valid (v0s:List UInt8):Option Bool :=
 loop (fun s=>f_r02_Valid_l1 v0s s) 0
def f_r09_Error (v0:Record):Option Int :=
 (f_r09_in v0.source 1 99).bind fun y1=>(gcall (!(!y1)) (f_r09_in v0.serial 1 999999999)).bind fun y2=>if ((!y1) || (!y2))=true then some 6 else (f_r09_in v0.kind 1 4).bind fun y3=>if (!y3)=true then some 7 else (f_r02_Valid v0.a).bind fun y4=>if (!y4)=true then some 12 else (f_r02_Valid v0.b).bind fun y5=>if ((!y5) && ((v0.b != ([]:List UInt8)) || ((v0.kind != 3) && (v0.kind != 4))))=true then some 12 else (f_r09_in v0.start 0 12622780799).bind fun y6=>if (!y6)=true then some 15 else (f_r09_in v0.units 0 1099511627776).bind fun y7=>if ((!y7) || ((v0.kind==1) && (decide (v0.units > 604800))))=true then some 6 else ck ((v0.kind==1)=true→(R64 (v0.start+v0.units))) (if ((v0.kind==1) && (decide ((v0.start+v0.units) > 12622780800)))=true then some 15 else (f_r09_in v0.call 0 999999999).bind fun y8=>(gcall (!(!y8)) (f_r09_in v0.part 0 99)).bind fun y9=>if ((!y8) || (!y9))=true then some 6 else if (((v0.part==0) != (v0.call==0)) || (v0.last && (v0.part==0)))=true then some 8 else (f_r09_in v0.trunk 0 999).bind fun y10=>if (!y10)=true then some 6 else if (v0.inbound && (v0.trunk==0))=true then some 8 else some 0)
def f_r13_Check (v0r:Record):Option Int :=
 (f_r09_Error v0r).bind fun y1=>some y1
def f_r15_before (v0a:Record) (v1b:Record):Option Bool :=
 if (v0a.source != v1b.source)=true then some (decide (v0a.source < v1b.source)) else if (v0a.call != v1b.call)=true then some (decide (v0a.call < v1b.call)) else some (decide (v0a.part < v1b.part))
def f_r15_call (v0a:Record) (v1b:Record):Option Bool :=
 some ((v0a.source==v1b.source) && (v0a.call==v1b.call))
def f_r15_firsts_l1 (v0open:List Record) (v1x:Record) (v2last:Bool) (v7outl1:List Int) (v8il1:Int):Option ((List Int×Int) ⊕ (List Int)) :=
 if (decide (v8il1 < (v0open.length:Int)))=true then (ck ((0:Int)≤v8il1∧v8il1 < (v0open.length:Int)) ((f_r15_call (nth v0open v8il1.toNat) v1x).bind fun y1=>ck (y1=true→((0:Int)≤v8il1∧v8il1 < (v0open.length:Int))) (ck (y1=true→(R64 ((v7outl1.length:Int)+1))) (if (y1 && (((nth v0open v8il1.toNat).part)==((v7outl1.length:Int)+1)))=true then (ck (v7outl1.length+([v8il1]:List Int).length≤1000000000) (ck (v2last=true→((0:Int)≤v8il1∧v8il1 < (v0open.length:Int))) (if (v2last && ((nth v0open v8il1.toNat).last))=true then some (.inr (v7outl1++([v8il1]:List Int))) else ck (R64 (v8il1+1)) (some (.inl (v7outl1++([v8il1]:List Int),v8il1+1)))))) else ck (R64 (v8il1+1)) (some (.inl (v7outl1,v8il1+1))))))) else some (.inr v7outl1)
def f_r15_firsts (v0open:List Record) (v1x:Record) (v2last:Bool):Option (List Int) :=
 loop (fun s=>f_r15_firsts_l1 v0open v1x v2last s.1 s.2) (([]:List Int),0)
def f_r15_pick_l1 (v0list:List Record) (v1at:List Int) (v6outl1:List Record) (v7restl1:List Record) (v8kl1:Int) (v9il1:Int):Option ((List Record×List Record×Int×Int) ⊕ ((List Record)×(List Record))) :=
 if (decide (v9il1 < (v0list.length:Int)))=true then (ck ((decide (v8kl1 < (v1at.length:Int)))=true→((0:Int)≤v8kl1∧v8kl1 < (v1at.length:Int))) (if ((decide (v8kl1 < (v1at.length:Int))) && ((nth v1at v8kl1.toNat)==v9il1))=true then (ck ((0:Int)≤v9il1∧v9il1 < (v0list.length:Int)) (ck (v6outl1.length+([nth v0list v9il1.toNat]:List Record).length≤1000000000) (ck (R64 (v8kl1+1)) (ck (R64 (v9il1+1)) (some (.inl (v6outl1++([nth v0list v9il1.toNat]:List Record),v7restl1,v8kl1+1,v9il1+1))))))) else ck ((0:Int)≤v9il1∧v9il1 < (v0list.length:Int)) (ck (v7restl1.length+([nth v0list v9il1.toNat]:List Record).length≤1000000000) (ck (R64 (v9il1+1)) (some (.inl (v6outl1,v7restl1++([nth v0list v9il1.toNat]:List Record),v8kl1,v9il1+1))))))) else some (.inr (v6outl1,v7restl1))
def f_r15_pick (v0list:List Record) (v1at:List Int):Option ((List Record)×(List Record)) :=
 loop (fun s=>f_r15_pick_l1 v0list v1at s.1 s.2.1 s.2.2.1 s.2.2.2) (([]:List Record),([]:List Record),0,0)
def f_r15_whole_j1 (v0:List Record) (o1c0j1:Int) (o1c1j1:Int) (o1c2j1:Int) (o1c3j1:List UInt8) (o1c4j1:List UInt8) (o1c5j1:Int) (o1c6j1:Int) (o1c10j1:Int) (o1c11j1:Bool):Option (Record×Bool) :=
 some ((⟨o1c0j1,o1c1j1,o1c2j1,o1c3j1,o1c4j1,o1c5j1,o1c6j1,0,0,false,o1c10j1,o1c11j1⟩:Record),decide ((v0.length:Int) > 0))
def f_r15_whole_l1 (v0:List Record) (v5l1:Int) (o1c0l1:Int) (o1c1l1:Int) (o1c2l1:Int) (o1c3l1:List UInt8) (o1c4l1:List UInt8) (o1c5l1:Int) (o1c6l1:Int) (o1c10l1:Int) (o1c11l1:Bool):Option ((Int×Int×Int×Int×List UInt8×List UInt8×Int×Int×Int×Bool) ⊕ (Record×Bool)) :=
 if (decide (v5l1 < (v0.length:Int)))=true then (ck ((0:Int)≤v5l1∧v5l1 < (v0.length:Int)) ((gcall (!(((nth v0 v5l1.toNat).part)==0)) (f_r13_Check (nth v0 v5l1.toNat))).bind fun y1=>if ((((nth v0 v5l1.toNat).part)==0) || (y1 != 0))=true then some (.inr ((⟨0,0,0,([]:List UInt8),([]:List UInt8),0,0,0,0,false,0,false⟩:Record),false)) else ck (R64 (o1c6l1+((nth v0 v5l1.toNat).units))) (ck ((0:Int)≤0∧0 < (v0.length:Int)) ((f_r15_call (nth v0 v5l1.toNat) (nth v0 (Int.toNat (0)))).bind fun y2=>if ((((((!y2) || (((nth v0 v5l1.toNat).kind) != ((nth v0 (Int.toNat (0))).kind))) || (((nth v0 v5l1.toNat).a) != ((nth v0 (Int.toNat (0))).a))) || (((nth v0 v5l1.toNat).b) != ((nth v0 (Int.toNat (0))).b))) || (((nth v0 v5l1.toNat).trunk) != ((nth v0 (Int.toNat (0))).trunk))) || (((nth v0 v5l1.toNat).inbound) != ((nth v0 (Int.toNat (0))).inbound)))=true then some (.inr ((⟨0,0,0,([]:List UInt8),([]:List UInt8),0,0,0,0,false,0,false⟩:Record),false)) else (f_r13_Check (⟨(nth v0 (Int.toNat (0))).source,(nth v0 (Int.toNat (0))).serial,(nth v0 (Int.toNat (0))).kind,(nth v0 (Int.toNat (0))).a,(nth v0 (Int.toNat (0))).b,(nth v0 (Int.toNat (0))).start,o1c6l1+((nth v0 v5l1.toNat).units),0,0,false,(nth v0 (Int.toNat (0))).trunk,(nth v0 (Int.toNat (0))).inbound⟩:Record)).bind fun y3=>if (y3 != 0)=true then some (.inr ((⟨0,0,0,([]:List UInt8),([]:List UInt8),0,0,0,0,false,0,false⟩:Record),false)) else ck (R64 (v5l1+1)) (some (.inl (v5l1+1,(nth v0 (Int.toNat (0))).source,(nth v0 (Int.toNat (0))).serial,(nth v0 (Int.toNat (0))).kind,(nth v0 (Int.toNat (0))).a,(nth v0 (Int.toNat (0))).b,(nth v0 (Int.toNat (0))).start,o1c6l1+((nth v0 v5l1.toNat).units),(nth v0 (Int.toNat (0))).trunk,(nth v0 (Int.toNat (0))).inbound))))))) else (f_r15_whole_j1 v0 o1c0l1 o1c1l1 o1c2l1 o1c3l1 o1c4l1 o1c5l1 o1c6l1 o1c10l1 o1c11l1).map (fun z=>.inr z)
def f_r15_whole (v0:List Record):Option (Record×Bool) :=
 loop (fun s=>f_r15_whole_l1 v0 s.1 s.2.1 s.2.2.1 s.2.2.2.1 s.2.2.2.2.1 s.2.2.2.2.2.1 s.2.2.2.2.2.2.1 s.2.2.2.2.2.2.2.1 s.2.2.2.2.2.2.2.2.1 s.2.2.2.2.2.2.2.2.2) (0,0,0,0,([]:List UInt8),([]:List UInt8),0,0,0,false)
def f_r15_Complete_j1 (v0parts:List Record):Option (Record×Bool) :=
 (f_r15_whole v0parts).bind fun y1=>some (y1.1,y1.2)
def f_r15_Complete_l1 (v0parts:List Record) (v4il1:Int):Option ((Int) ⊕ (Record×Bool)) :=
 if (decide (v4il1 < (v0parts.length:Int)))=true then (ck ((0:Int)≤v4il1∧v4il1 < (v0parts.length:Int)) (ck (R64 (v4il1+1)) (ck ((!(((nth v0parts v4il1.toNat).part) != (v4il1+1)))=true→((0:Int)≤v4il1∧v4il1 < (v0parts.length:Int))) (ck ((!(((nth v0parts v4il1.toNat).part) != (v4il1+1)))=true→(R64 (v4il1+1))) (if ((((nth v0parts v4il1.toNat).part) != (v4il1+1)) || (((nth v0parts v4il1.toNat).last) != ((v4il1+1)==(v0parts.length:Int))))=true then some (.inr ((⟨0,0,0,([]:List UInt8),([]:List UInt8),0,0,0,0,false,0,false⟩:Record),false)) else ck (R64 (v4il1+1)) (some (.inl (v4il1+1)))))))) else (f_r15_Complete_j1 v0parts).map (fun z=>.inr z)
def f_r15_Complete (v0parts:List Record):Option (Record×Bool) :=
 loop (fun s=>f_r15_Complete_l1 v0parts s) 0
def f_r15_Open_l1 (v0:List Record) (v4l1:Int):Option ((Int) ⊕ Bool) :=
 if (decide (v4l1 < (v0.length:Int)))=true then (ck ((0:Int)≤v4l1∧v4l1 < (v0.length:Int)) ((f_r15_firsts v0 (nth v0 v4l1.toNat) true).bind fun y1=>(f_r15_pick v0 y1).bind fun y2=>(f_r15_Complete y2.1).bind fun y3=>if y3.2=true then some (.inr false) else ck (R64 (v4l1+1)) (some (.inl (v4l1+1))))) else some (.inr true)
def f_r15_Open_j1 (v0:List Record):Option Bool :=
 loop (fun s=>f_r15_Open_l1 v0 s) 0
def f_r15_Open_l2 (v0:List Record) (v3l2:Int):Option ((Int) ⊕ Bool) :=
 if (decide (v3l2 < (v0.length:Int)))=true then (ck ((0:Int)≤v3l2∧v3l2 < (v0.length:Int)) (ck ((!(((nth v0 v3l2.toNat).part)==0))=true→((0:Int)≤v3l2∧v3l2 < (v0.length:Int))) ((gcall (!(((nth v0 v3l2.toNat).part)==0)) (f_r13_Check (nth v0 v3l2.toNat))).bind fun y4=>ck (((!((((nth v0 v3l2.toNat).part)==0) || (y4 != 0))) && (decide (v3l2 > 0)))=true→((0:Int)≤v3l2∧v3l2 < (v0.length:Int))) (ck (((!((((nth v0 v3l2.toNat).part)==0) || (y4 != 0))) && (decide (v3l2 > 0)))=true→(R64 (v3l2-1))) (ck (((!((((nth v0 v3l2.toNat).part)==0) || (y4 != 0))) && (decide (v3l2 > 0)))=true→((0:Int)≤(v3l2-1)∧(v3l2-1) < (v0.length:Int))) ((gcall ((!((((nth v0 v3l2.toNat).part)==0) || (y4 != 0))) && (decide (v3l2 > 0))) (f_r15_before (nth v0 v3l2.toNat) (nth v0 (v3l2-1).toNat))).bind fun y5=>if (((((nth v0 v3l2.toNat).part)==0) || (y4 != 0)) || ((decide (v3l2 > 0)) && y5))=true then some (.inr false) else ck (R64 (v3l2+1)) (some (.inl (v3l2+1))))))))) else (f_r15_Open_j1 v0).map (fun z=>.inr z)
def f_r15_Open (v0:List Record):Option Bool :=
 loop (fun s=>f_r15_Open_l2 v0 s) 0
def f_r16_counted_j2 (v3l1:Int) (v4j2:Int):Option ((Int) ⊕ Bool) :=
 if (decide (v4j2 > 0))=true then some (.inr false) else ck (R64 (v3l1+1)) (some (.inl (v3l1+1)))
def f_r16_counted_l2 (v0:Intake) (v3l1:Int) (v4l2:Int) (v6l2:Int):Option ((Int×Int) ⊕ ((Int) ⊕ Bool)) :=
 if (decide (v6l2 < (v0.heads.length:Int)))=true then (ck ((0:Int)≤v6l2∧v6l2 < (v0.heads.length:Int)) (if (((nth v0.heads v6l2.toNat).source)==v3l1)=true then (ck ((0:Int)≤v6l2∧v6l2 < (v0.heads.length:Int)) (ck (R64 (v4l2-((nth v0.heads v6l2.toNat).count))) (ck (R64 (v6l2+1)) (some (.inl (v4l2-((nth v0.heads v6l2.toNat).count),v6l2+1)))))) else ck (R64 (v6l2+1)) (some (.inl (v4l2,v6l2+1))))) else (f_r16_counted_j2 v3l1 v4l2).map (fun z=>.inr z)
def f_r16_counted_j1 (v0:Intake) (v3l1:Int) (v4j1:Int):Option ((Int) ⊕ Bool) :=
 loop (fun s=>f_r16_counted_l2 v0 v3l1 s.1 s.2) (v4j1,0)
def f_r16_counted_l3 (v0:Intake) (v3l1:Int) (v4l3:Int) (v5l3:Int):Option ((Int×Int) ⊕ ((Int) ⊕ Bool)) :=
 if (decide (v5l3 < (v0.seen.length:Int)))=true then (ck ((0:Int)≤v5l3∧v5l3 < (v0.seen.length:Int)) (if (((nth v0.seen v5l3.toNat).source)==v3l1)=true then (ck ((0:Int)≤v5l3∧v5l3 < (v0.seen.length:Int)) (ck (R64 (v4l3+((nth v0.seen v5l3.toNat).to_))) (ck ((0:Int)≤v5l3∧v5l3 < (v0.seen.length:Int)) (ck (R64 ((v4l3+((nth v0.seen v5l3.toNat).to_)) - ((nth v0.seen v5l3.toNat).from_))) (ck (R64 (((v4l3+((nth v0.seen v5l3.toNat).to_)) - ((nth v0.seen v5l3.toNat).from_))+1)) (ck (R64 (v5l3+1)) (some (.inl (((v4l3+((nth v0.seen v5l3.toNat).to_)) - ((nth v0.seen v5l3.toNat).from_))+1,v5l3+1))))))))) else ck (R64 (v5l3+1)) (some (.inl (v4l3,v5l3+1))))) else (f_r16_counted_j1 v0 v3l1 v4l3).map (fun z=>.inr z)
def f_r16_counted_l1 (v0:Intake) (v3l1:Int):Option ((Int) ⊕ Bool) :=
 if (decide (v3l1≤99))=true then (loop (fun s=>f_r16_counted_l3 v0 v3l1 s.1 s.2) (0,0)) else some (.inr true)
def f_r16_counted (v0:Intake):Option Bool :=
 loop (fun s=>f_r16_counted_l1 v0 s) 1
def f_r14_Has_l1 (v0seen:List Range) (v1source:Int) (v2serial:Int) (v7il1:Int):Option ((Int) ⊕ Bool) :=
 if (decide (v7il1 < (v0seen.length:Int)))=true then (ck ((0:Int)≤v7il1∧v7il1 < (v0seen.length:Int)) (ck ((((nth v0seen v7il1.toNat).source)==v1source)=true→((0:Int)≤v7il1∧v7il1 < (v0seen.length:Int))) (ck (((((nth v0seen v7il1.toNat).source)==v1source) && (decide (((nth v0seen v7il1.toNat).from_)≤v2serial)))=true→((0:Int)≤v7il1∧v7il1 < (v0seen.length:Int))) (if (((((nth v0seen v7il1.toNat).source)==v1source) && (decide (((nth v0seen v7il1.toNat).from_)≤v2serial))) && (decide (v2serial≤((nth v0seen v7il1.toNat).to_))))=true then ((f_r14_identity v1source v2serial).bind fun y1=>some (.inr y1)) else ck (R64 (v7il1+1)) (some (.inl (v7il1+1))))))) else some (.inr false)
def f_r14_Has (v0seen:List Range) (v1source:Int) (v2serial:Int):Option Bool :=
 loop (fun s=>f_r14_Has_l1 v0seen v1source v2serial s) 0
def f_r16_Check_l2 (v0:Intake) (v3l1:Int) (v5l2:Int):Option ((Int) ⊕ ((Int) ⊕ Bool)) :=
 if (decide (v5l2 < v3l1))=true then (ck ((0:Int)≤v5l2∧v5l2 < (v0.open_.length:Int)) (ck ((((nth v0.open_ v5l2.toNat).source)==((nth v0.open_ v3l1.toNat).source))=true→((0:Int)≤v5l2∧v5l2 < (v0.open_.length:Int))) (if ((((nth v0.open_ v5l2.toNat).source)==((nth v0.open_ v3l1.toNat).source)) && (((nth v0.open_ v5l2.toNat).serial)==((nth v0.open_ v3l1.toNat).serial)))=true then some (.inr (.inr false)) else ck (R64 (v5l2+1)) (some (.inl (v5l2+1)))))) else ck (R64 (v3l1+1)) (some (.inr (.inl (v3l1+1))))
def f_r16_Check_l1 (v0:Intake) (v3l1:Int):Option ((Int) ⊕ Bool) :=
 if (decide (v3l1 < (v0.open_.length:Int)))=true then (ck ((0:Int)≤v3l1∧v3l1 < (v0.open_.length:Int)) ((f_r14_Has v0.seen ((nth v0.open_ v3l1.toNat).source) ((nth v0.open_ v3l1.toNat).serial)).bind fun y5=>if (!y5)=true then some (.inr false) else loop (fun s=>f_r16_Check_l2 v0 v3l1 s) 0)) else some (.inr true)
def f_r16_Check (v0:Intake):Option Bool :=
 (f_r16_heads v0).bind fun y1=>(gcall (!(!y1)) (f_r14_Check v0.seen)).bind fun y2=>(gcall (!((!y1) || (!y2))) (f_r15_Open v0.open_)).bind fun y3=>(gcall (!(((!y1) || (!y2)) || (!y3))) (f_r16_counted v0)).bind fun y4=>if ((((!y1) || (!y2)) || (!y3)) || (!y4))=true then some false else loop (fun s=>f_r16_Check_l1 v0 s) 0
def f_r12_Totals_l1 (v0records:List Record) (v4il1:Int) (o1c1l1:Int) (o1c2l1:Int) (o1c3l1:Int) (o1c4l1:Int) (o1c5l1:Int):Option ((Int×Int×Int×Int×Int×Int) ⊕ Totals) :=
 if (decide (v4il1 < (v0records.length:Int)))=true then (ck ((0:Int)≤v4il1∧v4il1 < (v0records.length:Int)) (if ((((decide (((nth v0records v4il1.toNat).kind)≥1)) && (decide (((nth v0records v4il1.toNat).kind) < 5))) && (decide (((nth v0records v4il1.toNat).units)≥0))) && (decide (((nth v0records v4il1.toNat).units)≤1099511627776)))=true then (ck ((0:Int)≤((nth v0records v4il1.toNat).kind)∧((nth v0records v4il1.toNat).kind) < (5:Int)) (ck (((nth v0records v4il1.toNat).kind).toNat < 5) (ck (R64 ((nth ([o1c1l1,o1c2l1,o1c3l1,o1c4l1,o1c5l1]:List Int) ((nth v0records v4il1.toNat).kind).toNat)+((nth v0records v4il1.toNat).units))) (ck ((0:Int)≤((nth v0records v4il1.toNat).kind)∧((nth v0records v4il1.toNat).kind) < (5:Int)) (ck (((nth v0records v4il1.toNat).kind).toNat < 5) (ck (R64 (v4il1+1)) (some (.inl (v4il1+1,nth (setN ([o1c1l1,o1c2l1,o1c3l1,o1c4l1,o1c5l1]:List Int) 5 ((nth v0records v4il1.toNat).kind).toNat ((nth ([o1c1l1,o1c2l1,o1c3l1,o1c4l1,o1c5l1]:List Int) ((nth v0records v4il1.toNat).kind).toNat)+((nth v0records v4il1.toNat).units))) 0,nth (setN ([o1c1l1,o1c2l1,o1c3l1,o1c4l1,o1c5l1]:List Int) 5 ((nth v0records v4il1.toNat).kind).toNat ((nth ([o1c1l1,o1c2l1,o1c3l1,o1c4l1,o1c5l1]:List Int) ((nth v0records v4il1.toNat).kind).toNat)+((nth v0records v4il1.toNat).units))) 1,nth (setN ([o1c1l1,o1c2l1,o1c3l1,o1c4l1,o1c5l1]:List Int) 5 ((nth v0records v4il1.toNat).kind).toNat ((nth ([o1c1l1,o1c2l1,o1c3l1,o1c4l1,o1c5l1]:List Int) ((nth v0records v4il1.toNat).kind).toNat)+((nth v0records v4il1.toNat).units))) 2,nth (setN ([o1c1l1,o1c2l1,o1c3l1,o1c4l1,o1c5l1]:List Int) 5 ((nth v0records v4il1.toNat).kind).toNat ((nth ([o1c1l1,o1c2l1,o1c3l1,o1c4l1,o1c5l1]:List Int) ((nth v0records v4il1.toNat).kind).toNat)+((nth v0records v4il1.toNat).units))) 3,nth (setN ([o1c1l1,o1c2l1,o1c3l1,o1c4l1,o1c5l1]:List Int) 5 ((nth v0records v4il1.toNat).kind).toNat ((nth ([o1c1l1,o1c2l1,o1c3l1,o1c4l1,o1c5l1]:List Int) ((nth v0records v4il1.toNat).kind).toNat)+((nth v0records v4il1.toNat).units))) 4))))))))) else ck (R64 (v4il1+1)) (some (.inl (v4il1+1,o1c1l1,o1c2l1,o1c3l1,o1c4l1,o1c5l1))))) else some (.inr (⟨(v0records.length:Int),([o1c1l1,o1c2l1,o1c3l1,o1c4l1,o1c5l1]:List Int)⟩:Totals))
def f_r12_Totals (v0records:List Record):Option Totals :=
 loop (fun s=>f_r12_Totals_l1 v0records s.1 s.2.1 s.2.2.1 s.2.2.2.1 s.2.2.2.2.1 s.2.2.2.2.2) (0,0,0,0,0,0)
def f_r15_Units (v0list:List Record):Option (List Int) :=
 (f_r12_Totals v0list).bind fun y1=>some y1.units
def f_w16_IntakePlaces_j1 (v0:Intake) (v1:Batch) (y5:Intake×(List Record)×(List Reject)×Int) (v11j1:List Record):Option Bool :=
 ck (v0.open_.length≤1000000000) (ck ((([]:List Record)++v0.open_).length+v1.records.length≤1000000000) (ck (y5.1.open_.length≤1000000000) (ck ((([]:List Record)++y5.1.open_).length+y5.2.1.length≤1000000000) (ck (((([]:List Record)++y5.1.open_)++y5.2.1).length+v11j1.length≤1000000000) ((f_r15_Units ((([]:List Record)++v0.open_)++v1.records)).bind fun y7=>(f_r15_Units (((([]:List Record)++y5.1.open_)++y5.2.1)++v11j1)).bind fun y8=>(gcall (eqVs [.int .i64 (nth y7 0),.int .i64 (nth y7 1),.int .i64 (nth y7 2),.int .i64 (nth y7 3),.int .i64 (nth y7 4)] [.int .i64 (nth y8 0),.int .i64 (nth y8 1),.int .i64 (nth y8 2),.int .i64 (nth y8 3),.int .i64 (nth y8 4)]) (f_w16_awake)).bind fun y9=>some ((eqVs [.int .i64 (nth y7 0),.int .i64 (nth y7 1),.int .i64 (nth y7 2),.int .i64 (nth y7 3),.int .i64 (nth y7 4)] [.int .i64 (nth y8 0),.int .i64 (nth y8 1),.int .i64 (nth y8 2),.int .i64 (nth y8 3),.int .i64 (nth y8 4)]) && y9))))))
def f_w16_IntakePlaces_l1 (v0:Intake) (v1:Batch) (y5:Intake×(List Record)×(List Reject)×Int) (v11l1:List Record) (v12l1:Int):Option ((List Record×Int) ⊕ Bool) :=
 if (decide (v12l1 < (y5.2.2.1.length:Int)))=true then (ck ((0:Int)≤v12l1∧v12l1 < (y5.2.2.1.length:Int)) (ck (((!((decide (((nth y5.2.2.1 v12l1.toNat).index) < 0)) || (decide (((nth y5.2.2.1 v12l1.toNat).index)≥(v1.records.length:Int))))) && (decide (v12l1 > 0)))=true→(R64 (v12l1-1))) (ck (((!((decide (((nth y5.2.2.1 v12l1.toNat).index) < 0)) || (decide (((nth y5.2.2.1 v12l1.toNat).index)≥(v1.records.length:Int))))) && (decide (v12l1 > 0)))=true→((0:Int)≤(v12l1-1)∧(v12l1-1) < (y5.2.2.1.length:Int))) (ck ((!(((decide (((nth y5.2.2.1 v12l1.toNat).index) < 0)) || (decide (((nth y5.2.2.1 v12l1.toNat).index)≥(v1.records.length:Int)))) || ((decide (v12l1 > 0)) && (decide (((nth y5.2.2.1 v12l1.toNat).index)≤((nth y5.2.2.1 (v12l1-1).toNat).index))))))=true→((0:Int)≤((nth y5.2.2.1 v12l1.toNat).index)∧((nth y5.2.2.1 v12l1.toNat).index) < (v1.records.length:Int))) (ck ((!(((decide (((nth y5.2.2.1 v12l1.toNat).index) < 0)) || (decide (((nth y5.2.2.1 v12l1.toNat).index)≥(v1.records.length:Int)))) || ((decide (v12l1 > 0)) && (decide (((nth y5.2.2.1 v12l1.toNat).index)≤((nth y5.2.2.1 (v12l1-1).toNat).index))))))=true→((0:Int)≤v12l1∧v12l1 < (y5.2.2.1.length:Int))) (if ((((decide (((nth y5.2.2.1 v12l1.toNat).index) < 0)) || (decide (((nth y5.2.2.1 v12l1.toNat).index)≥(v1.records.length:Int)))) || ((decide (v12l1 > 0)) && (decide (((nth y5.2.2.1 v12l1.toNat).index)≤((nth y5.2.2.1 (v12l1-1).toNat).index))))) || (((nth v1.records ((nth y5.2.2.1 v12l1.toNat).index).toNat).serial) != ((nth y5.2.2.1 v12l1.toNat).serial)))=true then some (.inr false) else ck ((0:Int)≤((nth y5.2.2.1 v12l1.toNat).index)∧((nth y5.2.2.1 v12l1.toNat).index) < (v1.records.length:Int)) (ck (v11l1.length+([nth v1.records ((nth y5.2.2.1 v12l1.toNat).index).toNat]:List Record).length≤1000000000) (ck (R64 (v12l1+1)) (some (.inl (v11l1++([nth v1.records ((nth y5.2.2.1 v12l1.toNat).index).toNat]:List Record),v12l1+1))))))))))) else (f_w16_IntakePlaces_j1 v0 v1 y5 v11l1).map (fun z=>.inr z)
def f_w16_IntakePlaces (v0:Intake) (v1:Batch) (v2:Window):Option Bool :=
 (f_w16_small v0).bind fun y1=>(gcall (!(!y1)) (f_w16_few v1.records)).bind fun y2=>(gcall (!((!y1) || (!y2))) (f_r16_Check v0)).bind fun y3=>if (((!y1) || (!y2)) || (!y3))=true then ((f_w16_awake).bind fun y4=>some y4) else (f_intake_Accept v0 v1 v2).bind fun y5=>if (y5.2.2.2 != 0)=true then ((gcall (((y5.2.1.length:Int)==0) && ((y5.2.2.1.length:Int)==0)) (f_w16_awake)).bind fun y6=>some ((((y5.2.1.length:Int)==0) && ((y5.2.2.1.length:Int)==0)) && y6)) else loop (fun s=>f_w16_IntakePlaces_l1 v0 v1 y5 s.1 s.2) (([]:List Record),0)
set_option maxRecDepth 100000
set_option maxHeartbeats 4000000
def TurnedRecord (base:Nat) (w:World) (v:Value) (n:Nat) (xs:List Value) (v':Value) (w':World):Prop :=
 w'.ownsRow base 49 12 v' n xs∧((v'.ownBlock=v.ownBlock∧w'.heap.size=w.heap.size∧w.grownBy w' v.ownBlock)∨(v'.ownBlock=some w.heap.size∧Below w.heap.size w w'))
theorem src_ownRecord {base m:Nat} {w:World} {u:Value} {ys:List Value} (hu:w.ownsRow base 49 12 u m ys) (h1:∀ y∈ys,y.oneCell'=true):Go.Abs.Src Tryz.prog w 12 u m ys:=by
 rcases hu.2 with ⟨rfl,rfl⟩ | ⟨b,cap,cur,rfl,hb,hg,hnc,hcm,hcs,htk⟩
 ·have:ys=[]:=List.eq_nil_of_length_eq_zero (by simpa using hu.1)
  subst this
  exact ⟨rfl,fun w' _=>run_firstCells_none w' _ 0 0 _,by simp,by simp⟩
 ·refine ⟨rfl,fun w' hw=>run_firstCells_some w' _ m _ m cap ys hu.1 fun j y hj=>?_,hu.1,h1⟩
  rw [World.cell?_of_block (w:=w) (by rw [hw])]
  exact hu.cells (g:=b) rfl j y hj
theorem ins_endRecord (w:World) {base n m:Nat} {v u:Value} {xs ys:List Value} (hs:w.ownsRow base 49 12 v n xs) (hu:w.ownsRow base 49 12 u m ys) (hm:0 < m) (hb:n+m≤1000000000) (hbase:base≤w.heap.size) (h1:∀ y∈ys,y.oneCell'=true) :
  Calls Tryz.prog 75 #[v,.int .i64 n,u] w fun e w'=>∃ v',e=.returned v'∧TurnedRecord base w v (n+m) (xs++ys) v' w':=by
 have t3:=Tryz.underlying3; have t22:=Tryz.underlying23
 have u3:=run_underlying Tryz.underlying3; have u22:=run_underlying Tryz.underlying23
 have hz1:¬ ((m:Int)=0):=by omega
 obtain ⟨i,hi,hz,hsz,hby⟩:=in_49
 obtain ⟨v',w',hrun,hown,_,hc⟩:=run_append3 (P:=Tryz.prog) (ty:=23) w Tryz.underlying23 Tryz.underlying23 (.inr ⟨_,rfl⟩) hi hz hsz (by rfl) hs (src_ownRecord hu h1) (by simp only [maxLen]; omega) (by rw [hby]; omega) hbase
 rcases hu.2 with ⟨_,h0⟩ | ⟨vb,vc,vcur,rfl,_⟩
 ·omega
 rcases hs.2 with ⟨rfl,rfl⟩ | ⟨b,c,cur,rfl,hbb,hg,hnc,hcm,hcs,htk⟩
 ·go_enter Tryz.func75,Tryz.ntmps75
  go_wp2_with (at_builtin; refine Lib.wpList_append_run _ rfl _ _ _ _ rfl _ _ rfl rfl _ _ hrun ?_)
  go_ret
  exact ⟨_,rfl,hown,hc⟩
 ·go_enter Tryz.func75,Tryz.ntmps75
  go_wp2_with (at_builtin; refine Lib.wpList_append_run _ rfl _ _ _ _ rfl _ _ rfl rfl _ _ hrun ?_)
  all_goals (go_ret; exact ⟨_,rfl,hown,hc⟩)
set_option maxRecDepth 100000
set_option maxHeartbeats 4000000
theorem own_cellsRecord {w:World} {base b n c:Nat} {xs:List Value} (hs:w.ownsRow base 49 12 (.slice (some ⟨b,0,none⟩) n c) n xs):base≤b∧n≤c∧c≤maxLen∧∃ cur:Array Value,w.heap[b]?=some (.cells cur 49 (0,0))∧cur.size=c*12∧cur.toList.take (n*12)=xs:=by
 rcases hs.2 with ⟨h,_⟩ | ⟨b',c',cur,h,hbb,hg,hnc,hcm,hcs,htk⟩
 ·cases h
 ·cases h
  exact ⟨hbb,hnc,hcm,cur,hg,hcs,htk⟩
theorem over_noRecord (w:World) {b vb m vc o lb cb cs:Nat} {cur vcur:Array Value} (hne:vb≠b) (hg:w.heap[b]?=some (.cells cur 49 (0,0))) (hgv:w.heap[vb]?=some (.cells vcur 49 (0,0))) (hk:cur.size≠0) :
  (callFunc 110 #[.slice (some ⟨vb,0,none⟩) m vc,.slice (some ⟨b,o,none⟩) lb cb]).run Tryz.prog w=.ok (.value (.bool false)) w:=by
 obtain ⟨i,hi,hz,hsz,hby⟩:=in_49
 rw [run_callFunc_extern Tryz.func110 (by kernel_rfl) (by kernel_rfl) (by kernel_rfl) (e:=Extern.SlicesOverlaps.overlaps #[23,23] #[4]) (by kernel_rfl),
  Lib.run_overlaps_apart w 23 4 49 Tryz.underlying23 12 (fun w'=>by simp [sizeOf,typeInfo,hi,hsz]) ⟨vb,0,none⟩ ⟨b,o,none⟩ m vc lb cb hne 49 49 vcur.size cur.size (by simp [World.shape?,hgv]) (by simp [World.shape?,hg]) hk (by simp [World.frozen?,hgv]) (by simp [World.frozen?,hgv])]
 rfl
theorem ins_shiftRecord (w:World) {base b n c i vb m vc:Nat} {xs ys:List Value} (hs:w.ownsRow base 49 12 (.slice (some ⟨b,0,none⟩) n c) n xs) (hu:w.ownsRow base 49 12 (.slice (some ⟨vb,0,none⟩) m vc) m ys) (hne:vb≠b) (hi:i < n) (hm:0 < m) (hb:n+m≤1000000000) (hroom:n+m≤c)
  (h1x:∀ x∈xs,x.oneCell'=true) (h1:∀ y∈ys,y.oneCell'=true) :
  Calls Tryz.prog 75 #[.slice (some ⟨b,0,none⟩) n c,.int .i64 i,.slice (some ⟨vb,0,none⟩) m vc] w fun e w'=>∃ v',e=.returned v'∧TurnedRecord base w (.slice (some ⟨b,0,none⟩) n c) (n+m) (xs.take (i*12)++ys++xs.drop (i*12)) v' w':=by
 have t3:=Tryz.underlying3; have t22:=Tryz.underlying23
 have u3:=run_underlying Tryz.underlying3; have u22:=run_underlying Tryz.underlying23
 obtain ⟨hbb,hnc,hcm,cur,hg,hcs,htk⟩:=own_cellsRecord hs
 obtain ⟨_,hvc,_,vcur,hgv,hvcs,hvtk⟩:=own_cellsRecord hu
 obtain ⟨inf,hinf,hz,hsz,hby⟩:=in_49
 simp only [maxLen] at hcm
 have z32:∀ w,(Go.sizeOf 49).run Tryz.prog w=.ok 12 w:=fun w'=>by simp [sizeOf,typeInfo,hinf,hsz]
 have hz1:¬ ((m:Int)=0):=by omega
 have hz2:¬ ((i:Int)=(n:Int)):=by omega
 have mixed:=hMix
 have hw1:IntKind.i64.wrap ((i:Int)+(m:Int))=(i:Int)+(m:Int):=by rw [IntKind.wrap_i64]; omega
 have hb1:(0:Int)≤(i:Int)+(m:Int):=by omega
 have hin:i≤n:=by omega
 have htn:((i:Int)+(m:Int)).toNat=i+m:=by omega
 have hb2:¬ (c=i+m):=by omega
 have hb3:(i:Int)≤(n:Int)+(m:Int):=by omega
 have hb4:¬ (c=i):=by omega
 have hk0:cur.size≠0:=by rw [hcs]; omega
 have hxl:=hs.1
 have hyl:=hu.1
 have hov:∀ o lb cb,(callFunc 110 #[.slice (some ⟨vb,0,none⟩) m vc,.slice (some ⟨b,o,none⟩) lb cb]).run Tryz.prog w=.ok (.value (.bool false)) w:=fun o lb cb=>over_noRecord (cs:=0) w hne hg hgv hk0
 -- the first copy
 have hcurx:∀ j x,xs[j]?=some x→w.cell? ⟨b,j,none⟩=some x:=fun j x hj=>by have:=hs.cells (g:=b) rfl j x hj; rwa [Addr.add_lit,Nat.zero_add] at this
 have hcell1:∀ j v,(xs.drop (i*12))[j]?=some v→w.cell? (Addr.add ⟨b,i*12,none⟩ j)=some v:=fun j v hj=>by
  rw [List.getElem?_drop] at hj
  rw [Addr.add_lit]
  exact hcurx _ _ hj
 have hmn:Nat.min (n+m-i) (n+m-(i+m))=n-i:=nmin_eq (by omega)
 have hmn2:Nat.min m (n+m-i)=m:=nmin_eq (by omega)
 have hdl:(xs.drop (i*12)).length=Nat.min (n+m-i) (n+m-(i+m))*12:=by rw [List.length_drop,hxl,hmn]; omega
 have hcp1:∀ (W:World),W.heap=w.heap→∀ ty dc sc,(Builtin.copy_ #[23,23] ty #[.slice (some ⟨b,(i+m)*12,none⟩) (n+m-(i+m)) dc,.slice (some ⟨b,i*12,none⟩) (n+m-i) sc]).run Tryz.prog W=.ok (goInt (Nat.min (n+m-i) (n+m-(i+m)))) (W.setRow b (laid cur.toList ((i+m)*12) (xs.drop (i*12))).toArray):=fun W hW ty dc sc =>
  run_copyR W Tryz.underlying23 hinf hsz (by rw [hW]; exact hg) hdl (fun j v hj=>by rw [World.cell?_of_block (w:=w) (by rw [hW])]; exact hcell1 j v hj) (fun v hv=>h1x v (List.mem_of_mem_drop hv)) (by rw [hdl,hcs,hmn]; omega)
 generalize hl1:laid cur.toList ((i+m)*12) (xs.drop (i*12))=L1 at hcp1
 have hcl:cur.toList.length=c*12:=by simpa using hcs
 have hfit1:(i+m)*12+(xs.drop (i*12)).length≤cur.toList.length:=by rw [List.length_drop,hxl,hcl]; omega
 have hL1:L1.length=cur.toList.length:=by rw [←hl1]; exact laid_len hfit1
 have hcellv:∀ j v,ys[j]?=some v→w.cell? (Addr.add ⟨vb,0,none⟩ j)=some v:=fun j v hj=>hu.cells (g:=vb) rfl j v hj
 have hcp2:∀ (W:World),W.heap[b]?=some (.cells L1.toArray 49 (0,0))→(∀ x:Addr,x.block≠b→W.cell? x=w.cell? x)→∀ ty dc,(Builtin.copy_ #[23,23] ty #[.slice (some ⟨b,i*12,none⟩) (n+m-i) dc,.slice (some ⟨vb,0,none⟩) m vc]).run Tryz.prog W=.ok (goInt (Nat.min m (n+m-i))) (W.setRow b (laid L1 (i*12) ys).toArray):=fun W hWg hWc ty dc =>
  run_copyR W Tryz.underlying23 hinf hsz hWg (by rw [hyl,hmn2]) (fun j v hj=>by rw [hWc _ (by rw [Addr.add_lit]; exact hne)]; exact hcellv j v hj) h1 (by simp only [List.size_toArray]; omega)
 have hg1:((w.drew).setRow b L1.toArray).heap[b]?=some (.cells L1.toArray 49 (0,0)):=setRow_heap w.drew b cur _ 49 (0,0) hg
 have hoth:∀ x:Addr,x.block≠b→((w.drew).setRow b L1.toArray).cell? x=w.cell? x:=fun x hx=>World.cell?_of_block (w:=w) (setRow_other w.drew b x.block _ hx)
 have hfin:TurnedRecord base w (.slice (some ⟨b,0,none⟩) n c) (n+m) (xs.take (i*12)++ys++xs.drop (i*12)) (.slice (some ⟨b,0,none⟩) (n+m) c) (((w.drew).setRow b L1.toArray).setRow b (laid L1 (i*12) ys).toArray):=by
  have hfit2:i*12+ys.length≤L1.length:=by rw [hyl,hL1,hcl]; omega
  refine ⟨⟨by simp only [List.length_append,List.length_take,List.length_drop]; omega,.inr ⟨b,c,_,rfl,hbb,setRow_heap _ b _ _ 49 (0,0) hg1,hroom,by simp only [maxLen]; omega,by rw [List.size_toArray,laid_len hfit2,hL1,hcl],?_⟩⟩,
   .inl ⟨rfl,by simp,⟨rfl,rfl,rfl,by simp,fun k hk hkb=>?_⟩⟩⟩
  ·rw [List.toList_toArray,take_laid hfit2 (by rw [hyl]; omega),←hl1]
   have e1:(laid cur.toList ((i+m)*12) (xs.drop (i*12))).take (i*12)=xs.take (i*12):=by
    apply List.ext_getElem?
    intro j
    rw [List.getElem?_take,List.getElem?_take,laid_get hfit1]
    by_cases h:j < i*12
    ·rw [if_pos h,if_pos h,if_neg (by omega),←htk,List.getElem?_take,if_pos (by omega)]
    ·rw [if_neg h,if_neg h]
   rw [e1]
   congr 1
   rw [take_laid hfit1 (by rw [List.length_drop,hxl]; omega),hyl]
   apply List.ext_getElem?
   intro j
   rw [List.getElem?_drop]
   have hk1:(List.take ((i+m)*12) cur.toList).length=(i+m)*12:=by rw [List.length_take,hcl]; omega
   by_cases h:j < (n-i)*12
   ·rw [List.getElem?_append_left (by rw [List.length_append,hk1,List.length_drop,hxl]; omega),List.getElem?_append_right (by rw [hk1]; omega),hk1]
    congr 1; omega
   ·rw [List.getElem?_eq_none (by simp only [List.length_append,List.length_drop,List.length_take,hcl,hxl]; omega),List.getElem?_eq_none (by rw [List.length_drop,hxl]; omega)]
  ·rw [setRow_other _ b k _ (fun e=>hkb (by rw [e]; rfl)),setRow_other _ b k _ (fun e=>hkb (by rw [e]; rfl))]
   rfl
 have hcp1':=hcp1 w.drew rfl
 have hcp2':=hcp2 _ hg1 hoth
 go_enter Tryz.func75,Tryz.ntmps75
 go_wp2_with (simp only [hov])
 go_region_law_o (refine step_copy_r rfl _ _ 23 23 rfl _ _ (by simp [Act.eval,Act.put]) (by simp [Act.eval,Act.put]) (hcp1' _ _ _) ?_)
 go_wp2_with (at_builtin; refine wpList_copy_r _ rfl _ _ 23 23 rfl _ _ rfl rfl (hcp2' _ _) ?_)
 go_ret
 exact ⟨_,rfl,hfin⟩
set_option maxRecDepth 100000
set_option maxHeartbeats 4000000
theorem ins_growRecord (w:World) {base b n c i vb m vc:Nat} {xs ys:List Value} (hs:w.ownsRow base 49 12 (.slice (some ⟨b,0,none⟩) n c) n xs) (hu:w.ownsRow base 49 12 (.slice (some ⟨vb,0,none⟩) m vc) m ys) (hi:i < n) (hm:0 < m) (hb:n+m≤1000000000) (hroom:c < n+m) (hbase:base≤w.heap.size)
  (h1x:∀ x∈xs,x.oneCell'=true) (h1:∀ y∈ys,y.oneCell'=true) :
  Calls Tryz.prog 75 #[.slice (some ⟨b,0,none⟩) n c,.int .i64 i,.slice (some ⟨vb,0,none⟩) m vc] w fun e w'=>∃ v',e=.returned v'∧TurnedRecord base w (.slice (some ⟨b,0,none⟩) n c) (n+m) (xs.take (i*12)++ys++xs.drop (i*12)) v' w':=by
 have t3:=Tryz.underlying3; have t22:=Tryz.underlying23
 have u3:=run_underlying Tryz.underlying3; have u22:=run_underlying Tryz.underlying23
 obtain ⟨hbb,hnc,hcm,cur,hg,hcs,htk⟩:=own_cellsRecord hs
 obtain ⟨_,hvc,_,vcur,hgv,hvcs,hvtk⟩:=own_cellsRecord hu
 obtain ⟨inf,hinf,hz,hsz,hby⟩:=in_49
 simp only [maxLen] at hcm
 have mixed:=hMix
 have hz1:¬ ((m:Int)=0):=by omega
 have hz2:¬ ((i:Int)=(n:Int)):=by omega
 have hz3:(c:Int) < (n:Int)+(m:Int):=by omega
 have hbw:b < w.heap.size:=(hs.lt b rfl).2
 have hvw:vb < w.heap.size:=(hu.lt vb rfl).2
 have hkk:(n:Int)+(m:Int) - (i:Int)=((n+m-i:Nat):Int):=by omega
 have hik:i+(n+m-i)=n+m:=by omega
 have hxl:=hs.1
 have hyl:=hu.1
 have hcurx:∀ j x,xs[j]?=some x→w.cell? ⟨b,j,none⟩=some x:=fun j x hj=>by have:=hs.cells (g:=b) rfl j x hj; rwa [Addr.add_lit,Nat.zero_add] at this
 have hold:(Builtin.firstCells inf.size i (.slice (some ⟨b,0,none⟩) i c)).run Tryz.prog w.drew=.ok (xs.take (i*12)).toArray w.drew:=by
  rw [hsz]
  refine run_firstCells_some w.drew 12 i ⟨b,0,none⟩ i c (xs.take (i*12)) (by rw [List.length_take]; omega) (fun j v hj=>?_)
  rw [Addr.add_lit,Nat.zero_add]
  rw [List.getElem?_take] at hj
  split at hj
  ·exact hcurx j v hj
  ·cases hj
 generalize hzv:(Value.agg _)=zv at hz
 have hzc:zv.cells.size=12:=by rw [←hzv]; rfl
 have hrz:∀ ty,(Builtin.append_ #[23,3] ty #[.slice (some ⟨b,0,none⟩) i c,.int .i64 ((n:Int)+(m:Int) - (i:Int))]).run Tryz.prog w =
   .ok (.slice (some ⟨w.heap.size,0,none⟩) (n+m) (grownCap w (n+m) c 49)) (w.drew.alloc (.cells ((xs.take (i*12)).toArray++Builtin.zeroCells zv.cells (n+m-i)++Builtin.zeroCells zv.cells (grownCap w (n+m) c 49-(n+m))) 49)):=fun ty=>by
  have h:=Lib.run_append_grow_zeros w 23 3 ty 49 inf zv .i64 .i64 Tryz.underlying23 Tryz.underlying3 hinf hz (some ⟨b,0,none⟩) i c (xs.take (i*12)) hold (n+m-i) (by omega) (by omega) (by omega) (by omega) (by rw [hby]; omega) (by rw [hik]; exact growslice_fits hroom (by rw [hby]; omega))
  rw [hik] at h
  rw [hkk]
  exact h
 have hGn:n+m≤grownCap w (n+m) c 49:=grownCap_ge w _ _ _
 have hG63:grownCap w (n+m) c 49≤maxLen:=grownCap_le_maxLen w (n+m) c 49 (by unfold maxLen; omega)
 generalize grownCap w (n+m) c 49=G at hrz hGn hG63
 simp only [maxLen] at hG63
 generalize hROW:(xs.take (i*12)).toArray++Builtin.zeroCells zv.cells (n+m-i)++Builtin.zeroCells zv.cells (G-(n+m))=ROW at hrz
 have hRl:ROW.size=G*12:=by
  rw [←hROW]
  simp only [Array.size_append,List.size_toArray,List.length_take,size_zeroCells,hzc,hxl]
  omega
 have hRt:ROW.toList.take (i*12)=xs.take (i*12):=by
  rw [←hROW]
  simp only [Array.toList_append,List.append_assoc]
  rw [List.take_append_of_le_length (by rw [List.length_take]; omega),List.take_of_length_le (by rw [List.length_take]; omega)]
 have hRL:ROW.toList.length=G*12:=by simpa using hRl
 have hmA:Nat.min m (n+m-i)=m:=nmin_eq (by omega)
 have hmB:Nat.min (n-i) (n+m-(i+m))=n-i:=nmin_eq (by omega)
 have hdl:(xs.drop (i*12)).length=(n-i)*12:=by rw [List.length_drop,hxl]; omega
 have hfitA:i*12+ys.length≤ROW.toList.length:=by rw [hyl,hRL]; omega
 have hcpA:∀ (W:World),W.heap[w.heap.size]?=some (.cells ROW 49 (0,0))→(∀ x:Addr,x.block < w.heap.size→W.cell? x=w.cell? x)→∀ ty dc,(Builtin.copy_ #[23,23] ty #[.slice (some ⟨w.heap.size,i*12,none⟩) (n+m-i) dc,.slice (some ⟨vb,0,none⟩) m vc]).run Tryz.prog W=.ok (goInt (Nat.min m (n+m-i))) (W.setRow w.heap.size (laid ROW.toList (i*12) ys).toArray):=fun W hWg hWc ty dc =>
  run_copyR W Tryz.underlying23 hinf hsz hWg (by rw [hyl,hmA]) (fun j v hj=>by rw [hWc _ (by rw [Addr.add_lit]; exact hvw)]; exact hu.cells (g:=vb) rfl j v hj) h1 (by rw [hyl,hRl]; omega)
 generalize hl1:laid ROW.toList (i*12) ys=L1 at hcpA
 have hL1:L1.length=ROW.toList.length:=by rw [←hl1]; exact laid_len hfitA
 have hfitB:(i+m)*12+(xs.drop (i*12)).length≤L1.length:=by rw [hdl,hL1,hRL]; omega
 have hcpB:∀ (W:World),W.heap[w.heap.size]?=some (.cells L1.toArray 49 (0,0))→(∀ x:Addr,x.block < w.heap.size→W.cell? x=w.cell? x)→∀ ty dc sc,(Builtin.copy_ #[23,23] ty #[.slice (some ⟨w.heap.size,(i+m)*12,none⟩) (n+m-(i+m)) dc,.slice (some ⟨b,i*12,none⟩) (n-i) sc]).run Tryz.prog W=.ok (goInt (Nat.min (n-i) (n+m-(i+m)))) (W.setRow w.heap.size (laid L1 ((i+m)*12) (xs.drop (i*12))).toArray):=fun W hWg hWc ty dc sc =>
  run_copyR W Tryz.underlying23 hinf hsz hWg (by rw [hdl,hmB]) (fun j v hj=>by
   rw [hWc _ (by rw [Addr.add_lit]; exact hbw),Addr.add_lit]
   rw [List.getElem?_drop] at hj
   exact hcurx _ _ hj) (fun v hv=>h1x v (List.mem_of_mem_drop hv)) (by simp only [List.size_toArray]; omega)
 generalize hl2:laid L1 ((i+m)*12) (xs.drop (i*12))=L2 at hcpB
 have hL2:L2.length=L1.length:=by rw [←hl2]; exact laid_len hfitB
 have hnewrow:∀ W:World,W.heap=w.heap.push (.cells ROW 49 (0,0))→W.heap[w.heap.size]?=some (.cells ROW 49 (0,0)):=fun W hW=>by rw [hW]; simp
 have hA1:∀ W:World,W.heap=w.heap.push (.cells ROW 49 (0,0))→∀ x:Addr,x.block < w.heap.size→W.cell? x=w.cell? x:=fun W hW x hx=>World.cell?_of_block (w:=w) (by rw [hW,Array.getElem?_push_lt hx]; simp [hx])
 have hB0:∀ W:World,W.heap=w.heap.push (.cells ROW 49 (0,0))→(W.setRow w.heap.size L1.toArray).heap[w.heap.size]?=some (.cells L1.toArray 49 (0,0)):=fun W hW=>setRow_heap W _ ROW _ 49 (0,0) (hnewrow W hW)
 have hB1:∀ W:World,W.heap=w.heap.push (.cells ROW 49 (0,0))→∀ x:Addr,x.block < w.heap.size→(W.setRow w.heap.size L1.toArray).cell? x=w.cell? x:=fun W hW x hx=>(World.cell?_of_block (w:=W) (setRow_other W _ x.block _ (by omega))).trans (hA1 W hW x hx)
 have hfin:∀ W W2:World,W.heap=w.heap.push (.cells ROW 49 (0,0))→W.os=w.os→W.tape=w.tape→W.output=w.output→W2.heap=(W.setRow w.heap.size L1.toArray).heap→W2.os=w.os→W2.tape=w.tape→W2.output=w.output →
   TurnedRecord base w (.slice (some ⟨b,0,none⟩) n c) (n+m) (xs.take (i*12)++ys++xs.drop (i*12)) (.slice (some ⟨w.heap.size,0,none⟩) (n+m) G) (W2.setRow w.heap.size L2.toArray):=by
  intro W W2 hW ho ht hou hW2 ho2 ht2 hou2
  have hg2:W2.heap[w.heap.size]?=some (.cells L1.toArray 49 (0,0)):=by rw [hW2]; exact hB0 W hW
  refine ⟨⟨by simp only [List.length_append,List.length_take,List.length_drop]; omega,.inr ⟨w.heap.size,G,_,rfl,hbase,setRow_heap _ _ _ _ 49 (0,0) hg2,hGn,by simp only [maxLen]; omega,by rw [List.size_toArray,hL2,hL1,hRL],?_⟩⟩,
   .inr ⟨rfl,⟨ho2,ht2,hou2,by simp [hW2,hW],fun k hk=>?_⟩⟩⟩
  ·have e2:(L1.take ((n+m)*12)).drop ((i+m)*12+(xs.drop (i*12)).length)=[]:=List.drop_eq_nil_of_le (by rw [List.length_take,hdl]; omega)
   rw [List.toList_toArray,←hl2,take_laid hfitB (by rw [hdl]; omega),e2,←hl1]
   have e1:(laid ROW.toList (i*12) ys).take ((i+m)*12)=xs.take (i*12)++ys:=by
    rw [take_laid hfitA (by rw [hyl]; omega),hRt,hyl,List.drop_eq_nil_of_le (by rw [List.length_take]; omega),List.append_nil]
   rw [e1,List.append_nil]
  ·rw [setRow_other _ _ k _ (by omega),hW2,setRow_other _ _ k _ (by omega),hW,Array.getElem?_push_lt hk]; simp [hk]
 clear hkk hik hold hROW
 have hGi:¬ (G=i):=by omega
 have hGim:¬ (G=i+m):=by omega
 have hci:¬ (c=i):=by omega
 have hw1:IntKind.i64.wrap ((i:Int)+(m:Int))=(i:Int)+(m:Int):=by rw [IntKind.wrap_i64]; omega
 have hb1:(0:Int)≤(i:Int)+(m:Int):=by omega
 have hin:i≤n:=by omega
 have htn:((i:Int)+(m:Int)).toNat=i+m:=by omega
 have hb3:(i:Int)≤(n:Int):=by omega
 have hcpA':=hcpA (w.alloc (.cells ROW 49)).drew (hnewrow _ rfl) (hA1 _ rfl)
 have hcpB':=hcpB ((w.alloc (.cells ROW 49)).drew.setRow w.heap.size L1.toArray).drew (hB0 _ rfl) (hB1 (w.alloc (.cells ROW 49)).drew rfl)
 have hfin':=hfin (w.alloc (.cells ROW 49)).drew ((w.alloc (.cells ROW 49)).drew.setRow w.heap.size L1.toArray).drew rfl rfl rfl rfl rfl rfl rfl rfl
 go_enter Tryz.func75,Tryz.ntmps75
 go_wp2_with (first
  | (at_builtin; refine Lib.wpList_append_run _ rfl _ _ _ _ rfl _ _ rfl rfl _ _ (hrz _) ?_)
  | (at_builtin; refine wpList_copy_r _ rfl _ _ 23 23 rfl _ _ rfl rfl (hcpA' _ _) ?_))
 go_region_law_o (refine step_copy_r rfl _ _ 23 23 rfl _ _ (by simp [Act.eval,Act.put]) (by simp [Act.eval,Act.put]) (hcpB' _ _ _) ?_)
 go_wp2
 go_ret
 exact ⟨_,rfl,hfin'⟩
set_option maxRecDepth 100000
set_option maxHeartbeats 4000000
theorem ins_empRecord (w:World) {base m:Nat} {A:Option Addr} {u:Value} {ys:List Value} (hu:w.ownsRow base 49 12 u m ys) (hm:0 < m) (hb:m≤1000000000) (hbase:base≤w.heap.size) (h1:∀ y∈ys,y.oneCell'=true) :
  Calls Tryz.prog 75 #[.slice A 0 0,.int .i64 0,u] w fun e w'=>∃ v',e=.returned v'∧TurnedRecord base w (.slice none 0 0) m ys v' w':=by
 have t3:=Tryz.underlying3; have t22:=Tryz.underlying23
 have u3:=run_underlying Tryz.underlying3; have u22:=run_underlying Tryz.underlying23
 have hz1:¬ ((m:Int)=0):=by omega
 obtain ⟨i,hi,hz,hsz,hby⟩:=in_49
 have hs:=World.ownsRow_nil w base 49 12
 obtain ⟨v',w',hrun,hown,_,hc⟩:=run_append3 (P:=Tryz.prog) (ty:=23) w Tryz.underlying23 Tryz.underlying23 (.inr ⟨_,rfl⟩) hi hz hsz (by rfl) hs (src_ownRecord hu h1) (by simp only [maxLen]; omega) (by rw [hby]; omega) hbase
 rw [Nat.zero_add,List.nil_append] at hown
 have hrun':=((append_emp (ty:=23) Tryz.underlying23 Tryz.underlying23 (.inr ⟨_,rfl⟩) hi hz hsz (src_ownRecord hu h1) (by omega) (by rw [hby]; omega) A).2 (by omega)).trans hrun
 rcases hu.2 with ⟨_,h0⟩ | ⟨vb,vc,vcur,rfl,_⟩
 ·omega
 cases A with
 | none =>
  go_enter Tryz.func75,Tryz.ntmps75
  go_wp2_with (at_builtin; refine Lib.wpList_append_run _ rfl _ _ _ _ rfl _ _ rfl rfl _ _ hrun' ?_)
  all_goals (go_ret; exact ⟨_,rfl,hown,hc⟩)
 | some A =>
  obtain ⟨ab,ao,asp⟩:=A
  go_enter Tryz.func75,Tryz.ntmps75
  go_wp2_with (at_builtin; refine Lib.wpList_append_run _ rfl _ _ _ _ rfl _ _ rfl rfl _ _ hrun' ?_)
  all_goals (go_ret; exact ⟨_,rfl,hown,hc⟩)
theorem ins_worldRecord (w:World) {base n m i:Nat} {v u:Value} {xs ys:List Value} (hs:w.ownsRow base 49 12 v n xs) (hu:w.ownsRow base 49 12 u m ys) (hne:∀ b,v.ownBlock=some b→u.ownBlock≠some b) (hi:i≤n) (hm:0 < m) (hb:n+m≤1000000000) (hbase:base≤w.heap.size)
  (h1x:∀ x∈xs,x.oneCell'=true) (h1:∀ y∈ys,y.oneCell'=true) :
  Calls Tryz.prog 75 #[v,.int .i64 i,u] w fun e w'=>∃ v',e=.returned v'∧TurnedRecord base w v (n+m) (xs.take (i*12)++ys++xs.drop (i*12)) v' w':=by
 by_cases hin:i=n
 ·subst hin
  have hxl:=hs.1
  rw [List.take_of_length_le (by omega),List.drop_eq_nil_of_le (by omega),List.append_nil]
  exact ins_endRecord w hs hu hm hb hbase h1
 ·obtain ⟨b,c,rfl⟩:=(own_form hs).2 (by omega)
  obtain ⟨vb,vc,rfl⟩:=(own_form hu).2 (by omega)
  by_cases hr:n+m≤c
  ·exact ins_shiftRecord w hs hu (fun e=>hne b rfl (by rw [e]; rfl)) (by omega) hm hb hr h1x h1
  ·exact ins_growRecord w hs hu (by omega) hm hb (by omega) hbase h1x h1
theorem c_x_InsertRecord {l l':List Record} {n0 n1:Nat} {i:Int} {r:List Record} (H:x_InsertRecord i l l'=some r) :
  ACallS Tryz.prog 75 [.vc 0 n0,.d (cI i),.vc 1 n1] ⟨[],[⟨49,12,n0,some (l.map Record.row)⟩,⟨49,12,n1,some (l'.map Record.row)⟩]⟩
   (QE (.vc 2 r.length) ⟨[],[⟨49,12,([]:List Record).length,none⟩,⟨49,12,n1,some (l'.map Record.row)⟩,⟨49,12,r.length,some (r.map Record.row)⟩]⟩):=by
 obtain ⟨hk,H⟩:=ck_some H
 cases H
 intro g w base vs hinv ha
 obtain ⟨x,y,z,rfl,e1,e2,e3⟩:=args3 rfl ha
 obtain ⟨k0,k1,k2,k3⟩:=hk
 have e2':y=.int .i64 i:=e2.ex_inv
 subst e2'
 obtain ⟨xs,s1,s2,s3⟩:=hinv.own 0 _ _ _ _ rfl
 obtain ⟨ys,u1,u2,u3⟩:=hinv.own 1 _ _ _ _ rfl
 have hn0:n0=l.length:=by have:=s3.len; simpa using this.symm
 have hn1:n1=l'.length:=by have:=u3.len; simpa using this.symm
 have hz:z=g.tk 1:=by
  rcases vc_or hinv rfl e3 with h | ⟨_,h,_⟩
  ·exact h
  ·have:l'=[]:=by simpa using h
   rw [this] at k2; simp at k2
 subst hz
 obtain ⟨j,rfl⟩:∃ j:Nat,i=(j:Int):=⟨i.toNat,by omega⟩
 have hrow:=s3.repl s1.1 u3 u1.1 (i:=j) (j:=j) (Nat.le_refl _) (by omega)
 have hrows:(l.map Record.row).take j++l'.map Record.row++(l.map Record.row).drop j=(l.take j++l'++l.drop j).map Record.row:=by simp [List.map_take,List.map_drop]
 rw [hrows,show j+n1+(n0-j)=n0+n1 from by omega] at hrow
 have hlen:(l.take j++l'++l.drop j).length=n0+n1:=by simp; omega
 have h1x:=s3.one s1.1
 have h1y:=u3.one u1.1
 have fin:∀ v0:Value,(v0.ownBlock=(g.tk 0).ownBlock∨v0.ownBlock=none∧0 < n0+n1)→∀ e w',(∃ v',e=.returned v'∧TurnedRecord base w v0 (n0+n1) (xs.take (j*12)++ys++xs.drop (j*12)) v' w') →
   RPost ⟨g,w,⟨[],[⟨49,12,n0,some (l.map Record.row)⟩,⟨49,12,n1,some (l'.map Record.row)⟩]⟩,base⟩ (QE (.vc 2 (l.take (j:Int).toNat++l'++l.drop (j:Int).toNat).length) ⟨[],[⟨49,12,([]:List Record).length,none⟩,⟨49,12,n1,some (l'.map Record.row)⟩,⟨49,12,(l.take (j:Int).toNat++l'++l.drop (j:Int).toNat).length,some ((l.take (j:Int).toNat++l'++l.drop (j:Int).toNat).map Record.row)⟩]⟩) e w':=by
  rintro v0 hv0 e w' ⟨v',rfl,ho,hc⟩
  rw [Int.toNat_natCast,hlen]
  refine renew_post hinv (tk:=0) rfl rfl ho ?_ hrow
  rcases hc with ⟨c1,c2,c3⟩ | hc
  ·rcases hv0 with hv0 | ⟨hv0,hp⟩
   ·rw [hv0] at c1 c3
    exact .inl ⟨c1,c2,c3⟩
   ·rw [hv0] at c1
    obtain ⟨b,c,hv'⟩:=(own_form ho).2 (by omega)
    rw [hv'] at c1
    cases c1
  ·exact .inr hc
 rcases vc_or hinv rfl e1 with hx | ⟨h0,hl0,A,hx⟩
 ·subst hx
  refine (ins_worldRecord w s1 u1 (fun b h1 h2=>hinv.tailNe 0 1 _ _ b (by decide) rfl rfl h1 h2) (i:=j) (by omega) (by omega) (by omega) hinv.base h1x h1y).mono ?_
  exact fin _ (.inl rfl)
 ·subst hx
  have hj:j=0:=by omega
  subst hj
  have hxs:xs=[]:=List.eq_nil_of_length_eq_zero (by rw [s1.1,h0,Nat.zero_mul])
  subst hxs
  refine (ins_empRecord w (A:=A) u1 (by omega) (by omega) hinv.base h1y).mono fun e w' hh=>fin (.slice none 0 0) (.inr ⟨rfl,by omega⟩) e w' ?_
  rw [h0,Nat.zero_add]
  simpa using hh
set_option maxRecDepth 100000
set_option maxHeartbeats 4000000
theorem rep_endRecord (w:World) {base b n c i m uc:Nat} {A:Option Addr} {xs ys:List Value} (hs:w.ownsRow base 49 12 (.slice (some ⟨b,0,none⟩) n c) n xs) (hu:Go.Abs.Src Tryz.prog w 12 (.slice A m uc) m ys) (hi:i < n) (hm:m≤n-i) (hb:n≤1000000000) :
  Calls Tryz.prog 114 #[.slice (some ⟨b,0,none⟩) n c,.int .i64 i,.int .i64 n,.slice A m uc] w fun e w'=>∃ v',e=.returned v'∧TurnedRecord base w (.slice (some ⟨b,0,none⟩) n c) (i+m) (xs.take (i*12)++ys) v' w':=by
 have t3:=Tryz.underlying3; have t22:=Tryz.underlying23
 have u3:=run_underlying Tryz.underlying3; have u22:=run_underlying Tryz.underlying23
 obtain ⟨hbb,hnc,hcm,cur,hg,hcs,htk⟩:=own_cellsRecord hs
 obtain ⟨inf,hinf,hz,hsz,hby⟩:=in_49
 simp only [maxLen] at hcm
 generalize hzv:(Value.agg _)=zv at hz
 have hzc:zv.cells.size=12:=by rw [←hzv]; rfl
 have hz1:∀ v∈(Builtin.zeroCells zv.cells (n-(i+m))).toList,v.oneCell'=true:=zeroCells_one (by rw [hzc,←hzv]; decide)
 have hz2:¬ ((i:Int)=(n:Int)):=by omega
 have hxl:=hs.1
 have hyl:=hu.size
 have hcl:cur.toList.length=c*12:=by simpa using hcs
 have hfit1:i*12+ys.length≤cur.toList.length:=by rw [hyl,hcl]; omega
 have hrun:∀ ty,(Builtin.append_ #[23,23] ty #[.slice (some ⟨b,0,none⟩) i c,.slice A m uc]).run Tryz.prog w=.ok (.slice (some ⟨b,0,none⟩) (i+m) c) (w.setRow b (laid cur.toList (i*12) ys).toArray):=fun ty =>
  run_appendR w Tryz.underlying23 hinf hsz hg (by omega) (hu.cells w rfl) hu.one (by rw [←Array.length_toList]; exact hfit1)
 generalize hl1:laid cur.toList (i*12) ys=L1 at hrun
 have hL1:L1.length=cur.toList.length:=by rw [←hl1]; exact laid_len hfit1
 have hg1:(w.setRow b L1.toArray).heap[b]?=some (.cells L1.toArray 49 (0,0)):=setRow_heap w b cur _ 49 (0,0) hg
 have hT1:L1.take ((i+m)*12)=xs.take (i*12)++ys:=by
  have e1:(cur.toList.take ((i+m)*12)).drop (i*12+ys.length)=[]:=List.drop_eq_nil_of_le (by rw [List.length_take,hyl]; omega)
  rw [←hl1,take_laid hfit1 (by rw [hyl]; omega),e1,List.append_nil,←htk,List.take_take,show min (i*12) (n*12)=i*12 from by omega]
 have hlen:(xs.take (i*12)++ys).length=(i+m)*12:=by simp only [List.length_append,List.length_take]; omega
 have hin:i≤n:=by omega
 have hb0:(0:Int)≤(i:Int):=by omega
 have hci:¬ (c=i):=by omega
 by_cases hmn:i+m=n
 ·have hlt:¬ ((i:Int)+(m:Int) < (n:Int)):=by omega
  have hlt2:¬ (i+m < n):=by omega
  have hlt3:¬ (((i+m:Nat):Int) < (n:Int)):=by omega
  have hfin:TurnedRecord base w (.slice (some ⟨b,0,none⟩) n c) (i+m) (xs.take (i*12)++ys) (.slice (some ⟨b,0,none⟩) (i+m) c) (w.setRow b L1.toArray) :=
   ⟨⟨hlen,.inr ⟨b,c,_,rfl,hbb,hg1,by omega,by simp only [maxLen]; omega,by rw [List.size_toArray,hL1,hcl],by rw [List.toList_toArray,hT1]⟩⟩,.inl ⟨rfl,by simp,⟨rfl,rfl,rfl,by simp,fun k hk hkb=>setRow_other _ b k _ (fun e=>hkb (by rw [e]; rfl))⟩⟩⟩
  rw [hmn] at hfin
  go_enter Tryz.func114,Tryz.ntmps114
  go_wp2_with (at_builtin; refine Lib.wpList_append_run _ rfl _ _ _ _ rfl _ _ rfl rfl _ _ (hrun _) ?_)
  all_goals (go_ret; exact ⟨_,rfl,hfin⟩)
 ·have hlt:(i:Int)+(m:Int) < (n:Int):=by omega
  have hlt2:i+m < n:=by omega
  have hfitz:(i+m)*12+(Builtin.zeroCells zv.cells (n-(i+m))).toList.length≤L1.length:=by rw [Array.length_toList,size_zeroCells,hzc,hL1,hcl]; omega
  have hclr:∀ ty dc,(Builtin.clear_ #[23] ty #[.slice (some ⟨b,(i+m)*12,none⟩) (n-(i+m)) dc]).run Tryz.prog (w.setRow b L1.toArray)=.ok (.tuple #[]) ((w.setRow b L1.toArray).setRow b (laid L1 ((i+m)*12) (Builtin.zeroCells zv.cells (n-(i+m))).toList).toArray):=fun ty dc=>by
   have:=run_clearR (P:=Tryz.prog) (ty:=ty) (c:=dc) (w.setRow b L1.toArray) (o:=(i+m)*12) (n:=n-(i+m)) Tryz.underlying23 hinf hz hzc hg1 (by omega) (by rw [List.size_toArray,hL1,hcl]; omega) hz1
   exact this
  generalize hl2:laid L1 ((i+m)*12) (Builtin.zeroCells zv.cells (n-(i+m))).toList=L2 at hclr
  have hL2:L2.length=L1.length:=by rw [←hl2]; exact laid_len hfitz
  have hT2:L2.take ((i+m)*12)=xs.take (i*12)++ys:=by rw [←hl2,take_laid0 hfitz (Nat.le_refl _),hT1]
  have hcim:¬ (c=i+m):=by omega
  have hle:i+m≤n:=by omega
  have hfin:TurnedRecord base w (.slice (some ⟨b,0,none⟩) n c) (i+m) (xs.take (i*12)++ys) (.slice (some ⟨b,0,none⟩) (i+m) c) ((w.setRow b L1.toArray).setRow b L2.toArray) :=
   ⟨⟨hlen,.inr ⟨b,c,_,rfl,hbb,setRow_heap _ b _ _ 49 (0,0) hg1,by omega,by simp only [maxLen]; omega,by rw [List.size_toArray,hL2,hL1,hcl],by rw [List.toList_toArray,hT2]⟩⟩,
    .inl ⟨rfl,by simp,⟨rfl,rfl,rfl,by simp,fun k hk hkb=>by rw [setRow_other _ b k _ (fun e=>hkb (by rw [e]; rfl)),setRow_other _ b k _ (fun e=>hkb (by rw [e]; rfl))]⟩⟩⟩
  go_enter Tryz.func114,Tryz.ntmps114
  go_wp2_with (first
   | (at_builtin; refine Lib.wpList_append_run _ rfl _ _ _ _ rfl _ _ rfl rfl _ _ (hrun _) ?_)
   | (at_builtin; refine wpList_clear_r _ rfl _ 23 rfl _ rfl (hclr _ _) ?_))
  all_goals (go_ret; exact ⟨_,rfl,hfin⟩)
set_option maxRecDepth 100000
set_option maxHeartbeats 4000000
theorem rep_midRecord (w:World) {base b n c i j m uc:Nat} {A:Option Addr} {xs ys:List Value} (hs:w.ownsRow base 49 12 (.slice (some ⟨b,0,none⟩) n c) n xs) (hu:Go.Abs.Src Tryz.prog w 12 (.slice A m uc) m ys) (hi:i < j) (hj:j < n) (hm:m≤j-i) (hb:n≤1000000000) (h1x:∀ x∈xs,x.oneCell'=true) :
  Calls Tryz.prog 114 #[.slice (some ⟨b,0,none⟩) n c,.int .i64 i,.int .i64 j,.slice A m uc] w fun e w'=>∃ v',e=.returned v'∧TurnedRecord base w (.slice (some ⟨b,0,none⟩) n c) (i+m+(n-j)) (xs.take (i*12)++ys++xs.drop (j*12)) v' w':=by
 have t3:=Tryz.underlying3; have t22:=Tryz.underlying23
 have u3:=run_underlying Tryz.underlying3; have u22:=run_underlying Tryz.underlying23
 obtain ⟨hbb,hnc,hcm,cur,hg,hcs,htk⟩:=own_cellsRecord hs
 obtain ⟨inf,hinf,hz,hsz,hby⟩:=in_49
 simp only [maxLen] at hcm
 have mixed:=hMix
 generalize hzv:(Value.agg _)=zv at hz
 have hzc:zv.cells.size=12:=by rw [←hzv]; rfl
 have hxl:=hs.1
 have hyl:=hu.size
 have hcl:cur.toList.length=c*12:=by simpa using hcs
 obtain ⟨T,hT⟩:∃ T,i+m+(n-j)=T:=⟨_,rfl⟩
 have hTi:(i:Int)+(m:Int)+((n-j:Nat):Int)=(T:Int):=by omega
 have hTn:T≤n:=by omega
 have hz1:∀ v∈(Builtin.zeroCells zv.cells (n-T)).toList,v.oneCell'=true:=zeroCells_one (by rw [hzc,←hzv]; decide)
 have hne1:¬ ((i:Int)=(j:Int)):=by omega
 have hne2:¬ ((j:Int)=(n:Int)):=by omega
 have hw1:IntKind.i64.wrap ((i:Int)+(m:Int))=(i:Int)+(m:Int):=by rw [IntKind.wrap_i64]; omega
 have hw2:IntKind.i64.wrap ((i:Int)+(m:Int)+((n-j:Nat):Int))=(T:Int):=by rw [IntKind.wrap_i64]; omega
 have htc:¬ ((c:Int) < (T:Int)):=by omega
 have hb1:(0:Int)≤(i:Int)+(m:Int):=by omega
 have htn:((i:Int)+(m:Int)).toNat=i+m:=by omega
 have hle1:(i:Int)+(m:Int)≤(j:Int):=by omega
 have hle2:(i:Int)+(m:Int)≤(T:Int):=by omega
 have hTc:T≤c:=by omega
 have hin:i≤n:=by omega
 have hin2:i≤c:=by omega
 have hiT:i≤T:=by omega
 have hjn:j≤n:=by omega
 have hij:i≤j:=by omega
 have hci:¬ (c=i):=by omega
 have hcj:¬ (c=j):=by omega
 have hcim:¬ (c=i+m):=by omega
 -- the first copy
 have hfit1:i*12+ys.length≤cur.toList.length:=by rw [hyl,hcl]; omega
 have hcp1:∀ ty dc,(Builtin.copy_ #[23,23] ty #[.slice (some ⟨b,i*12,none⟩) (T-i) dc,.slice A m uc]).run Tryz.prog w.drew=.ok (goInt m) (w.drew.setRow b (laid cur.toList (i*12) ys).toArray):=fun ty dc =>
  run_copyS w.drew Tryz.underlying23 hinf hsz hg (by omega) (hu.cells _ rfl) hu.one (by rw [←Array.length_toList]; exact hfit1)
 generalize hl1:laid cur.toList (i*12) ys=L1 at hcp1
 have hL1:L1.length=cur.toList.length:=by rw [←hl1]; exact laid_len hfit1
 have hg1:(w.drew.setRow b L1.toArray).heap[b]?=some (.cells L1.toArray 49 (0,0)):=setRow_heap w.drew b cur _ 49 (0,0) hg
 -- the second one
 have hdl:(xs.drop (j*12)).length=(n-j)*12:=by rw [List.length_drop,hxl]; omega
 have hcell:∀ k v,(xs.drop (j*12))[k]?=some v→(w.drew.setRow b L1.toArray).drew.cell? (Addr.add ⟨b,j*12,none⟩ k)=some v:=fun k v hk=>by
  have hkl:=(List.getElem?_eq_some_iff.1 hk).1
  rw [List.getElem?_drop] at hk
  rw [Addr.add_lit]
  have:(w.drew.setRow b L1.toArray).drew.cell? ⟨b,j*12+k,none⟩=L1[j*12+k]?:=by
   have:=cell_of_row (w.drew.setRow b L1.toArray) b (j*12+k) L1.toArray 49 (0,0) hg1
   simpa using this
  rw [this,←hl1,laid_get hfit1,if_neg (by rw [hyl]; omega),←hk,←htk,List.getElem?_take,if_pos (by omega)]
 have hmnB:Nat.min (n-j) (T-(i+m))=n-j:=nmin_eq (by omega)
 have hfit2:(i+m)*12+(xs.drop (j*12)).length≤L1.length:=by rw [hdl,hL1,hcl]; omega
 have hcp2:∀ ty dc sc,(Builtin.copy_ #[23,23] ty #[.slice (some ⟨b,(i+m)*12,none⟩) (T-(i+m)) dc,.slice (some ⟨b,j*12,none⟩) (n-j) sc]).run Tryz.prog (w.drew.setRow b L1.toArray).drew=.ok (goInt (Nat.min (n-j) (T-(i+m)))) ((w.drew.setRow b L1.toArray).drew.setRow b (laid L1 ((i+m)*12) (xs.drop (j*12))).toArray):=fun ty dc sc =>
  run_copyR (w.drew.setRow b L1.toArray).drew Tryz.underlying23 hinf hsz hg1 (by rw [hdl,hmnB]) hcell (fun v hv=>h1x v (List.mem_of_mem_drop hv)) (by rw [←Array.length_toList]; exact hfit2)
 generalize hl2:laid L1 ((i+m)*12) (xs.drop (j*12))=L2 at hcp2
 have hL2:L2.length=L1.length:=by rw [←hl2]; exact laid_len hfit2
 have hg2:((w.drew.setRow b L1.toArray).drew.setRow b L2.toArray).heap[b]?=some (.cells L2.toArray 49 (0,0)):=setRow_heap (w.drew.setRow b L1.toArray).drew b _ _ 49 (0,0) hg1
 have hT1:L1.take ((i+m)*12)=xs.take (i*12)++ys:=by
  have e1:(cur.toList.take ((i+m)*12)).drop (i*12+ys.length)=[]:=List.drop_eq_nil_of_le (by rw [List.length_take,hyl]; omega)
  rw [←hl1,take_laid hfit1 (by rw [hyl]; omega),e1,List.append_nil,←htk,List.take_take,show min (i*12) (n*12)=i*12 from by omega]
 have hT2:L2.take (T*12)=xs.take (i*12)++ys++xs.drop (j*12):=by
  have e1:(L1.take (T*12)).drop ((i+m)*12+(xs.drop (j*12)).length)=[]:=List.drop_eq_nil_of_le (by rw [List.length_take,hdl]; omega)
  rw [←hl2,take_laid hfit2 (by rw [hdl]; omega),e1,List.append_nil,hT1]
 have hlen:(xs.take (i*12)++ys++xs.drop (j*12)).length=T*12:=by simp only [List.length_append,List.length_take,List.length_drop]; omega
 rw [hT]
 have hos:∀ k,k < w.heap.size→some k≠Value.ownBlock (.slice (some ⟨b,0,none⟩) n c)→((w.drew.setRow b L1.toArray).drew.setRow b L2.toArray).heap[k]?=w.heap[k]?:=fun k hk hkb=>by
  rw [setRow_other _ b k _ (fun e=>hkb (by rw [e]; rfl))]
  show (w.drew.setRow b L1.toArray).heap[k]?=_
  rw [setRow_other _ b k _ (fun e=>hkb (by rw [e]; rfl))]; rfl
 by_cases hTe:T=n
 ·have hfin:TurnedRecord base w (.slice (some ⟨b,0,none⟩) n c) T (xs.take (i*12)++ys++xs.drop (j*12)) (.slice (some ⟨b,0,none⟩) T c) ((w.drew.setRow b L1.toArray).drew.setRow b L2.toArray) :=
   ⟨⟨hlen,.inr ⟨b,c,_,rfl,hbb,hg2,hTc,by simp only [maxLen]; omega,by rw [List.size_toArray,hL2,hL1,hcl],by rw [List.toList_toArray,hT2]⟩⟩,.inl ⟨rfl,by simp,⟨rfl,rfl,rfl,by simp,hos⟩⟩⟩
  have hclr:∀ (W:World) (A:Option Addr) ty dc,(Builtin.clear_ #[23] ty #[.slice A 0 dc]).run Tryz.prog W=.ok (.tuple #[]) W:=fun W A ty dc=>run_clear_none W Tryz.underlying23
  have hz0:n-T=0:=by omega
  clear hTe
  rw [List.append_assoc] at hfin ⊢
  rcases Decidable.em (c=T) with hcT | hcT
  ·subst hcT
   go_enter Tryz.func114,Tryz.ntmps114
   go_wp2
   go_region
   go_wp2_with (at_builtin; refine wpList_copy_r _ rfl _ _ 23 23 rfl _ _ rfl rfl (hcp1 _ _) ?_)
   go_region_law_o (refine step_copy_r rfl _ _ 23 23 rfl _ _ (by simp [Act.eval,Act.put]) (by simp [Act.eval,Act.put]) (hcp2 _ _ _) ?_)
   go_wp2_with (at_builtin; refine wpList_clear_r _ rfl _ 23 rfl _ rfl (hclr _ _ _ _) ?_)
   all_goals (go_ret; exact ⟨_,rfl,hfin⟩)
  ·go_enter Tryz.func114,Tryz.ntmps114
   go_wp2
   go_region
   go_wp2_with (at_builtin; refine wpList_copy_r _ rfl _ _ 23 23 rfl _ _ rfl rfl (hcp1 _ _) ?_)
   go_region_law_o (refine step_copy_r rfl _ _ 23 23 rfl _ _ (by simp [Act.eval,Act.put]) (by simp [Act.eval,Act.put]) (hcp2 _ _ _) ?_)
   go_wp2_with (at_builtin; refine wpList_clear_r _ rfl _ 23 rfl _ rfl (hclr _ _ _ _) ?_)
   all_goals (go_ret; exact ⟨_,rfl,hfin⟩)
 ·have hfitz:T*12+(Builtin.zeroCells zv.cells (n-T)).toList.length≤L2.length:=by rw [Array.length_toList,size_zeroCells,hzc,hL2,hL1,hcl]; omega
  have hclr:∀ ty dc,(Builtin.clear_ #[23] ty #[.slice (some ⟨b,T*12,none⟩) (n-T) dc]).run Tryz.prog ((w.drew.setRow b L1.toArray).drew.setRow b L2.toArray)=.ok (.tuple #[]) (((w.drew.setRow b L1.toArray).drew.setRow b L2.toArray).setRow b (laid L2 (T*12) (Builtin.zeroCells zv.cells (n-T)).toList).toArray):=fun ty dc=>by
   have:=run_clearR (P:=Tryz.prog) (ty:=ty) (c:=dc) ((w.drew.setRow b L1.toArray).drew.setRow b L2.toArray) (o:=T*12) (n:=n-T) Tryz.underlying23 hinf hz hzc hg2 (by omega) (by rw [List.size_toArray,hL2,hL1,hcl]; omega) hz1
   exact this
  generalize hl3:laid L2 (T*12) (Builtin.zeroCells zv.cells (n-T)).toList=L3 at hclr
  have hL3:L3.length=L2.length:=by rw [←hl3]; exact laid_len hfitz
  have hT3:L3.take (T*12)=xs.take (i*12)++ys++xs.drop (j*12):=by rw [←hl3,take_laid0 hfitz (Nat.le_refl _),hT2]
  have hcT:¬ (c=T):=by omega
  have hfin:TurnedRecord base w (.slice (some ⟨b,0,none⟩) n c) T (xs.take (i*12)++ys++xs.drop (j*12)) (.slice (some ⟨b,0,none⟩) T c) (((w.drew.setRow b L1.toArray).drew.setRow b L2.toArray).setRow b L3.toArray) :=
   ⟨⟨hlen,.inr ⟨b,c,_,rfl,hbb,setRow_heap _ b _ _ 49 (0,0) hg2,hTc,by simp only [maxLen]; omega,by rw [List.size_toArray,hL3,hL2,hL1,hcl],by rw [List.toList_toArray,hT3]⟩⟩,.inl ⟨rfl,by simp,⟨rfl,rfl,rfl,by simp,fun k hk hkb=>by rw [setRow_other _ b k _ (fun e=>hkb (by rw [e]; rfl))]; exact hos k hk hkb⟩⟩⟩
  rw [List.append_assoc] at hfin ⊢
  go_enter Tryz.func114,Tryz.ntmps114
  go_wp2
  go_region
  go_wp2_with (at_builtin; refine wpList_copy_r _ rfl _ _ 23 23 rfl _ _ rfl rfl (hcp1 _ _) ?_)
  go_region_law_o (refine step_copy_r rfl _ _ 23 23 rfl _ _ (by simp [Act.eval,Act.put]) (by simp [Act.eval,Act.put]) (hcp2 _ _ _) ?_)
  go_wp2_with (at_builtin; refine wpList_clear_r _ rfl _ 23 rfl _ rfl (hclr _ _) ?_)
  all_goals (go_ret; exact ⟨_,rfl,hfin⟩)
set_option maxRecDepth 100000
set_option maxHeartbeats 4000000
theorem c_x_ReplaceRecord {l l':List Record} {n0:Nat} {i j:Int} {r:List Record} (H:x_ReplaceRecord i j l' l=some r) :
  ACallS Tryz.prog 114 [.vc 0 n0,.d (cI i),.d (cI j),.d (slOf 12 Record.row l')] ⟨[],[⟨49,12,n0,some (l.map Record.row)⟩]⟩
   (QE (.vc 1 r.length) ⟨[],[⟨49,12,([]:List Record).length,none⟩,⟨49,12,r.length,some (r.map Record.row)⟩]⟩):=by
 obtain ⟨hk,H⟩:=ck_some H
 cases H
 intro g w base vs hinv ha
 obtain ⟨x,y,z,u,rfl,e1,e2,e3,e4⟩:=args4 rfl ha
 obtain ⟨k0,k1,k2,k3,k4⟩:=hk
 have e2':y=.int .i64 i:=e2.ex_inv
 have e3':z=.int .i64 j:=e3.ex_inv
 subst e2'; subst e3'
 obtain ⟨xs,s1,s2,s3⟩:=hinv.own 0 _ _ _ _ rfl
 have hn0:n0=l.length:=by have:=s3.len; simpa using this.symm
 have e4':DRep g.lim w (.sl 12 (l'.map Record.row)) u:=by cases e4 with | d _ _ h=>exact h
 obtain ⟨ys,hsr⟩:=srcRep_sl (P:=Tryz.prog) e4'
 obtain ⟨A,uc,hu⟩:=sl_form e4'
 have hsrc:=hsr.src
 rw [List.length_map] at hu hsrc
 subst hu
 have hx:x=g.tk 0:=by
  rcases vc_or hinv rfl e1 with h | ⟨_,h,_⟩
  ·exact h
  ·have:l=[]:=by simpa using h
   rw [this] at k2; simp at k2; omega
 subst hx
 obtain ⟨i',rfl⟩:∃ q:Nat,i=(q:Int):=⟨i.toNat,by omega⟩
 obtain ⟨j',rfl⟩:∃ q:Nat,j=(q:Int):=⟨j.toNat,by omega⟩
 have hys:RowsRep g.lim w 12 l'.length (l'.map Record.row) ys:=⟨by simp,hsr.rows,fun q c v hc hv=>hsr.rep q v c hv hc⟩
 have hrow:=s3.repl s1.1 hys hsrc.size (i:=i') (j:=j') (by omega) (by omega)
 have hrows:(l.map Record.row).take i'++l'.map Record.row++(l.map Record.row).drop j'=(l.take i'++l'++l.drop j').map Record.row:=by simp [List.map_take,List.map_drop]
 rw [hrows] at hrow
 have hlen:(l.take i'++l'++l.drop j').length=i'+l'.length+(n0-j'):=by simp; omega
 obtain ⟨b,c,hv⟩:=(own_form s1).2 (by omega)
 have h1x:=s3.one s1.1
 have fin:∀ e w',(∃ v',e=.returned v'∧TurnedRecord base w (g.tk 0) (i'+l'.length+(n0-j')) (xs.take (i'*12)++ys++xs.drop (j'*12)) v' w') →
   RPost ⟨g,w,⟨[],[⟨49,12,n0,some (l.map Record.row)⟩]⟩,base⟩ (QE (.vc 1 (l.take (i':Int).toNat++l'++l.drop (j':Int).toNat).length) ⟨[],[⟨49,12,([]:List Record).length,none⟩,⟨49,12,(l.take (i':Int).toNat++l'++l.drop (j':Int).toNat).length,some ((l.take (i':Int).toNat++l'++l.drop (j':Int).toNat).map Record.row)⟩]⟩) e w':=by
  rintro e w' ⟨v',rfl,ho,hc⟩
  rw [Int.toNat_natCast,Int.toNat_natCast,hlen]
  exact renew_post hinv (tk:=0) rfl rfl ho hc hrow
 refine Calls.mono ?_ fin
 have s1':=s1
 rw [hv] at s1' ⊢
 by_cases hjn:j'=n0
 ·subst hjn
  have:=rep_endRecord w s1' hsrc (i:=i') (by omega) (by omega) (by omega)
  rw [Nat.sub_self,Nat.add_zero,List.drop_eq_nil_of_le (by rw [s1.1]; exact Nat.le_refl _),List.append_nil]
  exact this
 ·exact rep_midRecord w s1' hsrc (by omega) (by omega) (by omega) (by omega) h1x
set_option maxRecDepth 100000
set_option maxHeartbeats 4000000
theorem c_x_CloneRecordV {l r:List Record} (H:x_CloneRecord l=some r):ACallS Tryz.prog 67 [.d (slOf 12 Record.row l)] ⟨[],[]⟩ (QE (.vc 0 r.length) ⟨[],[⟨49,12,r.length,some (r.map Record.row)⟩]⟩):=by
 obtain ⟨hk,H⟩:=ck_some H
 cases H
 obtain ⟨i32,hi32,hz32,hs32,hb32⟩:=in_49
 refine ACallS.keep ?_
 refine ACallS.enter Tryz.func67 rfl Tryz.ntmps67 rfl fun S hS=>?_
 refine .B 8 [] rfl trivial ?_
 refine .slNil Tryz.underlying23 rfl rfl fun b hb=>?_
 refine .A 1 [] rfl trivial ?_
 refine .cond rfl (fun hc=>?_) (fun hc=>?_)
 ·have hl:l=[]:=by simpa using hb hc
  subst hl
  refine .A 4 [] rfl trivial ?_
  refine .tokV (i:=2) (e:=49) (sz:=12) rfl ?_
  refine .R Tryz.func67 Tryz.results67 rfl ?_
  exact ⟨[],[0],rfl,rfl,rfl,rfl,rfl,rfl,rfl,rfl,.rfl' _⟩
 ·refine .B 3 [] rfl trivial ?_
  refine .v (x:=.vc 0 ([]:List Record).length) (v_build0V Record.row Tryz.underlying23 hi32 hs32) rfl ?_
  refine .withSt (st':=⟨[],[⟨49,12,([]:List Record).length,some (([]:List Record).map Record.row)⟩]⟩) rfl ?_
  refine .B 1 [] rfl trivial ?_
  refine .v (x:=.vc 0 (([]:List Record)++l).length) (v_appendV (l:=[]) (l':=l) (row:=Record.row) Tryz.underlying23 hi32 hz32 hs32 rfl (by rw [hb32]; decide) rfl rfl rfl rfl (by simpa using hk)) rfl ?_
  refine .withSt (st':=⟨[],[⟨49,12,(([]:List Record)++l).length,some ((([]:List Record)++l).map Record.row)⟩]⟩) rfl ?_
  refine .A 2 [] rfl trivial ?_
  refine .R Tryz.func67 Tryz.results67 rfl ?_
  exact ⟨[],[0],rfl,rfl,rfl,rfl,rfl,rfl,rfl,rfl,.rfl' _⟩
theorem c_x_CloneRecord {l r:List Record} (H:x_CloneRecord l=some r):ACall Tryz.prog 67 [slOf 12 Record.row l] (·=slOf 12 Record.row r):=.of (c_x_CloneRecordV H).letgo
set_option maxRecDepth 100000
set_option maxHeartbeats 4000000
def TurnedRange (base:Nat) (w:World) (v:Value) (n:Nat) (xs:List Value) (v':Value) (w':World):Prop :=
 w'.ownsRow base 65 3 v' n xs∧((v'.ownBlock=v.ownBlock∧w'.heap.size=w.heap.size∧w.grownBy w' v.ownBlock)∨(v'.ownBlock=some w.heap.size∧Below w.heap.size w w'))
theorem src_ownRange {base m:Nat} {w:World} {u:Value} {ys:List Value} (hu:w.ownsRow base 65 3 u m ys) (h1:∀ y∈ys,y.oneCell'=true):Go.Abs.Src Tryz.prog w 3 u m ys:=by
 rcases hu.2 with ⟨rfl,rfl⟩ | ⟨b,cap,cur,rfl,hb,hg,hnc,hcm,hcs,htk⟩
 ·have:ys=[]:=List.eq_nil_of_length_eq_zero (by simpa using hu.1)
  subst this
  exact ⟨rfl,fun w' _=>run_firstCells_none w' _ 0 0 _,by simp,by simp⟩
 ·refine ⟨rfl,fun w' hw=>run_firstCells_some w' _ m _ m cap ys hu.1 fun j y hj=>?_,hu.1,h1⟩
  rw [World.cell?_of_block (w:=w) (by rw [hw])]
  exact hu.cells (g:=b) rfl j y hj
theorem ins_endRange (w:World) {base n m:Nat} {v u:Value} {xs ys:List Value} (hs:w.ownsRow base 65 3 v n xs) (hu:w.ownsRow base 65 3 u m ys) (hm:0 < m) (hb:n+m≤1000000000) (hbase:base≤w.heap.size) (h1:∀ y∈ys,y.oneCell'=true) :
  Calls Tryz.prog 96 #[v,.int .i64 n,u] w fun e w'=>∃ v',e=.returned v'∧TurnedRange base w v (n+m) (xs++ys) v' w':=by
 have t3:=Tryz.underlying3; have t22:=Tryz.underlying22
 have u3:=run_underlying Tryz.underlying3; have u22:=run_underlying Tryz.underlying22
 have hz1:¬ ((m:Int)=0):=by omega
 obtain ⟨i,hi,hz,hsz,hby⟩:=in_65
 obtain ⟨v',w',hrun,hown,_,hc⟩:=run_append3 (P:=Tryz.prog) (ty:=22) w Tryz.underlying22 Tryz.underlying22 (.inr ⟨_,rfl⟩) hi hz hsz (by rfl) hs (src_ownRange hu h1) (by simp only [maxLen]; omega) (by rw [hby]; omega) hbase
 rcases hu.2 with ⟨_,h0⟩ | ⟨vb,vc,vcur,rfl,_⟩
 ·omega
 rcases hs.2 with ⟨rfl,rfl⟩ | ⟨b,c,cur,rfl,hbb,hg,hnc,hcm,hcs,htk⟩
 ·go_enter Tryz.func96,Tryz.ntmps96
  go_wp2_with (at_builtin; refine Lib.wpList_append_run _ rfl _ _ _ _ rfl _ _ rfl rfl _ _ hrun ?_)
  go_ret
  exact ⟨_,rfl,hown,hc⟩
 ·go_enter Tryz.func96,Tryz.ntmps96
  go_wp2_with (at_builtin; refine Lib.wpList_append_run _ rfl _ _ _ _ rfl _ _ rfl rfl _ _ hrun ?_)
  all_goals (go_ret; exact ⟨_,rfl,hown,hc⟩)
set_option maxRecDepth 100000
set_option maxHeartbeats 4000000
theorem own_cellsRange {w:World} {base b n c:Nat} {xs:List Value} (hs:w.ownsRow base 65 3 (.slice (some ⟨b,0,none⟩) n c) n xs):base≤b∧n≤c∧c≤maxLen∧∃ cur:Array Value,w.heap[b]?=some (.cells cur 65 (0,0))∧cur.size=c*3∧cur.toList.take (n*3)=xs:=by
 rcases hs.2 with ⟨h,_⟩ | ⟨b',c',cur,h,hbb,hg,hnc,hcm,hcs,htk⟩
 ·cases h
 ·cases h
  exact ⟨hbb,hnc,hcm,cur,hg,hcs,htk⟩
theorem over_noRange (w:World) {b vb m vc o lb cb cs:Nat} {cur vcur:Array Value} (hne:vb≠b) (hg:w.heap[b]?=some (.cells cur 65 (0,0))) (hgv:w.heap[vb]?=some (.cells vcur 65 (0,0))) (hk:cur.size≠0) :
  (callFunc 129 #[.slice (some ⟨vb,0,none⟩) m vc,.slice (some ⟨b,o,none⟩) lb cb]).run Tryz.prog w=.ok (.value (.bool false)) w:=by
 obtain ⟨i,hi,hz,hsz,hby⟩:=in_65
 rw [run_callFunc_extern Tryz.func129 (by kernel_rfl) (by kernel_rfl) (by kernel_rfl) (e:=Extern.SlicesOverlaps.overlaps #[22,22] #[4]) (by kernel_rfl),
  Lib.run_overlaps_apart w 22 4 65 Tryz.underlying22 3 (fun w'=>by simp [sizeOf,typeInfo,hi,hsz]) ⟨vb,0,none⟩ ⟨b,o,none⟩ m vc lb cb hne 65 65 vcur.size cur.size (by simp [World.shape?,hgv]) (by simp [World.shape?,hg]) hk (by simp [World.frozen?,hgv]) (by simp [World.frozen?,hgv])]
 rfl
theorem ins_shiftRange (w:World) {base b n c i vb m vc:Nat} {xs ys:List Value} (hs:w.ownsRow base 65 3 (.slice (some ⟨b,0,none⟩) n c) n xs) (hu:w.ownsRow base 65 3 (.slice (some ⟨vb,0,none⟩) m vc) m ys) (hne:vb≠b) (hi:i < n) (hm:0 < m) (hb:n+m≤1000000000) (hroom:n+m≤c)
  (h1x:∀ x∈xs,x.oneCell'=true) (h1:∀ y∈ys,y.oneCell'=true) :
  Calls Tryz.prog 96 #[.slice (some ⟨b,0,none⟩) n c,.int .i64 i,.slice (some ⟨vb,0,none⟩) m vc] w fun e w'=>∃ v',e=.returned v'∧TurnedRange base w (.slice (some ⟨b,0,none⟩) n c) (n+m) (xs.take (i*3)++ys++xs.drop (i*3)) v' w':=by
 have t3:=Tryz.underlying3; have t22:=Tryz.underlying22
 have u3:=run_underlying Tryz.underlying3; have u22:=run_underlying Tryz.underlying22
 obtain ⟨hbb,hnc,hcm,cur,hg,hcs,htk⟩:=own_cellsRange hs
 obtain ⟨_,hvc,_,vcur,hgv,hvcs,hvtk⟩:=own_cellsRange hu
 obtain ⟨inf,hinf,hz,hsz,hby⟩:=in_65
 simp only [maxLen] at hcm
 have z32:∀ w,(Go.sizeOf 65).run Tryz.prog w=.ok 3 w:=fun w'=>by simp [sizeOf,typeInfo,hinf,hsz]
 have hz1:¬ ((m:Int)=0):=by omega
 have hz2:¬ ((i:Int)=(n:Int)):=by omega
 have mixed:=hMix
 have hw1:IntKind.i64.wrap ((i:Int)+(m:Int))=(i:Int)+(m:Int):=by rw [IntKind.wrap_i64]; omega
 have hb1:(0:Int)≤(i:Int)+(m:Int):=by omega
 have hin:i≤n:=by omega
 have htn:((i:Int)+(m:Int)).toNat=i+m:=by omega
 have hb2:¬ (c=i+m):=by omega
 have hb3:(i:Int)≤(n:Int)+(m:Int):=by omega
 have hb4:¬ (c=i):=by omega
 have hk0:cur.size≠0:=by rw [hcs]; omega
 have hxl:=hs.1
 have hyl:=hu.1
 have hov:∀ o lb cb,(callFunc 129 #[.slice (some ⟨vb,0,none⟩) m vc,.slice (some ⟨b,o,none⟩) lb cb]).run Tryz.prog w=.ok (.value (.bool false)) w:=fun o lb cb=>over_noRange (cs:=0) w hne hg hgv hk0
 -- the first copy
 have hcurx:∀ j x,xs[j]?=some x→w.cell? ⟨b,j,none⟩=some x:=fun j x hj=>by have:=hs.cells (g:=b) rfl j x hj; rwa [Addr.add_lit,Nat.zero_add] at this
 have hcell1:∀ j v,(xs.drop (i*3))[j]?=some v→w.cell? (Addr.add ⟨b,i*3,none⟩ j)=some v:=fun j v hj=>by
  rw [List.getElem?_drop] at hj
  rw [Addr.add_lit]
  exact hcurx _ _ hj
 have hmn:Nat.min (n+m-i) (n+m-(i+m))=n-i:=nmin_eq (by omega)
 have hmn2:Nat.min m (n+m-i)=m:=nmin_eq (by omega)
 have hdl:(xs.drop (i*3)).length=Nat.min (n+m-i) (n+m-(i+m))*3:=by rw [List.length_drop,hxl,hmn]; omega
 have hcp1:∀ (W:World),W.heap=w.heap→∀ ty dc sc,(Builtin.copy_ #[22,22] ty #[.slice (some ⟨b,(i+m)*3,none⟩) (n+m-(i+m)) dc,.slice (some ⟨b,i*3,none⟩) (n+m-i) sc]).run Tryz.prog W=.ok (goInt (Nat.min (n+m-i) (n+m-(i+m)))) (W.setRow b (laid cur.toList ((i+m)*3) (xs.drop (i*3))).toArray):=fun W hW ty dc sc =>
  run_copyR W Tryz.underlying22 hinf hsz (by rw [hW]; exact hg) hdl (fun j v hj=>by rw [World.cell?_of_block (w:=w) (by rw [hW])]; exact hcell1 j v hj) (fun v hv=>h1x v (List.mem_of_mem_drop hv)) (by rw [hdl,hcs,hmn]; omega)
 generalize hl1:laid cur.toList ((i+m)*3) (xs.drop (i*3))=L1 at hcp1
 have hcl:cur.toList.length=c*3:=by simpa using hcs
 have hfit1:(i+m)*3+(xs.drop (i*3)).length≤cur.toList.length:=by rw [List.length_drop,hxl,hcl]; omega
 have hL1:L1.length=cur.toList.length:=by rw [←hl1]; exact laid_len hfit1
 have hcellv:∀ j v,ys[j]?=some v→w.cell? (Addr.add ⟨vb,0,none⟩ j)=some v:=fun j v hj=>hu.cells (g:=vb) rfl j v hj
 have hcp2:∀ (W:World),W.heap[b]?=some (.cells L1.toArray 65 (0,0))→(∀ x:Addr,x.block≠b→W.cell? x=w.cell? x)→∀ ty dc,(Builtin.copy_ #[22,22] ty #[.slice (some ⟨b,i*3,none⟩) (n+m-i) dc,.slice (some ⟨vb,0,none⟩) m vc]).run Tryz.prog W=.ok (goInt (Nat.min m (n+m-i))) (W.setRow b (laid L1 (i*3) ys).toArray):=fun W hWg hWc ty dc =>
  run_copyR W Tryz.underlying22 hinf hsz hWg (by rw [hyl,hmn2]) (fun j v hj=>by rw [hWc _ (by rw [Addr.add_lit]; exact hne)]; exact hcellv j v hj) h1 (by simp only [List.size_toArray]; omega)
 have hg1:((w.drew).setRow b L1.toArray).heap[b]?=some (.cells L1.toArray 65 (0,0)):=setRow_heap w.drew b cur _ 65 (0,0) hg
 have hoth:∀ x:Addr,x.block≠b→((w.drew).setRow b L1.toArray).cell? x=w.cell? x:=fun x hx=>World.cell?_of_block (w:=w) (setRow_other w.drew b x.block _ hx)
 have hfin:TurnedRange base w (.slice (some ⟨b,0,none⟩) n c) (n+m) (xs.take (i*3)++ys++xs.drop (i*3)) (.slice (some ⟨b,0,none⟩) (n+m) c) (((w.drew).setRow b L1.toArray).setRow b (laid L1 (i*3) ys).toArray):=by
  have hfit2:i*3+ys.length≤L1.length:=by rw [hyl,hL1,hcl]; omega
  refine ⟨⟨by simp only [List.length_append,List.length_take,List.length_drop]; omega,.inr ⟨b,c,_,rfl,hbb,setRow_heap _ b _ _ 65 (0,0) hg1,hroom,by simp only [maxLen]; omega,by rw [List.size_toArray,laid_len hfit2,hL1,hcl],?_⟩⟩,
   .inl ⟨rfl,by simp,⟨rfl,rfl,rfl,by simp,fun k hk hkb=>?_⟩⟩⟩
  ·rw [List.toList_toArray,take_laid hfit2 (by rw [hyl]; omega),←hl1]
   have e1:(laid cur.toList ((i+m)*3) (xs.drop (i*3))).take (i*3)=xs.take (i*3):=by
    apply List.ext_getElem?
    intro j
    rw [List.getElem?_take,List.getElem?_take,laid_get hfit1]
    by_cases h:j < i*3
    ·rw [if_pos h,if_pos h,if_neg (by omega),←htk,List.getElem?_take,if_pos (by omega)]
    ·rw [if_neg h,if_neg h]
   rw [e1]
   congr 1
   rw [take_laid hfit1 (by rw [List.length_drop,hxl]; omega),hyl]
   apply List.ext_getElem?
   intro j
   rw [List.getElem?_drop]
   have hk1:(List.take ((i+m)*3) cur.toList).length=(i+m)*3:=by rw [List.length_take,hcl]; omega
   by_cases h:j < (n-i)*3
   ·rw [List.getElem?_append_left (by rw [List.length_append,hk1,List.length_drop,hxl]; omega),List.getElem?_append_right (by rw [hk1]; omega),hk1]
    congr 1; omega
   ·rw [List.getElem?_eq_none (by simp only [List.length_append,List.length_drop,List.length_take,hcl,hxl]; omega),List.getElem?_eq_none (by rw [List.length_drop,hxl]; omega)]
  ·rw [setRow_other _ b k _ (fun e=>hkb (by rw [e]; rfl)),setRow_other _ b k _ (fun e=>hkb (by rw [e]; rfl))]
   rfl
 have hcp1':=hcp1 w.drew rfl
 have hcp2':=hcp2 _ hg1 hoth
 go_enter Tryz.func96,Tryz.ntmps96
 go_wp2_with (simp only [hov])
 go_region_law_o (refine step_copy_r rfl _ _ 22 22 rfl _ _ (by simp [Act.eval,Act.put]) (by simp [Act.eval,Act.put]) (hcp1' _ _ _) ?_)
 go_wp2_with (at_builtin; refine wpList_copy_r _ rfl _ _ 22 22 rfl _ _ rfl rfl (hcp2' _ _) ?_)
 go_ret
 exact ⟨_,rfl,hfin⟩
set_option maxRecDepth 100000
set_option maxHeartbeats 4000000
theorem ins_growRange (w:World) {base b n c i vb m vc:Nat} {xs ys:List Value} (hs:w.ownsRow base 65 3 (.slice (some ⟨b,0,none⟩) n c) n xs) (hu:w.ownsRow base 65 3 (.slice (some ⟨vb,0,none⟩) m vc) m ys) (hi:i < n) (hm:0 < m) (hb:n+m≤1000000000) (hroom:c < n+m) (hbase:base≤w.heap.size)
  (h1x:∀ x∈xs,x.oneCell'=true) (h1:∀ y∈ys,y.oneCell'=true) :
  Calls Tryz.prog 96 #[.slice (some ⟨b,0,none⟩) n c,.int .i64 i,.slice (some ⟨vb,0,none⟩) m vc] w fun e w'=>∃ v',e=.returned v'∧TurnedRange base w (.slice (some ⟨b,0,none⟩) n c) (n+m) (xs.take (i*3)++ys++xs.drop (i*3)) v' w':=by
 have t3:=Tryz.underlying3; have t22:=Tryz.underlying22
 have u3:=run_underlying Tryz.underlying3; have u22:=run_underlying Tryz.underlying22
 obtain ⟨hbb,hnc,hcm,cur,hg,hcs,htk⟩:=own_cellsRange hs
 obtain ⟨_,hvc,_,vcur,hgv,hvcs,hvtk⟩:=own_cellsRange hu
 obtain ⟨inf,hinf,hz,hsz,hby⟩:=in_65
 simp only [maxLen] at hcm
 have mixed:=hMix
 have hz1:¬ ((m:Int)=0):=by omega
 have hz2:¬ ((i:Int)=(n:Int)):=by omega
 have hz3:(c:Int) < (n:Int)+(m:Int):=by omega
 have hbw:b < w.heap.size:=(hs.lt b rfl).2
 have hvw:vb < w.heap.size:=(hu.lt vb rfl).2
 have hkk:(n:Int)+(m:Int) - (i:Int)=((n+m-i:Nat):Int):=by omega
 have hik:i+(n+m-i)=n+m:=by omega
 have hxl:=hs.1
 have hyl:=hu.1
 have hcurx:∀ j x,xs[j]?=some x→w.cell? ⟨b,j,none⟩=some x:=fun j x hj=>by have:=hs.cells (g:=b) rfl j x hj; rwa [Addr.add_lit,Nat.zero_add] at this
 have hold:(Builtin.firstCells inf.size i (.slice (some ⟨b,0,none⟩) i c)).run Tryz.prog w.drew=.ok (xs.take (i*3)).toArray w.drew:=by
  rw [hsz]
  refine run_firstCells_some w.drew 3 i ⟨b,0,none⟩ i c (xs.take (i*3)) (by rw [List.length_take]; omega) (fun j v hj=>?_)
  rw [Addr.add_lit,Nat.zero_add]
  rw [List.getElem?_take] at hj
  split at hj
  ·exact hcurx j v hj
  ·cases hj
 generalize hzv:(Value.agg _)=zv at hz
 have hzc:zv.cells.size=3:=by rw [←hzv]; rfl
 have hrz:∀ ty,(Builtin.append_ #[22,3] ty #[.slice (some ⟨b,0,none⟩) i c,.int .i64 ((n:Int)+(m:Int) - (i:Int))]).run Tryz.prog w =
   .ok (.slice (some ⟨w.heap.size,0,none⟩) (n+m) (grownCap w (n+m) c 65)) (w.drew.alloc (.cells ((xs.take (i*3)).toArray++Builtin.zeroCells zv.cells (n+m-i)++Builtin.zeroCells zv.cells (grownCap w (n+m) c 65-(n+m))) 65)):=fun ty=>by
  have h:=Lib.run_append_grow_zeros w 22 3 ty 65 inf zv .i64 .i64 Tryz.underlying22 Tryz.underlying3 hinf hz (some ⟨b,0,none⟩) i c (xs.take (i*3)) hold (n+m-i) (by omega) (by omega) (by omega) (by omega) (by rw [hby]; omega) (by rw [hik]; exact growslice_fits hroom (by rw [hby]; omega))
  rw [hik] at h
  rw [hkk]
  exact h
 have hGn:n+m≤grownCap w (n+m) c 65:=grownCap_ge w _ _ _
 have hG63:grownCap w (n+m) c 65≤maxLen:=grownCap_le_maxLen w (n+m) c 65 (by unfold maxLen; omega)
 generalize grownCap w (n+m) c 65=G at hrz hGn hG63
 simp only [maxLen] at hG63
 generalize hROW:(xs.take (i*3)).toArray++Builtin.zeroCells zv.cells (n+m-i)++Builtin.zeroCells zv.cells (G-(n+m))=ROW at hrz
 have hRl:ROW.size=G*3:=by
  rw [←hROW]
  simp only [Array.size_append,List.size_toArray,List.length_take,size_zeroCells,hzc,hxl]
  omega
 have hRt:ROW.toList.take (i*3)=xs.take (i*3):=by
  rw [←hROW]
  simp only [Array.toList_append,List.append_assoc]
  rw [List.take_append_of_le_length (by rw [List.length_take]; omega),List.take_of_length_le (by rw [List.length_take]; omega)]
 have hRL:ROW.toList.length=G*3:=by simpa using hRl
 have hmA:Nat.min m (n+m-i)=m:=nmin_eq (by omega)
 have hmB:Nat.min (n-i) (n+m-(i+m))=n-i:=nmin_eq (by omega)
 have hdl:(xs.drop (i*3)).length=(n-i)*3:=by rw [List.length_drop,hxl]; omega
 have hfitA:i*3+ys.length≤ROW.toList.length:=by rw [hyl,hRL]; omega
 have hcpA:∀ (W:World),W.heap[w.heap.size]?=some (.cells ROW 65 (0,0))→(∀ x:Addr,x.block < w.heap.size→W.cell? x=w.cell? x)→∀ ty dc,(Builtin.copy_ #[22,22] ty #[.slice (some ⟨w.heap.size,i*3,none⟩) (n+m-i) dc,.slice (some ⟨vb,0,none⟩) m vc]).run Tryz.prog W=.ok (goInt (Nat.min m (n+m-i))) (W.setRow w.heap.size (laid ROW.toList (i*3) ys).toArray):=fun W hWg hWc ty dc =>
  run_copyR W Tryz.underlying22 hinf hsz hWg (by rw [hyl,hmA]) (fun j v hj=>by rw [hWc _ (by rw [Addr.add_lit]; exact hvw)]; exact hu.cells (g:=vb) rfl j v hj) h1 (by rw [hyl,hRl]; omega)
 generalize hl1:laid ROW.toList (i*3) ys=L1 at hcpA
 have hL1:L1.length=ROW.toList.length:=by rw [←hl1]; exact laid_len hfitA
 have hfitB:(i+m)*3+(xs.drop (i*3)).length≤L1.length:=by rw [hdl,hL1,hRL]; omega
 have hcpB:∀ (W:World),W.heap[w.heap.size]?=some (.cells L1.toArray 65 (0,0))→(∀ x:Addr,x.block < w.heap.size→W.cell? x=w.cell? x)→∀ ty dc sc,(Builtin.copy_ #[22,22] ty #[.slice (some ⟨w.heap.size,(i+m)*3,none⟩) (n+m-(i+m)) dc,.slice (some ⟨b,i*3,none⟩) (n-i) sc]).run Tryz.prog W=.ok (goInt (Nat.min (n-i) (n+m-(i+m)))) (W.setRow w.heap.size (laid L1 ((i+m)*3) (xs.drop (i*3))).toArray):=fun W hWg hWc ty dc sc =>
  run_copyR W Tryz.underlying22 hinf hsz hWg (by rw [hdl,hmB]) (fun j v hj=>by
   rw [hWc _ (by rw [Addr.add_lit]; exact hbw),Addr.add_lit]
   rw [List.getElem?_drop] at hj
   exact hcurx _ _ hj) (fun v hv=>h1x v (List.mem_of_mem_drop hv)) (by simp only [List.size_toArray]; omega)
 generalize hl2:laid L1 ((i+m)*3) (xs.drop (i*3))=L2 at hcpB
 have hL2:L2.length=L1.length:=by rw [←hl2]; exact laid_len hfitB
 have hnewrow:∀ W:World,W.heap=w.heap.push (.cells ROW 65 (0,0))→W.heap[w.heap.size]?=some (.cells ROW 65 (0,0)):=fun W hW=>by rw [hW]; simp
 have hA1:∀ W:World,W.heap=w.heap.push (.cells ROW 65 (0,0))→∀ x:Addr,x.block < w.heap.size→W.cell? x=w.cell? x:=fun W hW x hx=>World.cell?_of_block (w:=w) (by rw [hW,Array.getElem?_push_lt hx]; simp [hx])
 have hB0:∀ W:World,W.heap=w.heap.push (.cells ROW 65 (0,0))→(W.setRow w.heap.size L1.toArray).heap[w.heap.size]?=some (.cells L1.toArray 65 (0,0)):=fun W hW=>setRow_heap W _ ROW _ 65 (0,0) (hnewrow W hW)
 have hB1:∀ W:World,W.heap=w.heap.push (.cells ROW 65 (0,0))→∀ x:Addr,x.block < w.heap.size→(W.setRow w.heap.size L1.toArray).cell? x=w.cell? x:=fun W hW x hx=>(World.cell?_of_block (w:=W) (setRow_other W _ x.block _ (by omega))).trans (hA1 W hW x hx)
 have hfin:∀ W W2:World,W.heap=w.heap.push (.cells ROW 65 (0,0))→W.os=w.os→W.tape=w.tape→W.output=w.output→W2.heap=(W.setRow w.heap.size L1.toArray).heap→W2.os=w.os→W2.tape=w.tape→W2.output=w.output →
   TurnedRange base w (.slice (some ⟨b,0,none⟩) n c) (n+m) (xs.take (i*3)++ys++xs.drop (i*3)) (.slice (some ⟨w.heap.size,0,none⟩) (n+m) G) (W2.setRow w.heap.size L2.toArray):=by
  intro W W2 hW ho ht hou hW2 ho2 ht2 hou2
  have hg2:W2.heap[w.heap.size]?=some (.cells L1.toArray 65 (0,0)):=by rw [hW2]; exact hB0 W hW
  refine ⟨⟨by simp only [List.length_append,List.length_take,List.length_drop]; omega,.inr ⟨w.heap.size,G,_,rfl,hbase,setRow_heap _ _ _ _ 65 (0,0) hg2,hGn,by simp only [maxLen]; omega,by rw [List.size_toArray,hL2,hL1,hRL],?_⟩⟩,
   .inr ⟨rfl,⟨ho2,ht2,hou2,by simp [hW2,hW],fun k hk=>?_⟩⟩⟩
  ·have e2:(L1.take ((n+m)*3)).drop ((i+m)*3+(xs.drop (i*3)).length)=[]:=List.drop_eq_nil_of_le (by rw [List.length_take,hdl]; omega)
   rw [List.toList_toArray,←hl2,take_laid hfitB (by rw [hdl]; omega),e2,←hl1]
   have e1:(laid ROW.toList (i*3) ys).take ((i+m)*3)=xs.take (i*3)++ys:=by
    rw [take_laid hfitA (by rw [hyl]; omega),hRt,hyl,List.drop_eq_nil_of_le (by rw [List.length_take]; omega),List.append_nil]
   rw [e1,List.append_nil]
  ·rw [setRow_other _ _ k _ (by omega),hW2,setRow_other _ _ k _ (by omega),hW,Array.getElem?_push_lt hk]; simp [hk]
 clear hkk hik hold hROW
 have hGi:¬ (G=i):=by omega
 have hGim:¬ (G=i+m):=by omega
 have hci:¬ (c=i):=by omega
 have hw1:IntKind.i64.wrap ((i:Int)+(m:Int))=(i:Int)+(m:Int):=by rw [IntKind.wrap_i64]; omega
 have hb1:(0:Int)≤(i:Int)+(m:Int):=by omega
 have hin:i≤n:=by omega
 have htn:((i:Int)+(m:Int)).toNat=i+m:=by omega
 have hb3:(i:Int)≤(n:Int):=by omega
 have hcpA':=hcpA (w.alloc (.cells ROW 65)).drew (hnewrow _ rfl) (hA1 _ rfl)
 have hcpB':=hcpB ((w.alloc (.cells ROW 65)).drew.setRow w.heap.size L1.toArray).drew (hB0 _ rfl) (hB1 (w.alloc (.cells ROW 65)).drew rfl)
 have hfin':=hfin (w.alloc (.cells ROW 65)).drew ((w.alloc (.cells ROW 65)).drew.setRow w.heap.size L1.toArray).drew rfl rfl rfl rfl rfl rfl rfl rfl
 go_enter Tryz.func96,Tryz.ntmps96
 go_wp2_with (first
  | (at_builtin; refine Lib.wpList_append_run _ rfl _ _ _ _ rfl _ _ rfl rfl _ _ (hrz _) ?_)
  | (at_builtin; refine wpList_copy_r _ rfl _ _ 22 22 rfl _ _ rfl rfl (hcpA' _ _) ?_))
 go_region_law_o (refine step_copy_r rfl _ _ 22 22 rfl _ _ (by simp [Act.eval,Act.put]) (by simp [Act.eval,Act.put]) (hcpB' _ _ _) ?_)
 go_wp2
 go_ret
 exact ⟨_,rfl,hfin'⟩
set_option maxRecDepth 100000
set_option maxHeartbeats 4000000
theorem ins_empRange (w:World) {base m:Nat} {A:Option Addr} {u:Value} {ys:List Value} (hu:w.ownsRow base 65 3 u m ys) (hm:0 < m) (hb:m≤1000000000) (hbase:base≤w.heap.size) (h1:∀ y∈ys,y.oneCell'=true) :
  Calls Tryz.prog 96 #[.slice A 0 0,.int .i64 0,u] w fun e w'=>∃ v',e=.returned v'∧TurnedRange base w (.slice none 0 0) m ys v' w':=by
 have t3:=Tryz.underlying3; have t22:=Tryz.underlying22
 have u3:=run_underlying Tryz.underlying3; have u22:=run_underlying Tryz.underlying22
 have hz1:¬ ((m:Int)=0):=by omega
 obtain ⟨i,hi,hz,hsz,hby⟩:=in_65
 have hs:=World.ownsRow_nil w base 65 3
 obtain ⟨v',w',hrun,hown,_,hc⟩:=run_append3 (P:=Tryz.prog) (ty:=22) w Tryz.underlying22 Tryz.underlying22 (.inr ⟨_,rfl⟩) hi hz hsz (by rfl) hs (src_ownRange hu h1) (by simp only [maxLen]; omega) (by rw [hby]; omega) hbase
 rw [Nat.zero_add,List.nil_append] at hown
 have hrun':=((append_emp (ty:=22) Tryz.underlying22 Tryz.underlying22 (.inr ⟨_,rfl⟩) hi hz hsz (src_ownRange hu h1) (by omega) (by rw [hby]; omega) A).2 (by omega)).trans hrun
 rcases hu.2 with ⟨_,h0⟩ | ⟨vb,vc,vcur,rfl,_⟩
 ·omega
 cases A with
 | none =>
  go_enter Tryz.func96,Tryz.ntmps96
  go_wp2_with (at_builtin; refine Lib.wpList_append_run _ rfl _ _ _ _ rfl _ _ rfl rfl _ _ hrun' ?_)
  all_goals (go_ret; exact ⟨_,rfl,hown,hc⟩)
 | some A =>
  obtain ⟨ab,ao,asp⟩:=A
  go_enter Tryz.func96,Tryz.ntmps96
  go_wp2_with (at_builtin; refine Lib.wpList_append_run _ rfl _ _ _ _ rfl _ _ rfl rfl _ _ hrun' ?_)
  all_goals (go_ret; exact ⟨_,rfl,hown,hc⟩)
theorem ins_worldRange (w:World) {base n m i:Nat} {v u:Value} {xs ys:List Value} (hs:w.ownsRow base 65 3 v n xs) (hu:w.ownsRow base 65 3 u m ys) (hne:∀ b,v.ownBlock=some b→u.ownBlock≠some b) (hi:i≤n) (hm:0 < m) (hb:n+m≤1000000000) (hbase:base≤w.heap.size)
  (h1x:∀ x∈xs,x.oneCell'=true) (h1:∀ y∈ys,y.oneCell'=true) :
  Calls Tryz.prog 96 #[v,.int .i64 i,u] w fun e w'=>∃ v',e=.returned v'∧TurnedRange base w v (n+m) (xs.take (i*3)++ys++xs.drop (i*3)) v' w':=by
 by_cases hin:i=n
 ·subst hin
  have hxl:=hs.1
  rw [List.take_of_length_le (by omega),List.drop_eq_nil_of_le (by omega),List.append_nil]
  exact ins_endRange w hs hu hm hb hbase h1
 ·obtain ⟨b,c,rfl⟩:=(own_form hs).2 (by omega)
  obtain ⟨vb,vc,rfl⟩:=(own_form hu).2 (by omega)
  by_cases hr:n+m≤c
  ·exact ins_shiftRange w hs hu (fun e=>hne b rfl (by rw [e]; rfl)) (by omega) hm hb hr h1x h1
  ·exact ins_growRange w hs hu (by omega) hm hb (by omega) hbase h1x h1
theorem c_x_InsertRange {l l':List Range} {n0 n1:Nat} {i:Int} {r:List Range} (H:x_InsertRange i l l'=some r) :
  ACallS Tryz.prog 96 [.vc 0 n0,.d (cI i),.vc 1 n1] ⟨[],[⟨65,3,n0,some (l.map Range.row)⟩,⟨65,3,n1,some (l'.map Range.row)⟩]⟩
   (QE (.vc 2 r.length) ⟨[],[⟨65,3,([]:List Range).length,none⟩,⟨65,3,n1,some (l'.map Range.row)⟩,⟨65,3,r.length,some (r.map Range.row)⟩]⟩):=by
 obtain ⟨hk,H⟩:=ck_some H
 cases H
 intro g w base vs hinv ha
 obtain ⟨x,y,z,rfl,e1,e2,e3⟩:=args3 rfl ha
 obtain ⟨k0,k1,k2,k3⟩:=hk
 have e2':y=.int .i64 i:=e2.ex_inv
 subst e2'
 obtain ⟨xs,s1,s2,s3⟩:=hinv.own 0 _ _ _ _ rfl
 obtain ⟨ys,u1,u2,u3⟩:=hinv.own 1 _ _ _ _ rfl
 have hn0:n0=l.length:=by have:=s3.len; simpa using this.symm
 have hn1:n1=l'.length:=by have:=u3.len; simpa using this.symm
 have hz:z=g.tk 1:=by
  rcases vc_or hinv rfl e3 with h | ⟨_,h,_⟩
  ·exact h
  ·have:l'=[]:=by simpa using h
   rw [this] at k2; simp at k2
 subst hz
 obtain ⟨j,rfl⟩:∃ j:Nat,i=(j:Int):=⟨i.toNat,by omega⟩
 have hrow:=s3.repl s1.1 u3 u1.1 (i:=j) (j:=j) (Nat.le_refl _) (by omega)
 have hrows:(l.map Range.row).take j++l'.map Range.row++(l.map Range.row).drop j=(l.take j++l'++l.drop j).map Range.row:=by simp [List.map_take,List.map_drop]
 rw [hrows,show j+n1+(n0-j)=n0+n1 from by omega] at hrow
 have hlen:(l.take j++l'++l.drop j).length=n0+n1:=by simp; omega
 have h1x:=s3.one s1.1
 have h1y:=u3.one u1.1
 have fin:∀ v0:Value,(v0.ownBlock=(g.tk 0).ownBlock∨v0.ownBlock=none∧0 < n0+n1)→∀ e w',(∃ v',e=.returned v'∧TurnedRange base w v0 (n0+n1) (xs.take (j*3)++ys++xs.drop (j*3)) v' w') →
   RPost ⟨g,w,⟨[],[⟨65,3,n0,some (l.map Range.row)⟩,⟨65,3,n1,some (l'.map Range.row)⟩]⟩,base⟩ (QE (.vc 2 (l.take (j:Int).toNat++l'++l.drop (j:Int).toNat).length) ⟨[],[⟨65,3,([]:List Range).length,none⟩,⟨65,3,n1,some (l'.map Range.row)⟩,⟨65,3,(l.take (j:Int).toNat++l'++l.drop (j:Int).toNat).length,some ((l.take (j:Int).toNat++l'++l.drop (j:Int).toNat).map Range.row)⟩]⟩) e w':=by
  rintro v0 hv0 e w' ⟨v',rfl,ho,hc⟩
  rw [Int.toNat_natCast,hlen]
  refine renew_post hinv (tk:=0) rfl rfl ho ?_ hrow
  rcases hc with ⟨c1,c2,c3⟩ | hc
  ·rcases hv0 with hv0 | ⟨hv0,hp⟩
   ·rw [hv0] at c1 c3
    exact .inl ⟨c1,c2,c3⟩
   ·rw [hv0] at c1
    obtain ⟨b,c,hv'⟩:=(own_form ho).2 (by omega)
    rw [hv'] at c1
    cases c1
  ·exact .inr hc
 rcases vc_or hinv rfl e1 with hx | ⟨h0,hl0,A,hx⟩
 ·subst hx
  refine (ins_worldRange w s1 u1 (fun b h1 h2=>hinv.tailNe 0 1 _ _ b (by decide) rfl rfl h1 h2) (i:=j) (by omega) (by omega) (by omega) hinv.base h1x h1y).mono ?_
  exact fin _ (.inl rfl)
 ·subst hx
  have hj:j=0:=by omega
  subst hj
  have hxs:xs=[]:=List.eq_nil_of_length_eq_zero (by rw [s1.1,h0,Nat.zero_mul])
  subst hxs
  refine (ins_empRange w (A:=A) u1 (by omega) (by omega) hinv.base h1y).mono fun e w' hh=>fin (.slice none 0 0) (.inr ⟨rfl,by omega⟩) e w' ?_
  rw [h0,Nat.zero_add]
  simpa using hh
set_option maxRecDepth 100000
set_option maxHeartbeats 4000000
theorem del_worldRange (w:World) {base b n c i j:Nat} {xs:List Value} (hs:w.ownsRow base 65 3 (.slice (some ⟨b,0,none⟩) n c) n xs) (h1:∀ y∈xs,y.oneCell'=true) (hi:i < j) (hj:j≤n) (hb:n≤1000000000) :
  Calls Tryz.prog 98 #[.slice (some ⟨b,0,none⟩) n c,.int .i64 i,.int .i64 j] w fun e w'=>∃ v',e=.returned v'∧TurnedRange base w (.slice (some ⟨b,0,none⟩) n c) (i+(n-j)) (xs.take (i*3)++xs.drop (j*3)) v' w':=by
 have t3:=Tryz.underlying3; have t22:=Tryz.underlying22
 have u3:=run_underlying Tryz.underlying3; have u22:=run_underlying Tryz.underlying22
 obtain ⟨hbb,hnc,hcm,cur,hg,hcs,htk⟩:=own_cellsRange hs
 obtain ⟨inf,hinf,hz,hsz,hby⟩:=in_65
 simp only [maxLen] at hcm
 generalize hzv:(Value.agg _)=zv at hz
 have hzc:zv.cells.size=3:=by rw [←hzv]; rfl
 have hz1:∀ v∈(Builtin.zeroCells zv.cells (n-(i+(n-j)))).toList,v.oneCell'=true:=zeroCells_one (by rw [hzc,←hzv]; decide)
 have hxl:=hs.1
 have hcl:cur.toList.length=c*3:=by simpa using hcs
 have hyl:(xs.drop (j*3)).length=(n-j)*3:=by rw [List.length_drop,hxl]; omega
 have hy1:∀ y∈xs.drop (j*3),y.oneCell'=true:=fun y hy=>h1 y (List.mem_of_mem_drop hy)
 have hfit1:i*3+(xs.drop (j*3)).length≤cur.toList.length:=by rw [hyl,hcl]; omega
 have hgd:w.drew.heap[b]?=some (.cells cur 65 (0,0)):=hg
 have hcells:∀ (q:Nat) (y:Value),xs[q]?=some y→w.drew.cell? ((⟨b,0,none⟩:Addr).add q)=some y:=hs.cells (g:=b) rfl
 have hf:(Builtin.firstCells 3 (n-j) (.slice (if c=j then some ⟨b,0,none⟩ else some ⟨b,j*3,none⟩) (n-j) (c-j))).run Tryz.prog w.drew=.ok (xs.drop (j*3)).toArray w.drew:=by
  by_cases hcj:c=j
  ·have hnj:n-j=0:=by omega
   have hx0:xs.drop (j*3)=[]:=List.eq_nil_of_length_eq_zero (by rw [hyl,hnj,Nat.zero_mul])
   rw [if_pos hcj,hnj,hx0]
   exact run_firstCells_some w.drew _ 0 _ 0 (c-j) [] rfl (fun q y hq=>by simp at hq)
  ·rw [if_neg hcj]
   exact run_firstCells_some w.drew _ (n-j) _ (n-j) (c-j) _ hyl fun q y hq=>by
    rw [List.getElem?_drop] at hq
    have:=hcells (j*3+q) y hq
    simp only [Addr.add_lit,Nat.zero_add] at this ⊢
    exact this
 have hrun:∀ ty,(Builtin.append_ #[22,22] ty #[.slice (some ⟨b,0,none⟩) i c,.slice (if c=j then some ⟨b,0,none⟩ else some ⟨b,j*3,none⟩) (n-j) (c-j)]).run Tryz.prog w.drew=.ok (.slice (some ⟨b,0,none⟩) (i+(n-j)) c) (w.drew.setRow b (laid cur.toList (i*3) (xs.drop (j*3))).toArray):=fun ty =>
  run_appendR w.drew Tryz.underlying22 hinf hsz hgd (by omega) hf hy1 (by rw [←Array.length_toList]; exact hfit1)
 generalize hys:xs.drop (j*3)=ys at hrun hfit1 hyl hy1 hf ⊢
 generalize hl1:laid cur.toList (i*3) ys=L1 at hrun
 have hL1:L1.length=cur.toList.length:=by rw [←hl1]; exact laid_len hfit1
 have hg1:(w.drew.setRow b L1.toArray).heap[b]?=some (.cells L1.toArray 65 (0,0)):=setRow_heap w.drew b cur _ 65 (0,0) hgd
 have hT1:L1.take ((i+(n-j))*3)=xs.take (i*3)++ys:=by
  have e1:(cur.toList.take ((i+(n-j))*3)).drop (i*3+ys.length)=[]:=List.drop_eq_nil_of_le (by rw [List.length_take,hyl]; omega)
  rw [←hl1,take_laid hfit1 (by rw [hyl]; omega),e1,List.append_nil,←htk,List.take_take,show min (i*3) (n*3)=i*3 from by omega]
 have hlen:(xs.take (i*3)++ys).length=(i+(n-j))*3:=by simp only [List.length_append,List.length_take]; omega
 have hm:i+(n-j) < n:=by omega
 have hfitz:(i+(n-j))*3+(Builtin.zeroCells zv.cells (n-(i+(n-j)))).toList.length≤L1.length:=by rw [Array.length_toList,size_zeroCells,hzc,hL1,hcl]; omega
 have hclr:∀ ty dc,(Builtin.clear_ #[22] ty #[.slice (some ⟨b,(i+(n-j))*3,none⟩) (n-(i+(n-j))) dc]).run Tryz.prog (w.drew.setRow b L1.toArray)=.ok (.tuple #[]) ((w.drew.setRow b L1.toArray).setRow b (laid L1 ((i+(n-j))*3) (Builtin.zeroCells zv.cells (n-(i+(n-j)))).toList).toArray):=fun ty dc=>by
  have:=run_clearR (P:=Tryz.prog) (ty:=ty) (c:=dc) (w.drew.setRow b L1.toArray) (o:=(i+(n-j))*3) (n:=n-(i+(n-j))) Tryz.underlying22 hinf hz hzc hg1 (by omega) (by rw [List.size_toArray,hL1,hcl]; omega) hz1
  exact this
 generalize hl2:laid L1 ((i+(n-j))*3) (Builtin.zeroCells zv.cells (n-(i+(n-j)))).toList=L2 at hclr
 have hL2:L2.length=L1.length:=by rw [←hl2]; exact laid_len hfitz
 have hT2:L2.take ((i+(n-j))*3)=xs.take (i*3)++ys:=by rw [←hl2,take_laid0 hfitz (Nat.le_refl _),hT1]
 have hfin:TurnedRange base w (.slice (some ⟨b,0,none⟩) n c) (i+(n-j)) (xs.take (i*3)++ys) (.slice (some ⟨b,0,none⟩) (i+(n-j)) c) ((w.drew.setRow b L1.toArray).setRow b L2.toArray) :=
  ⟨⟨hlen,.inr ⟨b,c,_,rfl,hbb,setRow_heap _ b _ _ 65 (0,0) hg1,by omega,by simp only [maxLen]; omega,by rw [List.size_toArray,hL2,hL1,hcl],by rw [List.toList_toArray,hT2]⟩⟩,
   .inl ⟨rfl,by simp,⟨rfl,rfl,rfl,by simp,fun k hk hkb=>by rw [setRow_other _ b k _ (fun e=>hkb (by rw [e]; rfl)),setRow_other _ b k _ (fun e=>hkb (by rw [e]; rfl))]; rfl⟩⟩⟩
 generalize hmg:n-j=m at *
 obtain rfl:j=n-m:=by omega
 have hin:i≤n:=by omega
 have hic:i≤c:=by omega
 have hnmc:n-m≤c:=by omega
 have hnmn:n-m≤n:=by omega
 have mixed:=hMix
 have hij2:i≤n-m:=by omega
 have hb0:(0:Int)≤(i:Int):=by omega
 have hci:¬ (c=i):=by omega
 have hcim:¬ (c=i+m):=by omega
 have hle:i+m≤n:=by omega
 have hne:¬ ((i:Int)=((n-m:Nat):Int)):=by omega
 by_cases hcj:c=n-m
 ·subst hcj
  rw [if_pos rfl] at hf
  simp only [if_pos] at hrun
  go_enter Tryz.func98,Tryz.ntmps98
  go_wp2
  go_region_law_o (refine step_append_r rfl _ _ 22 rfl _ _ (by simp [Act.eval,Act.put]) (by simp [Act.eval,Act.put]) (hrun _) ?_)
  go_wp2_with (at_builtin; refine wpList_clear_r _ rfl _ 22 rfl _ rfl (hclr _ _) ?_)
  all_goals (go_ret; exact ⟨_,rfl,hfin⟩)
 ·rw [if_neg hcj] at hf
  simp only [if_neg hcj] at hrun
  go_enter Tryz.func98,Tryz.ntmps98
  go_wp2
  go_region_law_o (refine step_append_r rfl _ _ 22 rfl _ _ (by simp [Act.eval,Act.put]) (by simp [Act.eval,Act.put]) (hrun _) ?_)
  go_wp2_with (at_builtin; refine wpList_clear_r _ rfl _ 22 rfl _ rfl (hclr _ _) ?_)
  all_goals (go_ret; exact ⟨_,rfl,hfin⟩)
theorem c_x_DeleteRange {l:List Range} {n0:Nat} {i j:Int} {r:List Range} (H:x_DeleteRange i j l=some r) :
  ACallS Tryz.prog 98 [.vc 0 n0,.d (cI i),.d (cI j)] ⟨[],[⟨65,3,n0,some (l.map Range.row)⟩]⟩
   (QE (.vc 1 r.length) ⟨[],[⟨65,3,([]:List Range).length,none⟩,⟨65,3,r.length,some (r.map Range.row)⟩]⟩):=by
 obtain ⟨hk,H⟩:=ck_some H
 cases H
 intro g w base vs hinv ha
 obtain ⟨x,y,z,rfl,e1,e2,e3⟩:=args3 rfl ha
 obtain ⟨k0,k1,k2,k3⟩:=hk
 have e2':y=.int .i64 i:=e2.ex_inv
 have e3':z=.int .i64 j:=e3.ex_inv
 subst e2'; subst e3'
 obtain ⟨xs,s1,s2,s3⟩:=hinv.own 0 _ _ _ _ rfl
 have hn0:n0=l.length:=by have:=s3.len; simpa using this.symm
 have hx:x=g.tk 0:=by
  rcases vc_or hinv rfl e1 with h | ⟨_,h,_⟩
  ·exact h
  ·have:l=[]:=by simpa using h
   rw [this] at k2; simp at k2; omega
 subst hx
 obtain ⟨i',rfl⟩:∃ q:Nat,i=(q:Int):=⟨i.toNat,by omega⟩
 obtain ⟨j',rfl⟩:∃ q:Nat,j=(q:Int):=⟨j.toNat,by omega⟩
 have hrow:=(s3.take (k:=i') (by omega)).app (by rw [List.length_take,s1.1]; have:i'*3≤n0*3:=Nat.mul_le_mul_right _ (by omega); omega) (s3.drop (k:=j') (by omega))
 have hrows:(l.map Range.row).take i'++(l.map Range.row).drop j'=(l.take i'++l.drop j').map Range.row:=by simp [List.map_take,List.map_drop]
 rw [hrows] at hrow
 have hlen:(l.take i'++l.drop j').length=i'+(n0-j'):=by simp; omega
 obtain ⟨b,c,hv⟩:=(own_form s1).2 (by omega)
 have h1x:=s3.one s1.1
 have s1':=s1
 rw [hv] at s1'
 have hw:=del_worldRange w s1' h1x (i:=i') (j:=j') (by omega) (by omega) (by omega)
 rw [←hv] at hw
 refine hw.mono ?_
 rintro e w' ⟨v',rfl,ho,hc⟩
 rw [Int.toNat_natCast,Int.toNat_natCast,hlen]
 exact renew_post hinv (tk:=0) rfl rfl ho hc hrow
set_option maxRecDepth 100000
set_option maxHeartbeats 4000000
theorem c_x_CloneRangeV {l r:List Range} (H:x_CloneRange l=some r):ACallS Tryz.prog 66 [.d (slOf 3 Range.row l)] ⟨[],[]⟩ (QE (.vc 0 r.length) ⟨[],[⟨65,3,r.length,some (r.map Range.row)⟩]⟩):=by
 obtain ⟨hk,H⟩:=ck_some H
 cases H
 obtain ⟨i32,hi32,hz32,hs32,hb32⟩:=in_65
 refine ACallS.keep ?_
 refine ACallS.enter Tryz.func66 rfl Tryz.ntmps66 rfl fun S hS=>?_
 refine .B 8 [] rfl trivial ?_
 refine .slNil Tryz.underlying22 rfl rfl fun b hb=>?_
 refine .A 1 [] rfl trivial ?_
 refine .cond rfl (fun hc=>?_) (fun hc=>?_)
 ·have hl:l=[]:=by simpa using hb hc
  subst hl
  refine .A 4 [] rfl trivial ?_
  refine .tokV (i:=2) (e:=65) (sz:=3) rfl ?_
  refine .R Tryz.func66 Tryz.results66 rfl ?_
  exact ⟨[],[0],rfl,rfl,rfl,rfl,rfl,rfl,rfl,rfl,.rfl' _⟩
 ·refine .B 3 [] rfl trivial ?_
  refine .v (x:=.vc 0 ([]:List Range).length) (v_build0V Range.row Tryz.underlying22 hi32 hs32) rfl ?_
  refine .withSt (st':=⟨[],[⟨65,3,([]:List Range).length,some (([]:List Range).map Range.row)⟩]⟩) rfl ?_
  refine .B 1 [] rfl trivial ?_
  refine .v (x:=.vc 0 (([]:List Range)++l).length) (v_appendV (l:=[]) (l':=l) (row:=Range.row) Tryz.underlying22 hi32 hz32 hs32 rfl (by rw [hb32]; decide) rfl rfl rfl rfl (by simpa using hk)) rfl ?_
  refine .withSt (st':=⟨[],[⟨65,3,(([]:List Range)++l).length,some ((([]:List Range)++l).map Range.row)⟩]⟩) rfl ?_
  refine .A 2 [] rfl trivial ?_
  refine .R Tryz.func66 Tryz.results66 rfl ?_
  exact ⟨[],[0],rfl,rfl,rfl,rfl,rfl,rfl,rfl,rfl,.rfl' _⟩
theorem c_x_CloneRange {l r:List Range} (H:x_CloneRange l=some r):ACall Tryz.prog 66 [slOf 3 Range.row l] (·=slOf 3 Range.row r):=.of (c_x_CloneRangeV H).letgo
set_option maxRecDepth 100000
set_option maxHeartbeats 4000000
theorem c_x_CloneHeadV {l r:List Head} (H:x_CloneHead l=some r):ACallS Tryz.prog 68 [.d (slOf 4 Head.row l)] ⟨[],[]⟩ (QE (.vc 0 r.length) ⟨[],[⟨30,4,r.length,some (r.map Head.row)⟩]⟩):=by
 obtain ⟨hk,H⟩:=ck_some H
 cases H
 obtain ⟨i32,hi32,hz32,hs32,hb32⟩:=in_30
 refine ACallS.keep ?_
 refine ACallS.enter Tryz.func68 rfl Tryz.ntmps68 rfl fun S hS=>?_
 refine .B 8 [] rfl trivial ?_
 refine .slNil Tryz.underlying24 rfl rfl fun b hb=>?_
 refine .A 1 [] rfl trivial ?_
 refine .cond rfl (fun hc=>?_) (fun hc=>?_)
 ·have hl:l=[]:=by simpa using hb hc
  subst hl
  refine .A 4 [] rfl trivial ?_
  refine .tokV (i:=2) (e:=30) (sz:=4) rfl ?_
  refine .R Tryz.func68 Tryz.results68 rfl ?_
  exact ⟨[],[0],rfl,rfl,rfl,rfl,rfl,rfl,rfl,rfl,.rfl' _⟩
 ·refine .B 3 [] rfl trivial ?_
  refine .v (x:=.vc 0 ([]:List Head).length) (v_build0V Head.row Tryz.underlying24 hi32 hs32) rfl ?_
  refine .withSt (st':=⟨[],[⟨30,4,([]:List Head).length,some (([]:List Head).map Head.row)⟩]⟩) rfl ?_
  refine .B 1 [] rfl trivial ?_
  refine .v (x:=.vc 0 (([]:List Head)++l).length) (v_appendV (l:=[]) (l':=l) (row:=Head.row) Tryz.underlying24 hi32 hz32 hs32 rfl (by rw [hb32]; decide) rfl rfl rfl rfl (by simpa using hk)) rfl ?_
  refine .withSt (st':=⟨[],[⟨30,4,(([]:List Head)++l).length,some ((([]:List Head)++l).map Head.row)⟩]⟩) rfl ?_
  refine .A 2 [] rfl trivial ?_
  refine .R Tryz.func68 Tryz.results68 rfl ?_
  exact ⟨[],[0],rfl,rfl,rfl,rfl,rfl,rfl,rfl,rfl,.rfl' _⟩
end Go.Proofs.YtpnegjippkneoaaGreatDoor
namespace Go.Proofs.YtpnegjippkneoaaGreatDoor
open Go.Shelf
def Tryz.laysSort_ren:Go.Shelf.Ren:=⟨fun | 6=>39 | 15=>72 | 14=>71 | 28=>107 | 29=>108 | 20=>99 | 21=>100 | 22=>101 | 23=>102 | 24=>103 | 25=>104 | 26=>105 | 27=>106 | 46=>131 | 47=>132 | 48=>133 | 49=>134 | 50=>135 | 57=>143 | n=>n,fun | 22=>38 | 24=>47 | 25=>77 | 3=>3 | 39=>108 | 0=>0 | 53=>140 | 55=>142 | 4=>4 | 46=>133 | 45=>132 | 50=>137 | 5=>5 | 9=>9 | 66=>165 | 70=>169 | 76=>175 | 77=>118 | n=>n,fun | n=>n⟩
theorem Tryz.laysSort:Go.Proofs.SlLaysF0.n6 Tryz.prog Tryz.laysSort_ren:={
 mixed:=by kernel_rfl
 f6:=⟨Tryz.f39.name,by decide,Tryz.func39.trans (congrArg some (by kernel_rfl))⟩
 f14:=⟨Tryz.f71.name,by decide,Tryz.func71.trans (congrArg some (by kernel_rfl))⟩
 f15:=Tryz.func72.trans (congrArg some (by kernel_rfl))
 f20:=⟨Tryz.f99.name,by decide,Tryz.func99.trans (congrArg some (by kernel_rfl))⟩
 f21:=⟨Tryz.f100.name,by decide,Tryz.func100.trans (congrArg some (by kernel_rfl))⟩
 f22:=⟨Tryz.f101.name,by decide,Tryz.func101.trans (congrArg some (by kernel_rfl))⟩
 f23:=⟨Tryz.f102.name,by decide,Tryz.func102.trans (congrArg some (by kernel_rfl))⟩
 f24:=⟨Tryz.f103.name,by decide,Tryz.func103.trans (congrArg some (by kernel_rfl))⟩
 f25:=⟨Tryz.f104.name,by decide,Tryz.func104.trans (congrArg some (by kernel_rfl))⟩
 f26:=⟨Tryz.f105.name,by decide,Tryz.func105.trans (congrArg some (by kernel_rfl))⟩
 f27:=⟨Tryz.f106.name,by decide,Tryz.func106.trans (congrArg some (by kernel_rfl))⟩
 f28:=Tryz.func107.trans (congrArg some (by kernel_rfl))
 f29:=Tryz.func108.trans (congrArg some (by kernel_rfl))
 f46:=⟨Tryz.f131.name,by decide,Tryz.func131.trans (congrArg some (by kernel_rfl))⟩
 f47:=Tryz.func132.trans (congrArg some (by kernel_rfl))
 f48:=Tryz.func133.trans (congrArg some (by kernel_rfl))
 f49:=⟨Tryz.f134.name,by decide,Tryz.func134.trans (congrArg some (by kernel_rfl))⟩
 f50:=⟨Tryz.f135.name,by decide,Tryz.func135.trans (congrArg some (by kernel_rfl))⟩
 f57:=⟨Tryz.f143.name,by decide,Tryz.func143.trans (congrArg some (by kernel_rfl))⟩
 t0:=Tryz.underlying0
 a0:=Tryz.isAgg0
 z0:=Tryz.sizeOf0
 v0:=Tryz.zeroValue0
 t3:=Tryz.underlying3
 a3:=Tryz.isAgg3
 z3:=Tryz.sizeOf3
 v3:=Tryz.zeroValue3
 t4:=Tryz.underlying4
 a4:=Tryz.isAgg4
 z4:=Tryz.sizeOf4
 v4:=Tryz.zeroValue4
 t5:=Tryz.underlying5
 a5:=Tryz.isAgg5
 z5:=Tryz.sizeOf5
 v5:=Tryz.zeroValue5
 t9:=Tryz.underlying9
 a9:=Tryz.isAgg9
 z9:=Tryz.sizeOf9
 v9:=Tryz.zeroValue9
 t22:=Tryz.underlying38
 a22:=Tryz.isAgg38
 z22:=Tryz.sizeOf38
 v22:=Tryz.zeroValue38
 t25:=Tryz.underlying77
 a25:=Tryz.isAgg77
 z25:=Tryz.sizeOf77
 v25:=Tryz.zeroValue77
 t39:=Tryz.underlying108
 a39:=Tryz.isAgg108
 z39:=Tryz.sizeOf108
 v39:=Tryz.zeroValue108
 t45:=Tryz.underlying132
 a45:=Tryz.isAgg132
 z45:=Tryz.sizeOf132
 v45:=Tryz.zeroValue132
 t46:=Tryz.underlying133
 a46:=Tryz.isAgg133
 z46:=Tryz.sizeOf133
 v46:=Tryz.zeroValue133
 t50:=Tryz.underlying137
 a50:=Tryz.isAgg137
 z50:=Tryz.sizeOf137
 v50:=Tryz.zeroValue137
 t53:=Tryz.underlying140
 a53:=Tryz.isAgg140
 z53:=Tryz.sizeOf140
 v53:=Tryz.zeroValue140
 t55:=Tryz.underlying142
 a55:=Tryz.isAgg142
 z55:=Tryz.sizeOf142
 v55:=Tryz.zeroValue142
 t66:=Tryz.underlying165
 a66:=Tryz.isAgg165
 z66:=Tryz.sizeOf165
 v66:=Tryz.zeroValue165
 t70:=Tryz.underlying169
 a70:=Tryz.isAgg169
 z70:=Tryz.sizeOf169
 v70:=Tryz.zeroValue169
 t76:=Tryz.underlying175
 a76:=Tryz.isAgg175
 z76:=Tryz.sizeOf175
 v76:=Tryz.zeroValue175
 t77:=Tryz.underlying118
 a77:=Tryz.isAgg118
 z77:=Tryz.sizeOf118
 v77:=Tryz.zeroValue118 }
def Tryz.lays156_ren:Go.Shelf.Ren:=⟨fun | 156=>95 | 165=>126 | 166=>127 | 169=>128 | 240=>140 | 241=>141 | 276=>149 | 277=>150 | n=>n,fun | 31=>127 | 9=>9 | 3=>3 | 4=>4 | 0=>0 | 20=>20 | 72=>157 | 76=>161 | 70=>154 | 37=>155 | 75=>160 | 127=>174 | 164=>183 | 5=>5 | 80=>163 | n=>n,fun | n=>n⟩
theorem Tryz.lays156:Go.Proofs.Lays.n156 Tryz.prog Tryz.lays156_ren:={
 mixed:=by kernel_rfl
 f156:=Tryz.func95.trans (congrArg some (by kernel_rfl))
 f165:=Tryz.func126.trans (congrArg some (by kernel_rfl))
 f166:=Tryz.func127.trans (congrArg some (by kernel_rfl))
 f169:=Tryz.func128.trans (congrArg some (by kernel_rfl))
 f240:=Tryz.func140.trans (congrArg some (by kernel_rfl))
 f241:=Tryz.func141.trans (congrArg some (by kernel_rfl))
 f276:=Tryz.func149.trans (congrArg some (by kernel_rfl))
 f277:=Tryz.func150.trans (congrArg some (by kernel_rfl))
 t0:=Tryz.underlying0
 a0:=Tryz.isAgg0
 z0:=Tryz.sizeOf0
 v0:=Tryz.zeroValue0
 t3:=Tryz.underlying3
 a3:=Tryz.isAgg3
 z3:=Tryz.sizeOf3
 v3:=Tryz.zeroValue3
 t4:=Tryz.underlying4
 a4:=Tryz.isAgg4
 z4:=Tryz.sizeOf4
 v4:=Tryz.zeroValue4
 t9:=Tryz.underlying9
 a9:=Tryz.isAgg9
 z9:=Tryz.sizeOf9
 v9:=Tryz.zeroValue9
 t20:=Tryz.underlying20
 a20:=Tryz.isAgg20
 z20:=Tryz.sizeOf20
 v20:=Tryz.zeroValue20
 t31:=Tryz.underlying127
 a31:=Tryz.isAgg127
 z31:=Tryz.sizeOf127
 v31:=Tryz.zeroValue127
 t37:=Tryz.underlying155
 a37:=Tryz.isAgg155
 z37:=Tryz.sizeOf155
 v37:=Tryz.zeroValue155
 t70:=Tryz.underlying154
 a70:=Tryz.isAgg154
 z70:=Tryz.sizeOf154
 v70:=Tryz.zeroValue154
 t72:=Tryz.underlying157
 a72:=Tryz.isAgg157
 z72:=Tryz.sizeOf157
 v72:=Tryz.zeroValue157
 t75:=Tryz.underlying160
 a75:=Tryz.isAgg160
 z75:=Tryz.sizeOf160
 v75:=Tryz.zeroValue160
 t76:=Tryz.underlying161
 a76:=Tryz.isAgg161
 z76:=Tryz.sizeOf161
 v76:=Tryz.zeroValue161
 t127:=Tryz.underlying174
 a127:=Tryz.isAgg174
 z127:=Tryz.sizeOf174
 v127:=Tryz.zeroValue174
 t164:=Tryz.underlying183
 a164:=Tryz.isAgg183
 z164:=Tryz.sizeOf183
 v164:=Tryz.zeroValue183 }
theorem Tryz.Builder_Extra_156:Builder.Extra Tryz.prog Tryz.lays156_ren:={
 sizeBuilder:=by kernel_rfl
 liesBuilder:=by kernel_rfl
 t5:=Tryz.underlying5
 a5:=Tryz.isAgg5
 z5:=Tryz.sizeOf5
 v5:=Tryz.zeroValue5
 infoByte:=by kernel_rfl
 cellsByte:=by kernel_rfl
 sizeByte:=by kernel_rfl
 neB5:=by decide }
open Go.RowKit in
theorem Tryz.strings_Join_none (a:Option Addr) (c:Nat) (sep:ByteArray) (w:World) :
  Calls Tryz.prog 95 #[.slice a 0 c,.string sep] w fun e w'=>e=.returned (.string ⟨#[]⟩)∧w'=w:=Any.strings_Join_none Tryz.lays156 Tryz.Builder_Extra_156 a c sep w
open Go.RowKit in
theorem Tryz.strings_Join (bk o c:Nat) (xs:List ByteArray) (sep:ByteArray) (w:World) (hcells:∀ (j:Nat) x,xs[j]?=some x→w.cell? ⟨bk,o+j,none⟩=some (.string x)) (hbk:bk < w.heap.size) (hN:xs.length≤140737488355328) (hcap:xs.length≤c) (hlen:(Lib.join (xs.map (·.data.toList)) sep.data.toList).length≤140737488355328) :
  Calls Tryz.prog 95 #[.slice (some ⟨bk,o,none⟩) xs.length c,.string sep] w fun e w'=>e=.returned (.string ⟨(Lib.join (xs.map (·.data.toList)) sep.data.toList).toArray⟩)∧Below w.heap.size w w':=Any.strings_Join Tryz.lays156 Tryz.Builder_Extra_156 bk o c xs sep w hcells hbk hN hcap hlen
def Tryz.lays122_ren:Go.Shelf.Ren:=⟨fun | 122=>41 | 215=>73 | n=>n,fun | 3=>3 | 4=>4 | n=>n,fun | n=>n⟩
theorem Tryz.lays122:Go.Proofs.Lays.n122 Tryz.prog Tryz.lays122_ren:={
 mixed:=by kernel_rfl
 f122:=Tryz.func41.trans (congrArg some (by kernel_rfl))
 f215:=Tryz.func73.trans (congrArg some (by kernel_rfl))
 t3:=Tryz.underlying3
 a3:=Tryz.isAgg3
 z3:=Tryz.sizeOf3
 v3:=Tryz.zeroValue3
 t4:=Tryz.underlying4
 a4:=Tryz.isAgg4
 z4:=Tryz.sizeOf4
 v4:=Tryz.zeroValue4 }
open Go.RowKit in
theorem Tryz.cmp_Compare_int (x y:Int) (w:World) :
  Calls Tryz.prog 41 #[.int .i64 x,.int .i64 y] w fun e w'=>e=.returned (.int .i64 (Lib.compareInt x y))∧w'=w:=Any.cmp_Compare_int Tryz.lays122 x y w
def Tryz.laysM171_ren:Go.Shelf.Ren:=⟨fun | 171=>94 | 243=>125 | 246=>139 | 283=>145 | 284=>146 | 285=>147 | 286=>148 | 129=>108 | 317=>152 | 318=>153 | 319=>154 | 320=>155 | 337=>156 | 338=>157 | n=>n,fun | 3=>3 | 9=>9 | 2=>2 | 4=>4 | 171=>179 | 0=>0 | 53=>142 | 37=>155 | 5=>5 | 173=>181 | 212=>189 | 51=>140 | 20=>20 | 213=>190 | 46=>108 | 232=>191 | 233=>192 | n=>n,fun | 17=>0 | 18=>2 | 19=>3 | n=>n⟩
theorem Tryz.laysM171:Go.Proofs.LaysM.n171 Tryz.prog Tryz.laysM171_ren:={
 mixed:=by kernel_rfl
 f129:=Tryz.func108.trans (congrArg some (by kernel_rfl))
 f171:=Tryz.func94.trans (congrArg some (by kernel_rfl))
 f243:=Tryz.func125.trans (congrArg some (by kernel_rfl))
 f246:=Tryz.func139.trans (congrArg some (by kernel_rfl))
 f283:=Tryz.func145.trans (congrArg some (by kernel_rfl))
 f284:=Tryz.func146.trans (congrArg some (by kernel_rfl))
 f285:=Tryz.func147.trans (congrArg some (by kernel_rfl))
 f286:=Tryz.func148.trans (congrArg some (by kernel_rfl))
 f317:=Tryz.func152.trans (congrArg some (by kernel_rfl))
 f318:=Tryz.func153.trans (congrArg some (by kernel_rfl))
 f319:=Tryz.func154.trans (congrArg some (by kernel_rfl))
 f320:=Tryz.func155.trans (congrArg some (by kernel_rfl))
 f337:=Tryz.func156.trans (congrArg some (by kernel_rfl))
 f338:=Tryz.func157.trans (congrArg some (by kernel_rfl))
 t0:=Tryz.underlying0
 a0:=Tryz.isAgg0
 z0:=Tryz.sizeOf0
 v0:=Tryz.zeroValue0
 t2:=Tryz.underlying2
 a2:=Tryz.isAgg2
 z2:=Tryz.sizeOf2
 v2:=Tryz.zeroValue2
 t3:=Tryz.underlying3
 a3:=Tryz.isAgg3
 z3:=Tryz.sizeOf3
 v3:=Tryz.zeroValue3
 t4:=Tryz.underlying4
 a4:=Tryz.isAgg4
 z4:=Tryz.sizeOf4
 v4:=Tryz.zeroValue4
 t5:=Tryz.underlying5
 a5:=Tryz.isAgg5
 z5:=Tryz.sizeOf5
 v5:=Tryz.zeroValue5
 t9:=Tryz.underlying9
 a9:=Tryz.isAgg9
 z9:=Tryz.sizeOf9
 v9:=Tryz.zeroValue9
 t20:=Tryz.underlying20
 a20:=Tryz.isAgg20
 z20:=Tryz.sizeOf20
 v20:=Tryz.zeroValue20
 t37:=Tryz.underlying155
 a37:=Tryz.isAgg155
 z37:=Tryz.sizeOf155
 v37:=Tryz.zeroValue155
 t46:=Tryz.underlying108
 a46:=Tryz.isAgg108
 z46:=Tryz.sizeOf108
 v46:=Tryz.zeroValue108
 t51:=Tryz.underlying140
 a51:=Tryz.isAgg140
 z51:=Tryz.sizeOf140
 v51:=Tryz.zeroValue140
 t53:=Tryz.underlying142
 a53:=Tryz.isAgg142
 z53:=Tryz.sizeOf142
 v53:=Tryz.zeroValue142
 t171:=Tryz.underlying179
 a171:=Tryz.isAgg179
 z171:=Tryz.sizeOf179
 v171:=Tryz.zeroValue179
 t173:=Tryz.underlying181
 a173:=Tryz.isAgg181
 z173:=Tryz.sizeOf181
 v173:=Tryz.zeroValue181
 t212:=Tryz.underlying189
 a212:=Tryz.isAgg189
 z212:=Tryz.sizeOf189
 v212:=Tryz.zeroValue189
 t213:=Tryz.underlying190
 a213:=Tryz.isAgg190
 z213:=Tryz.sizeOf190
 t232:=Tryz.underlying191
 a232:=Tryz.isAgg191
 z232:=Tryz.sizeOf191
 v232:=Tryz.zeroValue191
 t233:=Tryz.underlying192
 a233:=Tryz.isAgg192
 z233:=Tryz.sizeOf192
 v233:=Tryz.zeroValue192
 g17:=by kernel_rfl
 g18:=by kernel_rfl
 g19:=by kernel_rfl
 i0:=by kernel_rfl
 i2:=by kernel_rfl
 i3:=by kernel_rfl
 i4:=by kernel_rfl
 i5:=by kernel_rfl
 i9:=by kernel_rfl
 i20:=by kernel_rfl
 i37:=by kernel_rfl
 i46:=by kernel_rfl
 i51:=by kernel_rfl
 i53:=by kernel_rfl
 i171:=by kernel_rfl
 i173:=by kernel_rfl
 i212:=by kernel_rfl
 i232:=by kernel_rfl
 i233:=by kernel_rfl
 m17:=by kernel_rfl
 m18:=by kernel_rfl
 m19:=by kernel_rfl }
open Go.RowKit Go.Sort Go.Lib in
theorem Tryz.strconv_Itoa (n:Int) (h0:-9223372036854775808≤n) (h1:n≤9223372036854775807) (w:World) (htab:Lib.TabIs Tryz.prog w "internal/strconv.uint64pow10" .u64 Lib.pow10Tab) :
  Calls Tryz.prog 94 #[.int .i64 n] w fun e w'=>e=.returned (.string ⟨(Lib.itoa n).toArray⟩)∧∃ k os,w'=grow (w.drewN k) os:=Any.strconv_Itoa Tryz.laysM171 n h0 h1 w htab
end Go.Proofs.YtpnegjippkneoaaGreatDoor
namespace Go.Abs
open Go.RowKit
theorem DArgs.one {lim:Nat→Nat} {w:World} {d:D} {vs:Array Value} (h:DArgs lim w [d] vs):∃ v,vs=#[v]∧DRep lim w d v:=by
 obtain ⟨h1,h2⟩:=h
 match vs,h1 with
 | ⟨[v]⟩,_=>exact ⟨v,rfl,h2 0 d v rfl rfl⟩
theorem DArgs.two {lim:Nat→Nat} {w:World} {d e:D} {vs:Array Value} (h:DArgs lim w [d,e] vs):∃ v u,vs=#[v,u]∧DRep lim w d v∧DRep lim w e u:=by
 obtain ⟨h1,h2⟩:=h
 match vs,h1 with
 | ⟨[v,u]⟩,_=>exact ⟨v,u,rfl,h2 0 d v rfl rfl,h2 1 e u rfl rfl⟩
theorem below_grow (w:World) (k:Nat) (os:Array Obj):Below w.heap.size w (Go.Sort.grow (w.drewN k) os) :=
 ⟨rfl,rfl,rfl,by simp [Go.Sort.grow],fun b hb=>by
  show ((w.drewN k).heap++os)[b]?=_
  rw [Array.getElem?_append_left (show b < (w.drewN k).heap.size from hb)]
  rfl⟩
theorem ACall.lib {P:Program} {f:FuncId} {args:List D} {u:Value}
  (h:∀ lim w vs,Globs w.heap.size w→DArgs lim w args vs→Calls P f vs w fun e w'=>e=.returned u∧Below w.heap.size w w'):ACall P f args (·=.ex u):=by
 intro lim w vs hg ha
 refine (h lim w vs hg ha).mono ?_
 rintro e w' ⟨rfl,hb⟩
 exact ⟨u,.ex u,lim,rfl,rfl,.ex u,⟨hb.size,fun _ _=>Nat.le_refl _,fun b off hb' _=>hb.cell (p:=⟨b,off,none⟩) hb'⟩,hb,fun _ _=>rfl⟩
theorem strs_cells {lim:Nat→Nat} {w:World} {xs:List (List UInt8)} {v:Value} (h:DRep lim w (.sl 1 (xs.map rS)) v) :
  (∃ A c,v=.slice A 0 c∧xs=[])∨∃ b off c,v=.slice (some ⟨b,off,none⟩) xs.length c∧xs.length≤c∧b < w.heap.size∧∀ (j:Nat) x,xs[j]?=some x→w.cell? ⟨b,off+j,none⟩=some (.string ⟨x.toArray⟩):=by
 generalize hr:xs.map rS=rows at h
 cases h with
 | nil _ A =>
  have:xs=[]:=by simpa using hr
  exact .inl ⟨A,0,rfl,this⟩
 | sl _ _ b off c hc hrow hx hcell =>
  subst hr
  rw [List.length_map] at *
  by_cases h0:xs=[]
  ·subst h0; exact .inl ⟨_,c,rfl,rfl⟩
  ·refine .inr ⟨b,off,c,rfl,hc,?_,fun j x hj=>?_⟩
   ·have hl:0 < xs.length:=List.length_pos_iff.2 h0
    obtain ⟨_,u,hu,_⟩:=hx 0 (by omega)
    exact World.block_lt_of_cell? w _ hu
   ·have hjl:=(List.getElem?_eq_some_iff.1 hj).1
    obtain ⟨_,u,hu,_⟩:=hx j (by omega)
    have:=hcell j 0 (rS x) (.ex (.string ⟨x.toArray⟩)) u (by rw [List.getElem?_map,hj]; rfl) rfl (by rw [Nat.mul_one,Nat.add_zero]; exact hu)
    rw [hu,drep_ex this]
end Go.Abs
set_option maxRecDepth 100000
set_option maxHeartbeats 4000000
namespace Go.Proofs.YtpnegjippkneoaaGreatDoor
open Go.RowKit Go.Abs Go.Lib Go.Sort Go.Shelf
def pickR (l:List Reject) (i:Int):Reject:=match l.find? (fun r=>decide (r.index=i)) with
 | some r=>r
 | none=>⟨0,0,i,0⟩
theorem pickR_index (l:List Reject) (i:Int):(pickR l i).index=i:=by
 unfold pickR
 split
 ·rename_i r h
  simpa using List.find?_some h
 ·rfl
theorem pickR_mem:∀ {l:List Reject},(l.map (·.index)).Nodup→∀ {r:Reject},r∈l→pickR l r.index=r
 | x :: l,hn,r,hr=>by
  rw [List.map_cons,List.nodup_cons] at hn
  unfold pickR
  rcases List.mem_cons.1 hr with rfl | hr
  ·rw [List.find?_cons_of_pos (by simp)]
  ·rw [List.find?_cons_of_neg (by
    simp
    intro he
    exact hn.1 (by rw [he]; exact List.mem_map_of_mem hr))]
   have:=pickR_mem hn.2 hr
   unfold pickR at this
   exact this
def encP (l:List Reject) (i:Int):List Value:=Reject.vals (pickR l i)
theorem encP_len (l:List Reject) (i:Int):(encP l i).length=4:=rfl
theorem encP_one (l:List Reject) (i:Int):∀ v∈encP l i,v.oneCell'=true:=by
 intro v hv
 simp only [encP,Reject.vals,List.mem_cons,List.not_mem_nil,or_false] at hv
 rcases hv with rfl | rfl | rfl | rfl <;> rfl
theorem ltI (x y:Int):ltOf (fun x y:Int=>Lib.compareInt x y) x y=decide (x < y):=by
 unfold ltOf Lib.compareInt
 by_cases h1:x < y
 ·simp [h1]
 ·by_cases h2:y < x <;> simp [h1,h2]
theorem swoI:SWO (ltOf fun x y:Int=>Lib.compareInt x y) where
 irrefl x:=by rw [ltI]; simp
 trans x y z h1 h2:=by rw [ltI] at *; simp at *; omega
 ntrans x y z h1 h2:=by rw [ltI] at *; simp at *; omega
theorem closureS (x y:Reject) (W:World):Calls Tryz.prog 40 #[.agg (Reject.vals x).toArray,.agg (Reject.vals y).toArray] W fun e w'=>e=.returned (.int .i64 (Lib.compareInt x.index y.index))∧∃ q os',w'=grow (W.drewN q) os':=by
 have hcon:=fun W'=>Tryz.cmp_Compare_int x.index y.index W'
 unfold Reject.vals
 generalize Lib.compareInt x.index y.index=r at hcon ⊢
 go_enter Tryz.func40,Tryz.ntmps40
 go_wp2_with (go_at_call 41; refine (hcon _).mono ?_; rintro e w' ⟨rfl,rfl⟩)
 go_ret
 exact ⟨rfl,0,_,by rw [alloc_eq_grow,alloc_eq_grow,grow_grow]; rfl⟩
theorem cmpLaysS (l:List Reject) (blk off size:Nat) (w:World):CmpLays Tryz.prog 40 #[] (encP l) 4 (fun x y=>Lib.compareInt x y) blk off size w:=fun _ _ _ _ x y=>by
 have:=closureS (pickR l x) (pickR l y)
 rw [pickR_index,pickR_index] at this
 exact this _
theorem flat_get (f:Int→List Value) (hf:∀ i,(f i).length=4):∀ (is:List Int) (t:Nat),t < is.length*4→(is.flatMap f)[t]?=some ((f is[t / 4]!)[t % 4]!)
 | [],t,h=>by simp at h
 | a :: is,t,h=>by
  rw [List.flatMap_cons]
  by_cases ht:t < 4
  ·have h4:=hf a
   rw [List.getElem?_append_left (by omega),show t / 4=0 from by omega,show t % 4=t from by omega]
   rw [List.getElem?_eq_getElem (by omega),getElem!_pos (f (a :: is)[0]!) t (by rw [hf]; omega)]
   rfl
  ·rw [List.getElem?_append_right (by rw [hf]; omega),hf,flat_get f hf is (t-4) (by simp only [List.length_cons] at h; omega),show t / 4=(t-4) / 4+1 from by omega,show t % 4=(t-4) % 4 from by omega]
   have hlt:(t-4) / 4 < is.length:=by simp only [List.length_cons] at h; omega
   rw [getElem!_pos is _ hlt,getElem!_pos (a :: is) _ (by simp only [List.length_cons]; omega)]
   rfl
theorem flatK_list (l:List Reject) (is:List Int):(flatK (encP l) 4 is.toArray).toList=is.flatMap (encP l):=by
 have hl:(is.flatMap (encP l)).length=is.length*4:=by
  induction is with
  | nil=>rfl
  | cons a is ih=>rw [List.flatMap_cons,List.length_append,ih,encP_len,List.length_cons]; omega
 apply List.ext_getElem?
 intro t
 by_cases ht:t < is.length*4
 ·rw [flat_get _ (encP_len l) is t ht,Array.getElem?_toList,Array.getElem?_eq_getElem (by simpa using ht)]
  have:=get_flatK (encP l) 4 is.toArray t (by simpa using ht)
  rw [getElem!_pos _ _ (by simpa using ht)] at this
  rw [this]
  have hlt:t / 4 < is.length:=by omega
  rw [getElem!_pos is.toArray _ (by simpa using hlt),getElem!_pos is _ hlt]
  simp
 ·rw [List.getElem?_eq_none (by rw [Array.length_toList,size_flatK]; simpa using ht),List.getElem?_eq_none (by rw [hl]; omega)]
def flatR (l:List Reject):List Value:=l.flatMap Reject.vals
theorem flatR_len:∀ (l:List Reject),(flatR l).length=l.length*4
 | []=>rfl
 | r :: l=>by
  have:=flatR_len l
  unfold flatR at this ⊢
  rw [List.flatMap_cons,List.length_append,this]
  simp only [Reject.vals,List.length_cons,List.length_nil]
  omega
theorem flatR_row:∀ (l:List Reject),(l.map Reject.row).flatten=(flatR l).map D.ex
 | []=>rfl
 | r :: l=>by
  have:=flatR_row l
  unfold flatR at this ⊢
  rw [List.map_cons,List.flatten_cons,this,List.flatMap_cons,List.map_append]
  rfl
theorem flatR_pick {l ls:List Reject} (h:∀ r,r∈ls→pickR l r.index=r):(ls.map (·.index)).flatMap (encP l)=flatR ls:=by
 unfold flatR
 induction ls with
 | nil=>rfl
 | cons r ls ih =>
  rw [List.map_cons,List.flatMap_cons,List.flatMap_cons,ih (fun x hx=>h x (List.mem_cons_of_mem _ hx))]
  unfold encP
  rw [h r (List.mem_cons_self ..)]
theorem rows_flatR {lim:Nat→Nat} {w:World} (l:List Reject):RowsRep lim w 4 l.length (l.map Reject.row) (flatR l):=by
 refine ⟨by simp,fun r hr=>?_,fun i c u hc hu=>?_⟩
 ·obtain ⟨x,_,rfl⟩:=List.mem_map.1 hr
  rfl
 ·rw [flatR_row,List.getElem?_map,hu] at hc
  cases hc
  refine ⟨.ex u,?_⟩
  have hm:=List.mem_of_getElem? hu
  unfold flatR at hm
  obtain ⟨r,_,hv⟩:=List.mem_flatMap.1 hm
  simp only [Reject.vals,List.mem_cons,List.not_mem_nil,or_false] at hv
  rcases hv with rfl | rfl | rfl | rfl <;> rfl
theorem rows_exact {lim:Nat→Nat} {w:World} {l:List Reject} {n:Nat} {xs:List Value} (h:RowsRep lim w 4 n (l.map Reject.row) xs) (hx:xs.length=n*4):xs=flatR l:=by
 have hn:n=l.length:=by have:=h.len; simpa using this.symm
 apply List.ext_getElem?
 intro i
 by_cases hi:i < xs.length
 ·have hf:i < (flatR l).length:=by rw [flatR_len]; omega
  have:=(h.rep i (.ex (flatR l)[i]) xs[i] (by rw [flatR_row,List.getElem?_map,List.getElem?_eq_getElem hf]; rfl) (List.getElem?_eq_getElem hi)).1
  rw [List.getElem?_eq_getElem hi,List.getElem?_eq_getElem hf,drep_ex this]
 ·rw [List.getElem?_eq_none (by omega),List.getElem?_eq_none (by rw [flatR_len]; omega)]
theorem heap_put {w:World} {g n:Nat} {cur:Array Value} {e:TypeId} {fr:Nat×Nat} (d:Array Value) (hb:w.heap[g]?=some (.cells cur e fr)):(putRow id (Sort.ahead w n) g 0 d).heap[g]?=some (.cells (Go.Sort.putCells id 0 d cur) e fr):=by
 simp [putRow,mapBlock,Sort.ahead,Array.getElem?_modify,hb,onCells]
theorem grown_put {w:World} {g n:Nat} (d:Array Value):w.grownBy (putRow id (Sort.ahead w n) g 0 d) (some g):=by
 refine ⟨rfl,rfl,rfl,by simp,fun k hk hne=>?_⟩
 have:g≠k:=fun e=>hne (by rw [e])
 simp [putRow,mapBlock,Sort.ahead,Array.getElem?_modify,this]
theorem take_put (cur:Array Value) (ts:List Value) (h:ts.length≤cur.size):(Go.Sort.putCells id 0 ts.toArray cur).toList.take ts.length=ts:=by
 apply List.ext_getElem?
 intro j
 by_cases hj:j < ts.length
 ·rw [List.getElem?_take_of_lt hj,Array.getElem?_toList]
  simp [Go.Sort.putCells,hj,show j < cur.size by omega]
 ·rw [List.getElem?_take_eq_none (by omega),List.getElem?_eq_none (by omega)]
theorem insR_perm (x:Reject):∀ (l:List Reject),(insR x l).Perm (x :: l)
 | []=>.refl _
 | y :: l=>by
  unfold insR
  split
  ·exact .refl _
  ·exact ((insR_perm x l).cons y).trans (.swap _ _ _)
theorem sortR_perm:∀ (l:List Reject),(sortR l).Perm l
 | []=>.refl _
 | x :: l=>(insR_perm x _).trans ((sortR_perm l).cons x)
theorem insR_srt (x:Reject):∀ {l:List Reject},l.Pairwise (fun a b=>a.index≤b.index)→(insR x l).Pairwise (fun a b=>a.index≤b.index)
 | [],_=>by simp [insR]
 | y :: l,h=>by
  have h2:=List.pairwise_cons.1 h
  unfold insR
  split
  ·rename_i hx
   refine List.pairwise_cons.2 ⟨fun z hz=>?_,h⟩
   rcases List.mem_cons.1 hz with rfl | hz
   ·exact hx
   ·have:=h2.1 z hz; omega
  ·rename_i hx
   refine List.pairwise_cons.2 ⟨fun z hz=>?_,insR_srt x h2.2⟩
   rcases List.mem_cons.1 ((insR_perm x l).mem_iff.1 hz) with rfl | hz
   ·omega
   ·exact h2.1 z hz
theorem sortR_srt:∀ (l:List Reject),(sortR l).Pairwise (fun a b=>a.index≤b.index)
 | []=>.nil
 | x :: l=>insR_srt x (sortR_srt l)
theorem srtI_uniq:∀ {l l':List Int},l.Pairwise (·≤·)→l'.Pairwise (·≤·)→l.Perm l'→l=l'
 | [],l',_,_,p=>p.nil_eq
 | a :: l,[],_,_,p=>absurd p.length_eq (by simp)
 | a :: l,b :: l',h,h',p=>by
  have h1:=List.pairwise_cons.1 h
  have h2:=List.pairwise_cons.1 h'
  have hab:a=b:=by
   have hb:b∈a :: l:=p.mem_iff.2 (List.mem_cons_self ..)
   have ha:a∈b :: l':=p.mem_iff.1 (List.mem_cons_self ..)
   rcases List.mem_cons.1 hb with e | hb
   ·exact e.symm
   ·rcases List.mem_cons.1 ha with e | ha
    ·exact e
    ·have:=h1.1 b hb; have:=h2.1 a ha; omega
  subst hab
  rw [srtI_uniq h1.2 h2.2 ((List.perm_cons a).1 p)]
theorem c_x_SortReject {l:List Reject} {n0:Nat} {r:List Reject} (H:x_SortReject l=some r) :
  ACallS Tryz.prog 39 [.vc 0 n0,.d (.ex (.func (.func 40) #[] #[]))] ⟨[],[⟨47,4,n0,some (l.map Reject.row)⟩]⟩
   (QE (.d (.tup [])) ⟨[],[⟨47,4,n0,some (r.map Reject.row)⟩]⟩):=by
 obtain ⟨hk,H⟩:=ck_some H
 injection H with hr
 intro g w base vs hinv ha
 obtain ⟨x,y,rfl,e1,e2⟩:∃ x y,vs=#[x,y]∧EVRep g w _ (.vc 0 n0) x∧EVRep g w _ (.d (.ex (.func (.func 40) #[] #[]))) y:=by
  obtain ⟨h1,h2⟩:=ha
  obtain ⟨q⟩:=vs
  match q,h1 with
  | [x,y],_=>exact ⟨x,y,rfl,h2 0 _ _ rfl rfl,h2 1 _ _ rfl rfl⟩
 have e2':y=.func (.func 40) #[] #[]:=e2.ex_inv
 subst e2'
 obtain ⟨xs,s1,s2,s3⟩:=hinv.own 0 _ _ _ _ rfl
 have hn0:n0=l.length:=by have:=s3.len; simpa using this.symm
 by_cases hl0:l=[]
 ·subst hl0
  have hr0:r=[]:=by rw [←hr]; rfl
  subst hr0
  have hx:∃ A c,x=.slice A 0 c:=by
   rcases vc_or hinv rfl e1 with h | ⟨_,_,A,h⟩
   ·obtain ⟨A,c,hv⟩:=(own_form s1).1
    exact ⟨A,c,by rw [h,hv,hn0]; rfl⟩
   ·exact ⟨A,0,h⟩
  obtain ⟨A,c,rfl⟩:=hx
  refine (AnyF.slices_SortFunc_none Tryz.laysSort A c (.func (.func 40) #[] #[]) w).mono ?_
  rintro e w' ⟨rfl,rfl⟩
  exact ⟨_,_,_,g,rfl,⟨.rfl' _,rfl⟩,.d _ _ (.tup _ _ rfl (fun i c u hi hu=>by simp at hu)),hinv,Hist.refl _⟩
 ·have hx:x=g.tk 0:=by
   rcases vc_or hinv rfl e1 with h | ⟨_,h,_⟩
   ·exact h
   ·exact absurd (by simpa using h) hl0
  subst hx
  have hlp:0 < l.length:=List.length_pos_iff.2 hl0
  obtain ⟨b,c,hv⟩:=(own_form s1).2 (by omega)
  have hxs:=rows_exact s3 s1.1
  have s1':=s1
  rw [hv] at s1'
  rcases s1'.2 with ⟨h,_⟩ | ⟨b',c',cur,h,hbb,hg,hnc,hcm,hcs,htk⟩
  ·cases h
  cases h
  have hpk:∀ q,q∈l→pickR l q.index=q:=fun q hq=>pickR_mem hk.2 hq
  have hflat:(flatK (encP l) 4 (l.map (·.index)).toArray).toList=flatR l:=by rw [flatK_list,flatR_pick hpk]
  have hd:(l.map (·.index)).toArray.size=n0:=by simp [hn0]
  have hH:HoldsK (encP l) 4 w b 0 (l.map (·.index)).toArray:=by
   intro j hj
   have hj':j < (flatR l).length:=by rw [←hflat,Array.length_toList]; exact hj
   refine ⟨?_,by simp [World.frozen?,hg]⟩
   have h1:xs[j]?=some ((flatK (encP l) 4 (l.map (·.index)).toArray)[j]!):=by
    rw [hxs,←hflat,Array.getElem?_toList,getElem!_pos (flatK (encP l) 4 (l.map (·.index)).toArray) j hj,Array.getElem?_eq_getElem hj]
   have:=s1.cells (g:=b) (by rw [hv]; rfl) j _ h1
   simp only [Addr.add_lit,Nat.zero_add] at this ⊢
   exact this
  have eg:∀ args w,(callFunc 40 args).run Tryz.prog w=.ok (.enter 40 args) w:=enters_of Tryz.func40 (by kernel_rfl) rfl
  have hcon:=AnyQ.slices_SortFunc_total Tryz.laysSort 4 Tryz.isAgg47 Tryz.sizeOf47 (encP l) (encP_len l) (encP_one l) (fun x y:Int=>Lib.compareInt x y) swoI 40 #[] b 0 c (l.map (·.index)).toArray w eg (cmpLaysS l b 0 _ w) hH (Array.getElem?_eq_some_iff.1 hg).1 (by rw [hd]; omega)
   (fun x y h1 h2=>by rw [ltI] at h1 h2; simp at h1 h2; omega)
  change Calls Tryz.prog 39 _ _ _ at hcon
  rw [hd,←hv] at hcon
  refine hcon.mono ?_
  rintro e w' ⟨rfl,n,os,rfl⟩
  have hms:((l.map (·.index)).toArray.toList.mergeSort fun x y=>!(ltOf (fun x y:Int=>Lib.compareInt x y)) y x)=r.map (·.index):=by
   refine srtI_uniq ?_ ?_ ?_
   ·have:=List.pairwise_mergeSort (le:=fun x y:Int=>!(ltOf (fun x y:Int=>Lib.compareInt x y)) y x) (fun a b c h1 h2=>by simp only [ltI,Bool.not_eq_true',decide_eq_false_iff_not] at *; omega) (fun a b=>by simp only [ltI,Bool.or_eq_true,Bool.not_eq_true',decide_eq_false_iff_not]; omega) (l.map (·.index)).toArray.toList
    refine this.imp (fun h=>?_)
    rw [ltI] at h; simpa using h
   ·rw [←hr]
    exact List.pairwise_map.2 (sortR_srt l)
   ·refine (List.mergeSort_perm _ _).trans ?_
    rw [←hr]
    exact ((sortR_perm l).map _).symm
  rw [hms]
  have hrp:r.Perm l:=by rw [←hr]; exact sortR_perm l
  have hrl:r.length=l.length:=hrp.length_eq
  have hfl2:flatK (encP l) 4 (r.map (·.index)).toArray=(flatR r).toArray:=by
   apply Array.toList_inj.1
   rw [flatK_list,flatR_pick (fun q hq=>hpk q (hrp.mem_iff.1 hq))]
  unfold sortWorldK putRowK
  rw [hfl2]
  have hfr:(flatR r).length=n0*4:=by rw [flatR_len,hrl,hn0]
  have hfit:(flatR r).length≤cur.size:=by rw [hfr,hcs]; omega
  have hown':(putRow id (Sort.ahead w n) b 0 (flatR r).toArray).ownsRow base 47 4 (g.tk 0) n0 (flatR r):=by
   rw [hv]
   refine ⟨hfr,.inr ⟨b,c,_,rfl,hbb,heap_put _ hg,hnc,hcm,by simp [Go.Sort.putCells,hcs],?_⟩⟩
   rw [←hfr]
   exact take_put cur _ hfit
  have hrep:RowsRep g.lim w 4 n0 (r.map Reject.row) (flatR r):=by
   have:=rows_flatR (lim:=g.lim) (w:=w) r
   rwa [hrl,←hn0] at this
  obtain ⟨g',t1,t2,t3,t4⟩:=hinv.turn (tk:=0) (x':=⟨47,4,n0,some (r.map Reject.row)⟩) rfl hown' (.inl ⟨rfl,by simp [Sort.ahead],by rw [hv]; exact grown_put _⟩)
   (fun h=>by cases h) (fun _ _ _ _=>⟨rfl,Nat.le_refl _,fun _=>rfl⟩) (fun rows' h=>by cases h; exact hrep)
  obtain ⟨i1,i2⟩:=t3.grow (g':=g') (below_grow (putRow id (Sort.ahead w n) b 0 (flatR r).toArray) 0 os) (fun _ _=>rfl) rfl rfl
  exact ⟨_,_,_,g',rfl,⟨.rfl' _,rfl⟩,.d _ _ (.tup _ _ rfl (fun i c u hi hu=>by simp at hu)),i1,((Hist.refl _).step t4).step i2⟩
end Go.Proofs.YtpnegjippkneoaaGreatDoor
namespace Go.Proofs.YtpnegjippkneoaaGreatDoor
open Go.RowKit Go.Abs
theorem tab_is {w:World} (h:Globs w.heap.size w):Go.Lib.TabIs Tryz.prog w "internal/strconv.uint64pow10" .u64 Go.Lib.pow10Tab:=by
 obtain ⟨_,ty,fr,h2⟩:=h.1 (0,(Go.Lib.pow10Tab.map fun z=>Value.int .u64 z).toArray) (by simp [GL])
 have hn:Tryz.prog.globalNamed "internal/strconv.uint64pow10" = some 0:=by kernel_rfl
 unfold Go.Lib.TabIs World.var?
 rw [hn]
 simp only [Option.bind_some]
 simp only at h2
 rw [h2]
theorem c_x_Itoa {n:Int} {r:List UInt8} (H:x_Itoa n=some r):ACall Tryz.prog 94 [cI n] (·=cS r):=by
 obtain ⟨h,H⟩:=ck_some H; cases H
 refine ACall.lib fun lim w vs hg ha=>?_
 obtain ⟨v,rfl,hv⟩:=ha.one
 rw [drep_ex hv]
 refine (Tryz.strconv_Itoa n h.1 h.2 w (tab_is hg)).mono ?_
 rintro e w' ⟨rfl,k,os,rfl⟩
 exact ⟨rfl,below_grow w k os⟩
theorem c_x_Join {xs:List (List UInt8)} {sep r:List UInt8} (H:x_Join xs sep=some r):ACall Tryz.prog 95 [slOf 1 rS xs,cS sep] (·=cS r):=by
 obtain ⟨h,H⟩:=ck_some H; cases H
 refine ACall.lib fun lim w vs hg ha=>?_
 obtain ⟨v,u,rfl,hv,hu⟩:=ha.two
 rw [drep_ex hu]
 rcases strs_cells hv with ⟨A,c,rfl,rfl⟩ | ⟨b,off,c,rfl,hc,hb,hcell⟩
 ·exact (Tryz.strings_Join_none A c ⟨sep.toArray⟩ w).mono fun e w' ⟨he,hw⟩=>⟨he,hw▸Below.refl _ _⟩
 ·have hm:(xs.map fun x=>(⟨x.toArray⟩:ByteArray)).map (·.data.toList)=xs:=by simp [Function.comp_def]
  have:=Tryz.strings_Join b off c (xs.map fun x=>(⟨x.toArray⟩:ByteArray)) ⟨sep.toArray⟩ w (fun j x hj=>by
   rw [List.getElem?_map] at hj
   obtain ⟨y,hy,rfl⟩:=Option.map_eq_some_iff.1 hj
   exact hcell j y hy) hb (by simp; omega) (by simpa using hc) (by rw [hm]; simp; omega)
  rw [hm,List.length_map] at this
  exact this
end Go.Proofs.YtpnegjippkneoaaGreatDoor
set_option maxRecDepth 100000
set_option maxHeartbeats 1000000
namespace Go.Proofs.YtpnegjippkneoaaGreatDoor
open Go.RowKit Go.Abs Go.Proofs.Tryz
theorem eqvs_IntakeIdentity (a b:IntakeIdentity):eqVs (IntakeIdentity.vals a) (IntakeIdentity.vals b)=(a==b):=by
 cases a; cases b
 rw [Bool.eq_iff_iff]
 simp [IntakeIdentity.vals,eqVs,eqV]
def kf_IntakeIdentity:KeyF prog 90 IntakeIdentity:=stKF IntakeIdentity.vals underlying90 fk_90 (fun _=>rfl) eqvs_IntakeIdentity
theorem c_f_w16_few {v0l:List Record} {r:Bool} (H:f_w16_few v0l=some r):ACall prog 15 [slOf 12 Record.row v0l] (·=cB r):=by
 refine ACall.enter' func15 rfl ntmps15 rfl fun S hS=>?_
 unfold f_w16_few at H
 refine .A 9 [] rfl trivial ?_
 refine .blockJoin2 (ι:=Unit) (fun _=>[(0,.d (slOf 12 Record.row v0l))]) (fun _=>⟨[],[]⟩) (fun s=>f_w16_few_j1 v0l=some r) ?_ ?_
 ·rintro _ H
  replace H:f_w16_few_j1 v0l=some r:=H
  unfold f_w16_few_j1 at H
  refine .A 7 [.i (v0l.length:Int)] rfl (s23.n rfl rfl) ?_
  refine .R func15 results15 rfl ?_
  cases H
  exact .m rfl (.rfl' _)
 ·intro hj1 hj1x
  obtain ⟨n1,H⟩:=loop_some H
  refine .loop (ι:=Nat×(Int)) (fun ⟨_,v3il1⟩=>[(0,.d (slOf 12 Record.row v0l)),(3,.d (cI v3il1))]) (fun ⟨_,v3il1⟩=>⟨[],[]⟩) (fun p=>iter (fun s=>f_w16_few_l1 v0l s) p.1 p.2=some r) (·.1) (n1,0) H (.cons rfl (.rfl' _) (.cons rfl (.rfl' _) (.nil))) rfl ?_
  rintro ⟨m1,v3il1⟩ HI ih1
  obtain ⟨n1,q1,hm1,H,HK1⟩:=iter_succ HI
  clear HI
  replace H:f_w16_few_l1 v0l v3il1=some q1:=H
  unfold f_w16_few_l1 at H
  refine .A 12 [.i (v0l.length:Int)] rfl ⟨rfl,rfl,s23.n rfl rfl⟩ ?_
  refine .ite H rfl (fun H=>?_) (fun H=>?_)
  ·obtain ⟨hk1,H⟩:=ck_some H
   obtain ⟨hk2,H⟩:=ck_some H
   refine .A 22 [.d (.ro (Record.row (nth v0l v3il1.toNat))),.i (((nth v0l v3il1.toNat).a).length:Int),.d (.ro (Record.row (nth v0l v3il1.toNat))),.i (((nth v0l v3il1.toNat).b).length:Int)] rfl ⟨rfl,rfl,fun hg=>OpQ.g (q_lenS underlying9 rfl),rfl,rfl,rfl,fun hg=>s23.ix rfl rfl rfl (hk2 hg),rfl,rfl,OpQ.g (q_lenS underlying9 rfl),s23.ix rfl rfl rfl hk1⟩ ?_
   refine .ite H rfl (fun H=>?_) (fun H=>?_)
   ·refine .A 4 [] rfl trivial ?_
    refine .R func15 results15 rfl ?_
    cases H
    cases HK1
    exact .m rfl (.rfl' _)
   ·obtain ⟨hk3,H⟩:=ck_some H
    refine .A 7 [.i (v3il1+1)] rfl (g_addI rfl rfl hk3) ?_
    cases H
    exact .z (ih1 (n1,(v3il1+1)) HK1 hm1) rfl rfl
  ·refine .A 1 [] rfl trivial ?_
   obtain ⟨q0,H9,hq0⟩:=map_some' H; clear H; cases hq0
   cases HK1
   have H:=H9
   exact .z (hj1x () H) rfl rfl
theorem c_f_w16_small {v0in:Intake} {r:Bool} (H:f_w16_small v0in=some r):ACall prog 9 [.agg (Intake.row v0in)] (·=cB r):=by
 refine ACall.enter' func9 rfl ntmps9 rfl fun S hS=>?_
 unfold f_w16_small at H
 obtain ⟨y1,hy1,H⟩:=bind_some' H
 refine .A 24 [.r 0,.i (v0in.seen.length:Int),.i (v0in.heads.length:Int),.b y1] rfl ⟨rfl,fun hg=>g_call (en 0 rfl) rfl rfl (c_f_w16_few (gcall_some hy1 hg)),rfl,rfl,rfl,rfl,fun hg=>s24.n rfl rfl,rfl,rfl,s22.n rfl rfl⟩ ?_
 refine .R func9 results9 rfl ?_
 cases H
 exact .m rfl (.rfl' _)
theorem c_f_w16_always {r:Window} (H:f_w16_always=some r):ACall prog 25 [] (·=.agg (Window.row r)):=by
 obtain ⟨i36,hi36,hz36,hs36,hb36⟩:=in_36
 refine ACall.enter' func25 rfl ntmps25 rfl fun S hS=>?_
 unfold f_w16_always at H
 refine .A 9 [.r 0,.d (.agg (Window.row (⟨0,12622780800⟩:Window)))] rfl (OpQ.g (q_buildP pl_36 hi36 hz36 rfl rfl)) ?_
 refine .R func25 results25 rfl ?_
 cases H
 exact .m rfl (.rfl' _)
theorem c_f_batch_headOf {v0b:Batch} {r:Head} (H:f_batch_headOf v0b=some r):ACall prog 63 [.agg (Batch.row v0b)] (·=.agg (Head.row r)):=by
 obtain ⟨i30,hi30,hz30,hs30,hb30⟩:=in_30
 refine ACall.enter' func63 rfl ntmps63 rfl fun S hS=>?_
 unfold f_batch_headOf at H
 refine .A 19 [.r 0,.r 1,.i (v0b.records.length:Int),.d (.agg (Head.row (⟨v0b.source,v0b.number,v0b.format,(v0b.records.length:Int)⟩:Head)))] rfl ⟨OpQ.g (q_buildP pl_30 hi30 hz30 rfl rfl),s23.n rfl rfl⟩ ?_
 refine .R func63 results63 rfl ?_
 cases H
 exact .m rfl (.rfl' _)
theorem c_f_batch_within {v0n:Int} {v1lo:Int} {v2hi:Int} {r:Bool} (H:f_batch_within v0n v1lo v2hi=some r):ACall prog 92 [cI v0n,cI v1lo,cI v2hi] (·=cB r):=by
 refine ACall.enter' func92 rfl ntmps92 rfl fun S hS=>?_
 unfold f_batch_within at H
 refine .A 16 [] rfl ⟨rfl,rfl,rfl⟩ ?_
 refine .R func92 results92 rfl ?_
 cases H
 exact .m rfl (.rfl' _)
theorem c_f_batch_checkHead {v0h:Head} {r:Int} (H:f_batch_checkHead v0h=some r):ACall prog 62 [.agg (Head.row v0h)] (·=cI r):=by
 refine ACall.enter' func62 rfl ntmps62 rfl fun S hS=>?_
 unfold f_batch_checkHead at H
 obtain ⟨y1,hy1,H⟩:=bind_some' H
 obtain ⟨y2,hy2,H⟩:=bind_some' H
 refine .A 21 [.r 0,.b y1,.b y2] rfl ⟨rfl,rfl,fun hg=>g_call (en 1 rfl) rfl rfl (c_f_batch_within (gcall_some hy2 hg)),rfl,rfl,g_call (en 1 rfl) rfl rfl (c_f_batch_within (hy1))⟩ ?_
 refine .ite H rfl (fun H=>?_) (fun H=>?_)
 ·refine .A 4 [] rfl trivial ?_
  refine .R func62 results62 rfl ?_
  cases H
  exact .m rfl (.rfl' _)
 ·obtain ⟨y3,hy3,H⟩:=bind_some' H
  refine .A 8 [.b y3] rfl (g_call (en 1 rfl) rfl rfl (c_f_batch_within (hy3))) ?_
  refine .ite H rfl (fun H=>?_) (fun H=>?_)
  ·refine .A 4 [] rfl trivial ?_
   refine .R func62 results62 rfl ?_
   cases H
   exact .m rfl (.rfl' _)
  ·obtain ⟨y4,hy4,H⟩:=bind_some' H
   refine .A 8 [.b y4] rfl (g_call (en 1 rfl) rfl rfl (c_f_batch_within (hy4))) ?_
   refine .ite H rfl (fun H=>?_) (fun H=>?_)
   ·refine .A 4 [] rfl trivial ?_
    refine .R func62 results62 rfl ?_
    cases H
    exact .m rfl (.rfl' _)
   ·refine .A 6 [] rfl trivial ?_
    refine .R func62 results62 rfl ?_
    cases H
    exact .m rfl (.rfl' _)
theorem c_f_textual_within {v0n:Int} {v1lo:Int} {v2hi:Int} {r:Bool} (H:f_textual_within v0n v1lo v2hi=some r):ACall prog 123 [cI v0n,cI v1lo,cI v2hi] (·=cB r):=by
 refine ACall.enter' func123 rfl ntmps123 rfl fun S hS=>?_
 unfold f_textual_within at H
 refine .A 16 [] rfl ⟨rfl,rfl,rfl⟩ ?_
 refine .R func123 results123 rfl ?_
 cases H
 exact .m rfl (.rfl' _)
theorem c_f_digits_digit {v0c:UInt8} {r:Bool} (H:f_digits_digit v0c=some r):ACall prog 138 [cU8 v0c] (·=cB r):=by
 refine ACall.enter' func138 rfl ntmps138 rfl fun S hS=>?_
 unfold f_digits_digit at H
 refine .A 14 [.b (decide (v0c≥48)),.b (decide (v0c≤57))] rfl ⟨rfl,fun hg=>OpQ.g (q8_leq (a:=v0c) (b:=57) rfl rfl),rfl,OpQ.g (q8_geq (a:=v0c) (b:=48) rfl rfl)⟩ ?_
 refine .R func138 results138 rfl ?_
 cases H
 exact .m rfl (.rfl' _)
set_option maxRecDepth 100000
set_option maxHeartbeats 1000000
theorem c_f_digits_Valid {v0s:List UInt8} {r:Bool} (H:f_digits_Valid v0s=some r):ACall prog 124 [cS v0s] (·=cB r):=by
 refine ACall.enter' func124 rfl ntmps124 rfl fun S hS=>?_
 unfold f_digits_Valid at H
 refine .A 11 [.i (v0s.length:Int)] rfl (OpQ.g (q_lenS underlying9 rfl)) ?_
 refine .blockJoin2 (ι:=Unit) (fun _=>[(0,.d (cS v0s))]) (fun _=>⟨[],[]⟩) (fun s=>f_digits_Valid_j1 v0s=some r) ?_ ?_
 ·rintro _ H
  replace H:f_digits_Valid_j1 v0s=some r:=H
  unfold f_digits_Valid_j1 at H
  refine .A 12 [.i (v0s.length:Int),.i (v0s.length:Int)] rfl ⟨rfl,rfl,fun hg=>OpQ.g (q_lenS underlying9 rfl),rfl,OpQ.g (q_lenS underlying9 rfl)⟩ ?_
  refine .R func124 results124 rfl ?_
  cases H
  exact .m rfl (.rfl' _)
 ·intro hj1 hj1x
  obtain ⟨n1,H⟩:=loop_some H
  refine .loop (ι:=Nat×(Int)) (fun ⟨_,v6l1⟩=>[(0,.d (cS v0s)),(5,.d (cI (v0s.length:Int))),(6,.d (cI v6l1))]) (fun ⟨_,v6l1⟩=>⟨[],[]⟩) (fun p=>iter (fun s=>f_digits_Valid_l1 v0s s) p.1 p.2=some r) (·.1) (n1,0) H (.cons rfl (.rfl' _) (.cons rfl (.rfl' _) (.cons rfl (.rfl' _) (.nil)))) rfl ?_
  rintro ⟨m1,v6l1⟩ HI ih1
  obtain ⟨n1,q1,hm1,H,HK1⟩:=iter_succ HI
  clear HI
  replace H:f_digits_Valid_l1 v0s v6l1=some q1:=H
  unfold f_digits_Valid_l1 at H
  refine .A 5 [] rfl trivial ?_
  refine .ite H rfl (fun H=>?_) (fun H=>?_)
  ·obtain ⟨hk1,H⟩:=ck_some H
   obtain ⟨y1,hy1,H⟩:=bind_some' H
   refine .A 16 [.c (nth v0s v6l1.toNat),.b y1] rfl ⟨g_call (en 2 rfl) rfl rfl (c_f_digits_digit (hy1)),OpQ.g (q_indexL (i:=v6l1) underlying9 rfl rfl hk1)⟩ ?_
   refine .ite H rfl (fun H=>?_) (fun H=>?_)
   ·refine .A 4 [] rfl trivial ?_
    refine .R func124 results124 rfl ?_
    cases H
    cases HK1
    exact .m rfl (.rfl' _)
   ·obtain ⟨hk2,H⟩:=ck_some H
    refine .A 6 [.i (v6l1+1)] rfl (g_addI rfl rfl hk2) ?_
    cases H
    exact .z (ih1 (n1,(v6l1+1)) HK1 hm1) rfl rfl
  ·refine .A 1 [] rfl trivial ?_
   obtain ⟨q0,H9,hq0⟩:=map_some' H; clear H; cases hq0
   cases HK1
   have H:=H9
   exact .z (hj1x () H) rfl rfl
theorem c_f_textual_check {v0:Record} {r:Int} (H:f_textual_check v0=some r):ACall prog 93 [.agg (Record.row v0)] (·=cI r):=by
 refine ACall.enter' func93 rfl ntmps93 rfl fun S hS=>?_
 unfold f_textual_check at H
 refine .A 21 [.r 0] rfl ⟨rfl,rfl,rfl⟩ ?_
 refine .seqJoin (ι:=Int) (fun v4j1=>[(1,.ref 0 0),(3,.d (cB ((v0.kind==3) || (v0.kind==4)))),(4,.d (cI v4j1))]) (fun v4j1=>⟨[.row 49 [.d (cI v0.source),.d (cI v0.serial),.d (cI v0.kind),.d (cS v0.a),.d (cS v0.b),.d (cI v0.start),.d (cI v0.units),.d (cI v0.call),.d (cI v0.part),.d (cB v0.last),.d (cI v0.trunk),.d (cB v0.inbound)]],[]⟩) (fun s=>f_textual_check_j1 v0 s=some r) ?_ ?_
 ·rintro v4j1 H
  replace H:f_textual_check_j1 v0 v4j1=some r:=H
  unfold f_textual_check_j1 at H
  obtain ⟨y1,hy1,H⟩:=bind_some' H
  obtain ⟨y2,hy2,H⟩:=bind_some' H
  refine .A 16 [.b y1,.b y2] rfl ⟨rfl,rfl,fun hg=>g_call (en 3 rfl) rfl rfl (c_f_textual_within (gcall_some hy2 hg)),rfl,rfl,g_call (en 3 rfl) rfl rfl (c_f_textual_within (hy1))⟩ ?_
  refine .ite H rfl (fun H=>?_) (fun H=>?_)
  ·refine .A 4 [] rfl trivial ?_
   refine .R func93 results93 rfl ?_
   cases H
   exact .m rfl (.rfl' _)
  ·obtain ⟨y3,hy3,H⟩:=bind_some' H
   refine .A 8 [.b y3] rfl (g_call (en 3 rfl) rfl rfl (c_f_textual_within (hy3))) ?_
   refine .ite H rfl (fun H=>?_) (fun H=>?_)
   ·refine .A 4 [] rfl trivial ?_
    refine .R func93 results93 rfl ?_
    cases H
    exact .m rfl (.rfl' _)
   ·obtain ⟨y4,hy4,H⟩:=bind_some' H
    obtain ⟨y5,hy5,H⟩:=bind_some' H
    refine .B 17 [.b y4,.b y5] rfl ⟨rfl,rfl,rfl,rfl,rfl,fun hg=>g_call (en 4 rfl) rfl rfl (c_f_digits_Valid (gcall_some hy5 hg)),rfl,rfl,g_call (en 4 rfl) rfl rfl (c_f_digits_Valid (hy4))⟩ ?_
    refine .guardG (env':=[(44,_),(47,_)]) rfl rfl rfl ⟨.inr (.inl rfl),⟨.inr (.inr ⟨_,_,rfl,rfl⟩),trivial⟩⟩ rfl (fun hg=>OpQ.g (q_pickAndB rfl rfl rfl)) ?_
    refine .B 1 [] rfl rfl ?_
    refine .guardG (env':=[(42,_),(49,_)]) rfl rfl rfl ⟨.inr (.inl rfl),⟨.inr (.inr ⟨_,_,rfl,rfl⟩),trivial⟩⟩ rfl (fun hg=>OpQ.g (q_pickAndB rfl rfl rfl)) ?_
    refine .A 3 [] rfl rfl ?_
    refine .ite H rfl (fun H=>?_) (fun H=>?_)
    ·refine .A 4 [] rfl trivial ?_
     refine .R func93 results93 rfl ?_
     cases H
     exact .m rfl (.rfl' _)
    ·obtain ⟨y6,hy6,H⟩:=bind_some' H
     refine .A 8 [.b y6] rfl (g_call (en 3 rfl) rfl rfl (c_f_textual_within (hy6))) ?_
     refine .ite H rfl (fun H=>?_) (fun H=>?_)
     ·refine .A 4 [] rfl trivial ?_
      refine .R func93 results93 rfl ?_
      cases H
      exact .m rfl (.rfl' _)
     ·obtain ⟨y7,hy7,H⟩:=bind_some' H
      refine .A 9 [.b y7] rfl (g_call (en 3 rfl) rfl rfl (c_f_textual_within (hy7))) ?_
      refine .ite H rfl (fun H=>?_) (fun H=>?_)
      ·refine .A 4 [] rfl trivial ?_
       refine .R func93 results93 rfl ?_
       cases H
       exact .m rfl (.rfl' _)
      ·obtain ⟨hk1,H⟩:=ck_some H
       refine .A 15 [.i (v0.start+v0.units)] rfl ⟨rfl,rfl,fun hg=>g_addI rfl rfl (hk1 hg),rfl,rfl,rfl,rfl⟩ ?_
       refine .ite H rfl (fun H=>?_) (fun H=>?_)
       ·refine .A 4 [] rfl trivial ?_
        refine .R func93 results93 rfl ?_
        cases H
        exact .m rfl (.rfl' _)
       ·obtain ⟨y8,hy8,H⟩:=bind_some' H
        obtain ⟨y9,hy9,H⟩:=bind_some' H
        refine .A 14 [.b y8,.b y9] rfl ⟨rfl,rfl,fun hg=>g_call (en 3 rfl) rfl rfl (c_f_textual_within (gcall_some hy9 hg)),rfl,rfl,g_call (en 3 rfl) rfl rfl (c_f_textual_within (hy8))⟩ ?_
        refine .ite H rfl (fun H=>?_) (fun H=>?_)
        ·refine .A 4 [] rfl trivial ?_
         refine .R func93 results93 rfl ?_
         cases H
         exact .m rfl (.rfl' _)
        ·refine .B 16 [.b ((v0.part==0) != (v0.call==0))] rfl ⟨rfl,rfl,rfl,rfl,OpQ.g (q_bneq rfl underlying4 rfl)⟩ ?_
         refine .guardG (env':=[(97,_),(100,_)]) rfl rfl rfl ⟨.inr (.inl rfl),⟨.inr (.inr ⟨_,_,rfl,rfl⟩),trivial⟩⟩ rfl (fun hg=>OpQ.g (q_pickAndB rfl rfl rfl)) ?_
         refine .A 3 [] rfl rfl ?_
         refine .ite H rfl (fun H=>?_) (fun H=>?_)
         ·refine .A 4 [] rfl trivial ?_
          refine .R func93 results93 rfl ?_
          cases H
          exact .m rfl (.rfl' _)
         ·obtain ⟨y10,hy10,H⟩:=bind_some' H
          refine .A 8 [.b y10] rfl (g_call (en 3 rfl) rfl rfl (c_f_textual_within (hy10))) ?_
          refine .ite H rfl (fun H=>?_) (fun H=>?_)
          ·refine .A 4 [] rfl trivial ?_
           refine .R func93 results93 rfl ?_
           cases H
           exact .m rfl (.rfl' _)
          ·refine .A 11 [] rfl ⟨rfl,rfl,rfl⟩ ?_
           refine .ite H rfl (fun H=>?_) (fun H=>?_)
           ·refine .A 4 [] rfl trivial ?_
            refine .R func93 results93 rfl ?_
            cases H
            exact .m rfl (.rfl' _)
           ·refine .A 6 [] rfl trivial ?_
            refine .R func93 results93 rfl ?_
            cases H
            exact .m rfl (.rfl' _)
 ·intro hj1
  refine .A 6 [] rfl trivial ?_
  refine .ite H rfl (fun H=>?_) (fun H=>?_)
  ·refine .A 3 [] rfl trivial ?_
   exact .z (hj1 604800 H) rfl rfl
  ·refine .A 1 [] rfl trivial ?_
   exact .z (hj1 1099511627776 H) rfl rfl
theorem c_f_textual_Encode {v0:Record} {r:(List UInt8)×Int} (H:f_textual_Encode v0=some r):ACall prog 64 [.agg (Record.row v0)] (·=.tup [cS r.1,cI r.2]):=by
 obtain ⟨i9,hi9,hz9,hs9,hb9⟩:=in_9
 refine ACall.enter' func64 rfl ntmps64 rfl fun S hS=>?_
 unfold f_textual_Encode at H
 obtain ⟨y1,hy1,H⟩:=bind_some' H
 refine .A 18 [.r 0,.i y1] rfl (g_call (en 5 rfl) rfl rfl (c_f_textual_check (hy1))) ?_
 refine .ite H rfl (fun H=>?_) (fun H=>?_)
 ·refine .A 6 [] rfl trivial ?_
  refine .R func64 results64 rfl ?_
  cases H
  exact .m rfl (.tupD rfl)
 ·refine .A 11 [] rfl trivial ?_
  refine .seqJoin (ι:=List UInt8) (fun v6j1=>[(1,.ref 0 0),(5,.d (.ex (.func (.func 94) #[] #[]))),(6,.d (cS v6j1))]) (fun v6j1=>⟨[.row 49 [.d (cI v0.source),.d (cI v0.serial),.d (cI v0.kind),.d (cS v0.a),.d (cS v0.b),.d (cI v0.start),.d (cI v0.units),.d (cI v0.call),.d (cI v0.part),.d (cB v0.last),.d (cI v0.trunk),.d (cB v0.inbound)]],[]⟩) (fun s=>f_textual_Encode_j1 v0 s=some r) ?_ ?_
  ·rintro v6j1 H
   replace H:f_textual_Encode_j1 v0 v6j1=some r:=H
   unfold f_textual_Encode_j1 at H
   obtain ⟨hk1,H⟩:=ck_some H
   obtain ⟨hk2,H⟩:=ck_some H
   obtain ⟨y2,hy2,H⟩:=bind_some' H
   obtain ⟨y3,hy3,H⟩:=bind_some' H
   obtain ⟨y4,hy4,H⟩:=bind_some' H
   obtain ⟨y5,hy5,H⟩:=bind_some' H
   refine .A 31 [.p 25,.i (v0.kind-1),.s ((([118,116,100,99]:List UInt8).take v0.kind.toNat).drop (v0.kind-1).toNat),.s y2,.s y3,.s y4,.s y5,.n (.tsl 1 (([(([118,116,100,99]:List UInt8).take v0.kind.toNat).drop (v0.kind-1).toNat,y2,y3,v0.a,v6j1,y4,y5]:List (List UInt8)).map rS) 0) ⟨9,1,([(([118,116,100,99]:List UInt8).take v0.kind.toNat).drop (v0.kind-1).toNat,y2,y3,v0.a,v6j1,y4,y5]:List (List UInt8)).length,none⟩] rfl ⟨.e (v_buildSliceT (n:=7) underlying127 hi9 hs9 hz9 rfl rfl rfl rfl rfl) rfl,g_callF (en 6 rfl) rfl rfl rfl (c_x_Itoa (hy5)),g_callF (en 6 rfl) rfl rfl rfl (c_x_Itoa (hy4)),g_callF (en 6 rfl) rfl rfl rfl (c_x_Itoa (hy3)),g_callF (en 6 rfl) rfl rfl rfl (c_x_Itoa (hy2)),OpQ.g (q_strLHL underlying9 rfl rfl rfl hk2),g_subI rfl rfl hk1,(show drawB _ _=true by kernel_rfl)⟩ ?_
   refine .seqJoin (ι:=List (List UInt8)) (fun v7j2=>[(1,.ref 0 0),(5,.d (.ex (.func (.func 94) #[] #[]))),(7,.tsl 1 (v7j2.map rS) 0)]) (fun v7j2=>⟨[.row 49 [.d (cI v0.source),.d (cI v0.serial),.d (cI v0.kind),.d (cS v0.a),.d (cS v0.b),.d (cI v0.start),.d (cI v0.units),.d (cI v0.call),.d (cI v0.part),.d (cB v0.last),.d (cI v0.trunk),.d (cB v0.inbound)]],[⟨9,1,v7j2.length,none⟩]⟩) (fun s=>f_textual_Encode_j2 v0 s=some r) ?_ ?_
   ·rintro v7j2 H
    replace H:f_textual_Encode_j2 v0 v7j2=some r:=H
    unfold f_textual_Encode_j2 at H
    refine .seqJoin (ι:=List (List UInt8)) (fun v7j3=>[(7,.tsl 1 (v7j3.map rS) 0)]) (fun v7j3=>⟨[.row 49 [.d (cI v0.source),.d (cI v0.serial),.d (cI v0.kind),.d (cS v0.a),.d (cS v0.b),.d (cI v0.start),.d (cI v0.units),.d (cI v0.call),.d (cI v0.part),.d (cB v0.last),.d (cI v0.trunk),.d (cB v0.inbound)]],[⟨9,1,v7j3.length,none⟩]⟩) (fun s=>f_textual_Encode_j3 s=some r) ?_ ?_
    ·rintro v7j3 H
     replace H:f_textual_Encode_j3 v7j3=some r:=H
     unfold f_textual_Encode_j3 at H
     obtain ⟨y6,hy6,H⟩:=bind_some' H
     refine .A 7 [.s y6] rfl (g_call (en 7 rfl) rfl rfl (c_x_Join (hy6))) ?_
     refine .R func64 results64 rfl ?_
     cases H
     exact .m rfl (.tupD rfl)
    ·intro hj3
     refine .A 6 [] rfl trivial ?_
     refine .ite H rfl (fun H=>?_) (fun H=>?_)
     ·refine .A 4 [] rfl trivial ?_
      refine .seqJoin (ι:=List UInt8) (fun v8j4=>[(1,.ref 0 0),(5,.d (.ex (.func (.func 94) #[] #[]))),(7,.tsl 1 (v7j2.map rS) 0),(8,.d (cS v8j4))]) (fun v8j4=>⟨[.row 49 [.d (cI v0.source),.d (cI v0.serial),.d (cI v0.kind),.d (cS v0.a),.d (cS v0.b),.d (cI v0.start),.d (cI v0.units),.d (cI v0.call),.d (cI v0.part),.d (cB v0.last),.d (cI v0.trunk),.d (cB v0.inbound)]],[⟨9,1,v7j2.length,none⟩]⟩) (fun s=>f_textual_Encode_j4 v0 v7j2 s=some r) ?_ ?_
      ·rintro v8j4 H
       replace H:f_textual_Encode_j4 v0 v7j2 v8j4=some r:=H
       unfold f_textual_Encode_j4 at H
       obtain ⟨y7,hy7,H⟩:=bind_some' H
       obtain ⟨hk3,H⟩:=ck_some H
       refine .A 11 [.s y7,.d (slOf 1 rS ([v8j4,y7]:List (List UInt8))),.a 0 9 1 rS (v7j2++([v8j4,y7]:List (List UInt8)))] rfl ⟨s127.a rfl rfl rfl rfl hk3,g_buildSliceN (n:=2) (rows:=([v8j4,y7]:List (List UInt8)).map rS) underlying127 hi9 hs9 hz9 rfl rfl rfl rfl rfl,g_callF (en 6 rfl) rfl rfl rfl (c_x_Itoa (hy7))⟩ ?_
       exact .z (hj3 (v7j2++([v8j4,y7]:List (List UInt8))) H) rfl rfl
      ·intro hj4
       refine .A 5 [] rfl trivial ?_
       refine .ite H rfl (fun H=>?_) (fun H=>?_)
       ·refine .A 3 [] rfl trivial ?_
        exact .z (hj4 ([105,110]:List UInt8) H) rfl rfl
       ·refine .A 1 [] rfl trivial ?_
        exact .z (hj4 ([111,117,116]:List UInt8) H) rfl rfl
     ·refine .A 1 [] rfl trivial ?_
      exact .z (hj3 v7j2 H) rfl rfl
   ·intro hj2
    refine .A 6 [] rfl trivial ?_
    refine .ite H rfl (fun H=>?_) (fun H=>?_)
    ·obtain ⟨y8,hy8,H⟩:=bind_some' H
     obtain ⟨y9,hy9,H⟩:=bind_some' H
     obtain ⟨hk4,H⟩:=ck_some H
     refine .A 21 [.p 10,.s y8,.s y9,.d (slOf 1 rS ([([112,97,114,116]:List UInt8),y8,y9]:List (List UInt8))),.a 0 9 1 rS (([(([118,116,100,99]:List UInt8).take v0.kind.toNat).drop (v0.kind-1).toNat,y2,y3,v0.a,v6j1,y4,y5]:List (List UInt8))++([([112,97,114,116]:List UInt8),y8,y9]:List (List UInt8)))] rfl ⟨s127.a rfl rfl rfl rfl hk4,g_buildSliceN (n:=3) (rows:=([([112,97,114,116]:List UInt8),y8,y9]:List (List UInt8)).map rS) underlying127 hi9 hs9 hz9 rfl rfl rfl rfl rfl,g_callF (en 6 rfl) rfl rfl rfl (c_x_Itoa (hy9)),g_callF (en 6 rfl) rfl rfl rfl (c_x_Itoa (hy8)),(show drawB _ _=true by kernel_rfl)⟩ ?_
     refine .ite H rfl (fun H=>?_) (fun H=>?_)
     ·obtain ⟨hk5,H⟩:=ck_some H
      refine .A 6 [.d (slOf 1 rS ([([108,97,115,116]:List UInt8)]:List (List UInt8))),.a 0 9 1 rS ((([(([118,116,100,99]:List UInt8).take v0.kind.toNat).drop (v0.kind-1).toNat,y2,y3,v0.a,v6j1,y4,y5]:List (List UInt8))++([([112,97,114,116]:List UInt8),y8,y9]:List (List UInt8)))++([([108,97,115,116]:List UInt8)]:List (List UInt8)))] rfl ⟨s127.a rfl rfl rfl rfl hk5,g_buildSlice1 underlying127 hi9 hs9 hz9 rfl rfl rfl rfl rfl⟩ ?_
      exact .z (hj2 ((([(([118,116,100,99]:List UInt8).take v0.kind.toNat).drop (v0.kind-1).toNat,y2,y3,v0.a,v6j1,y4,y5]:List (List UInt8))++([([112,97,114,116]:List UInt8),y8,y9]:List (List UInt8)))++([([108,97,115,116]:List UInt8)]:List (List UInt8))) H) rfl rfl
     ·refine .A 1 [] rfl trivial ?_
      exact .z (hj2 (([(([118,116,100,99]:List UInt8).take v0.kind.toNat).drop (v0.kind-1).toNat,y2,y3,v0.a,v6j1,y4,y5]:List (List UInt8))++([([112,97,114,116]:List UInt8),y8,y9]:List (List UInt8))) H) rfl rfl
    ·refine .A 1 [] rfl trivial ?_
     exact .z (hj2 ([(([118,116,100,99]:List UInt8).take v0.kind.toNat).drop (v0.kind-1).toNat,y2,y3,v0.a,v6j1,y4,y5]:List (List UInt8)) H) rfl rfl
  ·intro hj1
   refine .A 5 [] rfl trivial ?_
   refine .ite H rfl (fun H=>?_) (fun H=>?_)
   ·refine .A 3 [] rfl trivial ?_
    exact .z (hj1 ([45]:List UInt8) H) rfl rfl
   ·refine .A 1 [] rfl trivial ?_
    exact .z (hj1 v0.b H) rfl rfl
theorem c_f_batch_Check {v0b:Batch} {r:Int} (H:f_batch_Check v0b=some r):ACall prog 35 [.agg (Batch.row v0b)] (·=cI r):=by
 refine ACall.enter' func35 rfl ntmps35 rfl fun S hS=>?_
 unfold f_batch_Check at H
 obtain ⟨y1,hy1,H⟩:=bind_some' H
 obtain ⟨y2,hy2,H⟩:=bind_some' H
 refine .A 18 [.r 0,.d (.agg (Head.row y1)),.i y2] rfl ⟨g_call (en 8 rfl) rfl rfl (c_f_batch_checkHead (hy2)),g_call (en 9 rfl) rfl rfl (c_f_batch_headOf (hy1))⟩ ?_
 refine .ite H rfl (fun H=>?_) (fun H=>?_)
 ·refine .A 5 [] rfl trivial ?_
  refine .R func35 results35 rfl ?_
  cases H
  exact .m rfl (.rfl' _)
 ·refine .A 10 [.i (v0b.records.length:Int)] rfl (s23.n rfl rfl) ?_
  obtain ⟨n1,H⟩:=loop_some H
  refine .loop (ι:=Nat×(Int)) (fun ⟨_,v17l1⟩=>[(1,.ref 0 0),(15,.d (slOf 12 Record.row v0b.records)),(16,.d (cI (v0b.records.length:Int))),(17,.d (cI v17l1))]) (fun ⟨_,v17l1⟩=>⟨[.row 34 [.d (cI v0b.source),.d (cI v0b.number),.d (cI v0b.format),.d (slOf 12 Record.row v0b.records)]],[]⟩) (fun p=>iter (fun s=>f_batch_Check_l1 v0b s) p.1 p.2=some r) (·.1) (n1,0) H (.cons rfl (.rfl' _) (.cons rfl (.rfl' _) (.cons rfl (.rfl' _) (.cons rfl (.rfl' _) (.nil))))) rfl ?_
  rintro ⟨m1,v17l1⟩ HI ih1
  obtain ⟨n1,q1,hm1,H,HK1⟩:=iter_succ HI
  clear HI
  replace H:f_batch_Check_l1 v0b v17l1=some q1:=H
  unfold f_batch_Check_l1 at H
  refine .A 5 [] rfl trivial ?_
  refine .ite H rfl (fun H=>?_) (fun H=>?_)
  ·obtain ⟨hk1,H⟩:=ck_some H
   obtain ⟨y3,hy3,H⟩:=bind_some' H
   refine .A 26 [.d (.ro (Record.row (nth v0b.records v17l1.toNat))),.r 1,.d (.tup [cS y3.1,cI y3.2])] rfl ⟨g_call (en 10 rfl) rfl rfl (c_f_textual_Encode (hy3)),s23.ix rfl rfl rfl hk1⟩ ?_
   refine .ite H rfl (fun H=>?_) (fun H=>?_)
   ·refine .A 5 [] rfl trivial ?_
    refine .R func35 results35 rfl ?_
    cases H
    cases HK1
    exact .m rfl (.rfl' _)
   ·refine .A 9 [] rfl trivial ?_
    refine .ite H rfl (fun H=>?_) (fun H=>?_)
    ·refine .A 4 [] rfl trivial ?_
     refine .R func35 results35 rfl ?_
     cases H
     cases HK1
     exact .m rfl (.rfl' _)
    ·obtain ⟨hk2,H⟩:=ck_some H
     refine .A 6 [.i (v17l1+1)] rfl (g_addI rfl rfl hk2) ?_
     cases H
     exact .t 1 0 (ih1 (n1,(v17l1+1)) HK1 hm1) rfl rfl rfl rfl rfl hS rfl
  ·refine .A 5 [] rfl trivial ?_
   refine .R func35 results35 rfl ?_
   cases H
   cases HK1
   exact .m rfl (.rfl' _)
theorem c_f_intake_Next {v0in:Intake} {v1source:Int} {r:Int} (H:f_intake_Next v0in v1source=some r):ACall prog 13 [.agg (Intake.row v0in),cI v1source] (·=cI r):=by
 refine ACall.enter' func13 rfl ntmps13 rfl fun S hS=>?_
 unfold f_intake_Next at H
 refine .A 15 [.r 0] rfl ⟨rfl,rfl⟩ ?_
 refine .ite H rfl (fun H=>?_) (fun H=>?_)
 ·refine .A 4 [] rfl trivial ?_
  refine .R func13 results13 rfl ?_
  cases H
  exact .m rfl (.rfl' _)
 ·obtain ⟨hk1,H⟩:=ck_some H
  refine .A 11 [.i (v0in.heads.length:Int),.i ((v0in.heads.length:Int) - 1)] rfl ⟨g_subI rfl rfl hk1,s24.n rfl rfl⟩ ?_
  obtain ⟨n1,H⟩:=loop_some H
  refine .loop (ι:=Nat×(Int)) (fun ⟨_,v5il1⟩=>[(1,.d (cI v1source)),(2,.ref 0 0),(5,.d (cI v5il1))]) (fun ⟨_,v5il1⟩=>⟨[.row 26 [.d (slOf 3 Range.row v0in.seen),.d (slOf 12 Record.row v0in.open_),.d (slOf 4 Head.row v0in.heads)]],[]⟩) (fun p=>iter (fun s=>f_intake_Next_l1 v0in v1source s) p.1 p.2=some r) (·.1) (n1,((v0in.heads.length:Int) - 1)) H (.cons rfl (.rfl' _) (.cons rfl (.rfl' _) (.cons rfl (.rfl' _) (.nil)))) rfl ?_
  rintro ⟨m1,v5il1⟩ HI ih1
  obtain ⟨n1,q1,hm1,H,HK1⟩:=iter_succ HI
  clear HI
  replace H:f_intake_Next_l1 v0in v1source v5il1=some q1:=H
  unfold f_intake_Next_l1 at H
  refine .A 6 [] rfl trivial ?_
  refine .ite H rfl (fun H=>?_) (fun H=>?_)
  ·obtain ⟨hk2,H⟩:=ck_some H
   refine .A 14 [.d (.ro (Head.row (nth v0in.heads v5il1.toNat)))] rfl (s24.ix rfl rfl rfl hk2) ?_
   refine .ite H rfl (fun H=>?_) (fun H=>?_)
   ·obtain ⟨hk3,H⟩:=ck_some H
    obtain ⟨hk4,H⟩:=ck_some H
    refine .A 11 [.d (.ro (Head.row (nth v0in.heads v5il1.toNat))),.i (((nth v0in.heads v5il1.toNat).number)+1)] rfl ⟨g_addI rfl rfl hk4,s24.ix rfl rfl rfl hk3⟩ ?_
    refine .R func13 results13 rfl ?_
    cases H
    cases HK1
    exact .m rfl (.rfl' _)
   ·obtain ⟨hk5,H⟩:=ck_some H
    refine .A 7 [.i (v5il1-1)] rfl (g_subI rfl rfl hk5) ?_
    cases H
    exact .z (ih1 (n1,(v5il1-1)) HK1 hm1) rfl rfl
  ·refine .A 5 [] rfl trivial ?_
   refine .R func13 results13 rfl ?_
   cases H
   cases HK1
   exact .m rfl (.rfl' _)
theorem c_f_validate_Window {v0r:Record} {v1w:Window} {r:Int} (H:f_validate_Window v0r v1w=some r):ACall prog 65 [.agg (Record.row v0r),.agg (Window.row v1w)] (·=cI r):=by
 refine ACall.enter' func65 rfl ntmps65 rfl fun S hS=>?_
 unfold f_validate_Window at H
 refine .A 22 [.r 0,.r 1] rfl ⟨rfl,rfl,rfl,rfl,rfl⟩ ?_
 refine .ite H rfl (fun H=>?_) (fun H=>?_)
 ·refine .A 4 [] rfl trivial ?_
  refine .R func65 results65 rfl ?_
  cases H
  exact .m rfl (.rfl' _)
 ·refine .A 5 [] rfl trivial ?_
  refine .R func65 results65 rfl ?_
  cases H
  exact .m rfl (.rfl' _)
theorem c_f_dedup_identity {v0source:Int} {v1serial:Int} {r:Bool} (H:f_dedup_identity v0source v1serial=some r):ACall prog 52 [cI v0source,cI v1serial] (·=cB r):=by
 refine ACall.enter' func52 rfl ntmps52 rfl fun S hS=>?_
 unfold f_dedup_identity at H
 refine .A 22 [] rfl ⟨rfl,rfl,rfl,rfl,rfl,rfl⟩ ?_
 refine .R func52 results52 rfl ?_
 cases H
 exact .m rfl (.rfl' _)
theorem c_g_dedup_place_1 {v0i:Int} {o0c0p:(List Range)} {o1c0p:Int} {o2c0p:Int} {r:Bool} (H:g_dedup_place_1 v0i o0c0p o1c0p o2c0p=some r):ACallS prog 122 [.d (cI v0i),.ref 0 0,.ref 1 0,.ref 2 0] ⟨[.row 22 [.d (slOf 3 Range.row o0c0p)],.row 3 [.d (cI o1c0p)],.row 3 [.d (cI o2c0p)]],[]⟩ (QE (.d (cB r)) ⟨[.row 22 [.d (slOf 3 Range.row o0c0p)],.row 3 [.d (cI o1c0p)],.row 3 [.d (cI o2c0p)]],[]⟩):=by
 refine ACallS.keep ?_
 refine ACallS.enter func122 rfl ntmps122 rfl fun S hS=>?_
 unfold g_dedup_place_1 at H
 obtain ⟨hk1,H⟩:=ck_some H
 refine .B 29 [.d (.ro (Range.row (nth o0c0p v0i.toNat))),.r 3] rfl ⟨rfl,rfl,rfl,rfl,rfl,rfl,rfl,s22.ix rfl rfl rfl hk1⟩ ?_
 refine .guardG (env':=[(20,_),(24,_)]) rfl rfl rfl ⟨.inr (.inl rfl),⟨.inr (.inr ⟨_,_,rfl,rfl⟩),trivial⟩⟩ rfl (fun hg=>OpQ.g (q_pickAndB rfl rfl rfl)) ?_
 refine .A 3 [] rfl rfl ?_
 refine .R func122 results122 rfl ?_
 cases H
 exact ⟨[0,1,2],[],rfl,rfl,rfl,rfl,rfl,rfl,rfl,rfl,.rfl' _⟩
set_option maxRecDepth 100000
set_option maxHeartbeats 1000000
theorem c_g_sort_Search {v0n:Int} {o0c0p:(List Range)} {o1c0p:Int} {o2c0p:Int} {r:Int} (H:g_sort_Search v0n o0c0p o1c0p o2c0p=some r):ACallS prog 121 [.d (cI v0n),.clo 122 [.ref 0 0,.ref 1 0,.ref 2 0]] ⟨[.row 22 [.d (slOf 3 Range.row o0c0p)],.row 3 [.d (cI o1c0p)],.row 3 [.d (cI o2c0p)]],[]⟩ (QE (.d (cI r)) ⟨[.row 22 [.d (slOf 3 Range.row o0c0p)],.row 3 [.d (cI o1c0p)],.row 3 [.d (cI o2c0p)]],[]⟩):=by
 refine ACallS.keep ?_
 refine ACallS.enter func121 rfl ntmps121 rfl fun S hS=>?_
 unfold g_sort_Search at H
 refine .A 12 [] rfl trivial ?_
 obtain ⟨n1,H⟩:=loop_some H
 refine .loop (ι:=Nat×(Int×Int)) (fun ⟨_,v5il1,v6jl1⟩=>[(1,.clo 122 [.ref 0 0,.ref 1 0,.ref 2 0]),(5,.d (cI v5il1)),(6,.d (cI v6jl1))]) (fun ⟨_,v5il1,v6jl1⟩=>⟨[.row 22 [.d (slOf 3 Range.row o0c0p)],.row 3 [.d (cI o1c0p)],.row 3 [.d (cI o2c0p)]],[]⟩) (fun p=>iter (fun s=>g_sort_Search_l1 o0c0p o1c0p o2c0p s.1 s.2) p.1 p.2=some r) (·.1) (n1,(0,v0n)) H (.cons rfl (.rfl' _) (.cons rfl (.rfl' _) (.cons rfl (.rfl' _) (.nil)))) rfl ?_
 rintro ⟨m1,v5il1,v6jl1⟩ HI ih1
 obtain ⟨n1,q1,hm1,H,HK1⟩:=iter_succ HI
 clear HI
 replace H:g_sort_Search_l1 o0c0p o1c0p o2c0p v5il1 v6jl1=some q1:=H
 unfold g_sort_Search_l1 at H
 refine .A 7 [] rfl trivial ?_
 refine .ite H rfl (fun H=>?_) (fun H=>?_)
 ·obtain ⟨hk1,H⟩:=ck_some H
  obtain ⟨hk2,H⟩:=ck_some H
  obtain ⟨y1,hy1,H⟩:=bind_some' H
  refine .B 16 [.i (v5il1+v6jl1),.d (cK .u64 (IntKind.wrap .u64 (v5il1+v6jl1))),.d (cK .u64 (Int.fdiv (IntKind.wrap .u64 (v5il1+v6jl1)) (2 ^ (min (Int.toNat (1)) 64)))),.i (IntKind.wrap .i64 (Int.fdiv (IntKind.wrap .u64 (v5il1+v6jl1)) (2 ^ (min (Int.toNat (1)) 64))))] rfl ⟨OpQ.g (q_conv underlying108 underlying3 rfl rfl),OpQ.g (q_shr (a:=IntKind.wrap .u64 (v5il1+v6jl1)) (b:=1) rfl rfl hk2 rfl),OpQ.g (q_conv underlying3 underlying108 rfl rfl),g_addI rfl rfl hk1⟩ ?_
  refine .callFC (en 15 rfl) rfl rfl [0,1,2] [] (x:=.d (cB y1)) (st':=⟨[.row 22 [.d (slOf 3 Range.row o0c0p)],.row 3 [.d (cI o1c0p)],.row 3 [.d (cI o2c0p)]],[]⟩) rfl (c_g_dedup_place_1 (hy1)) ⟨.rfl' _,.rfl' _,.rfl' _,.rfl' _,trivial⟩ rfl rfl rfl rfl rfl rfl ?_
  refine .A 2 [] rfl trivial ?_
  refine .ite H rfl (fun H=>?_) (fun H=>?_)
  ·obtain ⟨hk3,H⟩:=ck_some H
   refine .A 6 [.i ((IntKind.wrap .i64 (Int.fdiv (IntKind.wrap .u64 (v5il1+v6jl1)) (2 ^ (min (Int.toNat (1)) 64))))+1)] rfl (g_addI rfl rfl hk3) ?_
   cases H
   exact .z (ih1 (n1,((IntKind.wrap .i64 (Int.fdiv (IntKind.wrap .u64 (v5il1+v6jl1)) (2 ^ (min (Int.toNat (1)) 64))))+1,v6jl1)) HK1 hm1) rfl rfl
  ·refine .A 5 [] rfl trivial ?_
   cases H
   exact .z (ih1 (n1,(v5il1,IntKind.wrap .i64 (Int.fdiv (IntKind.wrap .u64 (v5il1+v6jl1)) (2 ^ (min (Int.toNat (1)) 64))))) HK1 hm1) rfl rfl
 ·refine .A 6 [] rfl trivial ?_
  refine .R func121 results121 rfl ?_
  cases H
  cases HK1
  exact ⟨[0,1,2],[],rfl,rfl,rfl,rfl,rfl,rfl,rfl,rfl,.rfl' _⟩
theorem c_f_dedup_place {v0seen:List Range} {v1source:Int} {v2serial:Int} {r:Int} (H:f_dedup_place v0seen v1source v2serial=some r):ACall prog 90 [slOf 3 Range.row v0seen,cI v1source,cI v2serial] (·=cI r):=by
 refine ACall.enter' func90 rfl ntmps90 rfl fun S hS=>?_
 unfold f_dedup_place at H
 obtain ⟨y1,hy1,H⟩:=bind_some' H
 refine .B 12 [.r 0,.r 1,.r 2,.i (v0seen.length:Int),.g (.clo 122 [.ref 0 0,.ref 1 0,.ref 2 0])] rfl ⟨OpQ.g (q_makeFunc rfl),s22.n rfl rfl⟩ ?_
 refine .callF (en 16 rfl) rfl [0,1,2] [] (x:=.d (cI y1)) (st':=⟨[.row 22 [.d (slOf 3 Range.row v0seen)],.row 3 [.d (cI v1source)],.row 3 [.d (cI v2serial)]],[]⟩) rfl (c_g_sort_Search (hy1)) ⟨.rfl' _,.rfl' _,trivial⟩ rfl rfl rfl rfl rfl rfl ?_
 refine .A 2 [] rfl trivial ?_
 refine .R func90 results90 rfl ?_
 cases H
 exact .m rfl (.rfl' _)
theorem c_f_dedup_Has {v0seen:List Range} {v1source:Int} {v2serial:Int} {r:Bool} (H:f_dedup_Has v0seen v1source v2serial=some r):ACall prog 54 [slOf 3 Range.row v0seen,cI v1source,cI v2serial] (·=cB r):=by
 refine ACall.enter' func54 rfl ntmps54 rfl fun S hS=>?_
 unfold f_dedup_Has at H
 obtain ⟨y1,hy1,H⟩:=bind_some' H
 obtain ⟨y2,hy2,H⟩:=bind_some' H
 obtain ⟨hk1,H⟩:=ck_some H
 obtain ⟨hk2,H⟩:=ck_some H
 refine .A 43 [.i y1,.b y2,.i (v0seen.length:Int),.d (.ro (Range.row (nth v0seen y1.toNat))),.d (.ro (Range.row (nth v0seen y1.toNat)))] rfl ⟨rfl,rfl,rfl,rfl,rfl,fun hg=>s22.ix rfl rfl rfl (hk2 hg),rfl,rfl,rfl,rfl,rfl,rfl,rfl,fun hg=>s22.ix rfl rfl rfl (hk1 hg),rfl,rfl,rfl,rfl,rfl,fun hg=>s22.n rfl rfl,rfl,g_call (en 17 rfl) rfl rfl (c_f_dedup_identity (hy2)),g_call (en 18 rfl) rfl rfl (c_f_dedup_place (hy1))⟩ ?_
 refine .R func54 results54 rfl ?_
 cases H
 exact .m rfl (.rfl' _)
theorem c_f_dedup_touch {v0a:Range} {v1b:Range} {r:Bool} (H:f_dedup_touch v0a v1b=some r):ACall prog 97 [.agg (Range.row v0a),.agg (Range.row v1b)] (·=cB r):=by
 refine ACall.enter' func97 rfl ntmps97 rfl fun S hS=>?_
 unfold f_dedup_touch at H
 obtain ⟨hk1,H⟩:=ck_some H
 refine .A 23 [.r 0,.r 1,.i (v0a.to_+1)] rfl ⟨rfl,rfl,rfl,rfl,fun hg=>g_addI rfl rfl (hk1 hg),rfl,rfl⟩ ?_
 refine .R func97 results97 rfl ?_
 cases H
 exact .m rfl (.rfl' _)
theorem c_g_dedup_Filter_1 {v0i:Int} {v1e:Int} {o1c0p:(List Record)} {y0t0p:List Reject} {r:(List Reject)} (H:g_dedup_Filter_1 v0i v1e o1c0p y0t0p=some r):ACallS prog 69 [.d (cI v0i),.d (cI v1e),.ref 0 0,.ref 1 0] ⟨[.row 38 [.tsl 4 (y0t0p.map Reject.row) 0],.row 23 [.d (slOf 12 Record.row o1c0p)]],[⟨47,4,y0t0p.length,none⟩]⟩ (QE (.d (.tup [])) ⟨[.row 38 [.tsl 4 (r.map Reject.row) 0],.row 23 [.d (slOf 12 Record.row o1c0p)]],[⟨47,4,r.length,none⟩]⟩):=by
 obtain ⟨i47,hi47,hz47,hs47,hb47⟩:=in_47
 refine ACallS.keep ?_
 refine ACallS.enter func69 rfl ntmps69 rfl fun S hS=>?_
 unfold g_dedup_Filter_1 at H
 obtain ⟨hk1,H⟩:=ck_some H
 obtain ⟨hk2,H⟩:=ck_some H
 obtain ⟨hk3,H⟩:=ck_some H
 refine .A 20 [.p 15,.d (.ro (Record.row (nth o1c0p v0i.toNat))),.d (.ro (Record.row (nth o1c0p v0i.toNat))),.d (.agg (Reject.row (⟨(nth o1c0p v0i.toNat).source,(nth o1c0p v0i.toNat).serial,v0i,v1e⟩:Reject))),.d (slOf 4 Reject.row ([(⟨(nth o1c0p v0i.toNat).source,(nth o1c0p v0i.toNat).serial,v0i,v1e⟩:Reject)]:List Reject)),.a 0 47 4 Reject.row (y0t0p++([(⟨(nth o1c0p v0i.toNat).source,(nth o1c0p v0i.toNat).serial,v0i,v1e⟩:Reject)]:List Reject))] rfl ⟨s38.a rfl rfl rfl rfl hk3,g_buildSlice1 underlying38 hi47 hs47 hz47 rfl rfl rfl rfl rfl,OpQ.g (q_buildP pl_47 hi47 hz47 rfl rfl),s23.ix rfl rfl rfl hk2,s23.ix rfl rfl rfl hk1,(show drawB _ _=true by kernel_rfl)⟩ ?_
 refine .fin0 func69 results69 ?_
 cases H
 exact ⟨[0,1],[0],rfl,rfl,rfl,rfl,rfl,rfl,rfl,rfl,EVle.tupL (ds:=[]) trivial⟩
theorem c_g_dedup_place_1_v1 {v0i:Int} {o1c0p:Int} {o2c0p:Int} {y0t0p:List Range} {n0p:Nat} {r:Bool} (H:g_dedup_place_1_v1 v0i o1c0p o2c0p y0t0p=some r):ACallS prog 122 [.d (cI v0i),.ref 0 0,.ref 1 0,.ref 2 0] ⟨[.row 22 [.vc 0 n0p],.row 3 [.d (cI o1c0p)],.row 3 [.d (cI o2c0p)]],[⟨65,3,n0p,some (y0t0p.map Range.row)⟩]⟩ (QE (.d (cB r)) ⟨[.row 22 [.vc 0 n0p],.row 3 [.d (cI o1c0p)],.row 3 [.d (cI o2c0p)]],[⟨65,3,n0p,some (y0t0p.map Range.row)⟩]⟩):=by
 obtain ⟨i65,hi65,hz65,hs65,hb65⟩:=in_65
 refine ACallS.keep ?_
 refine ACallS.enter func122 rfl ntmps122 rfl fun S hS=>?_
 unfold g_dedup_place_1_v1 at H
 obtain ⟨hk1,H⟩:=ck_some H
 obtain ⟨hk2,H⟩:=ck_some H
 refine .B 29 [.g (.vp 0 n0p v0i.toNat 0),.f 20 (.d (.agg (Range.row (nth y0t0p v0i.toNat)))),.r 3] rfl ⟨rfl,rfl,rfl,rfl,rfl,rfl,rfl,OpQ.g (q_loadVpA (l:=y0t0p) (row:=Range.row) (cs:=(Range.row (nth y0t0p v0i.toNat))) one_65 sz_65 rfl rfl hk2 (Nat.le_of_ble_eq_true rfl) rfl),OpQ.g (q_idxV (l:=y0t0p) (row:=Range.row) (i:=v0i) underlying22 hi65 hs65 rfl rfl rfl hk1)⟩ ?_
 refine .guardG (env':=[(20,_),(24,_)]) rfl rfl rfl ⟨.inr (.inl rfl),⟨.inr (.inr ⟨_,_,rfl,rfl⟩),trivial⟩⟩ rfl (fun hg=>OpQ.g (q_pickAndB rfl rfl rfl)) ?_
 refine .A 3 [] rfl rfl ?_
 refine .R func122 results122 rfl ?_
 cases H
 exact ⟨[0,1,2],[0],rfl,rfl,rfl,rfl,rfl,rfl,rfl,rfl,.rfl' _⟩
theorem c_g_sort_Search_v1 {v0n:Int} {o1c0p:Int} {o2c0p:Int} {y0t0p:List Range} {n0p:Nat} {r:Int} (H:g_sort_Search_v1 v0n o1c0p o2c0p y0t0p=some r):ACallS prog 121 [.d (cI v0n),.clo 122 [.ref 0 0,.ref 1 0,.ref 2 0]] ⟨[.row 22 [.vc 0 n0p],.row 3 [.d (cI o1c0p)],.row 3 [.d (cI o2c0p)]],[⟨65,3,n0p,some (y0t0p.map Range.row)⟩]⟩ (QE (.d (cI r)) ⟨[.row 22 [.vc 0 n0p],.row 3 [.d (cI o1c0p)],.row 3 [.d (cI o2c0p)]],[⟨65,3,n0p,some (y0t0p.map Range.row)⟩]⟩):=by
 refine ACallS.keep ?_
 refine ACallS.enter func121 rfl ntmps121 rfl fun S hS=>?_
 unfold g_sort_Search_v1 at H
 refine .A 12 [] rfl trivial ?_
 obtain ⟨n1,H⟩:=loop_some H
 refine .loop (ι:=Nat×(Int×Int)) (fun ⟨_,v5il1,v6jl1⟩=>[(1,.clo 122 [.ref 0 0,.ref 1 0,.ref 2 0]),(5,.d (cI v5il1)),(6,.d (cI v6jl1))]) (fun ⟨_,v5il1,v6jl1⟩=>⟨[.row 22 [.vc 0 n0p],.row 3 [.d (cI o1c0p)],.row 3 [.d (cI o2c0p)]],[⟨65,3,n0p,some (y0t0p.map Range.row)⟩]⟩) (fun p=>iter (fun s=>g_sort_Search_v1_l1 o1c0p o2c0p y0t0p s.1 s.2) p.1 p.2=some r) (·.1) (n1,(0,v0n)) H (.cons rfl (.rfl' _) (.cons rfl (.rfl' _) (.cons rfl (.rfl' _) (.nil)))) rfl ?_
 rintro ⟨m1,v5il1,v6jl1⟩ HI ih1
 obtain ⟨n1,q1,hm1,H,HK1⟩:=iter_succ HI
 clear HI
 replace H:g_sort_Search_v1_l1 o1c0p o2c0p y0t0p v5il1 v6jl1=some q1:=H
 unfold g_sort_Search_v1_l1 at H
 refine .A 7 [] rfl trivial ?_
 refine .ite H rfl (fun H=>?_) (fun H=>?_)
 ·obtain ⟨hk1,H⟩:=ck_some H
  obtain ⟨hk2,H⟩:=ck_some H
  obtain ⟨y1,hy1,H⟩:=bind_some' H
  refine .B 16 [.i (v5il1+v6jl1),.d (cK .u64 (IntKind.wrap .u64 (v5il1+v6jl1))),.d (cK .u64 (Int.fdiv (IntKind.wrap .u64 (v5il1+v6jl1)) (2 ^ (min (Int.toNat (1)) 64)))),.i (IntKind.wrap .i64 (Int.fdiv (IntKind.wrap .u64 (v5il1+v6jl1)) (2 ^ (min (Int.toNat (1)) 64))))] rfl ⟨OpQ.g (q_conv underlying108 underlying3 rfl rfl),OpQ.g (q_shr (a:=IntKind.wrap .u64 (v5il1+v6jl1)) (b:=1) rfl rfl hk2 rfl),OpQ.g (q_conv underlying3 underlying108 rfl rfl),g_addI rfl rfl hk1⟩ ?_
  refine .callFC (en 15 rfl) rfl rfl [0,1,2] [0] (x:=.d (cB y1)) (st':=⟨[.row 22 [.vc 0 n0p],.row 3 [.d (cI o1c0p)],.row 3 [.d (cI o2c0p)]],[⟨65,3,n0p,some (y0t0p.map Range.row)⟩]⟩) rfl (c_g_dedup_place_1_v1 (hy1)) ⟨.rfl' _,.rfl' _,.rfl' _,.rfl' _,trivial⟩ rfl rfl rfl rfl rfl rfl ?_
  refine .A 2 [] rfl trivial ?_
  refine .ite H rfl (fun H=>?_) (fun H=>?_)
  ·obtain ⟨hk3,H⟩:=ck_some H
   refine .A 6 [.i ((IntKind.wrap .i64 (Int.fdiv (IntKind.wrap .u64 (v5il1+v6jl1)) (2 ^ (min (Int.toNat (1)) 64))))+1)] rfl (g_addI rfl rfl hk3) ?_
   cases H
   exact .z (ih1 (n1,((IntKind.wrap .i64 (Int.fdiv (IntKind.wrap .u64 (v5il1+v6jl1)) (2 ^ (min (Int.toNat (1)) 64))))+1,v6jl1)) HK1 hm1) rfl rfl
  ·refine .A 5 [] rfl trivial ?_
   cases H
   exact .z (ih1 (n1,(v5il1,IntKind.wrap .i64 (Int.fdiv (IntKind.wrap .u64 (v5il1+v6jl1)) (2 ^ (min (Int.toNat (1)) 64))))) HK1 hm1) rfl rfl
 ·refine .A 6 [] rfl trivial ?_
  refine .R func121 results121 rfl ?_
  cases H
  cases HK1
  exact ⟨[0,1,2],[0],rfl,rfl,rfl,rfl,rfl,rfl,rfl,rfl,.rfl' _⟩
theorem c_g_dedup_place {v1source:Int} {v2serial:Int} {y0t0p:List Range} {n0p:Nat} {r:Int} (H:g_dedup_place v1source v2serial y0t0p=some r):ACallS prog 90 [.vc 0 n0p,.d (cI v1source),.d (cI v2serial)] ⟨[],[⟨65,3,n0p,some (y0t0p.map Range.row)⟩]⟩ (QE (.d (cI r)) ⟨[],[⟨65,3,n0p,some (y0t0p.map Range.row)⟩]⟩):=by
 refine ACallS.keep ?_
 refine ACallS.enter func90 rfl ntmps90 rfl fun S hS=>?_
 unfold g_dedup_place at H
 obtain ⟨y1,hy1,H⟩:=bind_some' H
 refine .B 12 [.r 0,.r 1,.r 2,.i (y0t0p.length:Int),.g (.clo 122 [.ref 0 0,.ref 1 0,.ref 2 0])] rfl ⟨OpQ.g (q_makeFunc rfl),OpQ.g (q_lenV (l:=y0t0p) (row:=Range.row) underlying22 rfl rfl)⟩ ?_
 refine .callF (en 16 rfl) rfl [0,1,2] [0] (x:=.d (cI y1)) (st':=⟨[.row 22 [.vc 0 n0p],.row 3 [.d (cI v1source)],.row 3 [.d (cI v2serial)]],[⟨65,3,n0p,some (y0t0p.map Range.row)⟩]⟩) rfl (c_g_sort_Search_v1 (hy1)) ⟨.rfl' _,.rfl' _,trivial⟩ rfl rfl rfl rfl rfl rfl ?_
 refine .A 2 [] rfl trivial ?_
 refine .R func90 results90 rfl ?_
 cases H
 exact ⟨[],[0],rfl,rfl,rfl,rfl,rfl,rfl,rfl,rfl,.rfl' _⟩
theorem c_g_dedup_Has {v1source:Int} {v2serial:Int} {y0t0p:List Range} {n0p:Nat} {r:Bool} (H:g_dedup_Has v1source v2serial y0t0p=some r):ACallS prog 54 [.vc 0 n0p,.d (cI v1source),.d (cI v2serial)] ⟨[],[⟨65,3,n0p,some (y0t0p.map Range.row)⟩]⟩ (QE (.d (cB r)) ⟨[],[⟨65,3,n0p,some (y0t0p.map Range.row)⟩]⟩):=by
 obtain ⟨i65,hi65,hz65,hs65,hb65⟩:=in_65
 refine ACallS.keep ?_
 refine ACallS.enter func54 rfl ntmps54 rfl fun S hS=>?_
 unfold g_dedup_Has at H
 obtain ⟨y1,hy1,H⟩:=bind_some' H
 refine .B 9 [] rfl trivial ?_
 refine .callF (en 18 rfl) rfl [] [0] (x:=.d (cI y1)) (st':=⟨[],[⟨65,3,n0p,some (y0t0p.map Range.row)⟩]⟩) rfl (c_g_dedup_place (hy1)) ⟨.rfl' _,.rfl' _,.rfl' _,trivial⟩ rfl rfl rfl rfl rfl rfl ?_
 obtain ⟨y2,hy2,H⟩:=bind_some' H
 obtain ⟨hk1,H⟩:=ck_some H
 obtain ⟨hk2,H⟩:=ck_some H
 obtain ⟨hk3,H⟩:=ck_some H
 obtain ⟨hk4,H⟩:=ck_some H
 refine .A 33 [.b y2,.i (y0t0p.length:Int),.g (.vp 0 n0p y1.toNat 0),.f 15 (.d (cI ((nth y0t0p y1.toNat).source))),.g (.vp 0 n0p y1.toNat 0),.f 6 (.d (cI ((nth y0t0p y1.toNat).from_)))] rfl ⟨rfl,rfl,rfl,fun hg=>OpQ.g (q_loadVp (l:=y0t0p) (row:=Range.row) one_3 rfl rfl (hk4 hg) rfl),rfl,rfl,fun hg=>OpQ.g (q_idxV (l:=y0t0p) (row:=Range.row) (i:=y1) underlying22 hi65 hs65 rfl rfl rfl (hk3 hg)),rfl,rfl,rfl,rfl,rfl,fun hg=>OpQ.g (q_loadVp (l:=y0t0p) (row:=Range.row) one_3 rfl rfl (hk2 hg) rfl),rfl,rfl,fun hg=>OpQ.g (q_idxV (l:=y0t0p) (row:=Range.row) (i:=y1) underlying22 hi65 hs65 rfl rfl rfl (hk1 hg)),rfl,rfl,rfl,rfl,rfl,fun hg=>OpQ.g (q_lenV (l:=y0t0p) (row:=Range.row) underlying22 rfl rfl),rfl,g_call (en 17 rfl) rfl rfl (c_f_dedup_identity (hy2))⟩ ?_
 refine .R func54 results54 rfl ?_
 cases H
 exact ⟨[],[0],rfl,rfl,rfl,rfl,rfl,rfl,rfl,rfl,.rfl' _⟩
theorem c_g_dedup_insert {v1:Int} {v2:Int} {y0t0p:List Range} {n0p:Nat} {r:(List Range)} (H:g_dedup_insert v1 v2 y0t0p=some r):ACallS prog 70 [.vc 0 n0p,.d (cI v1),.d (cI v2)] ⟨[],[⟨65,3,n0p,some (y0t0p.map Range.row)⟩]⟩ (QE (.vc 1 r.length) ⟨[],[⟨65,3,([]:List Range).length,none⟩,⟨65,3,r.length,some (r.map Range.row)⟩]⟩):=by
 obtain ⟨i65,hi65,hz65,hs65,hb65⟩:=in_65
 refine ACallS.keep ?_
 refine ACallS.enter func70 rfl ntmps70 rfl fun S hS=>?_
 unfold g_dedup_insert at H
 obtain ⟨y1,hy1,H⟩:=bind_some' H
 refine .B 9 [] rfl trivial ?_
 refine .callF (en 18 rfl) rfl [] [0] (x:=.d (cI y1)) (st':=⟨[],[⟨65,3,n0p,some (y0t0p.map Range.row)⟩]⟩) rfl (c_g_dedup_place (hy1)) ⟨.rfl' _,.rfl' _,.rfl' _,trivial⟩ rfl rfl rfl rfl rfl rfl ?_
 obtain ⟨y2,hy2,H⟩:=bind_some' H
 refine .B 11 [.d (.agg (Range.row (⟨v1,v2,v2⟩:Range))),.n (.vc 1 (([(⟨v1,v2,v2⟩:Range)]:List Range).length)) ⟨65,3,(([(⟨v1,v2,v2⟩:Range)]:List Range).length),some (([(⟨v1,v2,v2⟩:Range)]:List Range).map Range.row)⟩] rfl ⟨.e (v_buildSliceV (n:=1) (l0:=([(⟨v1,v2,v2⟩:Range)]:List Range)) (row:=Range.row) underlying22 hi65 hs65 hz65 rfl rfl rfl rfl rfl) rfl,OpQ.g (q_buildP pl_65 hi65 hz65 rfl rfl)⟩ ?_
 refine .callF (en 19 rfl) rfl [] [0,1] (x:=.vc 2 y2.length) (st':=⟨[],[⟨65,3,([]:List Range).length,none⟩,⟨65,3,(([(⟨v1,v2,v2⟩:Range)]:List Range).length),some (([(⟨v1,v2,v2⟩:Range)]:List Range).map Range.row)⟩,⟨65,3,y2.length,some (y2.map Range.row)⟩]⟩) rfl (c_x_InsertRange (hy2)) ⟨.rfl' _,.rfl' _,.rfl' _,trivial⟩ rfl rfl rfl rfl rfl rfl ?_
 refine .A 2 [] rfl trivial ?_
 refine .seqJoin (ι:=List Range) (fun y2tj1=>[(0,.vc 2 y2tj1.length),(7,.d (cI y1))]) (fun y2tj1=>⟨[],[⟨65,3,([]:List Range).length,none⟩,⟨65,3,(([(⟨v1,v2,v2⟩:Range)]:List Range).length),some (([(⟨v1,v2,v2⟩:Range)]:List Range).map Range.row)⟩,⟨65,3,y2tj1.length,some (y2tj1.map Range.row)⟩]⟩) (fun s=>g_dedup_insert_j1 y1 s=some r) ?_ ?_
 ·rintro y2tj1 H
  replace H:g_dedup_insert_j1 y1 y2tj1=some r:=H
  unfold g_dedup_insert_j1 at H
  obtain ⟨hk1,H⟩:=ck_some H
  obtain ⟨hk2,H⟩:=ck_some H
  obtain ⟨hk3,H⟩:=ck_some H
  obtain ⟨hk4,H⟩:=ck_some H
  obtain ⟨hk5,H⟩:=ck_some H
  obtain ⟨y3,hy3,H⟩:=bind_some' H
  refine .A 19 [.p 14,.i (y1-1),.g (.vp 2 y2tj1.length (y1-1).toNat 0),.f 9 (.d (.agg (Range.row (nth y2tj1 (y1-1).toNat)))),.g (.vp 2 y2tj1.length y1.toNat 0),.f 5 (.d (.agg (Range.row (nth y2tj1 y1.toNat)))),.b y3] rfl ⟨rfl,fun hg=>g_call (en 20 rfl) rfl rfl (c_f_dedup_touch (gcall_some hy3 hg)),rfl,rfl,fun hg=>OpQ.g (q_loadVpA (l:=y2tj1) (row:=Range.row) (cs:=(Range.row (nth y2tj1 y1.toNat))) one_65 sz_65 rfl rfl (hk5 hg) (Nat.le_of_ble_eq_true rfl) rfl),rfl,fun hg=>OpQ.g (q_idxV (l:=y2tj1) (row:=Range.row) (i:=y1) underlying22 hi65 hs65 rfl rfl rfl (hk4 hg)),rfl,rfl,fun hg=>OpQ.g (q_loadVpA (l:=y2tj1) (row:=Range.row) (cs:=(Range.row (nth y2tj1 (y1-1).toNat))) one_65 sz_65 rfl rfl (hk3 hg) (Nat.le_of_ble_eq_true rfl) rfl),rfl,fun hg=>OpQ.g (q_idxV (l:=y2tj1) (row:=Range.row) (i:=y1-1) underlying22 hi65 hs65 rfl rfl rfl (hk2 hg)),rfl,rfl,fun hg=>g_subI rfl rfl (hk1 hg),rfl,(show drawB _ _=true by kernel_rfl)⟩ ?_
  refine .ite H rfl (fun H=>?_) (fun H=>?_)
  ·obtain ⟨hk6,H⟩:=ck_some H
   obtain ⟨hk7,H⟩:=ck_some H
   obtain ⟨hk8,H⟩:=ck_some H
   obtain ⟨hk9,H⟩:=ck_some H
   obtain ⟨hk10,H⟩:=ck_some H
   obtain ⟨hk11,H⟩:=ck_some H
   obtain ⟨y4,hy4,H⟩:=bind_some' H
   refine .B 19 [.i (y1-1),.g (.vp 2 y2tj1.length y1.toNat 0),.f 10 (.d (cI ((nth y2tj1 y1.toNat).to_))),.g (.vp 2 y2tj1.length (y1-1).toNat 0),.w 7 ⟨[],[⟨65,3,([]:List Range).length,none⟩,⟨65,3,(([(⟨v1,v2,v2⟩:Range)]:List Range).length),some (([(⟨v1,v2,v2⟩:Range)]:List Range).map Range.row)⟩,⟨65,3,y2tj1.length,some ((y2tj1.set (y1-1).toNat (⟨(nth y2tj1 (y1-1).toNat).source,(nth y2tj1 (y1-1).toNat).from_,(nth y2tj1 y1.toNat).to_⟩:Range)).map Range.row)⟩]⟩,.i (y1+1)] rfl ⟨g_addI rfl rfl hk11,.e (u_storeV (l:=y2tj1) (row:=Range.row) (a:=(⟨(nth y2tj1 (y1-1).toNat).source,(nth y2tj1 (y1-1).toNat).from_,(nth y2tj1 y1.toNat).to_⟩:Range)) rfl rfl hk10 rfl rfl sz_3 rfl (Nat.le_of_ble_eq_true rfl) rfl) rfl,OpQ.g (q_idxV (l:=y2tj1) (row:=Range.row) (i:=y1-1) underlying22 hi65 hs65 rfl rfl rfl hk9),OpQ.g (q_loadVp (l:=y2tj1) (row:=Range.row) one_3 rfl rfl hk8 rfl),OpQ.g (q_idxV (l:=y2tj1) (row:=Range.row) (i:=y1) underlying22 hi65 hs65 rfl rfl rfl hk7),g_subI rfl rfl hk6⟩ ?_
   refine .callF (en 21 rfl) rfl [] [2] (x:=.vc 3 y4.length) (st':=⟨[],[⟨65,3,([]:List Range).length,none⟩,⟨65,3,(([(⟨v1,v2,v2⟩:Range)]:List Range).length),some (([(⟨v1,v2,v2⟩:Range)]:List Range).map Range.row)⟩,⟨65,3,([]:List Range).length,none⟩,⟨65,3,y4.length,some (y4.map Range.row)⟩]⟩) rfl (c_x_DeleteRange (hy4)) ⟨.rfl' _,.rfl' _,.rfl' _,trivial⟩ rfl rfl rfl rfl rfl rfl ?_
   refine .A 7 [] rfl trivial ?_
   refine .R func70 results70 rfl ?_
   cases H
   exact ⟨[],[0,3],rfl,rfl,rfl,rfl,rfl,rfl,rfl,rfl,.rfl' _⟩
  ·refine .A 6 [] rfl trivial ?_
   refine .R func70 results70 rfl ?_
   cases H
   exact ⟨[],[0,2],rfl,rfl,rfl,rfl,rfl,rfl,rfl,rfl,.rfl' _⟩
 ·intro hj1
  obtain ⟨hk12,H⟩:=ck_some H
  obtain ⟨hk13,H⟩:=ck_some H
  obtain ⟨hk14,H⟩:=ck_some H
  obtain ⟨hk15,H⟩:=ck_some H
  obtain ⟨hk16,H⟩:=ck_some H
  obtain ⟨hk17,H⟩:=ck_some H
  obtain ⟨y5,hy5,H⟩:=bind_some' H
  refine .A 21 [.p 17,.i (y1+1),.i (y2.length:Int),.g (.vp 2 y2.length y1.toNat 0),.f 10 (.d (.agg (Range.row (nth y2 y1.toNat)))),.i (y1+1),.g (.vp 2 y2.length (y1+1).toNat 0),.f 5 (.d (.agg (Range.row (nth y2 (y1+1).toNat)))),.b y5] rfl ⟨rfl,fun hg=>g_call (en 20 rfl) rfl rfl (c_f_dedup_touch (gcall_some hy5 hg)),rfl,rfl,fun hg=>OpQ.g (q_loadVpA (l:=y2) (row:=Range.row) (cs:=(Range.row (nth y2 (y1+1).toNat))) one_65 sz_65 rfl rfl (hk17 hg) (Nat.le_of_ble_eq_true rfl) rfl),rfl,fun hg=>OpQ.g (q_idxV (l:=y2) (row:=Range.row) (i:=y1+1) underlying22 hi65 hs65 rfl rfl rfl (hk16 hg)),rfl,rfl,fun hg=>g_addI rfl rfl (hk15 hg),rfl,fun hg=>OpQ.g (q_loadVpA (l:=y2) (row:=Range.row) (cs:=(Range.row (nth y2 y1.toNat))) one_65 sz_65 rfl rfl (hk14 hg) (Nat.le_of_ble_eq_true rfl) rfl),rfl,fun hg=>OpQ.g (q_idxV (l:=y2) (row:=Range.row) (i:=y1) underlying22 hi65 hs65 rfl rfl rfl (hk13 hg)),rfl,rfl,OpQ.g (q_lenV (l:=y2) (row:=Range.row) underlying22 rfl rfl),g_addI rfl rfl hk12,(show drawB _ _=true by kernel_rfl)⟩ ?_
  refine .ite H rfl (fun H=>?_) (fun H=>?_)
  ·obtain ⟨hk18,H⟩:=ck_some H
   obtain ⟨hk19,H⟩:=ck_some H
   obtain ⟨hk20,H⟩:=ck_some H
   obtain ⟨hk21,H⟩:=ck_some H
   obtain ⟨hk22,H⟩:=ck_some H
   obtain ⟨hk23,H⟩:=ck_some H
   obtain ⟨hk24,H⟩:=ck_some H
   obtain ⟨y6,hy6,H⟩:=bind_some' H
   refine .B 20 [.i (y1+1),.g (.vp 2 y2.length (y1+1).toNat 0),.f 11 (.d (cI ((nth y2 (y1+1).toNat).to_))),.g (.vp 2 y2.length y1.toNat 0),.w 8 ⟨[],[⟨65,3,([]:List Range).length,none⟩,⟨65,3,(([(⟨v1,v2,v2⟩:Range)]:List Range).length),some (([(⟨v1,v2,v2⟩:Range)]:List Range).map Range.row)⟩,⟨65,3,y2.length,some ((y2.set y1.toNat (⟨(nth y2 y1.toNat).source,(nth y2 y1.toNat).from_,(nth y2 (y1+1).toNat).to_⟩:Range)).map Range.row)⟩]⟩,.i (y1+1),.i (y1+2)] rfl ⟨g_addI rfl rfl hk24,g_addI rfl rfl hk23,.e (u_storeV (l:=y2) (row:=Range.row) (a:=(⟨(nth y2 y1.toNat).source,(nth y2 y1.toNat).from_,(nth y2 (y1+1).toNat).to_⟩:Range)) rfl rfl hk22 rfl rfl sz_3 rfl (Nat.le_of_ble_eq_true rfl) rfl) rfl,OpQ.g (q_idxV (l:=y2) (row:=Range.row) (i:=y1) underlying22 hi65 hs65 rfl rfl rfl hk21),OpQ.g (q_loadVp (l:=y2) (row:=Range.row) one_3 rfl rfl hk20 rfl),OpQ.g (q_idxV (l:=y2) (row:=Range.row) (i:=y1+1) underlying22 hi65 hs65 rfl rfl rfl hk19),g_addI rfl rfl hk18⟩ ?_
   refine .callF (en 21 rfl) rfl [] [2] (x:=.vc 3 y6.length) (st':=⟨[],[⟨65,3,([]:List Range).length,none⟩,⟨65,3,(([(⟨v1,v2,v2⟩:Range)]:List Range).length),some (([(⟨v1,v2,v2⟩:Range)]:List Range).map Range.row)⟩,⟨65,3,([]:List Range).length,none⟩,⟨65,3,y6.length,some (y6.map Range.row)⟩]⟩) rfl (c_x_DeleteRange (hy6)) ⟨.rfl' _,.rfl' _,.rfl' _,trivial⟩ rfl rfl rfl rfl rfl rfl ?_
   refine .A 2 [] rfl trivial ?_
   refine .reloc [] [0,1,3] (env':=[(0,.vc 2 y6.length),(7,.d (cI y1))]) (st':=⟨[],[⟨65,3,([]:List Range).length,none⟩,⟨65,3,(([(⟨v1,v2,v2⟩:Range)]:List Range).length),some (([(⟨v1,v2,v2⟩:Range)]:List Range).map Range.row)⟩,⟨65,3,y6.length,some (y6.map Range.row)⟩]⟩) hS rfl rfl rfl rfl rfl rfl rfl rfl (.cons rfl (.rfl' _) (.cons rfl (.rfl' _) (.nil))) ?_
   exact .z (hj1 y6 H) rfl rfl
  ·refine .A 1 [] rfl trivial ?_
   exact .z (hj1 y2 H) rfl rfl
set_option maxRecDepth 100000
set_option maxHeartbeats 1000000
theorem c_f_dedup_Filter {v0seen:List Range} {v1records:List Record} {r:(List Range)×(List Record)×(List Reject)} (H:f_dedup_Filter v0seen v1records=some r):ACall prog 38 [slOf 3 Range.row v0seen,slOf 12 Record.row v1records] (·=.tup [slOf 3 Range.row r.1,slOf 12 Record.row r.2.1,slOf 4 Reject.row r.2.2]):=by
 obtain ⟨i49,hi49,hz49,hs49,hb49⟩:=in_49
 refine ACall.enter' func38 rfl ntmps38 rfl fun S hS=>?_
 unfold f_dedup_Filter at H
 obtain ⟨y1,hy1,H⟩:=bind_some' H
 refine .B 10 [.r 0] rfl trivial ?_
 refine .callF (en 14 rfl) rfl [] [] (x:=.vc 0 y1.length) (st':=⟨[.row 23 [.d (slOf 12 Record.row v1records)]],[⟨65,3,y1.length,some (y1.map Range.row)⟩]⟩) rfl (c_x_CloneRangeV (hy1)) ⟨.rfl' _,trivial⟩ rfl rfl rfl rfl rfl rfl ?_
 refine .A 22 [.r 1,.g (.clo 69 [.ref 1 0,.ref 0 0]),.i (v1records.length:Int)] rfl ⟨s23.n rfl rfl,OpQ.g (q_makeFunc rfl)⟩ ?_
 refine .tok (i:=8) (e:=49) (sz:=12) rfl ?_
 refine .tokCell (o:=1) (ci:=0) (e:=47) (sz:=4) rfl rfl ?_
 refine .blockJoin2 (ι:=List Range×List Record×List Reject) (fun ⟨y0tj1,v8outj1,o1c0j1⟩=>[(7,.vc 0 y0tj1.length),(8,.tsl 12 (v8outj1.map Record.row) 1),(9,.ref 1 0)]) (fun ⟨y0tj1,v8outj1,o1c0j1⟩=>⟨[.row 23 [.d (slOf 12 Record.row v1records)],.row 38 [.tsl 4 (o1c0j1.map Reject.row) 2]],[⟨65,3,y0tj1.length,some (y0tj1.map Range.row)⟩,⟨49,12,v8outj1.length,none⟩,⟨47,4,o1c0j1.length,none⟩]⟩) (fun s=>f_dedup_Filter_j1 s.1 s.2.1 s.2.2=some r) ?_ ?_
 ·rintro ⟨y0tj1,v8outj1,o1c0j1⟩ H
  replace H:f_dedup_Filter_j1 y0tj1 v8outj1 o1c0j1=some r:=H
  unfold f_dedup_Filter_j1 at H
  refine .A 10 [.p 6] rfl ((show drawB _ _=true by kernel_rfl)) ?_
  refine .freezeL (l:=y0tj1) (row:=Range.row) (i:=4) rfl rfl ?_
  refine .R func38 results38 rfl ?_
  cases H
  exact .m rfl (.tupL ⟨.tsl _ _ _,.tsl _ _ _,.tsl _ _ _,trivial⟩)
 ·intro hj1 hj1x
  obtain ⟨n1,H⟩:=loop_some H
  refine .loop (ι:=Nat×(List Range×List Record×Int×List Reject)) (fun ⟨_,y0tl1,v8outl1,v18l1,o1c0l1⟩=>[(3,.ref 0 0),(7,.vc 0 y0tl1.length),(8,.tsl 12 (v8outl1.map Record.row) 1),(9,.ref 1 0),(10,.clo 69 [.ref 1 0,.ref 0 0]),(17,.d (cI (v1records.length:Int))),(18,.d (cI v18l1))]) (fun ⟨_,y0tl1,v8outl1,v18l1,o1c0l1⟩=>⟨[.row 23 [.d (slOf 12 Record.row v1records)],.row 38 [.tsl 4 (o1c0l1.map Reject.row) 2]],[⟨65,3,y0tl1.length,some (y0tl1.map Range.row)⟩,⟨49,12,v8outl1.length,none⟩,⟨47,4,o1c0l1.length,none⟩]⟩) (fun p=>iter (fun s=>f_dedup_Filter_l1 v1records s.1 s.2.1 s.2.2.1 s.2.2.2) p.1 p.2=some r) (·.1) (n1,(y1,([]:List Record),0,([]:List Reject))) H (.cons rfl (.rfl' _) (.cons rfl (.rfl' _) (.cons rfl (.rfl' _) (.cons rfl (.rfl' _) (.cons rfl (.rfl' _) (.cons rfl (.rfl' _) (.cons rfl (.rfl' _) (.nil)))))))) rfl ?_
  rintro ⟨m1,y0tl1,v8outl1,v18l1,o1c0l1⟩ HI ih1
  obtain ⟨n1,q1,hm1,H,HK1⟩:=iter_succ HI
  clear HI
  replace H:f_dedup_Filter_l1 v1records y0tl1 v8outl1 v18l1 o1c0l1=some q1:=H
  unfold f_dedup_Filter_l1 at H
  refine .A 5 [] rfl trivial ?_
  refine .ite H rfl (fun H=>?_) (fun H=>?_)
  ·obtain ⟨hk1,H⟩:=ck_some H
   obtain ⟨y2,hy2,H⟩:=bind_some' H
   refine .A 28 [.d (.ro (Record.row (nth v1records v18l1.toNat))),.r 2,.b y2] rfl ⟨g_call (en 17 rfl) rfl rfl (c_f_dedup_identity (hy2)),s23.ix rfl rfl rfl hk1⟩ ?_
   refine .ite H rfl (fun H=>?_) (fun H=>?_)
   ·obtain ⟨y3,hy3,H⟩:=bind_some' H
    refine .B 3 [] rfl trivial ?_
    refine .callFC (en 22 rfl) rfl rfl [1,0] [2] (x:=.d (.tup [])) (st':=⟨[.row 23 [.d (slOf 12 Record.row v1records)],.row 38 [.tsl 4 (y3.map Reject.row) 2],.row 49 [.d (cI ((nth v1records v18l1.toNat).source)),.d (cI ((nth v1records v18l1.toNat).serial)),.d (cI ((nth v1records v18l1.toNat).kind)),.d (cS ((nth v1records v18l1.toNat).a)),.d (cS ((nth v1records v18l1.toNat).b)),.d (cI ((nth v1records v18l1.toNat).start)),.d (cI ((nth v1records v18l1.toNat).units)),.d (cI ((nth v1records v18l1.toNat).call)),.d (cI ((nth v1records v18l1.toNat).part)),.d (cB ((nth v1records v18l1.toNat).last)),.d (cI ((nth v1records v18l1.toNat).trunk)),.d (cB ((nth v1records v18l1.toNat).inbound))]],[⟨65,3,y0tl1.length,some (y0tl1.map Range.row)⟩,⟨49,12,v8outl1.length,none⟩,⟨47,4,y3.length,none⟩]⟩) rfl (c_g_dedup_Filter_1 (hy3)) ⟨.rfl' _,.rfl' _,.rfl' _,.rfl' _,trivial⟩ rfl rfl rfl rfl rfl rfl ?_
    obtain ⟨hk2,H⟩:=ck_some H
    refine .A 7 [.i (v18l1+1)] rfl (g_addI rfl rfl hk2) ?_
    cases H
    exact .t 2 3 (ih1 (n1,(y0tl1,v8outl1,v18l1+1,y3)) HK1 hm1) rfl rfl rfl rfl rfl hS rfl
   ·obtain ⟨y4,hy4,H⟩:=bind_some' H
    refine .B 7 [] rfl trivial ?_
    refine .callF (en 23 rfl) rfl [] [0] (x:=.d (cB y4)) (st':=⟨[.row 23 [.d (slOf 12 Record.row v1records)],.row 38 [.tsl 4 (o1c0l1.map Reject.row) 2],.row 49 [.d (cI ((nth v1records v18l1.toNat).source)),.d (cI ((nth v1records v18l1.toNat).serial)),.d (cI ((nth v1records v18l1.toNat).kind)),.d (cS ((nth v1records v18l1.toNat).a)),.d (cS ((nth v1records v18l1.toNat).b)),.d (cI ((nth v1records v18l1.toNat).start)),.d (cI ((nth v1records v18l1.toNat).units)),.d (cI ((nth v1records v18l1.toNat).call)),.d (cI ((nth v1records v18l1.toNat).part)),.d (cB ((nth v1records v18l1.toNat).last)),.d (cI ((nth v1records v18l1.toNat).trunk)),.d (cB ((nth v1records v18l1.toNat).inbound))]],[⟨65,3,y0tl1.length,some (y0tl1.map Range.row)⟩,⟨49,12,v8outl1.length,none⟩,⟨47,4,o1c0l1.length,none⟩]⟩) rfl (c_g_dedup_Has (hy4)) ⟨.rfl' _,.rfl' _,.rfl' _,trivial⟩ rfl rfl rfl rfl rfl rfl ?_
    refine .A 2 [] rfl trivial ?_
    refine .ite H rfl (fun H=>?_) (fun H=>?_)
    ·obtain ⟨y5,hy5,H⟩:=bind_some' H
     refine .B 3 [] rfl trivial ?_
     refine .callFC (en 22 rfl) rfl rfl [1,0] [2] (x:=.d (.tup [])) (st':=⟨[.row 23 [.d (slOf 12 Record.row v1records)],.row 38 [.tsl 4 (y5.map Reject.row) 2],.row 49 [.d (cI ((nth v1records v18l1.toNat).source)),.d (cI ((nth v1records v18l1.toNat).serial)),.d (cI ((nth v1records v18l1.toNat).kind)),.d (cS ((nth v1records v18l1.toNat).a)),.d (cS ((nth v1records v18l1.toNat).b)),.d (cI ((nth v1records v18l1.toNat).start)),.d (cI ((nth v1records v18l1.toNat).units)),.d (cI ((nth v1records v18l1.toNat).call)),.d (cI ((nth v1records v18l1.toNat).part)),.d (cB ((nth v1records v18l1.toNat).last)),.d (cI ((nth v1records v18l1.toNat).trunk)),.d (cB ((nth v1records v18l1.toNat).inbound))]],[⟨65,3,y0tl1.length,some (y0tl1.map Range.row)⟩,⟨49,12,v8outl1.length,none⟩,⟨47,4,y5.length,none⟩]⟩) rfl (c_g_dedup_Filter_1 (hy5)) ⟨.rfl' _,.rfl' _,.rfl' _,.rfl' _,trivial⟩ rfl rfl rfl rfl rfl rfl ?_
     obtain ⟨hk3,H⟩:=ck_some H
     refine .A 7 [.i (v18l1+1)] rfl (g_addI rfl rfl hk3) ?_
     cases H
     exact .t 2 3 (ih1 (n1,(y0tl1,v8outl1,v18l1+1,y5)) HK1 hm1) rfl rfl rfl rfl rfl hS rfl
    ·obtain ⟨y6,hy6,H⟩:=bind_some' H
     refine .B 7 [] rfl trivial ?_
     refine .callF (en 24 rfl) rfl [] [0] (x:=.vc 3 y6.length) (st':=⟨[.row 23 [.d (slOf 12 Record.row v1records)],.row 38 [.tsl 4 (o1c0l1.map Reject.row) 2],.row 49 [.d (cI ((nth v1records v18l1.toNat).source)),.d (cI ((nth v1records v18l1.toNat).serial)),.d (cI ((nth v1records v18l1.toNat).kind)),.d (cS ((nth v1records v18l1.toNat).a)),.d (cS ((nth v1records v18l1.toNat).b)),.d (cI ((nth v1records v18l1.toNat).start)),.d (cI ((nth v1records v18l1.toNat).units)),.d (cI ((nth v1records v18l1.toNat).call)),.d (cI ((nth v1records v18l1.toNat).part)),.d (cB ((nth v1records v18l1.toNat).last)),.d (cI ((nth v1records v18l1.toNat).trunk)),.d (cB ((nth v1records v18l1.toNat).inbound))]],[⟨65,3,([]:List Range).length,none⟩,⟨49,12,v8outl1.length,none⟩,⟨47,4,o1c0l1.length,none⟩,⟨65,3,y6.length,some (y6.map Range.row)⟩]⟩) rfl (c_g_dedup_insert (hy6)) ⟨.rfl' _,.rfl' _,.rfl' _,trivial⟩ rfl rfl rfl rfl rfl rfl ?_
     obtain ⟨hk4,H⟩:=ck_some H
     obtain ⟨hk5,H⟩:=ck_some H
     refine .A 15 [.d (slOf 12 Record.row ([nth v1records v18l1.toNat]:List Record)),.a 1 49 12 Record.row (v8outl1++([nth v1records v18l1.toNat]:List Record)),.i (v18l1+1)] rfl ⟨g_addI rfl rfl hk5,s23.a rfl rfl rfl rfl hk4,g_buildSlice1 underlying23 hi49 hs49 hz49 rfl rfl rfl rfl rfl⟩ ?_
     cases H
     refine .reloc [0,1] [3,1,2] (env':=[(3,.ref 0 0),(7,.vc 0 y6.length),(8,.tsl 12 ((v8outl1++([nth v1records v18l1.toNat]:List Record)).map Record.row) 1),(9,.ref 1 0),(10,.clo 69 [.ref 1 0,.ref 0 0]),(17,.d (cI (v1records.length:Int))),(18,.d (cI (v18l1+1)))]) (st':=⟨[.row 23 [.d (slOf 12 Record.row v1records)],.row 38 [.tsl 4 (o1c0l1.map Reject.row) 2]],[⟨65,3,y6.length,some (y6.map Range.row)⟩,⟨49,12,(v8outl1++([nth v1records v18l1.toNat]:List Record)).length,none⟩,⟨47,4,o1c0l1.length,none⟩]⟩) hS rfl rfl rfl rfl rfl rfl rfl rfl (.cons rfl (.rfl' _) (.cons rfl (.rfl' _) (.cons rfl (.rfl' _) (.cons rfl (.rfl' _) (.cons rfl (.rfl' _) (.cons rfl (.rfl' _) (.cons rfl (.rfl' _) (.nil)))))))) ?_
     exact .z (ih1 (n1,(y6,v8outl1++([nth v1records v18l1.toNat]:List Record),v18l1+1,o1c0l1)) HK1 hm1) rfl rfl
  ·refine .A 1 [] rfl trivial ?_
   obtain ⟨q0,H9,hq0⟩:=map_some' H; clear H; cases hq0
   cases HK1
   have H:=H9
   exact .z (hj1x (y0tl1,v8outl1,o1c0l1) H) rfl rfl
theorem c_f_cmp_isNaN_int {v0x:Int} {r:Bool} (H:f_cmp_isNaN_int v0x=some r):ACall prog 73 [cI v0x] (·=cB r):=by
 refine ACall.enter' func73 rfl ntmps73 rfl fun S hS=>?_
 unfold f_cmp_isNaN_int at H
 refine .A 11 [] rfl trivial ?_
 refine .R func73 results73 rfl ?_
 cases H
 exact .m rfl (.rfl' _)
theorem c_f_cmp_Compare_int {v0x:Int} {v1y:Int} {r:Int} (H:f_cmp_Compare_int v0x v1y=some r):ACall prog 41 [cI v0x,cI v1y] (·=cI r):=by
 refine ACall.enter' func41 rfl ntmps41 rfl fun S hS=>?_
 unfold f_cmp_Compare_int at H
 obtain ⟨y1,hy1,H⟩:=bind_some' H
 obtain ⟨y2,hy2,H⟩:=bind_some' H
 refine .A 21 [.b y1,.b y2] rfl ⟨g_call (en 25 rfl) rfl rfl (c_f_cmp_isNaN_int (hy2)),g_call (en 25 rfl) rfl rfl (c_f_cmp_isNaN_int (hy1))⟩ ?_
 refine .ite H rfl (fun H=>?_) (fun H=>?_)
 ·refine .A 5 [] rfl trivial ?_
  refine .ite H rfl (fun H=>?_) (fun H=>?_)
  ·refine .A 4 [] rfl trivial ?_
   refine .R func41 results41 rfl ?_
   cases H
   exact .m rfl (.rfl' _)
  ·refine .A 5 [] rfl trivial ?_
   refine .R func41 results41 rfl ?_
   cases H
   exact .m rfl (.rfl' _)
 ·refine .A 6 [] rfl trivial ?_
  refine .ite H rfl (fun H=>?_) (fun H=>?_)
  ·refine .A 4 [] rfl trivial ?_
   refine .R func41 results41 rfl ?_
   cases H
   exact .m rfl (.rfl' _)
  ·refine .A 8 [] rfl trivial ?_
   refine .ite H rfl (fun H=>?_) (fun H=>?_)
   ·refine .A 4 [] rfl trivial ?_
    refine .R func41 results41 rfl ?_
    cases H
    exact .m rfl (.rfl' _)
   ·refine .A 8 [] rfl trivial ?_
    refine .ite H rfl (fun H=>?_) (fun H=>?_)
    ·refine .A 4 [] rfl trivial ?_
     refine .R func41 results41 rfl ?_
     cases H
     exact .m rfl (.rfl' _)
    ·refine .A 5 [] rfl trivial ?_
     refine .R func41 results41 rfl ?_
     cases H
     exact .m rfl (.rfl' _)
theorem c_f_cmp_Or_int {v0vals:List Int} {r:Int} (H:f_cmp_Or_int v0vals=some r):ACall prog 109 [slOf 1 rI v0vals] (·=cI r):=by
 refine ACall.enter' func109 rfl ntmps109 rfl fun S hS=>?_
 unfold f_cmp_Or_int at H
 refine .A 16 [.i (v0vals.length:Int)] rfl (s69.n rfl rfl) ?_
 obtain ⟨n1,H⟩:=loop_some H
 refine .loop (ι:=Nat×(Int)) (fun ⟨_,v8l1⟩=>[(3,.d (cI 0)),(6,.d (slOf 1 rI v0vals)),(7,.d (cI (v0vals.length:Int))),(8,.d (cI v8l1))]) (fun ⟨_,v8l1⟩=>⟨[],[]⟩) (fun p=>iter (fun s=>f_cmp_Or_int_l1 v0vals s) p.1 p.2=some r) (·.1) (n1,0) H (.cons rfl (.rfl' _) (.cons rfl (.rfl' _) (.cons rfl (.rfl' _) (.cons rfl (.rfl' _) (.nil))))) rfl ?_
 rintro ⟨m1,v8l1⟩ HI ih1
 obtain ⟨n1,q1,hm1,H,HK1⟩:=iter_succ HI
 clear HI
 replace H:f_cmp_Or_int_l1 v0vals v8l1=some q1:=H
 unfold f_cmp_Or_int_l1 at H
 refine .A 5 [] rfl trivial ?_
 refine .ite H rfl (fun H=>?_) (fun H=>?_)
 ·obtain ⟨hk1,H⟩:=ck_some H
  refine .A 15 [.d (.ro (rI (nth v0vals v8l1.toNat)))] rfl (s69.ix rfl rfl rfl hk1) ?_
  refine .ite H rfl (fun H=>?_) (fun H=>?_)
  ·refine .A 5 [] rfl trivial ?_
   refine .R func109 results109 rfl ?_
   cases H
   cases HK1
   exact .m rfl (.rfl' _)
  ·obtain ⟨hk2,H⟩:=ck_some H
   refine .A 6 [.i (v8l1+1)] rfl (g_addI rfl rfl hk2) ?_
   cases H
   exact .z (ih1 (n1,(v8l1+1)) HK1 hm1) rfl rfl
 ·refine .A 6 [] rfl trivial ?_
  refine .R func109 results109 rfl ?_
  cases H
  cases HK1
  exact .m rfl (.rfl' _)
theorem c_f_correlate_before {v0a:Record} {v1b:Record} {r:Int} (H:f_correlate_before v0a v1b=some r):ACall prog 74 [.agg (Record.row v0a),.agg (Record.row v1b)] (·=cI r):=by
 obtain ⟨i3,hi3,hz3,hs3,hb3⟩:=in_3
 refine ACall.enter' func74 rfl ntmps74 rfl fun S hS=>?_
 unfold f_correlate_before at H
 obtain ⟨y1,hy1,H⟩:=bind_some' H
 obtain ⟨y2,hy2,H⟩:=bind_some' H
 obtain ⟨y3,hy3,H⟩:=bind_some' H
 obtain ⟨y4,hy4,H⟩:=bind_some' H
 refine .A 28 [.r 0,.r 1,.p 18,.i y1,.i y2,.i y3,.d (slOf 1 rI ([y1,y2,y3]:List Int)),.i y4] rfl ⟨g_call (en 27 rfl) rfl rfl (c_f_cmp_Or_int (hy4)),g_buildSliceN (n:=3) (rows:=([y1,y2,y3]:List Int).map rI) underlying69 hi3 hs3 hz3 rfl rfl rfl rfl rfl,g_call (en 26 rfl) rfl rfl (c_f_cmp_Compare_int (hy3)),g_call (en 26 rfl) rfl rfl (c_f_cmp_Compare_int (hy2)),g_call (en 26 rfl) rfl rfl (c_f_cmp_Compare_int (hy1)),(show drawB _ _=true by kernel_rfl)⟩ ?_
 refine .R func74 results74 rfl ?_
 cases H
 exact .m rfl (.rfl' _)
theorem c_f_correlate_callOf {v0r:Record} {r:CorrelateCall} (H:f_correlate_callOf v0r=some r):ACall prog 77 [.agg (Record.row v0r)] (·=.agg (CorrelateCall.row r)):=by
 obtain ⟨i114,hi114,hz114,hs114,hb114⟩:=in_114
 refine ACall.enter' func77 rfl ntmps77 rfl fun S hS=>?_
 unfold f_correlate_callOf at H
 refine .A 14 [.r 0,.r 1,.d (.agg (CorrelateCall.row (⟨v0r.source,v0r.call⟩:CorrelateCall)))] rfl (OpQ.g (q_buildP pl_114 hi114 hz114 rfl rfl)) ?_
 refine .R func77 results77 rfl ?_
 cases H
 exact .m rfl (.rfl' _)
theorem c_g_correlate_span_1 {v0r:Record} {o0c0p:CorrelateCall} {r:Bool} (H:g_correlate_span_1 v0r o0c0p=some r):ACallS prog 118 [.d (.agg (Record.row v0r)),.ref 0 0] ⟨[.row 114 [.d (cI o0c0p.source),.d (cI o0c0p.number)]],[]⟩ (QE (.d (cB r)) ⟨[.row 114 [.d (cI o0c0p.source),.d (cI o0c0p.number)]],[]⟩):=by
 refine ACallS.keep ?_
 refine ACallS.enter func118 rfl ntmps118 rfl fun S hS=>?_
 unfold g_correlate_span_1 at H
 obtain ⟨y1,hy1,H⟩:=bind_some' H
 refine .A 14 [.r 1,.p 5,.d (.agg (CorrelateCall.row y1)),.b (eqVs (CorrelateCall.vals y1) (CorrelateCall.vals o0c0p))] rfl ⟨OpQ.g (q_steql fk_114 rfl rfl (xs:=CorrelateCall.vals y1) (ys:=CorrelateCall.vals o0c0p) rfl rfl rfl rfl),g_call (en 28 rfl) rfl rfl (c_f_correlate_callOf (hy1)),(show drawB _ _=true by kernel_rfl)⟩ ?_
 refine .R func118 results118 rfl ?_
 cases H
 exact ⟨[0],[],rfl,rfl,rfl,rfl,rfl,rfl,rfl,rfl,.rfl' _⟩
set_option maxRecDepth 100000
set_option maxHeartbeats 1000000
theorem c_f_correlate_alone {v0r:Record} {r:Record} (H:f_correlate_alone v0r=some r):ACall prog 87 [.agg (Record.row v0r)] (·=.agg (Record.row r)):=by
 refine ACall.enter' func87 rfl ntmps87 rfl fun S hS=>?_
 unfold f_correlate_alone at H
 refine .A 19 [.r 0,.r 1] rfl trivial ?_
 refine .R func87 results87 rfl ?_
 cases H
 exact .m rfl (.rfl' _)
theorem c_f_validate_Check {v0r:Record} {r:Int} (H:f_validate_Check v0r=some r):ACall prog 53 [.agg (Record.row v0r)] (·=cI r):=by
 refine ACall.enter' func53 rfl ntmps53 rfl fun S hS=>?_
 unfold f_validate_Check at H
 obtain ⟨y1,hy1,H⟩:=bind_some' H
 refine .A 20 [.r 0,.d (.tup [cS y1.1,cI y1.2])] rfl (g_call (en 10 rfl) rfl rfl (c_f_textual_Encode (hy1))) ?_
 refine .R func53 results53 rfl ?_
 cases H
 exact .m rfl (.rfl' _)
theorem c_f_correlate_commonOf {v0r:Record} {r:CorrelateCommon} (H:f_correlate_commonOf v0r=some r):ACall prog 119 [.agg (Record.row v0r)] (·=.agg (CorrelateCommon.row r)):=by
 obtain ⟨i151,hi151,hz151,hs151,hb151⟩:=in_151
 refine ACall.enter' func119 rfl ntmps119 rfl fun S hS=>?_
 unfold f_correlate_commonOf at H
 obtain ⟨y1,hy1,H⟩:=bind_some' H
 refine .A 23 [.r 0,.r 1,.p 13,.d (.agg (CorrelateCall.row y1)),.d (.agg (CorrelateCommon.row (⟨y1,v0r.kind,v0r.a,v0r.b,v0r.trunk,v0r.inbound⟩:CorrelateCommon)))] rfl ⟨OpQ.g (q_buildP pl_151 hi151 hz151 rfl rfl),g_call (en 28 rfl) rfl rfl (c_f_correlate_callOf (hy1)),(show drawB _ _=true by kernel_rfl)⟩ ?_
 refine .R func119 results119 rfl ?_
 cases H
 exact .m rfl (.rfl' _)
theorem c_f_correlate_whole {v0parts:List Record} {r:Record×Bool} (H:f_correlate_whole v0parts=some r):ACall prog 86 [slOf 12 Record.row v0parts] (·=.tup [.agg (Record.row r.1),cB r.2]):=by
 obtain ⟨i49,hi49,hz49,hs49,hb49⟩:=in_49
 refine ACall.enter' func86 rfl ntmps86 rfl fun S hS=>?_
 unfold f_correlate_whole at H
 refine .A 12 [.r 0,.i (v0parts.length:Int)] rfl (s23.n rfl rfl) ?_
 refine .ite H rfl (fun H=>?_) (fun H=>?_)
 ·refine .A 6 [.d (.agg (Record.row (⟨0,0,0,([]:List UInt8),([]:List UInt8),0,0,0,0,false,0,false⟩:Record)))] rfl (OpQ.g (q_buildP pl_49 hi49 hz49 rfl rfl)) ?_
  refine .R func86 results86 rfl ?_
  cases H
  exact .m rfl (.tupD rfl)
 ·obtain ⟨hk1,H⟩:=ck_some H
  obtain ⟨y1,hy1,H⟩:=bind_some' H
  refine .A 22 [.d (.ro (Record.row (nth v0parts (Int.toNat (0))))),.d (.agg (Record.row y1)),.r 1,.i (v0parts.length:Int)] rfl ⟨s23.n rfl rfl,g_call (en 31 rfl) rfl rfl (c_f_correlate_alone (hy1)),s23.ix rfl rfl rfl hk1⟩ ?_
  refine .blockJoin2 (ι:=Int) (fun o1c6j1=>[(2,.ref 0 0),(4,.ref 1 0)]) (fun o1c6j1=>⟨[.row 49 [.d (cI 0),.d (cI 0),.d (cI 0),.d (cS ([]:List UInt8)),.d (cS ([]:List UInt8)),.d (cI 0),.d (cI 0),.d (cI 0),.d (cI 0),.d (cB false),.d (cI 0),.d (cB false)],.row 49 [.d (cI y1.source),.d (cI y1.serial),.d (cI y1.kind),.d (cS y1.a),.d (cS y1.b),.d (cI y1.start),.d (cI o1c6j1),.d (cI y1.call),.d (cI y1.part),.d (cB y1.last),.d (cI y1.trunk),.d (cB y1.inbound)]],[]⟩) (fun s=>f_correlate_whole_j1 y1 s=some r) ?_ ?_
  ·rintro o1c6j1 H
   replace H:f_correlate_whole_j1 y1 o1c6j1=some r:=H
   unfold f_correlate_whole_j1 at H
   obtain ⟨y2,hy2,H⟩:=bind_some' H
   refine .A 7 [.i y2] rfl (g_call (en 32 rfl) rfl rfl (c_f_validate_Check (hy2))) ?_
   refine .ite H rfl (fun H=>?_) (fun H=>?_)
   ·refine .A 6 [.d (.agg (Record.row (⟨0,0,0,([]:List UInt8),([]:List UInt8),0,0,0,0,false,0,false⟩:Record)))] rfl (OpQ.g (q_buildP pl_49 hi49 hz49 rfl rfl)) ?_
    refine .R func86 results86 rfl ?_
    cases H
    exact .m rfl (.tupD rfl)
   ·refine .A 7 [] rfl trivial ?_
    refine .R func86 results86 rfl ?_
    cases H
    exact .m rfl (.tupD rfl)
  ·intro hj1 hj1x
   obtain ⟨n1,H⟩:=loop_some H
   refine .loop (ι:=Nat×(Int×Int)) (fun ⟨_,v18l1,o1c6l1⟩=>[(0,.d (slOf 12 Record.row v0parts)),(2,.ref 0 0),(4,.ref 1 0),(16,.d (slOf 12 Record.row v0parts)),(17,.d (cI (v0parts.length:Int))),(18,.d (cI v18l1))]) (fun ⟨_,v18l1,o1c6l1⟩=>⟨[.row 49 [.d (cI 0),.d (cI 0),.d (cI 0),.d (cS ([]:List UInt8)),.d (cS ([]:List UInt8)),.d (cI 0),.d (cI 0),.d (cI 0),.d (cI 0),.d (cB false),.d (cI 0),.d (cB false)],.row 49 [.d (cI y1.source),.d (cI y1.serial),.d (cI y1.kind),.d (cS y1.a),.d (cS y1.b),.d (cI y1.start),.d (cI o1c6l1),.d (cI y1.call),.d (cI y1.part),.d (cB y1.last),.d (cI y1.trunk),.d (cB y1.inbound)]],[]⟩) (fun p=>iter (fun s=>f_correlate_whole_l1 v0parts y1 s.1 s.2) p.1 p.2=some r) (·.1) (n1,(0,0)) H (.cons rfl (.rfl' _) (.cons rfl (.rfl' _) (.cons rfl (.rfl' _) (.cons rfl (.rfl' _) (.cons rfl (.rfl' _) (.cons rfl (.rfl' _) (.nil))))))) rfl ?_
   rintro ⟨m1,v18l1,o1c6l1⟩ HI ih1
   obtain ⟨n1,q1,hm1,H,HK1⟩:=iter_succ HI
   clear HI
   replace H:f_correlate_whole_l1 v0parts y1 v18l1 o1c6l1=some q1:=H
   unfold f_correlate_whole_l1 at H
   refine .A 5 [] rfl trivial ?_
   refine .ite H rfl (fun H=>?_) (fun H=>?_)
   ·obtain ⟨hk2,H⟩:=ck_some H
    obtain ⟨y3,hy3,H⟩:=bind_some' H
    obtain ⟨y4,hy4,H⟩:=bind_some' H
    obtain ⟨hk3,H⟩:=ck_some H
    obtain ⟨y5,hy5,H⟩:=bind_some' H
    obtain ⟨hk4,H⟩:=ck_some H
    refine .A 40 [.d (.ro (Record.row (nth v0parts v18l1.toNat))),.r 2,.p 25,.i y3,.d (.agg (CorrelateCommon.row y4)),.d (.ro (Record.row (nth v0parts (Int.toNat (0))))),.d (.agg (CorrelateCommon.row y5)),.b (!(eqVs (CorrelateCommon.vals y4) (CorrelateCommon.vals y5))),.i (1099511627776-o1c6l1)] rfl ⟨rfl,rfl,rfl,fun hg=>g_subI rfl rfl (hk4 hg),rfl,rfl,rfl,rfl,fun hg=>OpQ.g (q_gtneq fg_151 rfl rfl (xs:=CorrelateCommon.vals y4) (ys:=CorrelateCommon.vals y5) rfl rfl rfl rfl),rfl,rfl,fun hg=>g_call (en 33 rfl) rfl rfl (c_f_correlate_commonOf (gcall_some hy5 hg)),rfl,rfl,fun hg=>s23.ix rfl rfl rfl (hk3 hg),rfl,fun hg=>g_call (en 33 rfl) rfl rfl (c_f_correlate_commonOf (gcall_some hy4 hg)),rfl,rfl,rfl,fun hg=>g_call (en 32 rfl) rfl rfl (c_f_validate_Check (gcall_some hy3 hg)),rfl,(show drawB _ _=true by kernel_rfl),s23.ix rfl rfl rfl hk2⟩ ?_
    refine .ite H rfl (fun H=>?_) (fun H=>?_)
    ·refine .A 6 [.d (.agg (Record.row (⟨0,0,0,([]:List UInt8),([]:List UInt8),0,0,0,0,false,0,false⟩:Record)))] rfl (OpQ.g (q_buildP pl_49 hi49 hz49 rfl rfl)) ?_
     refine .R func86 results86 rfl ?_
     cases H
     cases HK1
     exact .m rfl (.tupD rfl)
    ·obtain ⟨hk5,H⟩:=ck_some H
     obtain ⟨hk6,H⟩:=ck_some H
     refine .A 15 [.i (o1c6l1+((nth v0parts v18l1.toNat).units)),.i (v18l1+1)] rfl ⟨g_addI rfl rfl hk6,g_addI rfl rfl hk5⟩ ?_
     cases H
     exact .t 2 0 (ih1 (n1,(v18l1+1,o1c6l1+((nth v0parts v18l1.toNat).units))) HK1 hm1) rfl rfl rfl rfl rfl hS rfl
   ·refine .A 1 [] rfl trivial ?_
    obtain ⟨q0,H9,hq0⟩:=map_some' H; clear H; cases hq0
    cases HK1
    have H:=H9
    exact .z (hj1x o1c6l1 H) rfl rfl
theorem c_f_correlate_Complete {v0parts:List Record} {r:Record×Bool} (H:f_correlate_Complete v0parts=some r):ACall prog 113 [slOf 12 Record.row v0parts] (·=.tup [.agg (Record.row r.1),cB r.2]):=by
 obtain ⟨i49,hi49,hz49,hs49,hb49⟩:=in_49
 refine ACall.enter' func113 rfl ntmps113 rfl fun S hS=>?_
 unfold f_correlate_Complete at H
 refine .A 12 [.r 0,.i (v0parts.length:Int)] rfl (s23.n rfl rfl) ?_
 refine .blockJoin2 (ι:=Unit) (fun _=>[(0,.d (slOf 12 Record.row v0parts)),(2,.ref 0 0)]) (fun _=>⟨[.row 49 [.d (cI 0),.d (cI 0),.d (cI 0),.d (cS ([]:List UInt8)),.d (cS ([]:List UInt8)),.d (cI 0),.d (cI 0),.d (cI 0),.d (cI 0),.d (cB false),.d (cI 0),.d (cB false)]],[]⟩) (fun s=>f_correlate_Complete_j1 v0parts=some r) ?_ ?_
 ·rintro _ H
  replace H:f_correlate_Complete_j1 v0parts=some r:=H
  unfold f_correlate_Complete_j1 at H
  obtain ⟨y1,hy1,H⟩:=bind_some' H
  refine .A 9 [.d (.tup [.agg (Record.row y1.1),cB y1.2])] rfl (g_call (en 34 rfl) rfl rfl (c_f_correlate_whole (hy1))) ?_
  refine .R func113 results113 rfl ?_
  cases H
  exact .m rfl (.tupD rfl)
 ·intro hj1 hj1x
  obtain ⟨n1,H⟩:=loop_some H
  refine .loop (ι:=Nat×(Int)) (fun ⟨_,v8l1⟩=>[(0,.d (slOf 12 Record.row v0parts)),(2,.ref 0 0),(6,.d (slOf 12 Record.row v0parts)),(7,.d (cI (v0parts.length:Int))),(8,.d (cI v8l1))]) (fun ⟨_,v8l1⟩=>⟨[.row 49 [.d (cI 0),.d (cI 0),.d (cI 0),.d (cS ([]:List UInt8)),.d (cS ([]:List UInt8)),.d (cI 0),.d (cI 0),.d (cI 0),.d (cI 0),.d (cB false),.d (cI 0),.d (cB false)]],[]⟩) (fun p=>iter (fun s=>f_correlate_Complete_l1 v0parts s) p.1 p.2=some r) (·.1) (n1,0) H (.cons rfl (.rfl' _) (.cons rfl (.rfl' _) (.cons rfl (.rfl' _) (.cons rfl (.rfl' _) (.cons rfl (.rfl' _) (.nil)))))) rfl ?_
  rintro ⟨m1,v8l1⟩ HI ih1
  obtain ⟨n1,q1,hm1,H,HK1⟩:=iter_succ HI
  clear HI
  replace H:f_correlate_Complete_l1 v0parts v8l1=some q1:=H
  unfold f_correlate_Complete_l1 at H
  refine .A 5 [] rfl trivial ?_
  refine .ite H rfl (fun H=>?_) (fun H=>?_)
  ·obtain ⟨hk1,H⟩:=ck_some H
   obtain ⟨hk2,H⟩:=ck_some H
   obtain ⟨hk3,H⟩:=ck_some H
   refine .A 30 [.d (.ro (Record.row (nth v0parts v8l1.toNat))),.r 1,.i (v8l1+1),.i (v0parts.length:Int),.i ((v0parts.length:Int) - 1),.b (((nth v0parts v8l1.toNat).last) != (v8l1==((v0parts.length:Int) - 1)))] rfl ⟨rfl,fun hg=>OpQ.g (q_bneq rfl underlying4 rfl),rfl,rfl,rfl,rfl,fun hg=>g_subI rfl rfl (hk3 hg),rfl,fun hg=>s23.n rfl rfl,rfl,rfl,g_addI rfl rfl hk2,s23.ix rfl rfl rfl hk1⟩ ?_
   refine .ite H rfl (fun H=>?_) (fun H=>?_)
   ·refine .A 6 [.d (.agg (Record.row (⟨0,0,0,([]:List UInt8),([]:List UInt8),0,0,0,0,false,0,false⟩:Record)))] rfl (OpQ.g (q_buildP pl_49 hi49 hz49 rfl rfl)) ?_
    refine .R func113 results113 rfl ?_
    cases H
    cases HK1
    exact .m rfl (.tupD rfl)
   ·obtain ⟨hk4,H⟩:=ck_some H
    refine .A 6 [.i (v8l1+1)] rfl (g_addI rfl rfl hk4) ?_
    cases H
    exact .t 1 0 (ih1 (n1,(v8l1+1)) HK1 hm1) rfl rfl rfl rfl rfl hS rfl
  ·refine .A 1 [] rfl trivial ?_
   obtain ⟨q0,H9,hq0⟩:=map_some' H; clear H; cases hq0
   cases HK1
   have H:=H9
   exact .z (hj1x () H) rfl rfl
theorem c_g_api_Record_v1 {o0c0p:CorrelateCall} {y0t0p:List Record} {n0p:Nat} {r:Int} (H:g_api_Record_v1 o0c0p y0t0p=some r):ACallS prog 117 [.vc 0 n0p,.clo 118 [.ref 0 0]] ⟨[.row 114 [.d (cI o0c0p.source),.d (cI o0c0p.number)]],[⟨49,12,n0p,some (y0t0p.map Record.row)⟩]⟩ (QE (.d (cI r)) ⟨[.row 114 [.d (cI o0c0p.source),.d (cI o0c0p.number)]],[⟨49,12,n0p,some (y0t0p.map Record.row)⟩]⟩):=by
 obtain ⟨i49,hi49,hz49,hs49,hb49⟩:=in_49
 refine ACallS.keep ?_
 refine ACallS.enter func117 rfl ntmps117 rfl fun S hS=>?_
 unfold g_api_Record_v1 at H
 refine .A 12 [.i (y0t0p.length:Int)] rfl (OpQ.g (q_lenV (l:=y0t0p) (row:=Record.row) underlying23 rfl rfl)) ?_
 obtain ⟨n1,H⟩:=loop_some H
 refine .loop (ι:=Nat×(Int)) (fun ⟨_,v8l1⟩=>[(0,.vc 0 n0p),(1,.clo 118 [.ref 0 0]),(7,.d (cI (y0t0p.length:Int))),(8,.d (cI v8l1))]) (fun ⟨_,v8l1⟩=>⟨[.row 114 [.d (cI o0c0p.source),.d (cI o0c0p.number)]],[⟨49,12,n0p,some (y0t0p.map Record.row)⟩]⟩) (fun p=>iter (fun s=>g_api_Record_v1_l1 o0c0p y0t0p s) p.1 p.2=some r) (·.1) (n1,0) H (.cons rfl (.rfl' _) (.cons rfl (.rfl' _) (.cons rfl (.rfl' _) (.cons rfl (.rfl' _) (.nil))))) rfl ?_
 rintro ⟨m1,v8l1⟩ HI ih1
 obtain ⟨n1,q1,hm1,H,HK1⟩:=iter_succ HI
 clear HI
 replace H:g_api_Record_v1_l1 o0c0p y0t0p v8l1=some q1:=H
 unfold g_api_Record_v1_l1 at H
 refine .A 5 [] rfl trivial ?_
 refine .ite H rfl (fun H=>?_) (fun H=>?_)
 ·obtain ⟨hk1,H⟩:=ck_some H
  obtain ⟨hk2,H⟩:=ck_some H
  obtain ⟨y1,hy1,H⟩:=bind_some' H
  refine .B 15 [.g (.vp 0 n0p v8l1.toNat 0),.f 1 (.d (.agg (Record.row (nth y0t0p v8l1.toNat))))] rfl ⟨OpQ.g (q_loadVpA (l:=y0t0p) (row:=Record.row) (cs:=(Record.row (nth y0t0p v8l1.toNat))) one_49 sz_49 rfl rfl hk2 (Nat.le_of_ble_eq_true rfl) rfl),OpQ.g (q_idxV (l:=y0t0p) (row:=Record.row) (i:=v8l1) underlying23 hi49 hs49 rfl rfl rfl hk1)⟩ ?_
  refine .callFC (en 29 rfl) rfl rfl [0] [] (x:=.d (cB y1)) (st':=⟨[.row 114 [.d (cI o0c0p.source),.d (cI o0c0p.number)]],[⟨49,12,n0p,some (y0t0p.map Record.row)⟩]⟩) rfl (c_g_correlate_span_1 (hy1)) ⟨.rfl' _,.rfl' _,trivial⟩ rfl rfl rfl rfl rfl rfl ?_
  refine .A 1 [] rfl trivial ?_
  refine .ite H rfl (fun H=>?_) (fun H=>?_)
  ·refine .A 5 [] rfl trivial ?_
   refine .R func117 results117 rfl ?_
   cases H
   cases HK1
   exact ⟨[0],[0],rfl,rfl,rfl,rfl,rfl,rfl,rfl,rfl,.rfl' _⟩
  ·obtain ⟨hk3,H⟩:=ck_some H
   refine .A 6 [.i (v8l1+1)] rfl (g_addI rfl rfl hk3) ?_
   cases H
   exact .z (ih1 (n1,(v8l1+1)) HK1 hm1) rfl rfl
 ·refine .A 5 [] rfl trivial ?_
  refine .R func117 results117 rfl ?_
  cases H
  cases HK1
  exact ⟨[0],[0],rfl,rfl,rfl,rfl,rfl,rfl,rfl,rfl,.rfl' _⟩
theorem c_g_correlate_span {v1c:CorrelateCall} {y0t0p:List Record} {n0p:Nat} {r:Int×Int} (H:g_correlate_span v1c y0t0p=some r):ACallS prog 81 [.vc 0 n0p,.d (.agg (CorrelateCall.row v1c))] ⟨[],[⟨49,12,n0p,some (y0t0p.map Record.row)⟩]⟩ (QE (.d (.tup [cI r.1,cI r.2])) ⟨[],[⟨49,12,n0p,some (y0t0p.map Record.row)⟩]⟩):=by
 obtain ⟨i49,hi49,hz49,hs49,hb49⟩:=in_49
 refine ACallS.keep ?_
 refine ACallS.enter func81 rfl ntmps81 rfl fun S hS=>?_
 unfold g_correlate_span at H
 obtain ⟨y1,hy1,H⟩:=bind_some' H
 refine .B 10 [.r 0,.g (.clo 118 [.ref 0 0])] rfl (OpQ.g (q_makeFunc rfl)) ?_
 refine .callF (en 30 rfl) rfl [0] [0] (x:=.d (cI y1)) (st':=⟨[.row 114 [.d (cI v1c.source),.d (cI v1c.number)]],[⟨49,12,n0p,some (y0t0p.map Record.row)⟩]⟩) rfl (c_g_api_Record_v1 (hy1)) ⟨.rfl' _,.rfl' _,trivial⟩ rfl rfl rfl rfl rfl rfl ?_
 refine .A 8 [] rfl trivial ?_
 refine .ite H rfl (fun H=>?_) (fun H=>?_)
 ·refine .A 5 [] rfl trivial ?_
  refine .R func81 results81 rfl ?_
  cases H
  exact ⟨[],[0],rfl,rfl,rfl,rfl,rfl,rfl,rfl,rfl,.tupL (ds:=[cI 0,cI 0]) ⟨.rfl' _,.rfl' _,trivial⟩⟩
 ·refine .A 8 [] rfl trivial ?_
  obtain ⟨n1,H⟩:=loop_some H
  refine .loop (ι:=Nat×(Int)) (fun ⟨_,v5tol1⟩=>[(0,.vc 0 n0p),(3,.ref 0 0),(4,.d (cI y1)),(5,.d (cI v5tol1))]) (fun ⟨_,v5tol1⟩=>⟨[.row 114 [.d (cI v1c.source),.d (cI v1c.number)]],[⟨49,12,n0p,some (y0t0p.map Record.row)⟩]⟩) (fun p=>iter (fun s=>g_correlate_span_l1 v1c y0t0p y1 s) p.1 p.2=some r) (·.1) (n1,y1) H (.cons rfl (.rfl' _) (.cons rfl (.rfl' _) (.cons rfl (.rfl' _) (.cons rfl (.rfl' _) (.nil))))) rfl ?_
  rintro ⟨m1,v5tol1⟩ HI ih1
  obtain ⟨n1,q1,hm1,H,HK1⟩:=iter_succ HI
  clear HI
  replace H:g_correlate_span_l1 v1c y0t0p y1 v5tol1=some q1:=H
  unfold g_correlate_span_l1 at H
  obtain ⟨hk1,H⟩:=ck_some H
  obtain ⟨hk2,H⟩:=ck_some H
  obtain ⟨y2,hy2,H⟩:=bind_some' H
  refine .A 18 [.p 13,.i (y0t0p.length:Int),.g (.vp 0 n0p v5tol1.toNat 0),.f 7 (.d (.agg (Record.row (nth y0t0p v5tol1.toNat)))),.d (.agg (CorrelateCall.row y2)),.b (eqVs (CorrelateCall.vals y2) (CorrelateCall.vals v1c))] rfl ⟨rfl,fun hg=>OpQ.g (q_steql fk_114 rfl rfl (xs:=CorrelateCall.vals y2) (ys:=CorrelateCall.vals v1c) rfl rfl rfl rfl),rfl,rfl,fun hg=>g_call (en 28 rfl) rfl rfl (c_f_correlate_callOf (gcall_some hy2 hg)),rfl,fun hg=>OpQ.g (q_loadVpA (l:=y0t0p) (row:=Record.row) (cs:=(Record.row (nth y0t0p v5tol1.toNat))) one_49 sz_49 rfl rfl (hk2 hg) (Nat.le_of_ble_eq_true rfl) rfl),rfl,fun hg=>OpQ.g (q_idxV (l:=y0t0p) (row:=Record.row) (i:=v5tol1) underlying23 hi49 hs49 rfl rfl rfl (hk1 hg)),rfl,rfl,OpQ.g (q_lenV (l:=y0t0p) (row:=Record.row) underlying23 rfl rfl),(show drawB _ _=true by kernel_rfl)⟩ ?_
  refine .ite H rfl (fun H=>?_) (fun H=>?_)
  ·obtain ⟨hk3,H⟩:=ck_some H
   refine .A 8 [.i (v5tol1+1)] rfl (g_addI rfl rfl hk3) ?_
   cases H
   exact .z (ih1 (n1,(v5tol1+1)) HK1 hm1) rfl rfl
  ·refine .A 8 [] rfl trivial ?_
   refine .R func81 results81 rfl ?_
   cases H
   cases HK1
   exact ⟨[],[0],rfl,rfl,rfl,rfl,rfl,rfl,rfl,rfl,.tupL (ds:=[cI y1,cI v5tol1]) ⟨.rfl' _,.rfl' _,trivial⟩⟩
theorem c_g_correlate_candidates {v0parts:List Record} {v1last:Bool} {n0p:Nat} {y0t0p:List Record} {lo_v0parts:Nat} (hw_v0parts:(y0t0p.drop lo_v0parts).take v0parts.length=v0parts) {r:(List Int)} (H:g_correlate_candidates v0parts v1last=some r):ACallS prog 112 [.vw 0 n0p lo_v0parts v0parts.length,.d (cB v1last)] ⟨[],[⟨49,12,n0p,some (y0t0p.map Record.row)⟩]⟩ (QE (.d (slOf 1 rI r)) ⟨[],[⟨49,12,n0p,some (y0t0p.map Record.row)⟩]⟩):=by
 obtain ⟨i3,hi3,hz3,hs3,hb3⟩:=in_3
 obtain ⟨i49,hi49,hz49,hs49,hb49⟩:=in_49
 refine ACallS.keep ?_
 refine ACallS.enter func112 rfl ntmps112 rfl fun S hS=>?_
 unfold g_correlate_candidates at H
 refine .A 16 [.v (.mp 0) ⟨[.map (mEnc (fun n=>Value.int .i64 n) (fun x=>cI x) ([]:List (Int×Int)))],[⟨49,12,n0p,some (y0t0p.map Record.row)⟩]⟩,.i (v0parts.length:Int)] rfl ⟨OpQ.g (q_lenW underlying23 rfl),.e (v_makeMap) rfl⟩ ?_
 refine .blockJoin2 (ι:=(List (Int×Int))) (fun o0c0j1=>[(0,.vw 0 n0p lo_v0parts v0parts.length),(1,.d (cB v1last)),(5,.mp 0)]) (fun o0c0j1=>⟨[.map (mEnc (fun n=>Value.int .i64 n) (fun x=>cI x) o0c0j1)],[⟨49,12,n0p,some (y0t0p.map Record.row)⟩]⟩) (fun s=>g_correlate_candidates_j1 v0parts v1last s=some r) ?_ ?_
 ·rintro o0c0j1 H
  replace H:g_correlate_candidates_j1 v0parts v1last o0c0j1=some r:=H
  unfold g_correlate_candidates_j1 at H
  refine .A 9 [] rfl trivial ?_
  refine .tok (i:=10) (e:=3) (sz:=1) rfl ?_
  obtain ⟨n1,H⟩:=loop_some H
  refine .loop (ι:=Nat×(List Int×Int)) (fun ⟨_,v10outl1,v11kl1⟩=>[(0,.vw 0 n0p lo_v0parts v0parts.length),(1,.d (cB v1last)),(5,.mp 0),(10,.tsl 1 (v10outl1.map rI) 1),(11,.d (cI v11kl1))]) (fun ⟨_,v10outl1,v11kl1⟩=>⟨[.map (mEnc (fun n=>Value.int .i64 n) (fun x=>cI x) o0c0j1)],[⟨49,12,n0p,some (y0t0p.map Record.row)⟩,⟨3,1,v10outl1.length,none⟩]⟩) (fun p=>iter (fun s=>g_correlate_candidates_l1 v0parts v1last o0c0j1 s.1 s.2) p.1 p.2=some r) (·.1) (n1,(([]:List Int),1)) H (.cons rfl (.rfl' _) (.cons rfl (.rfl' _) (.cons rfl (.rfl' _) (.cons rfl (.rfl' _) (.cons rfl (.rfl' _) (.nil)))))) rfl ?_
  rintro ⟨m1,v10outl1,v11kl1⟩ HI ih1
  obtain ⟨n1,q1,hm1,H,HK1⟩:=iter_succ HI
  clear HI
  replace H:g_correlate_candidates_l1 v0parts v1last o0c0j1 v10outl1 v11kl1=some q1:=H
  unfold g_correlate_candidates_l1 at H
  refine .A 19 [.d (.tup [cI ((alook o0c0j1 v11kl1).getD 0),cB ((alook o0c0j1 v11kl1).isSome)])] rfl (OpQ.g (q_lookupOkD (intKF underlying3) (l:=o0c0j1) (val:=(fun x=>cI x)) (k:=v11kl1) (a0:=0) underlying60 hi3 hz3 (show DLe (cI 0) (cI 0) from .rfl' _) rfl rfl rfl (fun _ _ _ h=>exKey h))) ?_
  refine .ite H rfl (fun H=>?_) (fun H=>?_)
  ·refine .A 5 [] rfl trivial ?_
   refine .R func112 results112 rfl ?_
   cases H
   cases HK1
   exact ⟨[],[0],rfl,rfl,(by first | rfl | (simp only [List.map_cons,List.map_nil,renMap,renArr,mergeSt]; rfl)),(by first | rfl | (simp only [List.map_cons,List.map_nil,renMap,renArr,mergeSt]; rfl)),(by first | rfl | (simp only [List.map_cons,List.map_nil,renMap,renArr,mergeSt]; rfl)),(by first | rfl | (simp only [List.map_cons,List.map_nil,renMap,renArr,mergeSt]; rfl)),(by first | rfl | (simp only [List.map_cons,List.map_nil,renMap,renArr,mergeSt]; rfl)),(by first | rfl | (simp only [List.map_cons,List.map_nil,renMap,renArr,mergeSt]; rfl)),.tsl _ _ _⟩
  ·obtain ⟨hk1,H⟩:=ck_some H
   obtain ⟨hk2,H⟩:=ck_some H
   obtain ⟨hk3,H⟩:=ck_some H
   refine .A 20 [.d (slOf 1 rI ([(alook o0c0j1 v11kl1).getD 0]:List Int)),.a 1 3 1 rI (v10outl1++([(alook o0c0j1 v11kl1).getD 0]:List Int)),.g (.vp 0 n0p (lo_v0parts+((alook o0c0j1 v11kl1).getD 0).toNat) 0),.f 3 (.d (cB ((nth v0parts ((alook o0c0j1 v11kl1).getD 0).toNat).last)))] rfl ⟨rfl,fun hg=>OpQ.g (q_loadVpW (l:=y0t0p) (a:=v0parts) (row:=Record.row) (lo:=lo_v0parts) (i:=((alook o0c0j1 v11kl1).getD 0).toNat) hw_v0parts one_4 rfl rfl (hk3 hg) rfl),rfl,rfl,fun hg=>OpQ.g (q_idxW (row:=Record.row) (l:=y0t0p) (i:=(alook o0c0j1 v11kl1).getD 0) underlying23 hi49 hs49 rfl rfl rfl (hk2 hg)),rfl,rfl,s69.a rfl rfl rfl rfl hk1,g_buildSlice1 underlying69 hi3 hs3 hz3 rfl rfl rfl rfl rfl⟩ ?_
   refine .ite H rfl (fun H=>?_) (fun H=>?_)
   ·refine .A 5 [] rfl trivial ?_
    refine .R func112 results112 rfl ?_
    cases H
    cases HK1
    exact ⟨[],[0],rfl,rfl,(by first | rfl | (simp only [List.map_cons,List.map_nil,renMap,renArr,mergeSt]; rfl)),(by first | rfl | (simp only [List.map_cons,List.map_nil,renMap,renArr,mergeSt]; rfl)),(by first | rfl | (simp only [List.map_cons,List.map_nil,renMap,renArr,mergeSt]; rfl)),(by first | rfl | (simp only [List.map_cons,List.map_nil,renMap,renArr,mergeSt]; rfl)),(by first | rfl | (simp only [List.map_cons,List.map_nil,renMap,renArr,mergeSt]; rfl)),(by first | rfl | (simp only [List.map_cons,List.map_nil,renMap,renArr,mergeSt]; rfl)),.tsl _ _ _⟩
   ·obtain ⟨hk4,H⟩:=ck_some H
    refine .A 7 [.i (v11kl1+1)] rfl (g_addI rfl rfl hk4) ?_
    cases H
    exact .z (ih1 (n1,(v10outl1++([(alook o0c0j1 v11kl1).getD 0]:List Int),v11kl1+1)) HK1 hm1) rfl rfl
 ·intro hj1 hj1x
  obtain ⟨n2,H⟩:=loop_some H
  refine .loop (ι:=Nat×(Int×(List (Int×Int)))) (fun ⟨_,v17l2,o0c0l2⟩=>[(0,.vw 0 n0p lo_v0parts v0parts.length),(1,.d (cB v1last)),(5,.mp 0),(15,.vw 0 n0p lo_v0parts v0parts.length),(16,.d (cI (v0parts.length:Int))),(17,.d (cI v17l2))]) (fun ⟨_,v17l2,o0c0l2⟩=>⟨[.map (mEnc (fun n=>Value.int .i64 n) (fun x=>cI x) o0c0l2)],[⟨49,12,n0p,some (y0t0p.map Record.row)⟩]⟩) (fun p=>iter (fun s=>g_correlate_candidates_l2 v0parts v1last s.1 s.2) p.1 p.2=some r) (·.1) (n2,(0,([]:List (Int×Int)))) H (.cons rfl (.rfl' _) (.cons rfl (.rfl' _) (.cons rfl (.rfl' _) (.cons rfl (.rfl' _) (.cons rfl (.rfl' _) (.cons rfl (.rfl' _) (.nil))))))) rfl ?_
  rintro ⟨m1,v17l2,o0c0l2⟩ HI ih1
  obtain ⟨n1,q1,hm1,H,HK1⟩:=iter_succ HI
  clear HI
  replace H:g_correlate_candidates_l2 v0parts v1last v17l2 o0c0l2=some q1:=H
  unfold g_correlate_candidates_l2 at H
  refine .A 5 [] rfl trivial ?_
  refine .ite H rfl (fun H=>?_) (fun H=>?_)
  ·obtain ⟨hk5,H⟩:=ck_some H
   obtain ⟨hk6,H⟩:=ck_some H
   refine .A 29 [.g (.vp 0 n0p (lo_v0parts+v17l2.toNat) 0),.f 22 (.d (.agg (Record.row (nth v0parts v17l2.toNat)))),.r 1,.d (.tup [cI ((alook o0c0l2 ((nth v0parts v17l2.toNat).part)).getD 0),cB ((alook o0c0l2 ((nth v0parts v17l2.toNat).part)).isSome)])] rfl ⟨OpQ.g (q_lookupOkD (intKF underlying3) (l:=o0c0l2) (val:=(fun x=>cI x)) (k:=(nth v0parts v17l2.toNat).part) (a0:=0) underlying60 hi3 hz3 (show DLe (cI 0) (cI 0) from .rfl' _) rfl rfl rfl (fun _ _ _ h=>exKey h)),OpQ.g (q_loadVpAW (l:=y0t0p) (a:=v0parts) (row:=Record.row) (lo:=lo_v0parts) (i:=v17l2.toNat) (cs:=(Record.row (nth v0parts v17l2.toNat))) hw_v0parts one_49 sz_49 rfl rfl hk6 (Nat.le_of_ble_eq_true rfl) rfl),OpQ.g (q_idxW (row:=Record.row) (l:=y0t0p) (i:=v17l2) underlying23 hi49 hs49 rfl rfl rfl hk5)⟩ ?_
   refine .ite H rfl (fun H=>?_) (fun H=>?_)
   ·obtain ⟨hk7,H⟩:=ck_some H
    refine .A 12 [.u ⟨[.map (mEnc (fun n=>Value.int .i64 n) (fun x=>cI x) (aset o0c0l2 ((nth v0parts v17l2.toNat).part) v17l2)),.row 49 [.d (cI ((nth v0parts v17l2.toNat).source)),.d (cI ((nth v0parts v17l2.toNat).serial)),.d (cI ((nth v0parts v17l2.toNat).kind)),.d (cS ((nth v0parts v17l2.toNat).a)),.d (cS ((nth v0parts v17l2.toNat).b)),.d (cI ((nth v0parts v17l2.toNat).start)),.d (cI ((nth v0parts v17l2.toNat).units)),.d (cI ((nth v0parts v17l2.toNat).call)),.d (cI ((nth v0parts v17l2.toNat).part)),.d (cB ((nth v0parts v17l2.toNat).last)),.d (cI ((nth v0parts v17l2.toNat).trunk)),.d (cB ((nth v0parts v17l2.toNat).inbound))]],[⟨49,12,n0p,some (y0t0p.map Record.row)⟩]⟩,.i (v17l2+1)] rfl ⟨g_addI rfl rfl hk7,.e (u_mapUpdateD (intKF underlying3) (l:=o0c0l2) (val:=(fun x=>cI x)) (k:=(nth v0parts v17l2.toNat).part) (a:=v17l2) underlying60 rfl rfl rfl (fun _ _ _ h=>exKey h) rfl (.rfl' _)) rfl⟩ ?_
    cases H
    exact .t 1 1 (ih1 (n1,(v17l2+1,aset o0c0l2 ((nth v0parts v17l2.toNat).part) v17l2)) HK1 hm1) rfl rfl rfl rfl (okBoth rfl (okCons okMap rfl)) hS rfl
   ·obtain ⟨hk8,H⟩:=ck_some H
    refine .A 6 [.i (v17l2+1)] rfl (g_addI rfl rfl hk8) ?_
    cases H
    exact .t 1 1 (ih1 (n1,(v17l2+1,o0c0l2)) HK1 hm1) rfl rfl rfl rfl (okBoth rfl (okCons okMap rfl)) hS rfl
  ·refine .A 1 [] rfl trivial ?_
   obtain ⟨q0,H9,hq0⟩:=map_some' H; clear H; cases hq0
   cases HK1
   have H:=H9
   exact .z (hj1x o0c0l2 H) rfl rfl
end Go.Proofs.YtpnegjippkneoaaGreatDoor
