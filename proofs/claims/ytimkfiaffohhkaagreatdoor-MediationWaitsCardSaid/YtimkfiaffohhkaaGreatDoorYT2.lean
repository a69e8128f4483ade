/- Our own texts of this seat. -/
import Derived.Test.YtimkfiaffohhkaaGreatDoorYT1
import Derived.Lib.ItoaNum
import Derived.Lib.Join
import Derived.Shelf.Strings.Builder1
import Derived.Shelf.Strings.Builder2
import Derived.Shelf.Strings.OnBuilder
import Derived.Shelf.Small.Bits
import Derived.Shelf.Small.Wraps
import Derived.Shelf.Strconv.Itoa0
import Derived.Shelf.Strconv.Itoa1
import Derived.Shelf.LaysM
import Derived.Shelf.Strconv.Itoa2
import Derived.Shelf.Strconv.Itoa3
import Derived.Shelf.SlGeneric
import Derived.Shelf.SlSortCmp.NoneTotal
import Derived.Ground.SlsfProg
import Derived.Shelf.Spec.SlicesGrow
import Derived.Ground.Names8Prog
import Derived.Test.YtimkfiaffohhkaaGreatDoorProg
import Derived.Sort.Grow
import Derived.Deep.Draws
set_option linter.unusedSimpArgs false
set_option linter.unusedVariables false
set_option linter.unusedSectionVars false
set_option maxRecDepth 100000
set_option maxHeartbeats 4000000
namespace Go.Proofs.YtimkfiaffohhkaaGreatDoor
open Go.RowKit Go.Abs
structure aa where
 source:Int
 az:Int
 kind:Int
 a:(List UInt8)
 b:(List UInt8)
 start:Int
 cz:Int
 call:Int
 part:Int
 last:Bool
 cF:Int
 bT:Bool
instance:Inhabited aa:=⟨⟨default,default,default,default,default,default,default,default,default,default,default,default⟩⟩
def aa.row (x:aa):List D:=[cI x.source,cI x.az,cI x.kind,cS x.a,cS x.b,cI x.start,cI x.cz,cI x.call,cI x.part,cB x.last,cI x.cF,cB x.bT]
def aa.bJ (x:aa):List Value:=[.int .i64 x.source,.int .i64 x.az,.int .i64 x.kind,.string ⟨x.a.toArray⟩,.string ⟨x.b.toArray⟩,.int .i64 x.start,.int .i64 x.cz,.int .i64 x.call,.int .i64 x.part,.bool x.last,.int .i64 x.cF,.bool x.bT]
structure Range where
 source:Int
 from_:Int
 ia:Int
instance:Inhabited Range:=⟨⟨default,default,default⟩⟩
def Range.row (x:Range):List D:=[cI x.source,cI x.from_,cI x.ia]
def Range.bJ (x:Range):List Value:=[.int .i64 x.source,.int .i64 x.from_,.int .i64 x.ia]
structure Head where
 source:Int
 number:Int
 format:Int
 count:Int
instance:Inhabited Head:=⟨⟨default,default,default,default⟩⟩
def Head.row (x:Head):List D:=[cI x.source,cI x.number,cI x.format,cI x.count]
def Head.bJ (x:Head):List Value:=[.int .i64 x.source,.int .i64 x.number,.int .i64 x.format,.int .i64 x.count]
structure ai where
 source:Int
 az:Int
 index:Int
 err:Int
instance:Inhabited ai:=⟨⟨default,default,default,default⟩⟩
def ai.row (x:ai):List D:=[cI x.source,cI x.az,cI x.index,cI x.err]
def ai.bJ (x:ai):List Value:=[.int .i64 x.source,.int .i64 x.az,.int .i64 x.index,.int .i64 x.err]
structure aE where
 id:Int
 kind:Int
 aq:Int
 sub:Int
 a:(List UInt8)
 b:(List UInt8)
 start:Int
 cz:Int
 cF:Int
 bT:Bool
 source:Int
 az:Int
instance:Inhabited aE:=⟨⟨default,default,default,default,default,default,default,default,default,default,default,default⟩⟩
def aE.row (x:aE):List D:=[cI x.id,cI x.kind,cI x.aq,cI x.sub,cS x.a,cS x.b,cI x.start,cI x.cz,cI x.cF,cB x.bT,cI x.source,cI x.az]
def aE.bJ (x:aE):List Value:=[.int .i64 x.id,.int .i64 x.kind,.int .i64 x.aq,.int .i64 x.sub,.string ⟨x.a.toArray⟩,.string ⟨x.b.toArray⟩,.int .i64 x.start,.int .i64 x.cz,.int .i64 x.cF,.bool x.bT,.int .i64 x.source,.int .i64 x.az]
structure aI where
 seen:(List Range)
 open_:(List aa)
 aK:(List Head)
instance:Inhabited aI:=⟨⟨default,default,default⟩⟩
def aI.row (x:aI):List D:=[aj 3 Range.row x.seen,aj 12 aa.row x.open_,aj 4 Head.row x.aK]
structure ag where
 aw:aI
 usages:(List aE)
 aB:(List aa)
 ba:(List ai)
instance:Inhabited ag:=⟨⟨default,default,default,default⟩⟩
def ag.row (x:ag):List D:=[aj 3 Range.row x.aw.seen,aj 12 aa.row x.aw.open_,aj 4 Head.row x.aw.aK,aj 12 aE.row x.usages,aj 12 aa.row x.aB,aj 4 ai.row x.ba]
structure Event where
 at_:Int
 kind:Int
 aq:Int
 sub:Int
 number:(List UInt8)
 name:(List UInt8)
 value:Int
instance:Inhabited Event:=⟨⟨default,default,default,default,default,default,default⟩⟩
def Event.row (x:Event):List D:=[cI x.at_,cI x.kind,cI x.aq,cI x.sub,cS x.number,cS x.name,cI x.value]
structure Batch where
 source:Int
 number:Int
 format:Int
 records:(List aa)
instance:Inhabited Batch:=⟨⟨default,default,default,default⟩⟩
def Batch.row (x:Batch):List D:=[cI x.source,cI x.number,cI x.format,aj 12 aa.row x.records]
structure b9 where
 fL:Int
 lg:Int
instance:Inhabited b9:=⟨⟨default,default⟩⟩
def b9.row (x:b9):List D:=[cI x.fL,cI x.lg]
structure aV where
 source:Int
 number:Int
instance:Inhabited aV:=⟨⟨default,default⟩⟩
def aV.row (x:aV):List D:=[cI x.source,cI x.number]
def aV.bJ (x:aV):List Value:=[.int .i64 x.source,.int .i64 x.number]
structure bE where
 call:aV
 kind:Int
 a:(List UInt8)
 b:(List UInt8)
 cF:Int
 bT:Bool
instance:Inhabited bE:=⟨⟨default,default,default,default,default,default⟩⟩
def bE.row (x:bE):List D:=[cI x.call.source,cI x.call.number,cI x.kind,cS x.a,cS x.b,cI x.cF,cB x.bT]
def bE.bJ (x:bE):List Value:=[.int .i64 x.call.source,.int .i64 x.call.number,.int .i64 x.kind,.string ⟨x.a.toArray⟩,.string ⟨x.b.toArray⟩,.int .i64 x.cF,.bool x.bT]
structure dv where
 record:aa
instance:Inhabited dv:=⟨⟨default⟩⟩
def dv.row (x:dv):List D:=[cI x.record.source,cI x.record.az,cI x.record.kind,cS x.record.a,cS x.record.b,cI x.record.start,cI x.record.cz,cI x.record.call,cI x.record.part,cB x.record.last,cI x.record.cF,cB x.record.bT]
structure al where
 id:Int
 since:Int
 anchor:Int
 fX:Bool
 closed:Bool
 bh:(List Int)
instance:Inhabited al:=⟨⟨default,default,default,default,default,default⟩⟩
def al.row (x:al):List D:=[cI x.id,cI x.since,cI x.anchor,cB x.fX,cB x.closed,aj 1 rI x.bh]
def al.oR (x:al):List D:=[cI x.id,cI x.since,cI x.anchor,cB x.fX,cB x.closed,.e0 1]
structure Sub where
 id:Int
 aq:Int
 since:Int
 vS:(List UInt8)
 numbers:(List (List UInt8))
 cA:(List (List UInt8))
 bn:Bool
 family:Bool
instance:Inhabited Sub:=⟨⟨default,default,default,default,default,default,default,default⟩⟩
def Sub.row (x:Sub):List D:=[cI x.id,cI x.aq,cI x.since,cS x.vS,aj 1 rS x.numbers,aj 1 rS x.cA,cB x.bn,cB x.family]
structure cj where
 aM:(List al)
 bh:(List Sub)
instance:Inhabited cj:=⟨⟨default,default⟩⟩
def cj.row (x:cj):List D:=[aj 6 al.row x.aM,aj 8 Sub.row x.bh]
structure kv where
 source:dv
 events:(List Event)
instance:Inhabited kv:=⟨⟨default,default⟩⟩
def kv.row (x:kv):List D:=[cI x.source.record.source,cI x.source.record.az,cI x.source.record.kind,cS x.source.record.a,cS x.source.record.b,cI x.source.record.start,cI x.source.record.cz,cI x.source.record.call,cI x.source.record.part,cB x.source.record.last,cI x.source.record.cF,cB x.source.record.bT,aj 7 Event.row x.events]
structure tT where
 tx:ag
 events:(List Event)
instance:Inhabited tT:=⟨⟨default,default⟩⟩
def tT.row (x:tT):List D:=[aj 3 Range.row x.tx.aw.seen,aj 12 aa.row x.tx.aw.open_,aj 4 Head.row x.tx.aw.aK,aj 12 aE.row x.tx.usages,aj 12 aa.row x.tx.aB,aj 4 ai.row x.tx.ba,aj 7 Event.row x.events]
structure bw where
 read:Int
 accepted:Int
 merged:Int
 rejected:Int
 bn:Int
 open_:Int
instance:Inhabited bw:=⟨⟨default,default,default,default,default,default⟩⟩
def bw.row (x:bw):List D:=[cI x.read,cI x.accepted,cI x.merged,cI x.rejected,cI x.bn,cI x.open_]
def bw.bJ (x:bw):List Value:=[.int .i64 x.read,.int .i64 x.accepted,.int .i64 x.merged,.int .i64 x.rejected,.int .i64 x.bn,.int .i64 x.open_]
structure bo where
 source:Int
 az:Int
 deriving DecidableEq
instance:Inhabited bo:=⟨⟨default,default⟩⟩
def bo.row (x:bo):List D:=[cI x.source,cI x.az]
def bo.bJ (x:bo):List Value:=[.int .i64 x.source,.int .i64 x.az]
structure aW where
 source:Int
 az:Int
 deriving DecidableEq
instance:Inhabited aW:=⟨⟨default,default⟩⟩
def aW.row (x:aW):List D:=[cI x.source,cI x.az]
def aW.bJ (x:aW):List Value:=[.int .i64 x.source,.int .i64 x.az]
structure ah where
 aM:(List al)
 bh:(List Sub)
 ended:(List Int)
instance:Inhabited ah:=⟨⟨default,default,default⟩⟩
def ah.row (x:ah):List D:=[aj 6 al.oR x.aM,aj 8 Sub.row x.bh,aj 1 rI x.ended]
structure bY where
 batch:Batch
 qZ:b9
instance:Inhabited bY:=⟨⟨default,default⟩⟩
def bY.row (x:bY):List D:=[cI x.batch.source,cI x.batch.number,cI x.batch.format,aj 12 aa.row x.batch.records,cI x.qZ.fL,cI x.qZ.lg]
abbrev aa.o58 (x:aa):dD:=.row 58 [.d (cI x.source),.d (cI x.az),.d (cI x.kind),.d (cS x.a),.d (cS x.b),.d (cI x.start),.d (cI x.cz),.d (cI x.call),.d (cI x.part),.d (cB x.last),.d (cI x.cF),.d (cB x.bT)]
abbrev aI.o26 (x:aI):dD:=.row 26 [.d (aj 3 Range.row x.seen),.d (aj 12 aa.row x.open_),.d (aj 4 Head.row x.aK)]
abbrev ag.o30 (x:ag):dD:=.row 30 [.d (aj 3 Range.row x.aw.seen),.d (aj 12 aa.row x.aw.open_),.d (aj 4 Head.row x.aw.aK),.d (aj 12 aE.row x.usages),.d (aj 12 aa.row x.aB),.d (aj 4 ai.row x.ba)]
abbrev Batch.o38 (x:Batch):dD:=.row 38 [.d (cI x.source),.d (cI x.number),.d (cI x.format),.d (aj 12 aa.row x.records)]
abbrev Range.o106 (x:Range):dD:=.row 106 [.d (cI x.source),.d (cI x.from_),.d (cI x.ia)]
abbrev Head.o76 (x:Head):dD:=.row 76 [.d (cI x.source),.d (cI x.number),.d (cI x.format),.d (cI x.count)]
abbrev aE.o54 (x:aE):dD:=.row 54 [.d (cI x.id),.d (cI x.kind),.d (cI x.aq),.d (cI x.sub),.d (cS x.a),.d (cS x.b),.d (cI x.start),.d (cI x.cz),.d (cI x.cF),.d (cB x.bT),.d (cI x.source),.d (cI x.az)]
abbrev Event.o79 (x:Event):dD:=.row 79 [.d (cI x.at_),.d (cI x.kind),.d (cI x.aq),.d (cI x.sub),.d (cS x.number),.d (cS x.name),.d (cI x.value)]
abbrev al.o175 (x:al):dD:=.row 175 [.d (cI x.id),.d (cI x.since),.d (cI x.anchor),.d (cB x.fX),.d (cB x.closed),.d (aj 1 rI x.bh)]
abbrev Sub.o98 (x:Sub):dD:=.row 98 [.d (cI x.id),.d (cI x.aq),.d (cI x.since),.d (cS x.vS),.d (aj 1 rS x.numbers),.d (aj 1 rS x.cA),.d (cB x.bn),.d (cB x.family)]
abbrev ah.o123 (x:ah):dD:=.row 123 [.d (aj 6 al.oR x.aM),.d (aj 8 Sub.row x.bh),.d (aj 1 rI x.ended)]
abbrev mo0 (l:List ((Int)×Int)):dD:=.map (kt (λn=>Value.int .i64 n) (λx=>cI x) l)
abbrev mo1 (l:List ((Int)×Bool)):dD:=.map (kt (λn=>Value.int .i64 n) (λx=>cB x) l)
abbrev mo2 (l:List ((List UInt8)×Int)):dD:=.map (kt (λs=>Value.string ⟨s.toArray⟩) (λx=>cI x) l)
abbrev mo3 (l:List ((Int)×al)):dD:=.map (kt (λn=>Value.int .i64 n) (λx=>.agg (al.row x)) l)
abbrev mo4 (l:List ((Int)×Sub)):dD:=.map (kt (λn=>Value.int .i64 n) (λx=>.agg (Sub.row x)) l)
abbrev mo5 (l:List ((aW)×Bool)):dD:=.map (kt (λx=>Value.agg (aW.bJ x).toArray) (λx=>cB x) l)
abbrev mo6 (l:List ((bo)×Bool)):dD:=.map (kt (λx=>Value.agg (bo.bJ x).toArray) (λx=>cB x) l)
abbrev mo7 (l:List ((Int)×List Int)):dD:=.map (kt (λn=>Value.int .i64 n) (λx=>aj 1 rI x) l)
abbrev kq0:al:=(⟨0,0,0,false,false,([]:List Int)⟩:al)
abbrev kq1:Event:=(⟨0,5,0,2,([49]:List UInt8),([]:List UInt8),0⟩:Event)
abbrev kq2:Event:=(⟨10,5,0,2,([51]:List UInt8),([]:List UInt8),0⟩:Event)
abbrev kq3:aI:=(⟨([]:List Range),([]:List aa),([]:List Head)⟩:aI)
abbrev kq4:aE:=(⟨0,0,0,0,([]:List UInt8),([]:List UInt8),0,0,0,false,0,0⟩:aE)
abbrev kq5:Event:=(⟨0,3,1,2,([]:List UInt8),([98,97,115,105,99]:List UInt8),0⟩:Event)
abbrev kq6:aa:=(⟨0,0,0,([]:List UInt8),([]:List UInt8),0,0,0,0,false,0,false⟩:aa)
abbrev kq7:aa:=(⟨1,2,2,([49]:List UInt8),([50]:List UInt8),20,1,5,2,true,0,false⟩:aa)
abbrev kq8:aa:=(⟨1,1,2,([49]:List UInt8),([50]:List UInt8),20,1,0,0,false,0,false⟩:aa)
abbrev kq9:aa:=(⟨1,2,2,([51]:List UInt8),([50]:List UInt8),20,1,0,0,false,0,false⟩:aa)
abbrev kq10:aa:=(⟨1,1,2,([49]:List UInt8),([50]:List UInt8),20,1,5,1,false,0,false⟩:aa)
abbrev kq11:Event:=(⟨0,1,1,0,([]:List UInt8),([112,111,115,116,112,97,105,100]:List UInt8),1⟩:Event)
abbrev kq12:Sub:=(⟨0,0,0,([]:List UInt8),([]:List (List UInt8)),([]:List (List UInt8)),false,false⟩:Sub)
abbrev kq13:ag:=(⟨(⟨([]:List Range),([]:List aa),([]:List Head)⟩:aI),([]:List aE),([]:List aa),([]:List ai)⟩:ag)
abbrev DC (n:Nat):iu:=⟨9,1,n,none⟩
abbrev wU (n:Nat):iu:=⟨66,4,n,none⟩
abbrev Range.sX (n:Nat) (l:List Range):iu:=⟨106,3,n,some (l.map Range.row)⟩
abbrev p9 (n:Nat):iu:=⟨106,3,n,none⟩
abbrev Range.oy (l:List Range):iu:=⟨106,3,l.length,some (l.map Range.row)⟩
abbrev bq (n:Nat):iu:=⟨58,12,n,none⟩
abbrev aa.q8 (n:Nat) (l:List aa):iu:=⟨58,12,n,some (l.map aa.row)⟩
abbrev HL (n:Nat):iu:=⟨3,1,n,none⟩
abbrev aa.od (l:List aa):iu:=⟨58,12,l.length,some (l.map aa.row)⟩
abbrev ai.zy (l:List ai):iu:=⟨66,4,l.length,some (l.map ai.row)⟩
abbrev ai.Bx (n:Nat) (l:List ai):iu:=⟨66,4,n,some (l.map ai.row)⟩
abbrev Fw (n:Nat):iu:=⟨76,4,n,none⟩
abbrev oJ (n:Nat):iu:=⟨98,8,n,none⟩
abbrev Et (n:Nat):iu:=⟨175,6,n,none⟩
abbrev aE.qa (l:List aE):iu:=⟨54,12,l.length,some (l.map aE.row)⟩
abbrev aE.Uo (n:Nat) (l:List aE):iu:=⟨54,12,n,some (l.map aE.row)⟩
abbrev Sub.CF (n:Nat) (l:List Sub):iu:=⟨98,8,n,some (l.map Sub.row)⟩
abbrev Sub.M3 (l:List Sub):iu:=⟨98,8,l.length,some (l.map Sub.row)⟩
def vi (n:Int):Option (List UInt8):=ck (-9223372036854775808<=n/\n<=9223372036854775807) (some (Go.Lib.itoa n))
def M4 (xs:List (List UInt8)) (sep:List UInt8):Option (List UInt8):=ck (xs.length<=1000000000/\(Go.Lib.join xs sep).length<=1000000000) (some (Go.Lib.join xs sep))
def fj (xs:List aa):Option (List aa):=ck (xs.length<=1000000000) (some xs)
def iV (xs:List Range):Option (List Range):=ck (xs.length<=1000000000) (some xs)
def nj (xs:List Head):Option (List Head):=ck (xs.length<=1000000000) (some xs)
def qb (i:Int) (l l':List aa):Option (List aa):=ck (0<=i/\i<=(l.length:Int)/\1<=l'.length/\l.length+l'.length<=1000000000) (some (l.take i.toNat++l'++l.drop i.toNat))
def rJ (i:Int) (l l':List Range):Option (List Range):=ck (0<=i/\i<=(l.length:Int)/\1<=l'.length/\l.length+l'.length<=1000000000) (some (l.take i.toNat++l'++l.drop i.toNat))
def sL (i j:Int) (l' l:List aa):Option (List aa):=ck (0<=i/\i<j/\j<=(l.length:Int)/\(l'.length:Int)<=j-i/\l.length<=1000000000) (some (l.take i.toNat++l'++l.drop j.toNat))
def oS (i j:Int) (l:List Range):Option (List Range):=ck (0<=i/\i<j/\j<=(l.length:Int)/\l.length<=1000000000) (some (l.take i.toNat++l.drop j.toNat))
def DX (x:ai):List ai->List ai
 | []=>[x]
 | y::l=>if x.index<=y.index then x::y::l else y::DX x l
def HM:List ai->List ai
 | []=>[]
 | x::l=>DX x (HM l)
def tc (l:List ai):Option (List ai):=ck (l.length<=1000000000/\(l.map (·.index)).Nodup) (some (HM l))
def oT (xs:List ai):Option (List ai):=ck (xs.length<=1000000000) (some xs)
def td (xs:List aE):Option (List aE):=ck (xs.length<=1000000000) (some xs)
def wV (n:Int):Option (List aa):=ck (0<=n/\n<=1000000000) (some [])
def qc (kx:List aa):Option Bool :=
 some (decide ((kx.length:Int)<=30))
def oe (kx:List aa) (bC:Int):Option (Int ⊕ Bool) :=
 if ((decide (bC<(kx.length:Int))) && (decide (bC<31)))=true then (ck ((0:Int)<=bC/\bC<(kx.length:Int)) (ck ((!(decide ((((nth kx bC.toNat).a).length:Int) > 200)))=true->((0:Int)<=bC/\bC<(kx.length:Int))) (if ((decide ((((nth kx bC.toNat).a).length:Int) > 200)) || (decide ((((nth kx bC.toNat).b).length:Int) > 200)))=true then some (.inr false) else ck (cV (bC+1)) (some (.inl (bC+1)))))) else (qc kx).map (λz=>.inr z)
def pL (kx:List aa):Option Bool :=
 loop (λs=>oe kx s) 0
def jm (v0:ag):Option Bool :=
 (bH (decide ((v0.usages.length:Int)<=30)) (pL v0.aB)).bind λy1=>(bH ((decide ((v0.usages.length:Int)<=30)) && y1) (pL v0.aw.open_)).bind λy2=>some ((((((decide ((v0.usages.length:Int)<=30)) && y1) && y2) && (decide ((v0.ba.length:Int)<=30))) && (decide ((v0.aw.seen.length:Int)<=30))) && (decide ((v0.aw.aK.length:Int)<=30)))
def lh (v0:ag) (bI:Int):Option (Int ⊕ Bool) :=
 if ((decide (bI<(v0.usages.length:Int))) && (decide (bI<31)))=true then (ck ((0:Int)<=bI/\bI<(v0.usages.length:Int)) (ck ((!(decide ((((nth v0.usages bI.toNat).a).length:Int) > 200)))=true->((0:Int)<=bI/\bI<(v0.usages.length:Int))) (if ((decide ((((nth v0.usages bI.toNat).a).length:Int) > 200)) || (decide ((((nth v0.usages bI.toNat).b).length:Int) > 200)))=true then some (.inr false) else ck (cV (bI+1)) (some (.inl (bI+1)))))) else (jm v0).map (λz=>.inr z)
def pM (v0:ag):Option Bool :=
 loop (λs=>lh v0 s) 0
def qd (I3:Bool):Option (List Event) :=
 if I3=true then (ck (([(⟨0,1,1,0,([]:List UInt8),([112,111,115,116,112,97,105,100]:List UInt8),1⟩:Event),(⟨0,3,1,2,([]:List UInt8),([98,97,115,105,99]:List UInt8),0⟩:Event),(⟨0,5,0,2,([49]:List UInt8),([]:List UInt8),0⟩:Event)]:List Event).length+([(⟨10,5,0,2,([51]:List UInt8),([]:List UInt8),0⟩:Event)]:List Event).length<=1000000000) (some (([(⟨0,1,1,0,([]:List UInt8),([112,111,115,116,112,97,105,100]:List UInt8),1⟩:Event),(⟨0,3,1,2,([]:List UInt8),([98,97,115,105,99]:List UInt8),0⟩:Event),(⟨0,5,0,2,([49]:List UInt8),([]:List UInt8),0⟩:Event)]:List Event)++([(⟨10,5,0,2,([51]:List UInt8),([]:List UInt8),0⟩:Event)]:List Event)))) else some ([(⟨0,1,1,0,([]:List UInt8),([112,111,115,116,112,97,105,100]:List UInt8),1⟩:Event),(⟨0,3,1,2,([]:List UInt8),([98,97,115,105,99]:List UInt8),0⟩:Event),(⟨0,5,0,2,([49]:List UInt8),([]:List UInt8),0⟩:Event)]:List Event)
def qe (ep:Batch):Option Head :=
 some (⟨ep.source,ep.number,ep.format,(ep.records.length:Int)⟩:Head)
def jn (zz:Int) (I4:Int) (I5:Int):Option Bool :=
 some ((decide (zz>=I4)) && (decide (zz<=I5)))
def j6 (XK:Head):Option Int :=
 (jn XK.source 1 99).bind λy1=>(bH (!(!y1)) (jn XK.number 1 999999999)).bind λy2=>if ((!y1) || (!y2))=true then some 6 else (jn XK.format 1 3).bind λy3=>if (!y3)=true then some 7 else (jn XK.count 0 4096).bind λy4=>if (!y4)=true then some 5 else some 0
def dH (zz:Int) (I4:Int) (I5:Int):Option Bool :=
 some ((decide (zz>=I4)) && (decide (zz<=I5)))
def qf (Up:UInt8):Option Bool :=
 some ((decide (Up>=48)) && (decide (Up<=57)))
def j7 (cm:List UInt8):Option Bool :=
 some ((decide ((cm.length:Int)>=1)) && (decide ((cm.length:Int)<=15)))
def mP (cm:List UInt8) (sM:Int):Option (Int ⊕ Bool) :=
 if (decide (sM<(cm.length:Int)))=true then (ck ((0:Int)<=sM/\sM<(cm.length:Int)) ((qf (nth cm sM.toNat)).bind λy1=>if (!y1)=true then some (.inr false) else ck (cV (sM+1)) (some (.inl (sM+1))))) else (j7 cm).map (λz=>.inr z)
def lj (cm:List UInt8):Option Bool :=
 loop (λs=>mP cm s) 0
def fA (v0:aa) (CG:Int):Option Int :=
 (dH v0.source 1 99).bind λy1=>(bH (!(!y1)) (dH v0.az 1 999999999)).bind λy2=>if ((!y1) || (!y2))=true then some 6 else (dH v0.kind 1 4).bind λy3=>if (!y3)=true then some 7 else (lj v0.a).bind λy4=>(bH (!(!y4)) (lj v0.b)).bind λy5=>if ((!y4) || ((!y5) && (!(((v0.kind==3) || (v0.kind==4)) && (v0.b==([]:List UInt8))))))=true then some 12 else (dH v0.start 0 12622780799).bind λy6=>if (!y6)=true then some 15 else (dH v0.cz 0 CG).bind λy7=>if (!y7)=true then some 6 else ck ((v0.kind==1)=true->(cV (v0.start+v0.cz))) (if ((v0.kind==1) && (decide ((v0.start+v0.cz) > 12622780800)))=true then some 15 else (dH v0.call 0 999999999).bind λy8=>(bH (!(!y8)) (dH v0.part 0 99)).bind λy9=>if ((!y8) || (!y9))=true then some 6 else if (((v0.part==0) != (v0.call==0)) || (v0.last && (v0.part==0)))=true then some 8 else (dH v0.cF 0 999).bind λFx=>if (!Fx)=true then some 6 else if (v0.bT && (v0.cF==0))=true then some 8 else some 0)
def mn (v0:aa):Option Int :=
 if (v0.kind==1)=true then (fA v0 604800) else fA v0 1099511627776
def fe (M5:List (List UInt8)):Option ((List UInt8)×Int) :=
 (M4 M5 ([32]:List UInt8)).bind λy6=>some (y6,0)
def gx (v0:aa) (wW:List (List UInt8)) (Fy:List UInt8):Option ((List UInt8)×Int) :=
 (vi v0.cF).bind λy7=>ck (wW.length+([Fy,y7]:List (List UInt8)).length<=1000000000) (fe (wW++([Fy,y7]:List (List UInt8))))
def ek (v0:aa) (wW:List (List UInt8)):Option ((List UInt8)×Int) :=
 if (v0.cF != 0)=true then (if v0.bT=true then (gx v0 wW ([105,110]:List UInt8)) else gx v0 wW ([111,117,116]:List UInt8)) else fe wW
def ff (v0:aa) (oK:List UInt8):Option ((List UInt8)×Int) :=
 ck (cV (v0.kind-1)) (ck ((0:Int)<=v0.kind-1/\v0.kind-1<=v0.kind/\v0.kind<=(([118,116,100,99]:List UInt8).length:Int)) ((vi v0.source).bind λy2=>(vi v0.az).bind λy3=>(vi v0.start).bind λy4=>(vi v0.cz).bind λy5=>if (v0.part != 0)=true then ((vi v0.call).bind λy8=>(vi v0.part).bind λy9=>ck (([(([118,116,100,99]:List UInt8).take v0.kind.toNat).drop (v0.kind-1).toNat,y2,y3,v0.a,oK,y4,y5]:List (List UInt8)).length+([([112,97,114,116]:List UInt8),y8,y9]:List (List UInt8)).length<=1000000000) (if v0.last=true then (ck ((([(([118,116,100,99]:List UInt8).take v0.kind.toNat).drop (v0.kind-1).toNat,y2,y3,v0.a,oK,y4,y5]:List (List UInt8))++([([112,97,114,116]:List UInt8),y8,y9]:List (List UInt8))).length+([([108,97,115,116]:List UInt8)]:List (List UInt8)).length<=1000000000) (ek v0 ((([(([118,116,100,99]:List UInt8).take v0.kind.toNat).drop (v0.kind-1).toNat,y2,y3,v0.a,oK,y4,y5]:List (List UInt8))++([([112,97,114,116]:List UInt8),y8,y9]:List (List UInt8)))++([([108,97,115,116]:List UInt8)]:List (List UInt8))))) else ek v0 (([(([118,116,100,99]:List UInt8).take v0.kind.toNat).drop (v0.kind-1).toNat,y2,y3,v0.a,oK,y4,y5]:List (List UInt8))++([([112,97,114,116]:List UInt8),y8,y9]:List (List UInt8))))) else ek v0 ([(([118,116,100,99]:List UInt8).take v0.kind.toNat).drop (v0.kind-1).toNat,y2,y3,v0.a,oK,y4,y5]:List (List UInt8))))
def fM (v0:aa):Option ((List UInt8)×Int) :=
 (mn v0).bind λy1=>if (y1 != 0)=true then some (([]:List UInt8),y1) else if (v0.b==([]:List UInt8))=true then (ff v0 ([45]:List UInt8)) else ff v0 v0.b
def gT (ep:Batch) (vT:Int):Option (Int ⊕ Int) :=
 if (decide (vT<(ep.records.length:Int)))=true then (ck ((0:Int)<=vT/\vT<(ep.records.length:Int)) ((fM (nth ep.records vT.toNat)).bind λy3=>if (y3.2 != 0)=true then some (.inr y3.2) else if ((nth ep.records vT.toNat).source != ep.source)=true then some (.inr 8) else ck (cV (vT+1)) (some (.inl (vT+1))))) else some (.inr 0)
def oU (ep:Batch):Option Int :=
 (qe ep).bind λy1=>(j6 y1).bind λy2=>if (y2 != 0)=true then some y2 else loop (λs=>gT ep s) 0
def q9 (bW:aI) (bU:Int) (aG:Int):Option (Int ⊕ Int) :=
 if (decide (aG>=0))=true then (ck ((0:Int)<=aG/\aG<(bW.aK.length:Int)) (if (((nth bW.aK aG.toNat).source)==bU)=true then (ck ((0:Int)<=aG/\aG<(bW.aK.length:Int)) (ck (cV (((nth bW.aK aG.toNat).number)+1)) (some (.inr (((nth bW.aK aG.toNat).number)+1))))) else ck (cV (aG-1)) (some (.inl (aG-1))))) else some (.inr 1)
def hG (bW:aI) (bU:Int):Option Int :=
 if ((decide (bU<1)) || (decide (bU > 99)))=true then some 0 else ck (cV ((bW.aK.length:Int) - 1)) (loop (λs=>q9 bW bU s) ((bW.aK.length:Int) - 1))
def j8 (pF:aa) (J3:b9):Option Int :=
 if ((decide (pF.start<J3.fL)) || (decide (pF.start > J3.lg)))=true then some 15 else some 0
def dI (nk:Int) (nm:Int):Option Bool :=
 some ((((decide (nk>=1)) && (decide (nk<=99))) && (decide (nm>=1))) && (decide (nm<=999999999)))
def jX (tz:Int) (c9:(List Range)) (aT:Int) (aS:Int):Option Bool :=
 ck ((0:Int)<=tz/\tz<(c9.length:Int)) (some ((decide ((nth c9 tz.toNat).source > aT)) || ((((nth c9 tz.toNat).source)==aT) && (decide (((nth c9 tz.toNat).ia)>=aS)))))
def jf (c9:(List Range)) (aT:Int) (aS:Int) (aG:Int) (iL:Int):Option ((Int×Int) ⊕ Int) :=
 if (decide (aG<iL))=true then (ck (cV (aG+iL)) (ck ((0:Int)<=1) ((jX (IntKind.wrap .i64 (Int.fdiv (IntKind.wrap .u64 (aG+iL)) (2 ^ (min (Int.toNat (1)) 64)))) c9 aT aS).bind λy1=>if (!y1)=true then (ck (cV ((IntKind.wrap .i64 (Int.fdiv (IntKind.wrap .u64 (aG+iL)) (2 ^ (min (Int.toNat (1)) 64))))+1)) (some (.inl ((IntKind.wrap .i64 (Int.fdiv (IntKind.wrap .u64 (aG+iL)) (2 ^ (min (Int.toNat (1)) 64))))+1,iL)))) else some (.inl (aG,IntKind.wrap .i64 (Int.fdiv (IntKind.wrap .u64 (aG+iL)) (2 ^ (min (Int.toNat (1)) 64)))))))) else some (.inr aG)
def kz (zz:Int) (c9:(List Range)) (aT:Int) (aS:Int):Option Int :=
 loop (λs=>jf c9 aT aS s.1 s.2) (0,zz)
def oV (aU:List Range) (bU:Int) (cM:Int):Option Int :=
 (kz (aU.length:Int) aU bU cM).bind λy1=>some y1
def nn (aU:List Range) (bU:Int) (cM:Int):Option Bool :=
 (oV aU bU cM).bind λy1=>(dI bU cM).bind λy2=>ck ((y2 && (decide (y1<(aU.length:Int))))=true->((0:Int)<=y1/\y1<(aU.length:Int))) (ck (((y2 && (decide (y1<(aU.length:Int)))) && (((nth aU y1.toNat).source)==bU))=true->((0:Int)<=y1/\y1<(aU.length:Int))) (some (((y2 && (decide (y1<(aU.length:Int)))) && (((nth aU y1.toNat).source)==bU)) && (decide (((nth aU y1.toNat).from_)<=cM)))))
def mC (fu:Range) (gz:Range):Option Bool :=
 ck ((fu.source==gz.source)=true->(cV (fu.ia+1))) (some ((fu.source==gz.source) && ((fu.ia+1)==gz.from_)))
def lk (tz:Int) (sY:Int) (aT:(List aa)) (aX:List ai):Option (List ai) :=
 ck ((0:Int)<=tz/\tz<(aT.length:Int)) (ck ((0:Int)<=tz/\tz<(aT.length:Int)) (ck (aX.length+([(⟨(nth aT tz.toNat).source,(nth aT tz.toNat).az,tz,sY⟩:ai)]:List ai).length<=1000000000) (some (aX++([(⟨(nth aT tz.toNat).source,(nth aT tz.toNat).az,tz,sY⟩:ai)]:List ai)))))
def jo (tz:Int) (aT:Int) (aS:Int) (aX:List Range):Option Bool :=
 ck ((0:Int)<=tz/\tz<(aX.length:Int)) (ck (tz.toNat<aX.length) (some ((decide ((nth aX tz.toNat).source > aT)) || ((((nth aX tz.toNat).source)==aT) && (decide (((nth aX tz.toNat).ia)>=aS))))))
def kP (aT:Int) (aS:Int) (aX:List Range) (aG:Int) (iL:Int):Option ((Int×Int) ⊕ Int) :=
 if (decide (aG<iL))=true then (ck (cV (aG+iL)) (ck ((0:Int)<=1) ((jo (IntKind.wrap .i64 (Int.fdiv (IntKind.wrap .u64 (aG+iL)) (2 ^ (min (Int.toNat (1)) 64)))) aT aS aX).bind λy1=>if (!y1)=true then (ck (cV ((IntKind.wrap .i64 (Int.fdiv (IntKind.wrap .u64 (aG+iL)) (2 ^ (min (Int.toNat (1)) 64))))+1)) (some (.inl ((IntKind.wrap .i64 (Int.fdiv (IntKind.wrap .u64 (aG+iL)) (2 ^ (min (Int.toNat (1)) 64))))+1,iL)))) else some (.inl (aG,IntKind.wrap .i64 (Int.fdiv (IntKind.wrap .u64 (aG+iL)) (2 ^ (min (Int.toNat (1)) 64)))))))) else some (.inr aG)
def ll (zz:Int) (aT:Int) (aS:Int) (aX:List Range):Option Int :=
 loop (λs=>kP aT aS aX s.1 s.2) (0,zz)
def iZ (bU:Int) (cM:Int) (aX:List Range):Option Int :=
 (ll (aX.length:Int) bU cM aX).bind λy1=>some y1
def r9 (bU:Int) (cM:Int) (aX:List Range):Option Bool :=
 (iZ bU cM aX).bind λy1=>(dI bU cM).bind λy2=>ck ((y2 && (decide (y1<(aX.length:Int))))=true->((0:Int)<=y1/\y1<(aX.length:Int))) (ck ((y2 && (decide (y1<(aX.length:Int))))=true->(y1.toNat<aX.length)) (ck (((y2 && (decide (y1<(aX.length:Int)))) && (((nth aX y1.toNat).source)==bU))=true->((0:Int)<=y1/\y1<(aX.length:Int))) (ck (((y2 && (decide (y1<(aX.length:Int)))) && (((nth aX y1.toNat).source)==bU))=true->(y1.toNat<aX.length)) (some (((y2 && (decide (y1<(aX.length:Int)))) && (((nth aX y1.toNat).source)==bU)) && (decide (((nth aX y1.toNat).from_)<=cM)))))))
def fY (y1:Int) (eV:List Range):Option (List Range) :=
 ck ((decide (y1 > 0))=true->(cV (y1-1))) (ck ((decide (y1 > 0))=true->((0:Int)<=(y1-1)/\(y1-1)<(eV.length:Int))) (ck ((decide (y1 > 0))=true->((y1-1).toNat<eV.length)) (ck ((decide (y1 > 0))=true->((0:Int)<=y1/\y1<(eV.length:Int))) (ck ((decide (y1 > 0))=true->(y1.toNat<eV.length)) ((bH (decide (y1 > 0)) (mC (nth eV (y1-1).toNat) (nth eV y1.toNat))).bind λy3=>if ((decide (y1 > 0)) && y3)=true then (ck (cV (y1-1)) (ck ((0:Int)<=y1/\y1<(eV.length:Int)) (ck (y1.toNat<eV.length) (ck ((0:Int)<=(y1-1)/\(y1-1)<(eV.length:Int)) (ck ((y1-1).toNat<eV.length) (ck (cV (y1+1)) ((oS y1 (y1+1) (eV.set (y1-1).toNat (⟨(nth eV (y1-1).toNat).source,(nth eV (y1-1).toNat).from_,(nth eV y1.toNat).ia⟩:Range))).bind λy4=>some y4))))))) else some eV)))))
def ic (v1:Int) (v2:Int) (aX:List Range):Option (List Range) :=
 (iZ v1 v2 aX).bind λy1=>(rJ y1 aX ([(⟨v1,v2,v2⟩:Range)]:List Range)).bind λy2=>ck (cV (y1+1)) (ck ((decide ((y1+1)<(y2.length:Int)))=true->((0:Int)<=y1/\y1<(y2.length:Int))) (ck ((decide ((y1+1)<(y2.length:Int)))=true->(y1.toNat<y2.length)) (ck ((decide ((y1+1)<(y2.length:Int)))=true->(cV (y1+1))) (ck ((decide ((y1+1)<(y2.length:Int)))=true->((0:Int)<=(y1+1)/\(y1+1)<(y2.length:Int))) (ck ((decide ((y1+1)<(y2.length:Int)))=true->((y1+1).toNat<y2.length)) ((bH (decide ((y1+1)<(y2.length:Int))) (mC (nth y2 y1.toNat) (nth y2 (y1+1).toNat))).bind λy5=>if ((decide ((y1+1)<(y2.length:Int))) && y5)=true then (ck (cV (y1+1)) (ck ((0:Int)<=(y1+1)/\(y1+1)<(y2.length:Int)) (ck ((y1+1).toNat<y2.length) (ck ((0:Int)<=y1/\y1<(y2.length:Int)) (ck (y1.toNat<y2.length) (ck (cV (y1+1)) (ck (cV (y1+2)) ((oS (y1+1) (y1+2) (y2.set y1.toNat (⟨(nth y2 y1.toNat).source,(nth y2 y1.toNat).from_,(nth y2 (y1+1).toNat).ia⟩:Range))).bind λy6=>fY y1 y6)))))))) else fY y1 y2))))))
def j9 (DD:List Range) (wX:List aa) (ln:List ai):Option ((List Range)×(List aa)×(List ai)) :=
 some (DD,wX,ln)
def mQ (cd:List aa) (bl:List Range) (jK:List aa) (du:Int) (cE:List ai):Option ((List Range×List aa×Int×List ai) ⊕ ((List Range)×(List aa)×(List ai))) :=
 if (decide (du<(cd.length:Int)))=true then (ck ((0:Int)<=du/\du<(cd.length:Int)) ((dI (nth cd du.toNat).source (nth cd du.toNat).az).bind λy2=>if (!y2)=true then ((lk du 6 cd cE).bind λy3=>ck (cV (du+1)) (some (.inl (bl,jK,du+1,y3)))) else (r9 (nth cd du.toNat).source (nth cd du.toNat).az bl).bind λy4=>if y4=true then ((lk du 13 cd cE).bind λy5=>ck (cV (du+1)) (some (.inl (bl,jK,du+1,y5)))) else (ic (nth cd du.toNat).source (nth cd du.toNat).az bl).bind λy6=>ck (jK.length+([nth cd du.toNat]:List aa).length<=1000000000) (ck (cV (du+1)) (some (.inl (y6,jK++([nth cd du.toNat]:List aa),du+1,cE)))))) else (j9 bl jK cE).map (λz=>.inr z)
def np (aU:List Range) (cd:List aa):Option ((List Range)×(List aa)×(List ai)) :=
 (iV aU).bind λy1=>loop (λs=>mQ cd s.1 s.2.1 s.2.2.1 s.2.2.2) (y1,([]:List aa),0,([]:List ai))
def mo (J4:Int):Option Bool :=
 some (J4 != J4)
def fZ (J4:Int) (Y5:Int):Option Int :=
 (mo J4).bind λy1=>(mo Y5).bind λy2=>if y1=true then (if y2=true then some 0 else some (-1)) else if y2=true then some 1 else if (decide (J4<Y5))=true then some (-1) else if (decide (J4 > Y5))=true then some 1 else some 0
def pr (ra:List Int) (bu:Int):Option (Int ⊕ Int) :=
 if (decide (bu<(ra.length:Int)))=true then (ck ((0:Int)<=bu/\bu<(ra.length:Int)) (if ((nth ra bu.toNat) != 0)=true then some (.inr (nth ra bu.toNat)) else ck (cV (bu+1)) (some (.inl (bu+1))))) else some (.inr 0)
def qg (ra:List Int):Option Int :=
 loop (λs=>pr ra s) 0
def jq (fu:aa) (gz:aa):Option Int :=
 (fZ fu.source gz.source).bind λy1=>(fZ fu.call gz.call).bind λy2=>(fZ fu.part gz.part).bind λy3=>(qg ([y1,y2,y3]:List Int)).bind λy4=>some y4
def dh (pF:aa):Option aV :=
 some (⟨pF.source,pF.call⟩:aV)
def mb (pF:aa) (c9:aV):Option Bool :=
 (dh pF).bind λy1=>some (dO (aV.bJ y1) (aV.bJ c9))
def mR (pF:aa):Option aa :=
 some (⟨pF.source,pF.az,pF.kind,pF.a,pF.b,pF.start,pF.cz,0,0,false,pF.cF,pF.bT⟩:aa)
def dJ (pF:aa):Option Int :=
 (fM pF).bind λy1=>some y1.2
def ig (pF:aa):Option bE :=
 (dh pF).bind λy1=>some (⟨y1,pF.kind,pF.a,pF.b,pF.cF,pF.bT⟩:bE)
def ij (y1:aa) (qh:Int):Option (aa×Bool) :=
 (dJ (⟨y1.source,y1.az,y1.kind,y1.a,y1.b,y1.start,qh,y1.call,y1.part,y1.last,y1.cF,y1.bT⟩:aa)).bind λy2=>if (y2 != 0)=true then some ((⟨0,0,0,([]:List UInt8),([]:List UInt8),0,0,0,0,false,0,false⟩:aa),false) else some ((⟨y1.source,y1.az,y1.kind,y1.a,y1.b,y1.start,qh,y1.call,y1.part,y1.last,y1.cF,y1.bT⟩:aa),true)
def ka (aD:List aa) (y1:aa) (du:Int) (fB:Int):Option ((Int×Int) ⊕ (aa×Bool)) :=
 if (decide (du<(aD.length:Int)))=true then (ck ((0:Int)<=du/\du<(aD.length:Int)) ((bH (!(((nth aD du.toNat).part)==0)) (dJ (nth aD du.toNat))).bind λy3=>(bH (!((((nth aD du.toNat).part)==0) || (y3 != 0))) (ig (nth aD du.toNat))).bind λy4=>ck ((!((((nth aD du.toNat).part)==0) || (y3 != 0)))=true->((0:Int)<=0/\0<(aD.length:Int))) ((bH (!((((nth aD du.toNat).part)==0) || (y3 != 0))) (ig (nth aD (Int.toNat (0))))).bind λy5=>ck ((!(((((nth aD du.toNat).part)==0) || (y3 != 0)) || (!(dO (bE.bJ y4) (bE.bJ y5)))))=true->(cV (1099511627776-fB))) (if ((((((nth aD du.toNat).part)==0) || (y3 != 0)) || (!(dO (bE.bJ y4) (bE.bJ y5)))) || (decide ((nth aD du.toNat).cz > (1099511627776-fB))))=true then some (.inr ((⟨0,0,0,([]:List UInt8),([]:List UInt8),0,0,0,0,false,0,false⟩:aa),false)) else ck (cV (fB+((nth aD du.toNat).cz))) (ck (cV (du+1)) (some (.inl (du+1,fB+((nth aD du.toNat).cz))))))))) else (ij y1 fB).map (λz=>.inr z)
def kb (aD:List aa):Option (aa×Bool) :=
 if ((aD.length:Int)==0)=true then some ((⟨0,0,0,([]:List UInt8),([]:List UInt8),0,0,0,0,false,0,false⟩:aa),false) else ck ((0:Int)<=0/\0<(aD.length:Int)) ((mR (nth aD (Int.toNat (0)))).bind λy1=>loop (λs=>ka aD y1 s.1 s.2) (0,0))
def fN (aD:List aa):Option (aa×Bool) :=
 (kb aD).bind λy1=>some (y1.1,y1.2)
def iz (aD:List aa) (bu:Int):Option (Int ⊕ (aa×Bool)) :=
 if (decide (bu<(aD.length:Int)))=true then (ck ((0:Int)<=bu/\bu<(aD.length:Int)) (ck (cV (bu+1)) (ck ((!((nth aD bu.toNat).part != (bu+1)))=true->(cV ((aD.length:Int) - 1))) (if (((nth aD bu.toNat).part != (bu+1)) || ((nth aD bu.toNat).last != (bu==((aD.length:Int) - 1))))=true then some (.inr ((⟨0,0,0,([]:List UInt8),([]:List UInt8),0,0,0,0,false,0,false⟩:aa),false)) else ck (cV (bu+1)) (some (.inl (bu+1))))))) else (fN aD).map (λz=>.inr z)
def ik (aD:List aa):Option (aa×Bool) :=
 loop (λs=>iz aD s) 0
def mc (c9:aV) (aX:List aa) (bu:Int):Option (Int ⊕ Int) :=
 if (decide (bu<(aX.length:Int)))=true then (ck ((0:Int)<=bu/\bu<(aX.length:Int)) (ck (bu.toNat<aX.length) ((mb (nth aX bu.toNat) c9).bind λy1=>if y1=true then some (.inr bu) else ck (cV (bu+1)) (some (.inl (bu+1)))))) else some (.inr (-1))
def mq (c9:aV) (aX:List aa):Option Int :=
 loop (λs=>mc c9 aX s) 0
def kQ (PQ:aV) (aX:List aa) (y1:Int) (kA:Int):Option (Int ⊕ (Int×Int)) :=
 ck ((decide (kA<(aX.length:Int)))=true->((0:Int)<=kA/\kA<(aX.length:Int))) (ck ((decide (kA<(aX.length:Int)))=true->(kA.toNat<aX.length)) ((bH (decide (kA<(aX.length:Int))) (dh (nth aX kA.toNat))).bind λy2=>if ((decide (kA<(aX.length:Int))) && (dO (aV.bJ y2) (aV.bJ PQ)))=true then (ck (cV (kA+1)) (some (.inl (kA+1)))) else some (.inr (y1,kA))))
def lq (PQ:aV) (aX:List aa):Option (Int×Int) :=
 (mq PQ aX).bind λy1=>if (decide (y1<0))=true then some (0,0) else loop (λs=>kQ PQ aX y1 s) y1
def gJ (aD:List aa) (mf:Bool) (eN:List (Int×Int)) (oW:List Int) (jS:Int):Option ((List Int×Int) ⊕ (List Int)) :=
 if (!(aC eN jS).isSome)=true then some (.inr oW) else ck (oW.length+([(aC eN jS).getD 0]:List Int).length<=1000000000) (ck (mf=true->((0:Int)<=((aC eN jS).getD 0)/\((aC eN jS).getD 0)<(aD.length:Int))) (ck (mf=true->(((aC eN jS).getD 0).toNat<aD.length)) (if (mf && (nth aD ((aC eN jS).getD 0).toNat).last)=true then some (.inr (oW++([(aC eN jS).getD 0]:List Int))) else ck (cV (jS+1)) (some (.inl (oW++([(aC eN jS).getD 0]:List Int),jS+1))))))
def e9 (aD:List aa) (mf:Bool) (eN:List (Int×Int)):Option (List Int) :=
 loop (λs=>gJ aD mf eN s.1 s.2) (([]:List Int),1)
def dS (aD:List aa) (mf:Bool) (jr:Int) (eO:List (Int×Int)):Option ((Int×(List (Int×Int))) ⊕ (List Int)) :=
 if (decide (jr<(aD.length:Int)))=true then (ck ((0:Int)<=jr/\jr<(aD.length:Int)) (ck (jr.toNat<aD.length) (if (!(aC eO (nth aD jr.toNat).part).isSome)=true then (ck (cV (jr+1)) (some (.inl (jr+1,c8 eO (nth aD jr.toNat).part jr)))) else ck (cV (jr+1)) (some (.inl (jr+1,eO)))))) else (e9 aD mf eO).map (λz=>.inr z)
def ga (aD:List aa) (mf:Bool):Option (List Int) :=
 loop (λs=>dS aD mf s.1 s.2) (0,([]:List (Int×Int)))
def iM (aD:List aa) (iG:List aa) (eN:List (Int×Bool)) (js:List aa) (lW:Int):Option ((List aa×Int) ⊕ ((List aa)×(List aa))) :=
 if (decide (lW<(aD.length:Int)))=true then (ck ((0:Int)<=lW/\lW<(aD.length:Int)) (ck (lW.toNat<aD.length) (if (!((aC eN lW).getD false))=true then (ck (js.length+([nth aD lW.toNat]:List aa).length<=1000000000) (ck (cV (lW+1)) (some (.inl (js++([nth aD lW.toNat]:List aa),lW+1))))) else ck (cV (lW+1)) (some (.inl (js,lW+1)))))) else some (.inr (iG,js))
def iN (aD:List aa) (iG:List aa) (eN:List (Int×Bool)):Option ((List aa)×(List aa)) :=
 loop (λs=>iM aD iG eN s.1 s.2) (([]:List aa),0)
def gA (aD:List aa) (lr:List Int) (iH:List aa) (lu:Int) (eO:List (Int×Bool)):Option ((List aa×Int×(List (Int×Bool))) ⊕ ((List aa)×(List aa))) :=
 if (decide (lu<(lr.length:Int)))=true then (ck ((0:Int)<=lu/\lu<(lr.length:Int)) (ck ((0:Int)<=(nth lr lu.toNat)/\(nth lr lu.toNat)<(aD.length:Int)) (ck ((nth lr lu.toNat).toNat<aD.length) (ck (iH.length+([nth aD (nth lr lu.toNat).toNat]:List aa).length<=1000000000) (ck (cV (lu+1)) (some (.inl (iH++([nth aD (nth lr lu.toNat).toNat]:List aa),lu+1,c8 eO (nth lr lu.toNat) true)))))))) else (iN aD iH eO).map (λz=>.inr z)
def lv (aD:List aa) (lr:List Int):Option ((List aa)×(List aa)) :=
 loop (λs=>gA aD lr s.1 s.2.1 s.2.2) (([]:List aa),0,([]:List (Int×Bool)))
def gf (Eu:aV) (kJ:List aa) (iA:List aa):Option ((List aa×List aa) ⊕ ((List aa)×(List aa))) :=
 (lq Eu kJ).bind λy1=>ck ((0:Int)<=y1.1/\y1.1<=y1.2/\y1.2<=(kJ.length:Int)) (ck ((0:Int)<=y1.1/\y1.1<=y1.2/\y1.2<=(kJ.length:Int)) ((ga ((kJ.take y1.2.toNat).drop y1.1.toNat) true).bind λy2=>(lv ((kJ.take y1.2.toNat).drop y1.1.toNat) y2).bind λy3=>(ik y3.1).bind λy4=>if (!y4.2)=true then some (.inr (kJ,iA)) else (sL y1.1 y1.2 y3.2 kJ).bind λy5=>ck (iA.length+([y4.1]:List aa).length<=1000000000) (some (.inl (y5,iA++([y4.1]:List aa))))))
def iO (Eu:aV) (aX:List aa) (kK:List aa):Option ((List aa)×(List aa)) :=
 loop (λs=>gf Eu s.1 s.2) (aX,kK)
def gB (bc:List aa) (bl:List aa) (dM:List aa) (dN:Int) (ze:Int):Option ((List aa×List aa×Int) ⊕ ((List aa)×(List aa))) :=
 (qb ze bl ([nth bc dN.toNat]:List aa)).bind λy2=>(dh (nth bc dN.toNat)).bind λy3=>(iO y3 y2 dM).bind λy4=>ck (cV (dN+1)) (some (.inl (y4.1,y4.2,dN+1)))
def iP (bc:List aa) (bl:List aa) (dM:List aa) (dN:Int) (hU:Int):Option (Int ⊕ ((List aa×List aa×Int) ⊕ ((List aa)×(List aa)))) :=
 ck ((decide (hU<(bl.length:Int)))=true->((0:Int)<=hU/\hU<(bl.length:Int))) (ck ((decide (hU<(bl.length:Int)))=true->(hU.toNat<bl.length)) ((bH (decide (hU<(bl.length:Int))) (jq (nth bl hU.toNat) (nth bc dN.toNat))).bind λy5=>if ((decide (hU<(bl.length:Int))) && (decide (y5<=0)))=true then (ck (cV (hU+1)) (some (.inl (hU+1)))) else (gB bc bl dM dN hU).map (λz=>.inr z)))
def kR (bc:List aa) (bl:List aa) (dM:List aa) (dN:Int):Option ((List aa×List aa×Int) ⊕ ((List aa)×(List aa))) :=
 if (decide (dN<(bc.length:Int)))=true then (ck ((0:Int)<=dN/\dN<(bc.length:Int)) (if (((nth bc dN.toNat).part)==0)=true then (ck (dM.length+([nth bc dN.toNat]:List aa).length<=1000000000) (ck (cV (dN+1)) (some (.inl (bl,dM++([nth bc dN.toNat]:List aa),dN+1))))) else loop (λs=>iP bc bl dM dN s) 0)) else some (.inr (dM,bl))
def jg (jT:List aa) (bc:List aa):Option ((List aa)×(List aa)) :=
 (fj jT).bind λy1=>loop (λs=>kR bc s.1 s.2.1 s.2.2) (y1,([]:List aa),0)
def gU (cG:List aa) (J3:b9) (eW:List ai) (rb:List Int) (bL:Int):Option ((List ai×List Int×Int) ⊕ ((List Int)×(List ai))) :=
 if (decide (bL<(cG.length:Int)))=true then (ck ((0:Int)<=bL/\bL<(cG.length:Int)) ((j8 (nth cG bL.toNat) J3).bind λy1=>if (y1 != 0)=true then (ck (eW.length+([(⟨(nth cG bL.toNat).source,(nth cG bL.toNat).az,bL,y1⟩:ai)]:List ai).length<=1000000000) (ck (cV (bL+1)) (some (.inl (eW++([(⟨(nth cG bL.toNat).source,(nth cG bL.toNat).az,bL,y1⟩:ai)]:List ai),rb,bL+1))))) else ck (rb.length+([bL]:List Int).length<=1000000000) (ck (cV (bL+1)) (some (.inl (eW,rb++([bL]:List Int),bL+1)))))) else some (.inr (rb,eW))
def mr (cG:List aa) (J3:b9):Option ((List Int)×(List ai)) :=
 loop (λs=>gU cG J3 s.1 s.2.1 s.2.2) (([]:List ai),([]:List Int),0)
def pt (bW:aI):Option ((List Range)×(List aa)×(List Head)) :=
 (iV bW.seen).bind λy1=>(fj bW.open_).bind λy2=>(nj bW.aK).bind λy3=>some (y1,y2,y3)
def fC (v1:Batch) (y4:(List Range)×(List aa)×(List Head)) (y5:(List Range)×(List aa)×(List ai)) (DE:List ai):Option (aI×(List aa)×(List ai)×Int) :=
 (tc DE).bind λy6=>(jg y4.2.1 y5.2.1).bind λy7=>ck (y4.2.2.length+([(⟨v1.source,v1.number,v1.format,(v1.records.length:Int)⟩:Head)]:List Head).length<=1000000000) (some ((⟨y5.1,y7.2,y4.2.2++([(⟨v1.source,v1.number,v1.format,(v1.records.length:Int)⟩:Head)]:List Head)⟩:aI),y7.1,y6,0))
def jt (v1:Batch) (y3:(List Int)×(List ai)) (y4:(List Range)×(List aa)×(List Head)) (y5:(List Range)×(List aa)×(List ai)) (bl:List ai) (gE:Int):Option ((List ai×Int) ⊕ (aI×(List aa)×(List ai)×Int)) :=
 if (decide (gE<(y5.2.2.length:Int)))=true then (ck ((0:Int)<=gE/\gE<(y5.2.2.length:Int)) (ck ((0:Int)<=((nth y5.2.2 gE.toNat).index)/\((nth y5.2.2 gE.toNat).index)<(y3.1.length:Int)) (ck (bl.length+([(⟨(nth y5.2.2 gE.toNat).source,(nth y5.2.2 gE.toNat).az,nth y3.1 ((nth y5.2.2 gE.toNat).index).toNat,(nth y5.2.2 gE.toNat).err⟩:ai)]:List ai).length<=1000000000) (ck (cV (gE+1)) (some (.inl (bl++([(⟨(nth y5.2.2 gE.toNat).source,(nth y5.2.2 gE.toNat).az,nth y3.1 ((nth y5.2.2 gE.toNat).index).toNat,(nth y5.2.2 gE.toNat).err⟩:ai)]:List ai),gE+1))))))) else (fC v1 y4 y5 bl).map (λz=>.inr z)
def fD (v0:aI) (v1:Batch) (y3:(List Int)×(List ai)) (qM:List aa):Option (aI×(List aa)×(List ai)×Int) :=
 (pt v0).bind λy4=>(np y4.1 qM).bind λy5=>loop (λs=>jt v1 y3 y4 y5 s.1 s.2) (y3.2,0)
def fE (v0:aI) (v1:Batch) (y3:(List Int)×(List ai)) (yo:List aa) (qi:Int):Option ((List aa×Int) ⊕ (aI×(List aa)×(List ai)×Int)) :=
 if (decide (qi<(y3.1.length:Int)))=true then (ck ((0:Int)<=qi/\qi<(y3.1.length:Int)) (ck ((0:Int)<=(nth y3.1 qi.toNat)/\(nth y3.1 qi.toNat)<(v1.records.length:Int)) (ck (yo.length+([nth v1.records (nth y3.1 qi.toNat).toNat]:List aa).length<=1000000000) (ck (cV (qi+1)) (some (.inl (yo++([nth v1.records (nth y3.1 qi.toNat).toNat]:List aa),qi+1))))))) else (fD v0 v1 y3 yo).map (λz=>.inr z)
def mu (v0:aI) (v1:Batch) (v2:b9):Option (aI×(List aa)×(List ai)×Int) :=
 (oU v1).bind λy1=>if (y1 != 0)=true then some ((⟨([]:List Range),([]:List aa),([]:List Head)⟩:aI),([]:List aa),([]:List ai),y1) else (hG v0 v1.source).bind λy2=>if (v1.number != y2)=true then some ((⟨([]:List Range),([]:List aa),([]:List Head)⟩:aI),([]:List aa),([]:List ai),20) else (mr v1.records v2).bind λy3=>loop (λs=>fE v0 v1 y3 s.1 s.2) (([]:List aa),0)
def gg (cm:dv):Option (List UInt8) :=
 if cm.record.bT=true then some cm.record.b else some cm.record.a
def eI (aN:List Int) (sG:Int) (cg:Int):Option (List Int) :=
 ck ((0:Int)<=cg/\cg<=(aN.length:Int)) (ck ((aN.take cg.toNat).length<=1000000000) (ck ((aN.take cg.toNat).length+([sG]:List Int).length<=1000000000) (ck ((0:Int)<=cg/\cg<=(aN.length:Int)) (ck (((aN.take cg.toNat)++([sG]:List Int)).length+(aN.drop cg.toNat).length<=1000000000) (some (((aN.take cg.toNat)++([sG]:List Int))++(aN.drop cg.toNat)))))))
def lx (aN:List Int) (sG:Int) (c6:Int):Option (Int ⊕ (List Int)) :=
 ck ((decide (c6<(aN.length:Int)))=true->((0:Int)<=c6/\c6<(aN.length:Int))) (if ((decide (c6<(aN.length:Int))) && (decide ((nth aN c6.toNat)<sG)))=true then (ck (cV (c6+1)) (some (.inl (c6+1)))) else (eI aN sG c6).map (λz=>.inr z))
def fO (aN:List Int) (sG:Int):Option (List Int) :=
 loop (λs=>lx aN sG s) 0
def dK (aN:List (List UInt8)) (sG:List UInt8) (cg:Int):Option (List (List UInt8)) :=
 ck ((0:Int)<=cg/\cg<=(aN.length:Int)) (ck ((aN.take cg.toNat).length<=1000000000) (ck ((aN.take cg.toNat).length+([sG]:List (List UInt8)).length<=1000000000) (ck ((0:Int)<=cg/\cg<=(aN.length:Int)) (ck (((aN.take cg.toNat)++([sG]:List (List UInt8))).length+(aN.drop cg.toNat).length<=1000000000) (some (((aN.take cg.toNat)++([sG]:List (List UInt8)))++(aN.drop cg.toNat)))))))
def ju (aN:List (List UInt8)) (sG:List UInt8) (c6:Int):Option (Int ⊕ (List (List UInt8))) :=
 ck ((decide (c6<(aN.length:Int)))=true->((0:Int)<=c6/\c6<(aN.length:Int))) (if ((decide (c6<(aN.length:Int))) && (oI (nth aN c6.toNat) sG))=true then (ck (cV (c6+1)) (some (.inl (c6+1)))) else (dK aN sG c6).map (λz=>.inr z))
def eJ (aN:List (List UInt8)) (sG:List UInt8):Option (List (List UInt8)) :=
 loop (λs=>ju aN sG s) 0
def nq (aN:List (List UInt8)) (sG:List UInt8) (hZ:List (List UInt8)) (bR:Int):Option ((List (List UInt8)×Int) ⊕ (List (List UInt8))) :=
 if (decide (bR<(aN.length:Int)))=true then (ck ((0:Int)<=bR/\bR<(aN.length:Int)) (if ((nth aN bR.toNat) != sG)=true then (ck (hZ.length+([nth aN bR.toNat]:List (List UInt8)).length<=1000000000) (ck (cV (bR+1)) (some (.inl (hZ++([nth aN bR.toNat]:List (List UInt8)),bR+1))))) else ck (cV (bR+1)) (some (.inl (hZ,bR+1))))) else some (.inr hZ)
def iB (aN:List (List UInt8)) (sG:List UInt8):Option (List (List UInt8)) :=
 loop (λs=>nq aN sG s.1 s.2) (([]:List (List UInt8)),0)
def og:Option ((List (Int×al))×(List (Int×Sub))×(List (Int×Bool))×(List ((List UInt8)×Int))×(List (Int×Int))) :=
 some (([]:List (Int×al)),([]:List (Int×Sub)),([]:List (Int×Bool)),([]:List ((List UInt8)×Int)),([]:List (Int×Int)))
def pw (aH:List Event) (GA:Int):Option ((List Event)×Int) :=
 some (aH,GA)
def fk (v1:Sub) (v2:Event) (bA:List Int) (bg:List Int) (aT:List (Int×al)) (aS:List (Int×Sub)) (b8:List (Int×Bool)) (ch:List ((List UInt8)×Int)) (bS:List (Int×Int)):Option (Sub×(List ((List UInt8)×Int))) :=
 if (v2.kind==5)=true then ((eJ v1.numbers v2.number).bind λy1=>some ((⟨v1.id,v1.aq,v1.since,v1.vS,y1,v1.cA,v1.bn,v1.family⟩:Sub),c8 ch v2.number v2.sub)) else if (v2.kind==6)=true then ((iB v1.numbers v2.number).bind λy2=>some ((⟨v1.id,v1.aq,v1.since,v1.vS,y2,v1.cA,v1.bn,v1.family⟩:Sub),fz ch v2.number)) else if (v2.kind==7)=true then some ((⟨v1.id,v1.aq,v1.since,v2.name,v1.numbers,v1.cA,v1.bn,v1.family⟩:Sub),ch) else if (v2.kind==8)=true then ((eJ v1.cA v2.name).bind λy3=>some ((⟨v1.id,v1.aq,v1.since,v1.vS,v1.numbers,y3,v1.bn,v1.family⟩:Sub),ch)) else if (v2.kind==9)=true then ((iB v1.cA v2.name).bind λy4=>some ((⟨v1.id,v1.aq,v1.since,v1.vS,v1.numbers,y4,v1.bn,v1.family⟩:Sub),ch)) else if (v2.kind==10)=true then some ((⟨v1.id,v1.aq,v1.since,v1.vS,v1.numbers,v1.cA,true,v1.family⟩:Sub),ch) else if (v2.kind==11)=true then some ((⟨v1.id,v1.aq,v1.since,v1.vS,v1.numbers,v1.cA,false,v1.family⟩:Sub),ch) else if (v2.kind==12)=true then some ((⟨v1.id,v1.aq,v1.since,v1.vS,v1.numbers,v1.cA,v1.bn,true⟩:Sub),ch) else if (v2.kind==13)=true then some ((⟨v1.id,v1.aq,v1.since,v1.vS,v1.numbers,v1.cA,v1.bn,false⟩:Sub),ch) else some (v1,ch)
def dp (v1:Event) (bg:List Int) (aT:List (Int×al)) (aS:List (Int×Sub)) (b8:List (Int×Bool)) (ch:List ((List UInt8)×Int)) (bS:List (Int×Int)) (AE:List Int):Option ((List Int)×(List Int)×(List (Int×al))×(List (Int×Sub))×(List (Int×Bool))×(List ((List UInt8)×Int))×(List (Int×Int))) :=
 some (AE,bg,c8 aT v1.aq (⟨v1.aq,v1.at_,v1.value,(v1.name==([112,114,101,112,97,105,100]:List UInt8)),false,([]:List Int)⟩:al),aS,b8,ch,bS)
def dq (v1:Event) (bA:List Int) (aT:List (Int×al)) (aS:List (Int×Sub)) (b8:List (Int×Bool)) (ch:List ((List UInt8)×Int)) (bS:List (Int×Int)) (AF:List Int):Option ((List Int)×(List Int)×(List (Int×al))×(List (Int×Sub))×(List (Int×Bool))×(List ((List UInt8)×Int))×(List (Int×Int))) :=
 ck (cV (((aC bS v1.aq).getD 0)+1)) (some (bA,AF,aT,c8 aS v1.sub (⟨v1.sub,v1.aq,v1.at_,v1.name,([]:List (List UInt8)),([]:List (List UInt8)),false,false⟩:Sub),c8 b8 v1.sub true,ch,c8 bS v1.aq (((aC bS v1.aq).getD 0)+1)))
def cH (v1:Event) (bA:List Int) (bg:List Int) (aT:List (Int×al)) (aS:List (Int×Sub)) (b8:List (Int×Bool)) (bS:List (Int×Int)) (yp:List ((List UInt8)×Int)):Option ((List Int)×(List Int)×(List (Int×al))×(List (Int×Sub))×(List (Int×Bool))×(List ((List UInt8)×Int))×(List (Int×Int))) :=
 ck (cV (((aC bS ((aC aS v1.sub).getD (⟨0,0,0,([]:List UInt8),([]:List (List UInt8)),([]:List (List UInt8)),false,false⟩:Sub)).aq).getD 0) - 1)) (some (bA,bg,aT,fz aS v1.sub,b8,yp,c8 bS ((aC aS v1.sub).getD (⟨0,0,0,([]:List UInt8),([]:List (List UInt8)),([]:List (List UInt8)),false,false⟩:Sub)).aq (((aC bS ((aC aS v1.sub).getD (⟨0,0,0,([]:List UInt8),([]:List (List UInt8)),([]:List (List UInt8)),false,false⟩:Sub)).aq).getD 0) - 1)))
def fa (v1:Event) (bA:List Int) (bg:List Int) (aT:List (Int×al)) (aS:List (Int×Sub)) (b8:List (Int×Bool)) (bS:List (Int×Int)) (qj:Int) (nr:List ((List UInt8)×Int)):Option ((Int×(List ((List UInt8)×Int))) ⊕ ((List Int)×(List Int)×(List (Int×al))×(List (Int×Sub))×(List (Int×Bool))×(List ((List UInt8)×Int))×(List (Int×Int)))) :=
 if (decide (qj<((((aC aS v1.sub).getD (⟨0,0,0,([]:List UInt8),([]:List (List UInt8)),([]:List (List UInt8)),false,false⟩:Sub)).numbers).length:Int)))=true then (ck ((0:Int)<=qj/\qj<((((aC aS v1.sub).getD (⟨0,0,0,([]:List UInt8),([]:List (List UInt8)),([]:List (List UInt8)),false,false⟩:Sub)).numbers).length:Int)) (ck (cV (qj+1)) (some (.inl (qj+1,fz nr (nth ((aC aS v1.sub).getD (⟨0,0,0,([]:List UInt8),([]:List (List UInt8)),([]:List (List UInt8)),false,false⟩:Sub)).numbers qj.toNat)))))) else (cH v1 bA bg aT aS b8 bS nr).map (λz=>.inr z)
def dr (v1:Event) (bA:List Int) (bg:List Int) (aT:List (Int×al)) (aS:List (Int×Sub)) (b8:List (Int×Bool)) (ch:List ((List UInt8)×Int)) (bS:List (Int×Int)) (CH:Bool):Option ((List Int)×(List Int)×(List (Int×al))×(List (Int×Sub))×(List (Int×Bool))×(List ((List UInt8)×Int))×(List (Int×Int))) :=
 if CH=true then some (bA,bg,aT,aS,b8,ch,bS) else if ((aC aS v1.sub).isSome)=true then ((fk ((aC aS v1.sub).getD (⟨0,0,0,([]:List UInt8),([]:List (List UInt8)),([]:List (List UInt8)),false,false⟩:Sub)) v1 bA bg aT aS b8 ch bS).bind λy3=>some (bA,bg,aT,c8 aS v1.sub y3.1,b8,y3.2,bS)) else some (bA,bg,aT,aS,b8,ch,bS)
def eZ (v1:Event) (bA:List Int) (bg:List Int) (aT:List (Int×al)) (aS:List (Int×Sub)) (b8:List (Int×Bool)) (ch:List ((List UInt8)×Int)) (bS:List (Int×Int)):Option ((List Int)×(List Int)×(List (Int×al))×(List (Int×Sub))×(List (Int×Bool))×(List ((List UInt8)×Int))×(List (Int×Int))) :=
 if (v1.kind==1)=true then (if (!(aC aT v1.aq).isSome)=true then ((fO bA v1.aq).bind λy1=>dp v1 bg aT aS b8 ch bS y1) else dp v1 bg aT aS b8 ch bS bA) else if (v1.kind==2)=true then some (bA,bg,c8 aT v1.aq (⟨((aC aT v1.aq).getD (⟨0,0,0,false,false,([]:List Int)⟩:al)).id,((aC aT v1.aq).getD (⟨0,0,0,false,false,([]:List Int)⟩:al)).since,((aC aT v1.aq).getD (⟨0,0,0,false,false,([]:List Int)⟩:al)).anchor,((aC aT v1.aq).getD (⟨0,0,0,false,false,([]:List Int)⟩:al)).fX,true,((aC aT v1.aq).getD (⟨0,0,0,false,false,([]:List Int)⟩:al)).bh⟩:al),aS,b8,ch,bS) else if (v1.kind==3)=true then (if (!((aC b8 v1.sub).getD false))=true then ((fO bg v1.sub).bind λy2=>dq v1 bA aT aS b8 ch bS y2) else dq v1 bA aT aS b8 ch bS bg) else if (v1.kind==4)=true then (loop (λs=>fa v1 bA bg aT aS b8 bS s.1 s.2) (0,ch)) else if (v1.kind==14)=true then (dr v1 bA bg aT aS b8 ch bS (v1.kind==14)) else dr v1 bA bg aT aS b8 ch bS (v1.kind==15)
def jv (e:Event) (z8:List Int) (Aa:List Int) (aS:List (Int×al)) (b8:List (Int×Sub)) (ch:List (Int×Bool)) (bS:List ((List UInt8)×Int)) (Ab:List (Int×Int)):Option ((List Int)×(List Int)×(List (Int×al))×(List (Int×Sub))×(List (Int×Bool))×(List ((List UInt8)×Int))×(List (Int×Int))) :=
 (eZ e z8 Aa aS b8 ch bS Ab).bind λy1=>some (y1.1,y1.2.1,y1.2.2.1,y1.2.2.2.1,y1.2.2.2.2.1,y1.2.2.2.2.2.1,y1.2.2.2.2.2.2)
def kc (oz:List Event) (uT:Int) (bu:Int) (qk:List Int) (fB:List Int) (bX:List (Int×al)) (AG:List (Int×Sub)) (nr:List (Int×Bool)) (AI:List ((List UInt8)×Int)) (AJ:List (Int×Int)):Option ((Int×List Int×List Int×(List (Int×al))×(List (Int×Sub))×(List (Int×Bool))×(List ((List UInt8)×Int))×(List (Int×Int))) ⊕ ((List Int)×(List Int)×(List (Int×al))×(List (Int×Sub))×(List (Int×Bool))×(List ((List UInt8)×Int))×(List (Int×Int)))) :=
 if (decide (bu<(oz.length:Int)))=true then (ck ((0:Int)<=bu/\bu<(oz.length:Int)) (if (decide (((nth oz bu.toNat).at_)<=uT))=true then ((jv (nth oz bu.toNat) qk fB bX AG nr AI AJ).bind λy1=>ck (cV (bu+1)) (some (.inl (bu+1,y1.1,y1.2.1,y1.2.2.1,y1.2.2.2.1,y1.2.2.2.2.1,y1.2.2.2.2.2.1,y1.2.2.2.2.2.2)))) else ck (cV (bu+1)) (some (.inl (bu+1,qk,fB,bX,AG,nr,AI,AJ))))) else some (.inr (qk,fB,bX,AG,nr,AI,AJ))
def iC (oz:List Event) (uT:Int) (z8:List Int) (Aa:List Int) (aS:List (Int×al)) (b8:List (Int×Sub)) (ch:List (Int×Bool)) (bS:List ((List UInt8)×Int)) (Ab:List (Int×Int)):Option ((List Int)×(List Int)×(List (Int×al))×(List (Int×Sub))×(List (Int×Bool))×(List ((List UInt8)×Int))×(List (Int×Int))) :=
 loop (λs=>kc oz uT s.1 s.2.1 s.2.2.1 s.2.2.2.1 s.2.2.2.2.1 s.2.2.2.2.2.1 s.2.2.2.2.2.2.1 s.2.2.2.2.2.2.2) (0,z8,Aa,aS,b8,ch,bS,Ab)
def dQ (bA:List Int) (aT:List (Int×al)) (ql:List Sub) (nt:List (Int×(List Int))) (gh:Int) (wY:List al):Option ((Int×List al) ⊕ cj) :=
 if (decide (gh<(bA.length:Int)))=true then (ck ((0:Int)<=gh/\gh<(bA.length:Int)) (ck (wY.length+([(⟨((aC aT (nth bA gh.toNat)).getD (⟨0,0,0,false,false,([]:List Int)⟩:al)).id,((aC aT (nth bA gh.toNat)).getD (⟨0,0,0,false,false,([]:List Int)⟩:al)).since,((aC aT (nth bA gh.toNat)).getD (⟨0,0,0,false,false,([]:List Int)⟩:al)).anchor,((aC aT (nth bA gh.toNat)).getD (⟨0,0,0,false,false,([]:List Int)⟩:al)).fX,((aC aT (nth bA gh.toNat)).getD (⟨0,0,0,false,false,([]:List Int)⟩:al)).closed,(aC nt (nth bA gh.toNat)).getD ([]:List Int)⟩:al)]:List al).length<=1000000000) (ck (cV (gh+1)) (some (.inl (gh+1,wY++([(⟨((aC aT (nth bA gh.toNat)).getD (⟨0,0,0,false,false,([]:List Int)⟩:al)).id,((aC aT (nth bA gh.toNat)).getD (⟨0,0,0,false,false,([]:List Int)⟩:al)).since,((aC aT (nth bA gh.toNat)).getD (⟨0,0,0,false,false,([]:List Int)⟩:al)).anchor,((aC aT (nth bA gh.toNat)).getD (⟨0,0,0,false,false,([]:List Int)⟩:al)).fX,((aC aT (nth bA gh.toNat)).getD (⟨0,0,0,false,false,([]:List Int)⟩:al)).closed,(aC nt (nth bA gh.toNat)).getD ([]:List Int)⟩:al)]:List al))))))) else some (.inr (⟨wY,ql⟩:cj))
def cQ (bA:List Int) (aT:List (Int×al)) (ql:List Sub) (nt:List (Int×(List Int))):Option cj :=
 loop (λs=>dQ bA aT ql nt s.1 s.2) (0,([]:List al))
def cR (bA:List Int) (bg:List Int) (aT:List (Int×al)) (aS:List (Int×Sub)) (dz:Int) (kB:List Sub) (gi:List (Int×(List Int))):Option ((Int×List Sub×(List (Int×(List Int)))) ⊕ cj) :=
 if (decide (dz<(bg.length:Int)))=true then (ck ((0:Int)<=dz/\dz<(bg.length:Int)) (if (!(aC aS (nth bg dz.toNat)).isSome)=true then (ck (cV (dz+1)) (some (.inl (dz+1,kB,gi)))) else ck (((aC gi ((aC aS (nth bg dz.toNat)).getD (⟨0,0,0,([]:List UInt8),([]:List (List UInt8)),([]:List (List UInt8)),false,false⟩:Sub)).aq).getD ([]:List Int)).length+([nth bg dz.toNat]:List Int).length<=1000000000) (ck (kB.length+([(aC aS (nth bg dz.toNat)).getD (⟨0,0,0,([]:List UInt8),([]:List (List UInt8)),([]:List (List UInt8)),false,false⟩:Sub)]:List Sub).length<=1000000000) (ck (cV (dz+1)) (some (.inl (dz+1,kB++([(aC aS (nth bg dz.toNat)).getD (⟨0,0,0,([]:List UInt8),([]:List (List UInt8)),([]:List (List UInt8)),false,false⟩:Sub)]:List Sub),c8 gi ((aC aS (nth bg dz.toNat)).getD (⟨0,0,0,([]:List UInt8),([]:List (List UInt8)),([]:List (List UInt8)),false,false⟩:Sub)).aq (((aC gi ((aC aS (nth bg dz.toNat)).getD (⟨0,0,0,([]:List UInt8),([]:List (List UInt8)),([]:List (List UInt8)),false,false⟩:Sub)).aq).getD ([]:List Int))++([nth bg dz.toNat]:List Int))))))))) else (cQ bA aT kB gi).map (λz=>.inr z)
def eP (bA:List Int) (bg:List Int) (aT:List (Int×al)) (aS:List (Int×Sub)) (b8:List (Int×Bool)) (ch:List ((List UInt8)×Int)) (bS:List (Int×Int)):Option cj :=
 loop (λs=>cR bA bg aT aS s.1 s.2.1 s.2.2) (0,([]:List Sub),([]:List (Int×(List Int))))
def eh (aH:List Event) (GA:Int):Option cj :=
 (og).bind λy1=>(pw aH GA).bind λy2=>(iC y2.1 y2.2 ([]:List Int) ([]:List Int) y1.1 y1.2.1 y1.2.2.1 y1.2.2.2.1 y1.2.2.2.2).bind λy3=>(eP y3.1 y3.2.1 y3.2.2.1 y3.2.2.2.1 y3.2.2.2.2.1 y3.2.2.2.2.2.1 y3.2.2.2.2.2.2).bind λy4=>some y4
def gM (y1:cj) (kL:Int) (uU:Int) (eO:List ((List UInt8)×Int)):Option ((Int×(List ((List UInt8)×Int))) ⊕ ((Int×(List ((List UInt8)×Int))) ⊕ (List ((List UInt8)×Int)))) :=
 if (decide (uU<(((nth y1.bh kL.toNat).numbers).length:Int)))=true then (ck ((0:Int)<=uU/\uU<(((nth y1.bh kL.toNat).numbers).length:Int)) (ck (cV (uU+1)) (some (.inl (uU+1,c8 eO (nth (nth y1.bh kL.toNat).numbers uU.toNat) (nth y1.bh kL.toNat).id))))) else ck (cV (kL+1)) (some (.inr (.inl (kL+1,eO))))
def gN (y1:cj) (kL:Int) (dw:List ((List UInt8)×Int)):Option ((Int×(List ((List UInt8)×Int))) ⊕ (List ((List UInt8)×Int))) :=
 if (decide (kL<(y1.bh.length:Int)))=true then (ck ((0:Int)<=kL/\kL<(y1.bh.length:Int)) (loop (λs=>gM y1 kL s.1 s.2) (0,dw))) else some (.inr dw)
def jw (aH:List Event) (GA:Int):Option (List ((List UInt8)×Int)) :=
 (eh aH GA).bind λy1=>loop (λs=>gN y1 s.1 s.2) (0,([]:List ((List UInt8)×Int)))
def mS (aH:List Event) (eD:List UInt8) (I6:Int):Option (Int×Bool) :=
 (jw aH I6).bind λy1=>some ((aC y1 eD).getD 0,(aC y1 eD).isSome)
def kf (wZ:Int) (y1:cj) (dN:Int):Option (Int ⊕ (Sub×Bool)) :=
 if (decide (dN<(y1.bh.length:Int)))=true then (ck ((0:Int)<=dN/\dN<(y1.bh.length:Int)) (if (((nth y1.bh dN.toNat).id)==wZ)=true then some (.inr (nth y1.bh dN.toNat,true)) else ck (cV (dN+1)) (some (.inl (dN+1))))) else some (.inr ((⟨0,0,0,([]:List UInt8),([]:List (List UInt8)),([]:List (List UInt8)),false,false⟩:Sub),false))
def nu (aH:List Event) (wZ:Int) (I6:Int):Option (Sub×Bool) :=
 (eh aH I6).bind λy1=>loop (λs=>kf wZ y1 s) 0
def iQ (VD:kv):Option (Sub×Bool) :=
 (gg VD.source).bind λy1=>(mS VD.events y1 VD.source.record.start).bind λy2=>if (!y2.2)=true then some ((⟨0,0,0,([]:List UInt8),([]:List (List UInt8)),([]:List (List UInt8)),false,false⟩:Sub),false) else (nu VD.events y2.1 VD.source.record.start).bind λy3=>some (y3.1,y3.2)
def jL (cm:dv) (wZ:Int) (Fz:Sub):Option aE :=
 some (⟨wZ,cm.record.kind,Fz.aq,Fz.id,cm.record.a,cm.record.b,cm.record.start,cm.record.cz,cm.record.cF,cm.record.bT,cm.record.source,cm.record.az⟩:aE)
def gj (aH:List Event) (TF:aa) (Uq:Int):Option (aE×Int) :=
 (dJ TF).bind λy1=>if (y1 != 0)=true then some ((⟨0,0,0,0,([]:List UInt8),([]:List UInt8),0,0,0,false,0,0⟩:aE),y1) else if (TF.part != 0)=true then some ((⟨0,0,0,0,([]:List UInt8),([]:List UInt8),0,0,0,false,0,0⟩:aE),8) else (iQ (⟨(⟨TF⟩:dv),aH⟩:kv)).bind λy2=>if (!y2.2)=true then some ((⟨0,0,0,0,([]:List UInt8),([]:List UInt8),0,0,0,false,0,0⟩:aE),11) else if (y2.1.bn && (!TF.bT))=true then some ((⟨0,0,0,0,([]:List UInt8),([]:List UInt8),0,0,0,false,0,0⟩:aE),16) else (jL (⟨TF⟩:dv) Uq y2.1).bind λy3=>some (y3,0)
def ly (aH:List Event) (By:ag):Option ((List Range)×(List aa)×(List Head)×(List aE)×(List ai)×(List Event)×(List aa)) :=
 (iV By.aw.seen).bind λy1=>(fj By.aw.open_).bind λy2=>(nj By.aw.aK).bind λy3=>(td By.usages).bind λy4=>(oT By.ba).bind λy5=>some (y1,y2,y3,y4,y5,aH,By.aB)
def di (bc:List aa) (bg:List Event) (bl:List aE) (eW:List aa) (bR:Int):Option ((List aE×List aa×Int) ⊕ ((List aE)×(List aa))) :=
 if (decide (bR<(bc.length:Int)))=true then (ck ((0:Int)<=bR/\bR<(bc.length:Int)) (ck (cV ((bl.length:Int)+1)) ((gj bg (nth bc bR.toNat) ((bl.length:Int)+1)).bind λy1=>if (y1.2==0)=true then (ck (bl.length+([y1.1]:List aE).length<=1000000000) (ck (cV (bR+1)) (some (.inl (bl++([y1.1]:List aE),eW,bR+1))))) else ck (eW.length+([nth bc bR.toNat]:List aa).length<=1000000000) (ck (cV (bR+1)) (some (.inl (bl,eW++([nth bc bR.toNat]:List aa),bR+1))))))) else some (.inr (bl,eW))
def fP (bc:List aa) (c9:List Range) (oX:List aa) (oY:List Head) (bg:List Event) (aX:List aE) (kK:List aa) (uV:List ai):Option ((List aE)×(List aa)) :=
 loop (λs=>di bc bg s.1 s.2.1 s.2.2) (aX,kK,0)
def ei (v0:List Event) (v1:ag) (v2:Batch) (v3:b9):Option (ag×Int) :=
 (mu v1.aw v2 v3).bind λy1=>if (y1.2.2.2 != 0)=true then some ((⟨(⟨([]:List Range),([]:List aa),([]:List Head)⟩:aI),([]:List aE),([]:List aa),([]:List ai)⟩:ag),y1.2.2.2) else (ly v0 v1).bind λy2=>(fj y2.2.2.2.2.2.2).bind λy3=>ck (y2.2.2.2.2.1.length+y1.2.2.1.length<=1000000000) ((fP y1.2.1 y1.1.seen y1.1.open_ y1.1.aK y2.2.2.2.2.2.1 y2.2.2.2.1 y3 (y2.2.2.2.2.1++y1.2.2.1)).bind λy4=>some ((⟨y1.1,y4.1,y4.2,y2.2.2.2.2.1++y1.2.2.1⟩:ag),0))
def lz (aU:List Range) (oZ:Int) (bu:Int):Option ((Int×Int) ⊕ Int) :=
 if (decide (bu<(aU.length:Int)))=true then (ck ((0:Int)<=bu/\bu<(aU.length:Int)) (ck (cV ((nth aU bu.toNat).ia - (nth aU bu.toNat).from_)) (ck (cV (((nth aU bu.toNat).ia - (nth aU bu.toNat).from_)+1)) (ck (cV (oZ+(((nth aU bu.toNat).ia - (nth aU bu.toNat).from_)+1))) (ck (cV (bu+1)) (some (.inl (oZ+(((nth aU bu.toNat).ia - (nth aU bu.toNat).from_)+1),bu+1)))))))) else some (.inr oZ)
def o5 (aU:List Range):Option Int :=
 loop (λs=>lz aU s.1 s.2) (0,0)
def gl (de:ag) (re:Int):Option bw :=
 (o5 de.aw.seen).bind λy1=>ck (cV (y1-(de.usages.length:Int))) (ck (cV ((y1-(de.usages.length:Int)) - (de.aB.length:Int))) (ck (cV (((y1-(de.usages.length:Int)) - (de.aB.length:Int)) - (de.aw.open_.length:Int))) (some (⟨re,(de.usages.length:Int),((y1-(de.usages.length:Int)) - (de.aB.length:Int)) - (de.aw.open_.length:Int),(de.ba.length:Int),(de.aB.length:Int),(de.aw.open_.length:Int)⟩:bw))))
def gn (de:ag) (uW:Int) (bX:Int):Option ((Int×Int) ⊕ bw) :=
 if (decide (uW<(de.aw.aK.length:Int)))=true then (ck ((0:Int)<=uW/\uW<(de.aw.aK.length:Int)) (ck (cV (bX+((nth de.aw.aK uW.toNat).count))) (ck (cV (uW+1)) (some (.inl (uW+1,bX+((nth de.aw.aK uW.toNat).count))))))) else (gl de bX).map (λz=>.inr z)
def cO (de:ag):Option bw :=
 loop (λs=>gn de s.1 s.2) (0,0)
def iR (aH:List Event) (By:ag):Option ((List Range)×(List aa)×(List Head)×(List aE)×(List ai)×(List Event)×(List aa)) :=
 (iV By.aw.seen).bind λy1=>(fj By.aw.open_).bind λy2=>(nj By.aw.aK).bind λy3=>(td By.usages).bind λy4=>(oT By.ba).bind λy5=>some (y1,y2,y3,y4,y5,aH,By.aB)
def cT (bc:List aa) (bg:List Event) (bl:List aE) (bR:Int) (iI:List aa):Option ((List aE×Int×List aa) ⊕ ((List aE)×(List aa))) :=
 if (decide (bR<(bc.length:Int)))=true then (ck ((0:Int)<=bR/\bR<(bc.length:Int)) (ck (cV ((bl.length:Int)+1)) ((gj bg (nth bc bR.toNat) ((bl.length:Int)+1)).bind λy1=>if (y1.2==0)=true then (ck (bl.length+([y1.1]:List aE).length<=1000000000) (ck (cV (bR+1)) (some (.inl (bl++([y1.1]:List aE),bR+1,iI))))) else ck (iI.length+([nth bc bR.toNat]:List aa).length<=1000000000) (ck (cV (bR+1)) (some (.inl (bl,bR+1,iI++([nth bc bR.toNat]:List aa)))))))) else some (.inr (bl,iI))
def eQ (bc:List aa) (c9:List Range) (oX:List aa) (oY:List Head) (bA:List ai) (bg:List Event) (aX:List aE) (kK:List aa):Option ((List aE)×(List aa)) :=
 loop (λs=>cT bc bg s.1 s.2.1 s.2.2) (aX,0,kK)
def gq (aH:List Event) (By:ag):Option ag :=
 (iR aH By).bind λy1=>(eQ y1.2.2.2.2.2.2 y1.1 y1.2.1 y1.2.2.1 y1.2.2.2.2.1 y1.2.2.2.2.2.1 y1.2.2.2.1 ([]:List aa)).bind λy2=>some (⟨(⟨y1.1,y1.2.1,y1.2.2.1⟩:aI),y2.1,y2.2,y1.2.2.2.2.1⟩:ag)
def lA (aU:List Range) (bu:Int):Option (Int ⊕ Bool) :=
 if (decide (bu<(aU.length:Int)))=true then (ck ((0:Int)<=bu/\bu<(aU.length:Int)) ((dI (nth aU bu.toNat).source (nth aU bu.toNat).from_).bind λy1=>(bH (!(!y1)) (dI (nth aU bu.toNat).source (nth aU bu.toNat).ia)).bind λy2=>if (((!y1) || (!y2)) || (decide ((nth aU bu.toNat).from_ > (nth aU bu.toNat).ia)))=true then some (.inr false) else if (decide (bu > 0))=true then (ck (cV (bu-1)) (ck ((0:Int)<=(bu-1)/\(bu-1)<(aU.length:Int)) (ck (((!(decide ((nth aU (bu-1).toNat).source > (nth aU bu.toNat).source))) && (((nth aU (bu-1).toNat).source)==((nth aU bu.toNat).source)))=true->(cV (((nth aU (bu-1).toNat).ia)+1))) (if ((decide ((nth aU (bu-1).toNat).source > (nth aU bu.toNat).source)) || ((((nth aU (bu-1).toNat).source)==((nth aU bu.toNat).source)) && (decide ((((nth aU (bu-1).toNat).ia)+1)>=((nth aU bu.toNat).from_)))))=true then some (.inr false) else ck (cV (bu+1)) (some (.inl (bu+1))))))) else ck (cV (bu+1)) (some (.inl (bu+1))))) else some (.inr true)
def mD (aU:List Range):Option Bool :=
 loop (λs=>lA aU s) 0
def pz (zA:List aa) (CI:List aa) (bL:Int):Option (Int ⊕ Bool) :=
 if (decide (bL<(zA.length:Int)))=true then (ck ((0:Int)<=bL/\bL<(zA.length:Int)) (ck ((0:Int)<=bL/\bL<(CI.length:Int)) (if (!(dO (aa.bJ (nth zA bL.toNat)) (aa.bJ (nth CI bL.toNat))))=true then some (.inr false) else ck (cV (bL+1)) (some (.inl (bL+1)))))) else some (.inr true)
def qm (zA:List aa) (CI:List aa):Option Bool :=
 if ((zA.length:Int) != (CI.length:Int))=true then some false else loop (λs=>pz zA CI s) 0
def jh (bW:aI) (ln:List (bo×Bool)):Option Bool :=
 (jg ([]:List aa) bW.open_).bind λy1=>(bH ((y1.1.length:Int)==0) (qm y1.2 bW.open_)).bind λy2=>some (((y1.1.length:Int)==0) && y2)
def oh (bW:aI) (bL:Int) (cE:List (bo×Bool)):Option ((Int×(List (bo×Bool))) ⊕ Bool) :=
 if (decide (bL<(bW.open_.length:Int)))=true then (ck ((0:Int)<=bL/\bL<(bW.open_.length:Int)) ((bH (!(((nth bW.open_ bL.toNat).part)==0)) (dJ (nth bW.open_ bL.toNat))).bind λy3=>(bH (!(((((nth bW.open_ bL.toNat).part)==0) || (y3 != 0)) || ((aC cE (⟨(nth bW.open_ bL.toNat).source,(nth bW.open_ bL.toNat).az⟩:bo)).getD false))) (nn bW.seen (nth bW.open_ bL.toNat).source (nth bW.open_ bL.toNat).az)).bind λy4=>if ((((((nth bW.open_ bL.toNat).part)==0) || (y3 != 0)) || ((aC cE (⟨(nth bW.open_ bL.toNat).source,(nth bW.open_ bL.toNat).az⟩:bo)).getD false)) || (!y4))=true then some (.inr false) else ck (cV (bL+1)) (some (.inl (bL+1,c8 cE (⟨(nth bW.open_ bL.toNat).source,(nth bW.open_ bL.toNat).az⟩:bo) true))))) else (jh bW cE).map (λz=>.inr z)
def mE (bW:aI):Option Bool :=
 loop (λs=>oh bW s.1 s.2) (0,([]:List (bo×Bool)))
def db (v0:List Head) (bG:Int) (dw:List (Int×Int)):Option ((Int×(List (Int×Int))) ⊕ (List (Int×Int))) :=
 if (decide (bG<(v0.length:Int)))=true then (ck ((0:Int)<=bG/\bG<(v0.length:Int)) (ck ((0:Int)<=bG/\bG<=(v0.length:Int)) ((hG (⟨([]:List Range),([]:List aa),v0.take bG.toNat⟩:aI) (nth v0 bG.toNat).source).bind λy1=>if ((((((((!(dO (Head.bJ (nth v0 bG.toNat)) (Head.bJ (⟨(nth v0 bG.toNat).source,y1,(nth v0 bG.toNat).format,(nth v0 bG.toNat).count⟩:Head)))) || (decide ((nth v0 bG.toNat).source<1))) || (decide ((nth v0 bG.toNat).source > 99))) || (decide ((nth v0 bG.toNat).format<1))) || (decide (((nth v0 bG.toNat).format)>=4))) || (decide ((nth v0 bG.toNat).count<0))) || (decide ((nth v0 bG.toNat).count > 4096))) || (decide ((nth v0 bG.toNat).number > 999999999)))=true then none else ck (cV (((aC dw (nth v0 bG.toNat).source).getD 0)+((nth v0 bG.toNat).count))) (ck (cV (bG+1)) (some (.inl (bG+1,c8 dw (nth v0 bG.toNat).source (((aC dw (nth v0 bG.toNat).source).getD 0)+((nth v0 bG.toNat).count))))))))) else some (.inr dw)
def jx (v0:List Head):Option (List (Int×Int)) :=
 loop (λs=>db v0 s.1 s.2) (0,([]:List (Int×Int)))
def dx (v0:List Head) (bG:Int) (dw:List (Int×Int)):Option ((Int×(List (Int×Int))) ⊕ Unit) :=
 if (decide (bG<(v0.length:Int)))=true then (ck ((0:Int)<=bG/\bG<(v0.length:Int)) (ck ((0:Int)<=bG/\bG<=(v0.length:Int)) ((hG (⟨([]:List Range),([]:List aa),v0.take bG.toNat⟩:aI) (nth v0 bG.toNat).source).bind λy1=>if ((((((((!(dO (Head.bJ (nth v0 bG.toNat)) (Head.bJ (⟨(nth v0 bG.toNat).source,y1,(nth v0 bG.toNat).format,(nth v0 bG.toNat).count⟩:Head)))) || (decide ((nth v0 bG.toNat).source<1))) || (decide ((nth v0 bG.toNat).source > 99))) || (decide ((nth v0 bG.toNat).format<1))) || (decide (((nth v0 bG.toNat).format)>=4))) || (decide ((nth v0 bG.toNat).count<0))) || (decide ((nth v0 bG.toNat).count > 4096))) || (decide ((nth v0 bG.toNat).number > 999999999)))=true then some (.inr ()) else ck (cV (((aC dw (nth v0 bG.toNat).source).getD 0)+((nth v0 bG.toNat).count))) (ck (cV (bG+1)) (some (.inl (bG+1,c8 dw (nth v0 bG.toNat).source (((aC dw (nth v0 bG.toNat).source).getD 0)+((nth v0 bG.toNat).count))))))))) else none
def mT (v0:List Head):Option Unit :=
 loop (λs=>dx v0 s.1 s.2) (0,([]:List (Int×Int)))
def kg (bW:aI) (y1:(List (Int×Int))) (dy:Int) (bX:List (Int×Int)):Option ((Int×(List (Int×Int))) ⊕ Bool) :=
 if (decide (dy<(bW.seen.length:Int)))=true then (ck ((0:Int)<=dy/\dy<(bW.seen.length:Int)) (ck (cV ((nth bW.seen dy.toNat).ia - (nth bW.seen dy.toNat).from_)) (ck (cV (((nth bW.seen dy.toNat).ia - (nth bW.seen dy.toNat).from_)+1)) (ck (cV (((aC bX (nth bW.seen dy.toNat).source).getD 0)+(((nth bW.seen dy.toNat).ia - (nth bW.seen dy.toNat).from_)+1))) (if (decide (((aC (c8 bX (nth bW.seen dy.toNat).source (((aC bX (nth bW.seen dy.toNat).source).getD 0)+(((nth bW.seen dy.toNat).ia - (nth bW.seen dy.toNat).from_)+1))) (nth bW.seen dy.toNat).source).getD 0) > ((aC y1 (nth bW.seen dy.toNat).source).getD 0)))=true then some (.inr false) else ck (cV (dy+1)) (some (.inl (dy+1,c8 bX (nth bW.seen dy.toNat).source (((aC bX (nth bW.seen dy.toNat).source).getD 0)+(((nth bW.seen dy.toNat).ia - (nth bW.seen dy.toNat).from_)+1)))))))))) else some (.inr true)
def nv (bW:aI):Option Bool :=
 if ((jx bW.aK).isSome)=true then ((jx bW.aK).bind λy1=>(bH (!(!true)) (mD bW.seen)).bind λy2=>(bH (!((!true) || (!y2))) (mE bW)).bind λy3=>if (((!true) || (!y2)) || (!y3))=true then some false else loop (λs=>kg bW y1 s.1 s.2) (0,([]:List (Int×Int)))) else (mT bW.aK).bind λy4=>(bH (!(!false)) (mD bW.seen)).bind λy5=>(bH (!((!false) || (!y5))) (mE bW)).bind λy6=>some false
def gV (vj:aE):Option aa :=
 some (⟨vj.source,vj.az,vj.kind,vj.a,vj.b,vj.start,vj.cz,0,0,false,vj.cF,vj.bT⟩:aa)
def gO (aN:List aE) (ew:Int):Option (Int ⊕ Bool) :=
 if (decide (ew<(aN.length:Int)))=true then (ck ((0:Int)<=ew/\ew<(aN.length:Int)) (ck (cV (ew+1)) ((bH (!((((nth aN ew.toNat).id != (ew+1)) || (decide ((if (nth aN ew.toNat).sub<(nth aN ew.toNat).aq then (nth aN ew.toNat).sub else (nth aN ew.toNat).aq)<1))) || (decide ((if (nth aN ew.toNat).sub > (nth aN ew.toNat).aq then (nth aN ew.toNat).sub else (nth aN ew.toNat).aq) > 9999)))) (gV (nth aN ew.toNat))).bind λy1=>(bH (!((((nth aN ew.toNat).id != (ew+1)) || (decide ((if (nth aN ew.toNat).sub<(nth aN ew.toNat).aq then (nth aN ew.toNat).sub else (nth aN ew.toNat).aq)<1))) || (decide ((if (nth aN ew.toNat).sub > (nth aN ew.toNat).aq then (nth aN ew.toNat).sub else (nth aN ew.toNat).aq) > 9999)))) (dJ y1)).bind λy2=>if (((((nth aN ew.toNat).id != (ew+1)) || (decide ((if (nth aN ew.toNat).sub<(nth aN ew.toNat).aq then (nth aN ew.toNat).sub else (nth aN ew.toNat).aq)<1))) || (decide ((if (nth aN ew.toNat).sub > (nth aN ew.toNat).aq then (nth aN ew.toNat).sub else (nth aN ew.toNat).aq) > 9999))) || (y2 != 0))=true then some (.inr false) else ck (cV (ew+1)) (some (.inl (ew+1)))))) else some (.inr true)
def jy (aN:List aE):Option Bool :=
 loop (λs=>gO aN s) 0
def fb (cN:List (List aa)) (bl:List aa) (sZ:Int):Option ((List aa×Int) ⊕ (List aa)) :=
 if (decide (sZ<(cN.length:Int)))=true then (ck ((0:Int)<=sZ/\sZ<(cN.length:Int)) (ck (bl.length+(nth cN sZ.toNat).length<=1000000000) (ck (cV (sZ+1)) (some (.inl (bl++(nth cN sZ.toNat),sZ+1)))))) else some (.inr bl)
def dU (cN:List (List aa)) (vU:Int):Option (List aa) :=
 (wV vU).bind λy1=>loop (λs=>fb cN s.1 s.2) (y1,0)
def dt (cN:List (List aa)) (nw:Int) (sa:Int):Option ((Int×Int) ⊕ (List aa)) :=
 if (decide (sa<(cN.length:Int)))=true then (ck ((0:Int)<=sa/\sa<(cN.length:Int)) (ck (cV (nw+((nth cN sa.toNat).length:Int))) (if (decide ((nw+((nth cN sa.toNat).length:Int))<0))=true then none else ck (cV (sa+1)) (some (.inl (nw+((nth cN sa.toNat).length:Int),sa+1)))))) else (dU cN nw).map (λz=>.inr z)
def gr (cN:List (List aa)):Option (List aa) :=
 loop (λs=>dt cN s.1 s.2) (0,0)
def gQ (de:ag) (cL:List aa) (ja:Int) (cE:List (aW×Bool)):Option ((Int×(List (aW×Bool))) ⊕ Bool) :=
 if (decide (ja<(cL.length:Int)))=true then (ck ((0:Int)<=ja/\ja<(cL.length:Int)) ((bH (!((aC cE (⟨(nth cL ja.toNat).source,(nth cL ja.toNat).az⟩:aW)).getD false)) (nn de.aw.seen (nth cL ja.toNat).source (nth cL ja.toNat).az)).bind λy2=>if (((aC cE (⟨(nth cL ja.toNat).source,(nth cL ja.toNat).az⟩:aW)).getD false) || (!y2))=true then some (.inr false) else ck (cV (ja+1)) (some (.inl (ja+1,c8 cE (⟨(nth cL ja.toNat).source,(nth cL ja.toNat).az⟩:aW) true))))) else some (.inr true)
def ey (de:ag) (cL:List aa):Option Bool :=
 loop (λs=>gQ de cL s.1 s.2) (0,([]:List (aW×Bool)))
def eA (de:ag) (nz:List aa) (vV:Int):Option ((List aa×Int) ⊕ Bool) :=
 if (decide (vV<(de.usages.length:Int)))=true then (ck ((0:Int)<=vV/\vV<(de.usages.length:Int)) ((gV (nth de.usages vV.toNat)).bind λy3=>ck (nz.length+([y3]:List aa).length<=1000000000) (ck (cV (vV+1)) (some (.inl (nz++([y3]:List aa),vV+1)))))) else (ey de nz).map (λz=>.inr z)
def jz (de:ag):Option Bool :=
 (gr ([de.aB,de.aw.open_]:List (List aa))).bind λy1=>loop (λs=>eA de s.1 s.2) (y1,0)
def iS (pF:aa):Option Bool :=
 (bH (!(pF.part != 0)) (dJ pF)).bind λy1=>some ((pF.part != 0) || (y1 != 0))
def kS (J4:ai):Option Bool :=
 some ((J4.err != 15) && (J4.err != 13))
def jA (cm:List aa) (bu:Int):Option (Int ⊕ Int) :=
 if (decide (bu<(cm.length:Int)))=true then (ck ((0:Int)<=bu/\bu<(cm.length:Int)) ((iS (nth cm bu.toNat)).bind λy1=>if y1=true then some (.inr bu) else ck (cV (bu+1)) (some (.inl (bu+1))))) else some (.inr (-1))
def pA (cm:List aa):Option Int :=
 loop (λs=>jA cm s) 0
def mv (cm:List aa):Option Bool :=
 (pA cm).bind λy1=>some (decide (y1>=0))
def ed (cm:List ai) (bu:Int):Option (Int ⊕ Int) :=
 if (decide (bu<(cm.length:Int)))=true then (ck ((0:Int)<=bu/\bu<(cm.length:Int)) ((kS (nth cm bu.toNat)).bind λy1=>if y1=true then some (.inr bu) else ck (cV (bu+1)) (some (.inl (bu+1))))) else some (.inr (-1))
def gK (cm:List ai):Option Int :=
 loop (λs=>ed cm s) 0
def ef (cm:List ai):Option Bool :=
 (gK cm).bind λy1=>some (decide (y1>=0))
def eE (de:ag):Option Bool :=
 (nv de.aw).bind λy1=>(bH (!(!y1)) (jy de.usages)).bind λy2=>(bH (!((!y1) || (!y2))) (jz de)).bind λy3=>if (((!y1) || (!y2)) || (!y3))=true then some false else (mv de.aB).bind λy4=>if y4=true then some false else (ef de.ba).bind λy5=>if y5=true then some false else (cO de).bind λy6=>ck ((decide (y6.merged>=0))=true->(cV (y6.accepted+y6.merged))) (ck ((decide (y6.merged>=0))=true->(cV ((y6.accepted+y6.merged)+y6.rejected))) (ck ((decide (y6.merged>=0))=true->(cV (((y6.accepted+y6.merged)+y6.rejected)+y6.bn))) (ck ((decide (y6.merged>=0))=true->(cV ((((y6.accepted+y6.merged)+y6.rejected)+y6.bn)+y6.open_))) (some ((decide (y6.merged>=0)) && (y6.read==((((y6.accepted+y6.merged)+y6.rejected)+y6.bn)+y6.open_)))))))
def fQ:Option Bool :=
 (qd false).bind λy1=>(ei y1 (⟨(⟨([]:List Range),([]:List aa),([]:List Head)⟩:aI),([]:List aE),([]:List aa),([]:List ai)⟩:ag) (⟨1,1,1,([(⟨1,1,2,([49]:List UInt8),([50]:List UInt8),20,1,0,0,false,0,false⟩:aa),(⟨1,2,2,([51]:List UInt8),([50]:List UInt8),20,1,0,0,false,0,false⟩:aa)]:List aa)⟩:Batch) (⟨0,100⟩:b9)).bind λy2=>(qd false).bind λy3=>(ei y3 (⟨(⟨([]:List Range),([]:List aa),([]:List Head)⟩:aI),([]:List aE),([]:List aa),([]:List ai)⟩:ag) (⟨1,1,1,([(⟨1,1,2,([49]:List UInt8),([50]:List UInt8),20,1,5,1,false,0,false⟩:aa),(⟨1,2,2,([49]:List UInt8),([50]:List UInt8),20,1,5,2,true,0,false⟩:aa)]:List aa)⟩:Batch) (⟨0,100⟩:b9)).bind λy4=>(bH (!((y2.2 != 0) || (y4.2 != 0))) (cO y2.1)).bind λy5=>(bH (!(((y2.2 != 0) || (y4.2 != 0)) || (!(dO (bw.bJ y5) (bw.bJ (⟨2,1,0,0,1,0⟩:bw)))))) (cO y4.1)).bind λy6=>if ((((y2.2 != 0) || (y4.2 != 0)) || (!(dO (bw.bJ y5) (bw.bJ (⟨2,1,0,0,1,0⟩:bw))))) || (!(dO (bw.bJ y6) (bw.bJ (⟨2,1,1,0,0,0⟩:bw)))))=true then some false else (qd true).bind λy7=>(gq y7 y2.1).bind λy8=>ck (((y8.usages.length:Int)==2)=true->((0:Int)<=1/\1<(y8.usages.length:Int))) (ck ((((y8.usages.length:Int)==2) && (((nth y8.usages (Int.toNat (1))).id)==2))=true->((0:Int)<=1/\1<(y8.usages.length:Int))) ((bH (((((y8.usages.length:Int)==2) && (((nth y8.usages (Int.toNat (1))).id)==2)) && (((nth y8.usages (Int.toNat (1))).a)==([51]:List UInt8))) && ((y8.aB.length:Int)==0)) (eE y8)).bind λy9=>ck ((((((((y8.usages.length:Int)==2) && (((nth y8.usages (Int.toNat (1))).id)==2)) && (((nth y8.usages (Int.toNat (1))).a)==([51]:List UInt8))) && ((y8.aB.length:Int)==0)) && y9) && ((y4.1.usages.length:Int)==1))=true->((0:Int)<=0/\0<(y4.1.usages.length:Int))) (some ((((((((y8.usages.length:Int)==2) && (((nth y8.usages (Int.toNat (1))).id)==2)) && (((nth y8.usages (Int.toNat (1))).a)==([51]:List UInt8))) && ((y8.aB.length:Int)==0)) && y9) && ((y4.1.usages.length:Int)==1)) && (((nth y4.1.usages (Int.toNat (0))).cz)==2)))))
def rK (mU:List Head) (vW:Int) (tU:Int) (HN:Int) (eo:Int):Option ((Int×Int) ⊕ Int) :=
 if (decide (eo<vW))=true then (ck ((0:Int)<=eo/\eo<(mU.length:Int)) (if (((nth mU eo.toNat).source)==tU)=true then (ck ((0:Int)<=eo/\eo<(mU.length:Int)) (ck (cV (((nth mU eo.toNat).number)+1)) (ck (cV (eo+1)) (some (.inl (((nth mU eo.toNat).number)+1,eo+1)))))) else ck (cV (eo+1)) (some (.inl (HN,eo+1))))) else some (.inr HN)
def rf (mU:List Head) (vW:Int) (tU:Int):Option Int :=
 loop (λs=>rK mU vW tU s.1 s.2) (1,0)
def nA (v0:aI) (bI:Int):Option (Int ⊕ Bool) :=
 if (decide (bI<(v0.aK.length:Int)))=true then (ck ((0:Int)<=bI/\bI<(v0.aK.length:Int)) ((bH (!((((decide ((nth v0.aK bI.toNat).source<1)) || (decide ((nth v0.aK bI.toNat).source > 99))) || (decide ((nth v0.aK bI.toNat).number<1))) || (decide ((nth v0.aK bI.toNat).number > 999999999)))) (rf v0.aK bI (nth v0.aK bI.toNat).source)).bind λy1=>if (((((((((decide ((nth v0.aK bI.toNat).source<1)) || (decide ((nth v0.aK bI.toNat).source > 99))) || (decide ((nth v0.aK bI.toNat).number<1))) || (decide ((nth v0.aK bI.toNat).number > 999999999))) || ((nth v0.aK bI.toNat).number != y1)) || (decide ((nth v0.aK bI.toNat).format<1))) || (decide (((nth v0.aK bI.toNat).format)>=4))) || (decide ((nth v0.aK bI.toNat).count<0))) || (decide ((nth v0.aK bI.toNat).count > 4096)))=true then some (.inr false) else ck (cV (bI+1)) (some (.inl (bI+1))))) else some (.inr true)
def sb (v0:aI):Option Bool :=
 loop (λs=>nA v0 s) 0
def jB (nk:Int) (nm:Int):Option Bool :=
 some ((((decide (nk>=1)) && (decide (nk<=99))) && (decide (nm>=1))) && (decide (nm<=999999999)))
def nB (v0:List Range) (bI:Int):Option (Int ⊕ Bool) :=
 if (decide (bI<(v0.length:Int)))=true then (ck ((0:Int)<=bI/\bI<(v0.length:Int)) ((jB (nth v0 bI.toNat).source (nth v0 bI.toNat).from_).bind λy1=>(bH (!(!y1)) (jB (nth v0 bI.toNat).source (nth v0 bI.toNat).ia)).bind λy2=>if (((!y1) || (!y2)) || (decide ((nth v0 bI.toNat).from_ > (nth v0 bI.toNat).ia)))=true then some (.inr false) else ck ((decide (bI > 0))=true->(cV (bI-1))) (ck ((decide (bI > 0))=true->((0:Int)<=(bI-1)/\(bI-1)<(v0.length:Int))) (ck (((decide (bI > 0)) && (!(decide ((nth v0 (bI-1).toNat).source > (nth v0 bI.toNat).source))))=true->(cV (bI-1))) (ck (((decide (bI > 0)) && (!(decide ((nth v0 (bI-1).toNat).source > (nth v0 bI.toNat).source))))=true->((0:Int)<=(bI-1)/\(bI-1)<(v0.length:Int))) (ck ((((decide (bI > 0)) && (!(decide ((nth v0 (bI-1).toNat).source > (nth v0 bI.toNat).source)))) && (((nth v0 (bI-1).toNat).source)==((nth v0 bI.toNat).source)))=true->(cV (bI-1))) (ck ((((decide (bI > 0)) && (!(decide ((nth v0 (bI-1).toNat).source > (nth v0 bI.toNat).source)))) && (((nth v0 (bI-1).toNat).source)==((nth v0 bI.toNat).source)))=true->((0:Int)<=(bI-1)/\(bI-1)<(v0.length:Int))) (ck ((((decide (bI > 0)) && (!(decide ((nth v0 (bI-1).toNat).source > (nth v0 bI.toNat).source)))) && (((nth v0 (bI-1).toNat).source)==((nth v0 bI.toNat).source)))=true->(cV (((nth v0 (bI-1).toNat).ia)+1))) (if ((decide (bI > 0)) && ((decide ((nth v0 (bI-1).toNat).source > (nth v0 bI.toNat).source)) || ((((nth v0 (bI-1).toNat).source)==((nth v0 bI.toNat).source)) && (decide ((((nth v0 (bI-1).toNat).ia)+1)>=((nth v0 bI.toNat).from_))))))=true then some (.inr false) else ck (cV (bI+1)) (some (.inl (bI+1)))))))))))) else some (.inr true)
def sd (v0:List Range):Option Bool :=
 loop (λs=>nB v0 s) 0
def nC (zz:Int) (On:Int) (I7:Int):Option Bool :=
 some ((decide (zz>=On)) && (decide (zz<=I7)))
def nD (cm:List UInt8):Option Bool :=
 some ((decide ((cm.length:Int)>=1)) && (decide ((cm.length:Int)<=15)))
def qn (cm:List UInt8) (bC:Int):Option (Int ⊕ Bool) :=
 if (decide (bC<(cm.length:Int)))=true then (ck ((0:Int)<=bC/\bC<(cm.length:Int)) (ck ((!(decide ((nth cm bC.toNat)<48)))=true->((0:Int)<=bC/\bC<(cm.length:Int))) (if ((decide ((nth cm bC.toNat)<48)) || (decide ((nth cm bC.toNat) > 57)))=true then some (.inr false) else ck (cV (bC+1)) (some (.inl (bC+1)))))) else (nD cm).map (λz=>.inr z)
def nE (cm:List UInt8):Option Bool :=
 loop (λs=>qn cm s) 0
def se (v0:aa):Option Int :=
 (nC v0.source 1 99).bind λy1=>(bH (!(!y1)) (nC v0.az 1 999999999)).bind λy2=>if ((!y1) || (!y2))=true then some 6 else (nC v0.kind 1 4).bind λy3=>if (!y3)=true then some 7 else (nE v0.a).bind λy4=>if (!y4)=true then some 12 else (nE v0.b).bind λy5=>if ((!y5) && ((v0.b != ([]:List UInt8)) || ((v0.kind != 3) && (v0.kind != 4))))=true then some 12 else (nC v0.start 0 12622780799).bind λy6=>if (!y6)=true then some 15 else (nC v0.cz 0 1099511627776).bind λy7=>if ((!y7) || ((v0.kind==1) && (decide (v0.cz > 604800))))=true then some 6 else ck ((v0.kind==1)=true->(cV (v0.start+v0.cz))) (if ((v0.kind==1) && (decide ((v0.start+v0.cz) > 12622780800)))=true then some 15 else (nC v0.call 0 999999999).bind λy8=>(bH (!(!y8)) (nC v0.part 0 99)).bind λy9=>if ((!y8) || (!y9))=true then some 6 else if (((v0.part==0) != (v0.call==0)) || (v0.last && (v0.part==0)))=true then some 8 else (nC v0.cF 0 999).bind λFx=>if (!Fx)=true then some 6 else if (v0.bT && (v0.cF==0))=true then some 8 else some 0)
def il (pF:aa):Option Int :=
 (se pF).bind λy1=>some y1
def qo (fu:aa) (gz:aa):Option Bool :=
 if (fu.source != gz.source)=true then some (decide (fu.source<gz.source)) else if (fu.call != gz.call)=true then some (decide (fu.call<gz.call)) else some (decide (fu.part<gz.part))
def rh (fu:aa) (gz:aa):Option Bool :=
 some ((fu.source==gz.source) && (fu.call==gz.call))
def pB (jT:List aa) (sG:aa) (ri:Bool) (mg:List Int) (eo:Int):Option ((List Int×Int) ⊕ (List Int)) :=
 if (decide (eo<(jT.length:Int)))=true then (ck ((0:Int)<=eo/\eo<(jT.length:Int)) ((rh (nth jT eo.toNat) sG).bind λy1=>ck (y1=true->((0:Int)<=eo/\eo<(jT.length:Int))) (ck (y1=true->(cV ((mg.length:Int)+1))) (if (y1 && (((nth jT eo.toNat).part)==((mg.length:Int)+1)))=true then (ck (mg.length+([eo]:List Int).length<=1000000000) (ck (ri=true->((0:Int)<=eo/\eo<(jT.length:Int))) (if (ri && (nth jT eo.toNat).last)=true then some (.inr (mg++([eo]:List Int))) else ck (cV (eo+1)) (some (.inl (mg++([eo]:List Int),eo+1)))))) else ck (cV (eo+1)) (some (.inl (mg,eo+1))))))) else some (.inr mg)
def qp (jT:List aa) (sG:aa) (ri:Bool):Option (List Int) :=
 loop (λs=>pB jT sG ri s.1 s.2) (([]:List Int),0)
def rL (aN:List aa) (lr:List Int) (dM:List aa) (o6:List aa) (uX:Int) (fm:Int):Option ((List aa×List aa×Int×Int) ⊕ ((List aa)×(List aa))) :=
 if (decide (fm<(aN.length:Int)))=true then (ck ((decide (uX<(lr.length:Int)))=true->((0:Int)<=uX/\uX<(lr.length:Int))) (if ((decide (uX<(lr.length:Int))) && ((nth lr uX.toNat)==fm))=true then (ck ((0:Int)<=fm/\fm<(aN.length:Int)) (ck (dM.length+([nth aN fm.toNat]:List aa).length<=1000000000) (ck (cV (uX+1)) (ck (cV (fm+1)) (some (.inl (dM++([nth aN fm.toNat]:List aa),o6,uX+1,fm+1))))))) else ck ((0:Int)<=fm/\fm<(aN.length:Int)) (ck (o6.length+([nth aN fm.toNat]:List aa).length<=1000000000) (ck (cV (fm+1)) (some (.inl (dM,o6++([nth aN fm.toNat]:List aa),uX,fm+1))))))) else some (.inr (dM,o6))
def tV (aN:List aa) (lr:List Int):Option ((List aa)×(List aa)) :=
 loop (λs=>rL aN lr s.1 s.2.1 s.2.2.1 s.2.2.2) (([]:List aa),([]:List aa),0,0)
def nF (v0:List aa) (ln:Int) (CJ:Int) (CK:Int) (CL:List UInt8) (CM:List UInt8) (CN:Int) (qh:Int) (zf:Int) (zg:Bool):Option (aa×Bool) :=
 some ((⟨ln,CJ,CK,CL,CM,CN,qh,0,0,false,zf,zg⟩:aa),decide ((v0.length:Int) > 0))
def qq (v0:List aa) (sN:Int) (cE:Int) (qs:Int) (qt:Int) (CO:List UInt8) (CP:List UInt8) (qk:Int) (fB:Int) (zh:Int) (zi:Bool):Option ((Int×Int×Int×Int×List UInt8×List UInt8×Int×Int×Int×Bool) ⊕ (aa×Bool)) :=
 if (decide (sN<(v0.length:Int)))=true then (ck ((0:Int)<=sN/\sN<(v0.length:Int)) ((bH (!(((nth v0 sN.toNat).part)==0)) (il (nth v0 sN.toNat))).bind λy1=>if ((((nth v0 sN.toNat).part)==0) || (y1 != 0))=true then some (.inr ((⟨0,0,0,([]:List UInt8),([]:List UInt8),0,0,0,0,false,0,false⟩:aa),false)) else ck (cV (fB+((nth v0 sN.toNat).cz))) (ck ((0:Int)<=0/\0<(v0.length:Int)) ((rh (nth v0 sN.toNat) (nth v0 (Int.toNat (0)))).bind λy2=>if ((((((!y2) || ((nth v0 sN.toNat).kind != (nth v0 (Int.toNat (0))).kind)) || ((nth v0 sN.toNat).a != (nth v0 (Int.toNat (0))).a)) || ((nth v0 sN.toNat).b != (nth v0 (Int.toNat (0))).b)) || ((nth v0 sN.toNat).cF != (nth v0 (Int.toNat (0))).cF)) || ((nth v0 sN.toNat).bT != (nth v0 (Int.toNat (0))).bT))=true then some (.inr ((⟨0,0,0,([]:List UInt8),([]:List UInt8),0,0,0,0,false,0,false⟩:aa),false)) else (il (⟨(nth v0 (Int.toNat (0))).source,(nth v0 (Int.toNat (0))).az,(nth v0 (Int.toNat (0))).kind,(nth v0 (Int.toNat (0))).a,(nth v0 (Int.toNat (0))).b,(nth v0 (Int.toNat (0))).start,fB+((nth v0 sN.toNat).cz),0,0,false,(nth v0 (Int.toNat (0))).cF,(nth v0 (Int.toNat (0))).bT⟩:aa)).bind λy3=>if (y3 != 0)=true then some (.inr ((⟨0,0,0,([]:List UInt8),([]:List UInt8),0,0,0,0,false,0,false⟩:aa),false)) else ck (cV (sN+1)) (some (.inl (sN+1,(nth v0 (Int.toNat (0))).source,(nth v0 (Int.toNat (0))).az,(nth v0 (Int.toNat (0))).kind,(nth v0 (Int.toNat (0))).a,(nth v0 (Int.toNat (0))).b,(nth v0 (Int.toNat (0))).start,fB+((nth v0 sN.toNat).cz),(nth v0 (Int.toNat (0))).cF,(nth v0 (Int.toNat (0))).bT))))))) else (nF v0 cE qs qt CO CP qk fB zh zi).map (λz=>.inr z)
def pN (v0:List aa):Option (aa×Bool) :=
 loop (λs=>qq v0 s.1 s.2.1 s.2.2.1 s.2.2.2.1 s.2.2.2.2.1 s.2.2.2.2.2.1 s.2.2.2.2.2.2.1 s.2.2.2.2.2.2.2.1 s.2.2.2.2.2.2.2.2.1 s.2.2.2.2.2.2.2.2.2) (0,0,0,0,([]:List UInt8),([]:List UInt8),0,0,0,false)
def ki (aD:List aa):Option (aa×Bool) :=
 (pN aD).bind λy1=>some (y1.1,y1.2)
def mV (aD:List aa) (cr:Int):Option (Int ⊕ (aa×Bool)) :=
 if (decide (cr<(aD.length:Int)))=true then (ck ((0:Int)<=cr/\cr<(aD.length:Int)) (ck (cV (cr+1)) (ck ((!((nth aD cr.toNat).part != (cr+1)))=true->((0:Int)<=cr/\cr<(aD.length:Int))) (ck ((!((nth aD cr.toNat).part != (cr+1)))=true->(cV (cr+1))) (if (((nth aD cr.toNat).part != (cr+1)) || ((nth aD cr.toNat).last != ((cr+1)==(aD.length:Int))))=true then some (.inr ((⟨0,0,0,([]:List UInt8),([]:List UInt8),0,0,0,0,false,0,false⟩:aa),false)) else ck (cV (cr+1)) (some (.inl (cr+1)))))))) else (ki aD).map (λz=>.inr z)
def nG (aD:List aa):Option (aa×Bool) :=
 loop (λs=>mV aD s) 0
def rM (v0:List aa) (DY:Int):Option (Int ⊕ Bool) :=
 if (decide (DY<(v0.length:Int)))=true then (ck ((0:Int)<=DY/\DY<(v0.length:Int)) ((qp v0 (nth v0 DY.toNat) true).bind λy1=>(tV v0 y1).bind λy2=>(nG y2.1).bind λy3=>if y3.2=true then some (.inr false) else ck (cV (DY+1)) (some (.inl (DY+1))))) else some (.inr true)
def mF (v0:List aa):Option Bool :=
 loop (λs=>rM v0 s) 0
def kC (v0:List aa) (mw:Int):Option (Int ⊕ Bool) :=
 if (decide (mw<(v0.length:Int)))=true then (ck ((0:Int)<=mw/\mw<(v0.length:Int)) (ck ((!(((nth v0 mw.toNat).part)==0))=true->((0:Int)<=mw/\mw<(v0.length:Int))) ((bH (!(((nth v0 mw.toNat).part)==0)) (il (nth v0 mw.toNat))).bind λy4=>ck (((!((((nth v0 mw.toNat).part)==0) || (y4 != 0))) && (decide (mw > 0)))=true->((0:Int)<=mw/\mw<(v0.length:Int))) (ck (((!((((nth v0 mw.toNat).part)==0) || (y4 != 0))) && (decide (mw > 0)))=true->(cV (mw-1))) (ck (((!((((nth v0 mw.toNat).part)==0) || (y4 != 0))) && (decide (mw > 0)))=true->((0:Int)<=(mw-1)/\(mw-1)<(v0.length:Int))) ((bH ((!((((nth v0 mw.toNat).part)==0) || (y4 != 0))) && (decide (mw > 0))) (qo (nth v0 mw.toNat) (nth v0 (mw-1).toNat))).bind λy5=>if (((((nth v0 mw.toNat).part)==0) || (y4 != 0)) || ((decide (mw > 0)) && y5))=true then some (.inr false) else ck (cV (mw+1)) (some (.inl (mw+1))))))))) else (mF v0).map (λz=>.inr z)
def tW (v0:List aa):Option Bool :=
 loop (λs=>kC v0 s) 0
def lB (bI:Int) (PR:Int):Option (Int ⊕ Bool) :=
 if (decide (PR > 0))=true then some (.inr false) else ck (cV (bI+1)) (some (.inl (bI+1)))
def oi (v0:aI) (bI:Int) (GO:Int) (vk:Int):Option ((Int×Int) ⊕ (Int ⊕ Bool)) :=
 if (decide (vk<(v0.aK.length:Int)))=true then (ck ((0:Int)<=vk/\vk<(v0.aK.length:Int)) (if (((nth v0.aK vk.toNat).source)==bI)=true then (ck ((0:Int)<=vk/\vk<(v0.aK.length:Int)) (ck (cV (GO-((nth v0.aK vk.toNat).count))) (ck (cV (vk+1)) (some (.inl (GO-((nth v0.aK vk.toNat).count),vk+1)))))) else ck (cV (vk+1)) (some (.inl (GO,vk+1))))) else (lB bI GO).map (λz=>.inr z)
def ji (v0:aI) (bI:Int) (CG:Int):Option (Int ⊕ Bool) :=
 loop (λs=>oi v0 bI s.1 s.2) (CG,0)
def gW (v0:aI) (bI:Int) (AK:Int) (om:Int):Option ((Int×Int) ⊕ (Int ⊕ Bool)) :=
 if (decide (om<(v0.seen.length:Int)))=true then (ck ((0:Int)<=om/\om<(v0.seen.length:Int)) (if (((nth v0.seen om.toNat).source)==bI)=true then (ck ((0:Int)<=om/\om<(v0.seen.length:Int)) (ck (cV (AK+((nth v0.seen om.toNat).ia))) (ck ((0:Int)<=om/\om<(v0.seen.length:Int)) (ck (cV ((AK+((nth v0.seen om.toNat).ia)) - (nth v0.seen om.toNat).from_)) (ck (cV (((AK+((nth v0.seen om.toNat).ia)) - (nth v0.seen om.toNat).from_)+1)) (ck (cV (om+1)) (some (.inl (((AK+((nth v0.seen om.toNat).ia)) - (nth v0.seen om.toNat).from_)+1,om+1))))))))) else ck (cV (om+1)) (some (.inl (AK,om+1))))) else (ji v0 bI AK).map (λz=>.inr z)
def rk (v0:aI) (bI:Int):Option (Int ⊕ Bool) :=
 if (decide (bI<=99))=true then (loop (λs=>gW v0 bI s.1 s.2) (0,0)) else some (.inr true)
def o7 (v0:aI):Option Bool :=
 loop (λs=>rk v0 s) 1
def te (aU:List Range) (bU:Int) (cM:Int) (nH:Int):Option (Int ⊕ Bool) :=
 if (decide (nH<(aU.length:Int)))=true then (ck ((0:Int)<=nH/\nH<(aU.length:Int)) (ck ((((nth aU nH.toNat).source)==bU)=true->((0:Int)<=nH/\nH<(aU.length:Int))) (ck (((((nth aU nH.toNat).source)==bU) && (decide (((nth aU nH.toNat).from_)<=cM)))=true->((0:Int)<=nH/\nH<(aU.length:Int))) (if (((((nth aU nH.toNat).source)==bU) && (decide (((nth aU nH.toNat).from_)<=cM))) && (decide (cM<=((nth aU nH.toNat).ia))))=true then ((jB bU cM).bind λy1=>some (.inr y1)) else ck (cV (nH+1)) (some (.inl (nH+1))))))) else some (.inr false)
def tA (aU:List Range) (bU:Int) (cM:Int):Option Bool :=
 loop (λs=>te aU bU cM s) 0
def nI (v0:aI) (bI:Int) (yq:Int):Option (Int ⊕ (Int ⊕ Bool)) :=
 if (decide (yq<bI))=true then (ck ((0:Int)<=yq/\yq<(v0.open_.length:Int)) (ck ((((nth v0.open_ yq.toNat).source)==((nth v0.open_ bI.toNat).source))=true->((0:Int)<=yq/\yq<(v0.open_.length:Int))) (if ((((nth v0.open_ yq.toNat).source)==((nth v0.open_ bI.toNat).source)) && (((nth v0.open_ yq.toNat).az)==((nth v0.open_ bI.toNat).az)))=true then some (.inr (.inr false)) else ck (cV (yq+1)) (some (.inl (yq+1)))))) else ck (cV (bI+1)) (some (.inr (.inl (bI+1))))
def nJ (v0:aI) (bI:Int):Option (Int ⊕ Bool) :=
 if (decide (bI<(v0.open_.length:Int)))=true then (ck ((0:Int)<=bI/\bI<(v0.open_.length:Int)) ((tA v0.seen (nth v0.open_ bI.toNat).source (nth v0.open_ bI.toNat).az).bind λy5=>if (!y5)=true then some (.inr false) else loop (λs=>nI v0 bI s) 0)) else some (.inr true)
def sf (v0:aI):Option Bool :=
 (sb v0).bind λy1=>(bH (!(!y1)) (sd v0.seen)).bind λy2=>(bH (!((!y1) || (!y2))) (tW v0.open_)).bind λy3=>(bH (!(((!y1) || (!y2)) || (!y3))) (o7 v0)).bind λy4=>if ((((!y1) || (!y2)) || (!y3)) || (!y4))=true then some false else loop (λs=>nJ v0 s) 0
def tf (vj:aE):Option aa :=
 some (⟨vj.source,vj.az,vj.kind,vj.a,vj.b,vj.start,vj.cz,0,0,false,vj.cF,vj.bT⟩:aa)
def lC (de:ag) (qu:List aa):Option (List aa) :=
 ck (qu.length+de.aB.length<=1000000000) (ck ((qu++de.aB).length+de.aw.open_.length<=1000000000) (some ((qu++de.aB)++de.aw.open_)))
def lD (de:ag) (rN:List aa) (cr:Int):Option ((List aa×Int) ⊕ (List aa)) :=
 if (decide (cr<(de.usages.length:Int)))=true then (ck ((0:Int)<=cr/\cr<(de.usages.length:Int)) ((tf (nth de.usages cr.toNat)).bind λy1=>ck (rN.length+([y1]:List aa).length<=1000000000) (ck (cV (cr+1)) (some (.inl (rN++([y1]:List aa),cr+1)))))) else (lC de rN).map (λz=>.inr z)
def o8 (de:ag):Option (List aa) :=
 loop (λs=>lD de s.1 s.2) (([]:List aa),0)
def nK (aU:List Range) (oZ:Int) (cr:Int):Option ((Int×Int) ⊕ Int) :=
 if (decide (cr<(aU.length:Int)))=true then (ck ((0:Int)<=cr/\cr<(aU.length:Int)) (ck (cV (oZ+((nth aU cr.toNat).ia))) (ck ((0:Int)<=cr/\cr<(aU.length:Int)) (ck (cV ((oZ+((nth aU cr.toNat).ia)) - (nth aU cr.toNat).from_)) (ck (cV (((oZ+((nth aU cr.toNat).ia)) - (nth aU cr.toNat).from_)+1)) (ck (cV (cr+1)) (some (.inl (((oZ+((nth aU cr.toNat).ia)) - (nth aU cr.toNat).from_)+1,cr+1))))))))) else some (.inr oZ)
def sg (aU:List Range):Option Int :=
 loop (λs=>nK aU s.1 s.2) (0,0)
def lE (de:ag) (re:Int):Option bw :=
 (sg de.aw.seen).bind λy1=>ck (cV (y1-(de.usages.length:Int))) (ck (cV ((y1-(de.usages.length:Int)) - (de.aB.length:Int))) (ck (cV (((y1-(de.usages.length:Int)) - (de.aB.length:Int)) - (de.aw.open_.length:Int))) (some (⟨re,(de.usages.length:Int),((y1-(de.usages.length:Int)) - (de.aB.length:Int)) - (de.aw.open_.length:Int),(de.ba.length:Int),(de.aB.length:Int),(de.aw.open_.length:Int)⟩:bw))))
def lF (de:ag) (cr:Int) (bX:Int):Option ((Int×Int) ⊕ bw) :=
 if (decide (cr<(de.aw.aK.length:Int)))=true then (ck ((0:Int)<=cr/\cr<(de.aw.aK.length:Int)) (ck (cV (bX+((nth de.aw.aK cr.toNat).count))) (ck (cV (cr+1)) (some (.inl (cr+1,bX+((nth de.aw.aK cr.toNat).count))))))) else (lE de bX).map (λz=>.inr z)
def mG (de:ag):Option bw :=
 loop (λs=>lF de s.1 s.2) (0,0)
def lG (v0:ag):Option Bool :=
 (mG v0).bind λy3=>ck ((decide (y3.merged>=0))=true->(cV (y3.accepted+y3.merged))) (ck ((decide (y3.merged>=0))=true->(cV ((y3.accepted+y3.merged)+y3.rejected))) (ck ((decide (y3.merged>=0))=true->(cV (((y3.accepted+y3.merged)+y3.rejected)+y3.bn))) (ck ((decide (y3.merged>=0))=true->(cV ((((y3.accepted+y3.merged)+y3.rejected)+y3.bn)+y3.open_))) (some ((decide (y3.merged>=0)) && (y3.read==((((y3.accepted+y3.merged)+y3.rejected)+y3.bn)+y3.open_)))))))
def nL (y2:(List aa)) (bu:Int) (xH:Int):Option (Int ⊕ (Int ⊕ Bool)) :=
 if (decide (xH<bu))=true then (ck ((0:Int)<=xH/\xH<(y2.length:Int)) (ck ((0:Int)<=bu/\bu<(y2.length:Int)) (ck ((((nth y2 xH.toNat).source)==((nth y2 bu.toNat).source))=true->((0:Int)<=xH/\xH<(y2.length:Int))) (ck ((((nth y2 xH.toNat).source)==((nth y2 bu.toNat).source))=true->((0:Int)<=bu/\bu<(y2.length:Int))) (if ((((nth y2 xH.toNat).source)==((nth y2 bu.toNat).source)) && (((nth y2 xH.toNat).az)==((nth y2 bu.toNat).az)))=true then some (.inr (.inr false)) else ck (cV (xH+1)) (some (.inl (xH+1)))))))) else ck (cV (bu+1)) (some (.inr (.inl (bu+1))))
def qw (v0:ag) (y2:(List aa)) (bu:Int):Option (Int ⊕ Bool) :=
 if (decide (bu<(y2.length:Int)))=true then (ck ((0:Int)<=bu/\bu<(y2.length:Int)) ((il (nth y2 bu.toNat)).bind λy4=>ck ((!(y4 != 0))=true->((0:Int)<=bu/\bu<(y2.length:Int))) (ck ((!(y4 != 0))=true->((0:Int)<=bu/\bu<(y2.length:Int))) ((bH (!(y4 != 0)) (tA v0.aw.seen (nth y2 bu.toNat).source (nth y2 bu.toNat).az)).bind λy5=>if ((y4 != 0) || (!y5))=true then some (.inr false) else loop (λs=>nL y2 bu s) 0)))) else (lG v0).map (λz=>.inr z)
def lH (v0:ag):Option Bool :=
 (o8 v0).bind λy2=>loop (λs=>qw v0 y2 s) 0
def lI (v0:ag) (xI:Int):Option (Int ⊕ Bool) :=
 if (decide (xI<(v0.ba.length:Int)))=true then (ck ((0:Int)<=xI/\xI<(v0.ba.length:Int)) (ck (((nth v0.ba xI.toNat).err != 15)=true->((0:Int)<=xI/\xI<(v0.ba.length:Int))) (if (((nth v0.ba xI.toNat).err != 15) && ((nth v0.ba xI.toNat).err != 13))=true then some (.inr false) else ck (cV (xI+1)) (some (.inl (xI+1)))))) else (lH v0).map (λz=>.inr z)
def lJ (v0:ag):Option Bool :=
 loop (λs=>lI v0 s) 0
def lK (v0:ag) (CQ:Int):Option (Int ⊕ Bool) :=
 if (decide (CQ<(v0.aB.length:Int)))=true then (ck ((0:Int)<=CQ/\CQ<(v0.aB.length:Int)) (if ((nth v0.aB CQ.toNat).part != 0)=true then some (.inr false) else ck (cV (CQ+1)) (some (.inl (CQ+1))))) else (lJ v0).map (λz=>.inr z)
def lL (v0:ag):Option Bool :=
 loop (λs=>lK v0 s) 0
def jC (v0:ag) (vX:Int):Option (Int ⊕ Bool) :=
 if (decide (vX<(v0.usages.length:Int)))=true then (ck ((0:Int)<=vX/\vX<(v0.usages.length:Int)) (ck (cV (vX+1)) (if ((((((nth v0.usages vX.toNat).id != (vX+1)) || (decide ((nth v0.usages vX.toNat).aq<1))) || (decide ((nth v0.usages vX.toNat).aq > 9999))) || (decide ((nth v0.usages vX.toNat).sub<1))) || (decide ((nth v0.usages vX.toNat).sub > 9999)))=true then some (.inr false) else ck (cV (vX+1)) (some (.inl (vX+1)))))) else (lL v0).map (λz=>.inr z)
def pO (v0:ag):Option Bool :=
 (sf v0.aw).bind λy1=>if (!y1)=true then some false else loop (λs=>jC v0 s) 0
def jM (de:ag):Option Bool :=
 (pM de).bind λy1=>if (!y1)=true then ((fQ).bind λy2=>some y2) else (pO de).bind λy3=>(eE de).bind λy4=>(bH ((y4==y3) && (!(!y3))) (cO de)).bind λy5=>(bH ((y4==y3) && (!(!y3))) (mG de)).bind λy6=>(bH ((y4==y3) && ((!y3) || (dO (bw.bJ y5) (bw.bJ y6)))) fQ).bind λy7=>some (((y4==y3) && ((!y3) || (dO (bw.bJ y5) (bw.bJ y6)))) && y7)
def kD (HO:Bool):Option (List Bool) :=
 if HO=true then some ([true,false,false,false,true]:List Bool) else some ([false,true,false,false,false]:List Bool)
def jb (eB:Int) (HP:Bool):Option (List Bool) :=
 if HP=true then some ([false,true,false,true,false]:List Bool) else if (eB==14)=true then (kD (eB==14)) else kD (eB==15)
def kE (eB:Int) (qM:Bool):Option (List Bool) :=
 if qM=true then some ([false,true,true,false,false]:List Bool) else if (eB==7)=true then (jb eB (eB==7)) else if (eB==8)=true then (jb eB (eB==8)) else jb eB (eB==9)
def rl (eB:Int):Option (List Bool) :=
 if (eB==1)=true then some ([true,false,false,true,true]:List Bool) else if (eB==2)=true then some ([true,false,false,false,false]:List Bool) else if (eB==3)=true then some ([true,true,false,true,false]:List Bool) else if (eB==5)=true then (kE eB (eB==5)) else kE eB (eB==6)
def yr (zz:Int):Option Bool :=
 some ((decide (zz>=1)) && (decide (zz<=9999)))
def o9 (cm:List UInt8) (bC:Int):Option (Int ⊕ Bool) :=
 if (decide (bC<(cm.length:Int)))=true then (ck ((0:Int)<=bC/\bC<(cm.length:Int)) (ck ((!(decide ((nth cm bC.toNat)<97)))=true->((0:Int)<=bC/\bC<(cm.length:Int))) (ck (((decide ((nth cm bC.toNat)<97)) || (decide ((nth cm bC.toNat) > 122)))=true->((0:Int)<=bC/\bC<(cm.length:Int))) (ck ((((decide ((nth cm bC.toNat)<97)) || (decide ((nth cm bC.toNat) > 122))) && (!(decide ((nth cm bC.toNat)<48))))=true->((0:Int)<=bC/\bC<(cm.length:Int))) (ck ((((decide ((nth cm bC.toNat)<97)) || (decide ((nth cm bC.toNat) > 122))) && ((decide ((nth cm bC.toNat)<48)) || (decide ((nth cm bC.toNat) > 57))))=true->((0:Int)<=bC/\bC<(cm.length:Int))) (if ((((decide ((nth cm bC.toNat)<97)) || (decide ((nth cm bC.toNat) > 122))) && ((decide ((nth cm bC.toNat)<48)) || (decide ((nth cm bC.toNat) > 57)))) && ((nth cm bC.toNat) != 45))=true then some (.inr false) else ck (cV (bC+1)) (some (.inl (bC+1))))))))) else some (.inr true)
def tX (cm:List UInt8):Option Bool :=
 ck ((!((decide ((cm.length:Int)<1)) || (decide ((cm.length:Int) > 24))))=true->((0:Int)<=0/\0<(cm.length:Int))) (ck ((!(((decide ((cm.length:Int)<1)) || (decide ((cm.length:Int) > 24))) || (decide ((nth cm (Int.toNat (0)))<97))))=true->((0:Int)<=0/\0<(cm.length:Int))) (if ((((decide ((cm.length:Int)<1)) || (decide ((cm.length:Int) > 24))) || (decide ((nth cm (Int.toNat (0)))<97))) || (decide ((nth cm (Int.toNat (0))) > 122)))=true then some false else loop (λs=>o9 cm s) 0))
def si (RR:Event):Option Bool :=
 if (RR.kind==1)=true then some ((decide (RR.value>=1)) && (decide (RR.value<=28))) else if (RR.kind==14)=true then some ((decide (RR.value>=1)) && (decide (RR.value<=1125899906842624))) else some ((decide (RR.value>=(-1125899906842624))) && (decide (RR.value<=0)))
def tY (v0:Event) (v1:Int):Option Int :=
 if ((decide (v0.kind<1)) || (decide (v0.kind > 15)))=true then some 7 else if ((decide (v0.at_<0)) || (decide (v0.at_>=12622780800)))=true then some 15 else if (decide (v0.at_<v1))=true then some 9 else (rl v0.kind).bind λy1=>if ((((((!(nth y1 0)) && (v0.aq != 0)) || ((!(nth y1 1)) && (v0.sub != 0))) || ((!(nth y1 2)) && (v0.number != ([]:List UInt8)))) || ((!(nth y1 3)) && (v0.name != ([]:List UInt8)))) || ((!(nth y1 4)) && (v0.value != 0)))=true then some 8 else (bH (nth y1 0) (yr v0.aq)).bind λy2=>(bH ((!((nth y1 0) && (!y2))) && (nth y1 1)) (yr v0.sub)).bind λy3=>if (((nth y1 0) && (!y2)) || ((nth y1 1) && (!y3)))=true then some 6 else (bH (nth y1 3) (tX v0.name)).bind λy4=>if (((nth y1 3) && (!y4)) || (((v0.kind==1) && (v0.name != ([112,114,101,112,97,105,100]:List UInt8))) && (v0.name != ([112,111,115,116,112,97,105,100]:List UInt8))))=true then some 8 else (bH (nth y1 2) (nE v0.number)).bind λy5=>if ((nth y1 2) && (!y5))=true then some 12 else (bH (nth y1 4) (si v0)).bind λy6=>if ((nth y1 4) && (!y6))=true then some 6 else some 0
def lM (ep:ah) (vW:Int) (aG:Int):Option (Int ⊕ Int) :=
 if (decide (aG<(ep.aM.length:Int)))=true then (ck ((0:Int)<=aG/\aG<(ep.aM.length:Int)) (if (((nth ep.aM aG.toNat).id)==vW)=true then some (.inr aG) else ck (cV (aG+1)) (some (.inl (aG+1))))) else some (.inr (-1))
def kF (ep:ah) (vW:Int):Option Int :=
 loop (λs=>lM ep vW s) 0
def qx (ep:ah) (vW:Int) (aG:Int):Option (Int ⊕ Int) :=
 if (decide (aG<(ep.bh.length:Int)))=true then (ck ((0:Int)<=aG/\aG<(ep.bh.length:Int)) (if (((nth ep.bh aG.toNat).id)==vW)=true then some (.inr aG) else ck (cV (aG+1)) (some (.inl (aG+1))))) else some (.inr (-1))
def oo (ep:ah) (vW:Int):Option Int :=
 loop (λs=>qx ep vW s) 0
def nM (ep:ah) (vW:Int) (aG:Int):Option (Int ⊕ Bool) :=
 if (decide (aG<(ep.ended.length:Int)))=true then (ck ((0:Int)<=aG/\aG<(ep.ended.length:Int)) (if ((nth ep.ended aG.toNat)==vW)=true then some (.inr true) else ck (cV (aG+1)) (some (.inl (aG+1))))) else some (.inr false)
def lX (ep:ah) (vW:Int):Option Bool :=
 loop (λs=>nM ep vW s) 0
def pb (ep:ah) (vW:Int) (aG:Int):Option (Int ⊕ Bool) :=
 if (decide (aG<(ep.bh.length:Int)))=true then (ck ((0:Int)<=aG/\aG<(ep.bh.length:Int)) (ck ((((nth ep.bh aG.toNat).aq)==vW)=true->((0:Int)<=aG/\aG<(ep.bh.length:Int))) ((bH (((nth ep.bh aG.toNat).aq)==vW) (lX ep (nth ep.bh aG.toNat).id)).bind λy1=>if ((((nth ep.bh aG.toNat).aq)==vW) && (!y1))=true then some (.inr true) else ck (cV (aG+1)) (some (.inl (aG+1)))))) else some (.inr false)
def tZ (ep:ah) (vW:Int):Option Bool :=
 loop (λs=>pb ep vW s) 0
def mx (ep:ah) (sY:Event):Option Int :=
 (kF ep sY.aq).bind λy1=>if (sY.kind==1)=true then (if (decide (y1>=0))=true then some 10 else some 0) else if (decide (y1<0))=true then some 11 else ck ((0:Int)<=y1/\y1<(ep.aM.length:Int)) (if ((nth ep.aM y1.toNat).closed)=true then some 17 else (bH (sY.kind==3) (oo ep sY.sub)).bind λy2=>if ((sY.kind==3) && (decide (y2>=0)))=true then some 10 else (bH (sY.kind==2) (tZ ep sY.aq)).bind λy3=>ck (((!((sY.kind==2) && y3)) && (decide (sY.kind > 13)))=true->((0:Int)<=y1/\y1<(ep.aM.length:Int))) (if (((sY.kind==2) && y3) || ((decide (sY.kind > 13)) && (!(nth ep.aM y1.toNat).fX)))=true then some 22 else some 0))
def qy (kx:List (List UInt8)) (yt:List UInt8) (aG:Int):Option (Int ⊕ Bool) :=
 if (decide (aG<(kx.length:Int)))=true then (ck ((0:Int)<=aG/\aG<(kx.length:Int)) (if ((nth kx aG.toNat)==yt)=true then some (.inr true) else ck (cV (aG+1)) (some (.inl (aG+1))))) else some (.inr false)
def oq (kx:List (List UInt8)) (yt:List UInt8):Option Bool :=
 loop (λs=>qy kx yt s) 0
def nN (ep:ah) (eD:List UInt8) (aG:Int):Option (Int ⊕ Bool) :=
 if (decide (aG<(ep.bh.length:Int)))=true then (ck ((0:Int)<=aG/\aG<(ep.bh.length:Int)) ((oq (nth ep.bh aG.toNat).numbers eD).bind λy1=>if y1=true then some (.inr true) else ck (cV (aG+1)) (some (.inl (aG+1))))) else some (.inr false)
def sj (ep:ah) (eD:List UInt8):Option Bool :=
 loop (λs=>nN ep eD s) 0
def lN (v0:ah) (v1:Event) (y1:Int) (HQ:Bool):Option Int :=
 if HQ=true then (if (((nth v0.bh y1.toNat).family)==(v1.kind==12))=true then some 22 else some 0) else some 0
def lO (v0:ah) (v1:Event) (y1:Int) (HR:Bool):Option Int :=
 if HR=true then (if (((nth v0.bh y1.toNat).bn)==(v1.kind==10))=true then some 22 else some 0) else if (v1.kind==12)=true then (lN v0 v1 y1 (v1.kind==12)) else lN v0 v1 y1 (v1.kind==13)
def sk (v0:ah) (v1:Event):Option Int :=
 (oo v0 v1.sub).bind λy1=>if (decide (y1<0))=true then some 11 else (lX v0 v1.sub).bind λy2=>if y2=true then some 17 else ck ((0:Int)<=y1/\y1<(v0.bh.length:Int)) (if (v1.kind==5)=true then ((sj v0 v1.number).bind λy3=>if y3=true then some 12 else some 0) else if (v1.kind==6)=true then ((oq (nth v0.bh y1.toNat).numbers v1.number).bind λy4=>if (!y4)=true then some 12 else some 0) else if (v1.kind==8)=true then ((oq (nth v0.bh y1.toNat).cA v1.name).bind λy5=>if y5=true then some 10 else some 0) else if (v1.kind==9)=true then ((oq (nth v0.bh y1.toNat).cA v1.name).bind λy6=>if (!y6)=true then some 11 else some 0) else if (v1.kind==10)=true then (lO v0 v1 y1 (v1.kind==10)) else lO v0 v1 y1 (v1.kind==11))
def pP (ep:ah) (sY:Event) (ri:Int):Option Int :=
 (tY sY ri).bind λy1=>if (y1 != 0)=true then some y1 else (rl sY.kind).bind λy2=>if (nth y2 0)=true then ((mx ep sY).bind λy3=>some y3) else (sk ep sY).bind λy4=>some y4
def mH (kx:List (List UInt8)) (yt:List UInt8) (cg:Int):Option (List (List UInt8)) :=
 ck ((0:Int)<=cg/\cg<=(kx.length:Int)) (ck (([]:List (List UInt8)).length+(kx.take cg.toNat).length<=1000000000) (ck ((([]:List (List UInt8))++(kx.take cg.toNat)).length+([yt]:List (List UInt8)).length<=1000000000) (ck ((0:Int)<=cg/\cg<=(kx.length:Int)) (ck (((([]:List (List UInt8))++(kx.take cg.toNat))++([yt]:List (List UInt8))).length+(kx.drop cg.toNat).length<=1000000000) (some (((([]:List (List UInt8))++(kx.take cg.toNat))++([yt]:List (List UInt8)))++(kx.drop cg.toNat)))))))
def vl (kx:List (List UInt8)) (yt:List UInt8) (c6:Int):Option (Int ⊕ (List (List UInt8))) :=
 ck ((decide (c6<(kx.length:Int)))=true->((0:Int)<=c6/\c6<(kx.length:Int))) (if ((decide (c6<(kx.length:Int))) && (oI (nth kx c6.toNat) yt))=true then (ck (cV (c6+1)) (some (.inl (c6+1)))) else (mH kx yt c6).map (λz=>.inr z))
def rm (kx:List (List UInt8)) (yt:List UInt8):Option (List (List UInt8)) :=
 loop (λs=>vl kx yt s) 0
def rn (kx:List (List UInt8)) (yt:List UInt8) (hZ:List (List UInt8)) (dd:Int):Option ((List (List UInt8)×Int) ⊕ (List (List UInt8))) :=
 if (decide (dd<(kx.length:Int)))=true then (ck ((0:Int)<=dd/\dd<(kx.length:Int)) (if ((nth kx dd.toNat) != yt)=true then (ck ((0:Int)<=dd/\dd<(kx.length:Int)) (ck (hZ.length+([nth kx dd.toNat]:List (List UInt8)).length<=1000000000) (ck (cV (dd+1)) (some (.inl (hZ++([nth kx dd.toNat]:List (List UInt8)),dd+1)))))) else ck (cV (dd+1)) (some (.inl (hZ,dd+1))))) else some (.inr hZ)
def mI (kx:List (List UInt8)) (yt:List UInt8):Option (List (List UInt8)) :=
 loop (λs=>rn kx yt s.1 s.2) (([]:List (List UInt8)),0)
def pd (cm:Sub) (sY:Event):Option Sub :=
 if (sY.kind==4)=true then some (⟨cm.id,cm.aq,cm.since,cm.vS,([]:List (List UInt8)),([]:List (List UInt8)),cm.bn,cm.family⟩:Sub) else if (sY.kind==5)=true then ((rm cm.numbers sY.number).bind λy1=>some (⟨cm.id,cm.aq,cm.since,cm.vS,y1,cm.cA,cm.bn,cm.family⟩:Sub)) else if (sY.kind==6)=true then ((mI cm.numbers sY.number).bind λy2=>some (⟨cm.id,cm.aq,cm.since,cm.vS,y2,cm.cA,cm.bn,cm.family⟩:Sub)) else if (sY.kind==7)=true then some (⟨cm.id,cm.aq,cm.since,sY.name,cm.numbers,cm.cA,cm.bn,cm.family⟩:Sub) else if (sY.kind==8)=true then ((rm cm.cA sY.name).bind λy3=>some (⟨cm.id,cm.aq,cm.since,cm.vS,cm.numbers,y3,cm.bn,cm.family⟩:Sub)) else if (sY.kind==9)=true then ((mI cm.cA sY.name).bind λy4=>some (⟨cm.id,cm.aq,cm.since,cm.vS,cm.numbers,y4,cm.bn,cm.family⟩:Sub)) else if (sY.kind==10)=true then some (⟨cm.id,cm.aq,cm.since,cm.vS,cm.numbers,cm.cA,true,cm.family⟩:Sub) else if (sY.kind==11)=true then some (⟨cm.id,cm.aq,cm.since,cm.vS,cm.numbers,cm.cA,false,cm.family⟩:Sub) else if (sY.kind==12)=true then some (⟨cm.id,cm.aq,cm.since,cm.vS,cm.numbers,cm.cA,cm.bn,true⟩:Sub) else if (sY.kind==13)=true then some (⟨cm.id,cm.aq,cm.since,cm.vS,cm.numbers,cm.cA,cm.bn,false⟩:Sub) else some cm
def jD (v0:ah) (v1:Event) (HS:Bool):Option ah :=
 if HS=true then some (⟨([]:List al)++v0.aM,([]:List Sub)++v0.bh,([]:List Int)++v0.ended⟩:ah) else (oo v0 v1.sub).bind λy2=>ck ((0:Int)<=y2/\y2<((([]:List Sub)++v0.bh).length:Int)) (ck (y2.toNat<(([]:List Sub)++v0.bh).length) ((pd (nth (([]:List Sub)++v0.bh) y2.toNat) v1).bind λy3=>ck ((0:Int)<=y2/\y2<((([]:List Sub)++v0.bh).length:Int)) (ck (y2.toNat<(([]:List Sub)++v0.bh).length) (if (v1.kind==4)=true then (ck ((([]:List Int)++v0.ended).length+([v1.sub]:List Int).length<=1000000000) (some (⟨([]:List al)++v0.aM,(([]:List Sub)++v0.bh).set y2.toNat y3,(([]:List Int)++v0.ended)++([v1.sub]:List Int)⟩:ah))) else some (⟨([]:List al)++v0.aM,(([]:List Sub)++v0.bh).set y2.toNat y3,([]:List Int)++v0.ended⟩:ah)))))
def im (v0:ah) (v1:Event):Option ah :=
 ck (v0.aM.length<=1000000000) (ck (v0.bh.length<=1000000000) (ck (v0.ended.length<=1000000000) (if (v1.kind==1)=true then (ck ((([]:List al)++v0.aM).length+([(⟨v1.aq,v1.at_,v1.value,(v1.name==([112,114,101,112,97,105,100]:List UInt8)),false,([]:List Int)⟩:al)]:List al).length<=1000000000) (some (⟨(([]:List al)++v0.aM)++([(⟨v1.aq,v1.at_,v1.value,(v1.name==([112,114,101,112,97,105,100]:List UInt8)),false,([]:List Int)⟩:al)]:List al),([]:List Sub)++v0.bh,([]:List Int)++v0.ended⟩:ah))) else if (v1.kind==2)=true then ((kF v0 v1.aq).bind λy1=>ck ((0:Int)<=y1/\y1<((([]:List al)++v0.aM).length:Int)) (ck (y1.toNat<(([]:List al)++v0.aM).length) (some (⟨(([]:List al)++v0.aM).set y1.toNat (⟨(nth (([]:List al)++v0.aM) y1.toNat).id,(nth (([]:List al)++v0.aM) y1.toNat).since,(nth (([]:List al)++v0.aM) y1.toNat).anchor,(nth (([]:List al)++v0.aM) y1.toNat).fX,true,([]:List Int)⟩:al),([]:List Sub)++v0.bh,([]:List Int)++v0.ended⟩:ah)))) else if (v1.kind==3)=true then (ck ((([]:List Sub)++v0.bh).length+([(⟨v1.sub,v1.aq,v1.at_,v1.name,([]:List (List UInt8)),([]:List (List UInt8)),false,false⟩:Sub)]:List Sub).length<=1000000000) (some (⟨([]:List al)++v0.aM,(([]:List Sub)++v0.bh)++([(⟨v1.sub,v1.aq,v1.at_,v1.name,([]:List (List UInt8)),([]:List (List UInt8)),false,false⟩:Sub)]:List Sub),([]:List Int)++v0.ended⟩:ah))) else if (v1.kind==14)=true then (jD v0 v1 (v1.kind==14)) else jD v0 v1 (v1.kind==15))))
def nO (aH:List Event) (yu:Int) (dd:Int) (dw:List al) (CR:List Sub) (CS:List Int):Option ((Int×Int×List al×List Sub×List Int) ⊕ (Int×Int)) :=
 if (decide (dd<(aH.length:Int)))=true then (ck ((0:Int)<=dd/\dd<(aH.length:Int)) ((pP (⟨dw,CR,CS⟩:ah) (nth aH dd.toNat) yu).bind λy1=>if (y1 != 0)=true then some (.inr (dd,y1)) else ck ((0:Int)<=dd/\dd<(aH.length:Int)) ((im (⟨dw,CR,CS⟩:ah) (nth aH dd.toNat)).bind λy2=>ck ((0:Int)<=dd/\dd<(aH.length:Int)) (ck (cV (dd+1)) (some (.inl ((nth aH dd.toNat).at_,dd+1,y2.aM,y2.bh,y2.ended))))))) else some (.inr (0,0))
def sn (aH:List Event):Option (Int×Int) :=
 if (decide ((aH.length:Int) > 4096))=true then some (0,5) else loop (λs=>nO aH s.1 s.2.1 s.2.2.1 s.2.2.2.1 s.2.2.2.2) (0,0,([]:List al),([]:List Sub),([]:List Int))
def qz (aH:List Event):Option Bool :=
 if (decide ((aH.length:Int) > 40))=true then some false else (sn aH).bind λy1=>some (y1.2==0)
def tg (aH:List Event) (bC:Int):Option (Int ⊕ Bool) :=
 if ((decide (bC<(aH.length:Int))) && (decide (bC<41)))=true then (ck ((0:Int)<=bC/\bC<(aH.length:Int)) (ck ((!(decide ((((nth aH bC.toNat).name).length:Int) > 200)))=true->((0:Int)<=bC/\bC<(aH.length:Int))) (if ((decide ((((nth aH bC.toNat).name).length:Int) > 200)) || (decide ((((nth aH bC.toNat).number).length:Int) > 200)))=true then some (.inr false) else ck (cV (bC+1)) (some (.inl (bC+1)))))) else (qz aH).map (λz=>.inr z)
def rp (aH:List Event):Option Bool :=
 loop (λs=>tg aH s) 0
def gX (de:ag):Option Bool :=
 (pM de).bind λy1=>(bH y1 (pO de)).bind λy2=>some (y1 && y2)
def pf (aH:List Event) (GA:Int) (dd:Int) (cE:List al) (qs:List Sub) (qt:List Int):Option ((Int×List al×List Sub×List Int) ⊕ ah) :=
 if (decide (dd<(aH.length:Int)))=true then (ck ((0:Int)<=dd/\dd<(aH.length:Int)) (if (decide (((nth aH dd.toNat).at_)<=GA))=true then (ck ((0:Int)<=dd/\dd<(aH.length:Int)) ((im (⟨cE,qs,qt⟩:ah) (nth aH dd.toNat)).bind λy1=>ck (cV (dd+1)) (some (.inl (dd+1,y1.aM,y1.bh,y1.ended))))) else ck (cV (dd+1)) (some (.inl (dd+1,cE,qs,qt))))) else some (.inr (⟨cE,qs,qt⟩:ah))
def rq (aH:List Event) (GA:Int):Option ah :=
 loop (λs=>pf aH GA s.1 s.2.1 s.2.2.1 s.2.2.2) (0,([]:List al),([]:List Sub),([]:List Int))
def nP (y1:ah) (vm:Int) (bX:List al) (y2:Int) (w5:List Int):Option ((Int×List al) ⊕ cj) :=
 ck (bX.length+([(⟨(nth y1.aM y2.toNat).id,(nth y1.aM y2.toNat).since,(nth y1.aM y2.toNat).anchor,(nth y1.aM y2.toNat).fX,(nth y1.aM y2.toNat).closed,w5⟩:al)]:List al).length<=1000000000) (ck (cV (vm+1)) (some (.inl (vm+1,bX++([(⟨(nth y1.aM y2.toNat).id,(nth y1.aM y2.toNat).since,(nth y1.aM y2.toNat).anchor,(nth y1.aM y2.toNat).fX,(nth y1.aM y2.toNat).closed,w5⟩:al)]:List al)))))
def qA (y1:ah) (gH:List Sub) (vm:Int) (bX:List al) (y2:Int) (oA:Int) (ua:List Int):Option ((Int×List Int) ⊕ ((Int×List al) ⊕ cj)) :=
 if (decide (oA<(gH.length:Int)))=true then (ck ((0:Int)<=oA/\oA<(gH.length:Int)) (if (((nth gH oA.toNat).aq)==vm)=true then (ck ((0:Int)<=oA/\oA<(gH.length:Int)) (ck (ua.length+([(nth gH oA.toNat).id]:List Int).length<=1000000000) (ck (cV (oA+1)) (some (.inl (oA+1,ua++([(nth gH oA.toNat).id]:List Int))))))) else ck (cV (oA+1)) (some (.inl (oA+1,ua))))) else (nP y1 vm bX y2 ua).map (λz=>.inr z)
def qB (y1:ah) (gH:List Sub) (vm:Int) (bX:List al):Option ((Int×List al) ⊕ cj) :=
 if ((decide (vm<=9999)) && (decide ((bX.length:Int)<(y1.aM.length:Int))))=true then ((kF y1 vm).bind λy2=>if (decide (y2<0))=true then (ck (cV (vm+1)) (some (.inl (vm+1,bX)))) else ck ((0:Int)<=y2/\y2<(y1.aM.length:Int)) (loop (λs=>qA y1 gH vm bX y2 s.1 s.2) (0,([]:List Int)))) else some (.inr (⟨bX,gH⟩:cj))
def lP (y1:ah) (gH:List Sub):Option cj :=
 loop (λs=>qB y1 gH s.1 s.2) (1,([]:List al))
def lQ (y1:ah) (AL:Int) (qC:List Sub):Option ((Int×List Sub) ⊕ cj) :=
 ck ((decide (AL<=9999))=true->(cV ((y1.bh.length:Int) - (y1.ended.length:Int)))) (if ((decide (AL<=9999)) && (decide ((qC.length:Int)<((y1.bh.length:Int) - (y1.ended.length:Int)))))=true then ((oo y1 AL).bind λy3=>(bH (decide (y3>=0)) (lX y1 AL)).bind λy4=>if ((decide (y3>=0)) && (!y4))=true then (ck ((0:Int)<=y3/\y3<(y1.bh.length:Int)) (ck (qC.length+([nth y1.bh y3.toNat]:List Sub).length<=1000000000) (ck (cV (AL+1)) (some (.inl (AL+1,qC++([nth y1.bh y3.toNat]:List Sub))))))) else ck (cV (AL+1)) (some (.inl (AL+1,qC)))) else (lP y1 qC).map (λz=>.inr z))
def sr (v0:List Event) (v1:Int):Option cj :=
 (rq v0 v1).bind λy1=>loop (λs=>lQ y1 s.1 s.2) (1,([]:List Sub))
def nQ (eD:List UInt8) (y1:cj) (fm:Int):Option (Int ⊕ (Int×Bool)) :=
 if (decide (fm<(y1.bh.length:Int)))=true then (ck ((0:Int)<=fm/\fm<(y1.bh.length:Int)) ((oq (nth y1.bh fm.toNat).numbers eD).bind λy2=>if y2=true then (ck ((0:Int)<=fm/\fm<(y1.bh.length:Int)) (some (.inr ((nth y1.bh fm.toNat).id,true)))) else ck (cV (fm+1)) (some (.inl (fm+1))))) else some (.inr (0,false))
def sv (aH:List Event) (eD:List UInt8) (I6:Int):Option (Int×Bool) :=
 (sr aH I6).bind λy1=>loop (λs=>nQ eD y1 s) 0
def vY (aH:List Event) (wZ:Int) (I6:Int):Option (Sub×Bool) :=
 (rq aH I6).bind λy1=>(oo y1 wZ).bind λy2=>(bH (!(decide (y2<0))) (lX y1 wZ)).bind λy3=>if ((decide (y2<0)) || y3)=true then some ((⟨0,0,0,([]:List UInt8),([]:List (List UInt8)),([]:List (List UInt8)),false,false⟩:Sub),false) else ck ((0:Int)<=y2/\y2<(y1.bh.length:Int)) (some (nth y1.bh y2.toNat,true))
def jE (v0:List Event) (v1:aa) (v2:Int) (M6:List UInt8):Option (aE×Int) :=
 (sv v0 M6 v1.start).bind λy2=>if ((!y2.2) || (M6==([]:List UInt8)))=true then some ((⟨0,0,0,0,([]:List UInt8),([]:List UInt8),0,0,0,false,0,0⟩:aE),11) else (vY v0 y2.1 v1.start).bind λy3=>if (y3.1.bn && (!v1.bT))=true then some ((⟨0,0,0,0,([]:List UInt8),([]:List UInt8),0,0,0,false,0,0⟩:aE),16) else some ((⟨v2,v1.kind,y3.1.aq,y2.1,v1.a,v1.b,v1.start,v1.cz,v1.cF,v1.bT,v1.source,v1.az⟩:aE),0)
def pQ (v0:List Event) (v1:aa) (v2:Int):Option (aE×Int) :=
 (il v1).bind λy1=>if (y1 != 0)=true then some ((⟨0,0,0,0,([]:List UInt8),([]:List UInt8),0,0,0,false,0,0⟩:aE),y1) else if (v1.part != 0)=true then some ((⟨0,0,0,0,([]:List UInt8),([]:List UInt8),0,0,0,false,0,0⟩:aE),8) else if v1.bT=true then (jE v0 v1 v2 v1.b) else jE v0 v1 v2 v1.a
def rO (fu:List Range) (gz:List Range) (aG:Int):Option (Int ⊕ Bool) :=
 if (decide (aG<(fu.length:Int)))=true then (ck ((0:Int)<=aG/\aG<(fu.length:Int)) (ck ((0:Int)<=aG/\aG<(gz.length:Int)) (if (!(dO (Range.bJ (nth fu aG.toNat)) (Range.bJ (nth gz aG.toNat))))=true then some (.inr false) else ck (cV (aG+1)) (some (.inl (aG+1)))))) else some (.inr true)
def ub (fu:List Range) (gz:List Range):Option Bool :=
 if ((fu.length:Int) != (gz.length:Int))=true then some false else loop (λs=>rO fu gz s) 0
def rP (fu:List aa) (gz:List aa) (aG:Int):Option (Int ⊕ Bool) :=
 if (decide (aG<(fu.length:Int)))=true then (ck ((0:Int)<=aG/\aG<(fu.length:Int)) (ck ((0:Int)<=aG/\aG<(gz.length:Int)) (if (!(dO (aa.bJ (nth fu aG.toNat)) (aa.bJ (nth gz aG.toNat))))=true then some (.inr false) else ck (cV (aG+1)) (some (.inl (aG+1)))))) else some (.inr true)
def nR (fu:List aa) (gz:List aa):Option Bool :=
 if ((fu.length:Int) != (gz.length:Int))=true then some false else loop (λs=>rP fu gz s) 0
def pg (fu:aI) (gz:aI):Option Bool :=
 (ub fu.seen gz.seen).bind λy1=>(bH y1 (nR fu.open_ gz.open_)).bind λy2=>some (y1 && y2)
def rQ (fu:aI) (gz:aI) (aG:Int):Option (Int ⊕ Bool) :=
 if (decide (aG<(fu.aK.length:Int)))=true then (ck ((0:Int)<=aG/\aG<(fu.aK.length:Int)) (ck ((0:Int)<=aG/\aG<(gz.aK.length:Int)) (if (!(dO (Head.bJ (nth fu.aK aG.toNat)) (Head.bJ (nth gz.aK aG.toNat))))=true then some (.inr false) else ck (cV (aG+1)) (some (.inl (aG+1)))))) else (pg fu gz).map (λz=>.inr z)
def ud (fu:aI) (gz:aI):Option Bool :=
 if ((fu.aK.length:Int) != (gz.aK.length:Int))=true then some false else loop (λs=>rQ fu gz s) 0
def rR (fu:List aE) (gz:List aE) (aG:Int):Option (Int ⊕ Bool) :=
 if (decide (aG<(fu.length:Int)))=true then (ck ((0:Int)<=aG/\aG<(fu.length:Int)) (ck ((0:Int)<=aG/\aG<(gz.length:Int)) (if (!(dO (aE.bJ (nth fu aG.toNat)) (aE.bJ (nth gz aG.toNat))))=true then some (.inr false) else ck (cV (aG+1)) (some (.inl (aG+1)))))) else some (.inr true)
def pG (fu:List aE) (gz:List aE):Option Bool :=
 if ((fu.length:Int) != (gz.length:Int))=true then some false else loop (λs=>rR fu gz s) 0
def kj (fu:List ai) (gz:List ai) (aG:Int):Option (Int ⊕ Bool) :=
 if (decide (aG<(fu.length:Int)))=true then (ck ((0:Int)<=aG/\aG<(fu.length:Int)) (ck ((0:Int)<=aG/\aG<(gz.length:Int)) (if (!(dO (ai.bJ (nth fu aG.toNat)) (ai.bJ (nth gz aG.toNat))))=true then some (.inr false) else ck (cV (aG+1)) (some (.inl (aG+1)))))) else some (.inr true)
def km (fu:List ai) (gz:List ai):Option Bool :=
 if ((fu.length:Int) != (gz.length:Int))=true then some false else loop (λs=>kj fu gz s) 0
def ue (fu:ag) (gz:ag):Option Bool :=
 (ud fu.aw gz.aw).bind λy1=>(bH y1 (pG fu.usages gz.usages)).bind λy2=>(bH (y1 && y2) (nR fu.aB gz.aB)).bind λy3=>(bH ((y1 && y2) && y3) (km fu.ba gz.ba)).bind λy4=>some (((y1 && y2) && y3) && y4)
def ru (ep:bw):Option Int :=
 ck (cV (ep.accepted+ep.merged)) (ck (cV ((ep.accepted+ep.merged)+ep.rejected)) (ck (cV (((ep.accepted+ep.merged)+ep.rejected)+ep.bn)) (ck (cV ((((ep.accepted+ep.merged)+ep.rejected)+ep.bn)+ep.open_)) (some ((((ep.accepted+ep.merged)+ep.rejected)+ep.bn)+ep.open_)))))
def jN (v0:List Event) (v1:ag) (v2:bY):Option Bool :=
 (rp v0).bind λy1=>(bH (!(!y1)) (gX v1)).bind λy2=>(bH (!((!y1) || (!y2))) (pL v2.batch.records)).bind λy3=>if (((!y1) || (!y2)) || (!y3))=true then ((fQ).bind λy4=>some y4) else (cO v1).bind λy5=>(ei v0 v1 v2.batch v2.qZ).bind λy6=>if (y6.2 != 0)=true then ((bH ((y6.1.usages.length:Int)==0) (ru y5)).bind λy7=>(bH (((y6.1.usages.length:Int)==0) && (y5.read==y7)) fQ).bind λy8=>some ((((y6.1.usages.length:Int)==0) && (y5.read==y7)) && y8)) else (cO y6.1).bind λy9=>ck (cV (y5.read+(v2.batch.records.length:Int))) ((bH (!(y9.read != (y5.read+(v2.batch.records.length:Int)))) (ru y9)).bind λFx=>if ((((y9.read != (y5.read+(v2.batch.records.length:Int))) || (y9.read != Fx)) || (decide (y9.merged<y5.merged))) || (decide ((y6.1.usages.length:Int)<(v1.usages.length:Int))))=true then some false else ck ((0:Int)<=(v1.usages.length:Int)/\(v1.usages.length:Int)<=(y6.1.usages.length:Int)) ((pG (y6.1.usages.take ((v1.usages.length:Int)).toNat) v1.usages).bind λM7=>(bH M7 (eE y6.1)).bind λPS=>(bH (M7 && PS) fQ).bind λy13=>some ((M7 && PS) && y13)))
def eK (v0:List Event) (v1:ag) (y4:ag) (oK:List aa):Option Bool :=
 (cO v1).bind λy5=>(cO y4).bind λy6=>(nR y4.aB oK).bind λy7=>ck ((!((((!y7) || (y5.read != y6.read)) || (y5.rejected != y6.rejected)) || (y5.merged != y6.merged)))=true->(cV (y5.accepted+y5.bn))) (ck ((!((((!y7) || (y5.read != y6.read)) || (y5.rejected != y6.rejected)) || (y5.merged != y6.merged)))=true->(cV (y6.accepted+y6.bn))) (if (((((!y7) || (y5.read != y6.read)) || (y5.rejected != y6.rejected)) || (y5.merged != y6.merged)) || ((y5.accepted+y5.bn) != (y6.accepted+y6.bn)))=true then some false else (gq v0 y4).bind λy8=>(ue y8 y4).bind λy9=>(bH y9 (eE y4)).bind λFx=>(bH (y9 && Fx) fQ).bind λM7=>some ((y9 && Fx) && M7)))
def fR (v0:List Event) (v1:ag) (y4:ag) (sM:List aa) (ew:Int):Option ((List aa×Int) ⊕ Bool) :=
 if (decide (ew<(v1.aB.length:Int)))=true then (ck ((0:Int)<=ew/\ew<(v1.aB.length:Int)) ((pQ v0 (nth v1.aB ew.toNat) 1).bind λPS=>if (PS.2 != 0)=true then (ck ((0:Int)<=ew/\ew<(v1.aB.length:Int)) (ck (sM.length+([nth v1.aB ew.toNat]:List aa).length<=1000000000) (ck (cV (ew+1)) (some (.inl (sM++([nth v1.aB ew.toNat]:List aa),ew+1)))))) else ck (cV (ew+1)) (some (.inl (sM,ew+1))))) else (eK v0 v1 y4 sM).map (λz=>.inr z)
def kn (v0:List Event) (v1:ag):Option Bool :=
 (rp v0).bind λy1=>(bH (!(!y1)) (gX v1)).bind λy2=>if ((!y1) || (!y2))=true then ((fQ).bind λy3=>some y3) else (gq v0 v1).bind λy4=>loop (λs=>fR v0 v1 y4 s.1 s.2) (([]:List aa),0)
def rv (fu:List aa) (gz:List aa):Option Bool :=
 (nR fu gz).bind λy1=>some y1
def kT (v0:List Event) (v1:ag) (v2:bY):Option Bool :=
 (rp v0).bind λy1=>(bH (!(!y1)) (gX v1)).bind λy2=>(bH (!((!y1) || (!y2))) (pL v2.batch.records)).bind λy3=>if (((!y1) || (!y2)) || (!y3))=true then ((fQ).bind λy4=>some y4) else (ei v0 v1 v2.batch v2.qZ).bind λy5=>if ((y5.2 != 0) || (v2.batch.number==999999999))=true then ((fQ).bind λy6=>some y6) else (ei v0 y5.1 v2.batch v2.qZ).bind λy7=>if (y7.2 != 20)=true then some false else ck (cV (v2.batch.number+1)) ((ei v0 y5.1 (⟨v2.batch.source,v2.batch.number+1,v2.batch.format,v2.batch.records⟩:Batch) v2.qZ).bind λy8=>(bH (y8.2==0) (pG y8.1.usages y5.1.usages)).bind λy9=>(bH ((y8.2==0) && y9) (rv y8.1.aB y5.1.aB)).bind λFx=>(bH (((y8.2==0) && y9) && Fx) (rv y8.1.aw.open_ y5.1.aw.open_)).bind λM7=>ck (((((y8.2==0) && y9) && Fx) && M7)=true->(cV ((y5.1.ba.length:Int)+(v2.batch.records.length:Int)))) ((bH (((((y8.2==0) && y9) && Fx) && M7) && ((y8.1.ba.length:Int)==((y5.1.ba.length:Int)+(v2.batch.records.length:Int)))) fQ).bind λPS=>some ((((((y8.2==0) && y9) && Fx) && M7) && ((y8.1.ba.length:Int)==((y5.1.ba.length:Int)+(v2.batch.records.length:Int)))) && PS)))
def fh (bc:List aa) (bg:List Event) (bl:List aE) (eW:List aa) (bR:Int):Option ((List aE×List aa×Int) ⊕ ((List aE)×(List aa))) :=
 if (decide (bR<(bc.length:Int)))=true then (ck ((0:Int)<=bR/\bR<(bc.length:Int)) (ck (cV ((bl.length:Int)+1)) ((gj bg (nth bc bR.toNat) ((bl.length:Int)+1)).bind λy1=>if (y1.2==0)=true then (ck (bl.length+([y1.1]:List aE).length<=1000000000) (ck (cV (bR+1)) (some (.inl (bl++([y1.1]:List aE),eW,bR+1))))) else ck (eW.length+([nth bc bR.toNat]:List aa).length<=1000000000) (ck (cV (bR+1)) (some (.inl (bl,eW++([nth bc bR.toNat]:List aa),bR+1))))))) else some (.inr (bl,eW))
def nS (bc:List aa) (c9:List Range) (oX:List aa) (oY:List Head) (bA:List ai) (bg:List Event) (aX:List aE) (kK:List aa):Option ((List aE)×(List aa)) :=
 loop (λs=>fh bc bg s.1 s.2.1 s.2.2) (aX,kK,0)
def dX (base:Nat) (w:World) (v:Value) (n:Nat) (xs:List Value) (v':Value) (w':World):Prop :=
 w'.ownsRow base 58 12 v' n xs/\((v'.ownBlock=v.ownBlock/\w'.heap.size=w.heap.size/\w.grownBy w' v.ownBlock)∨(v'.ownBlock=some w.heap.size/\Below w.heap.size w w'))
theorem vn {base m:Nat} {w:World} {u:Value} {ys:List Value} (hu:w.ownsRow base 58 12 u m ys) (h1:∀ y∈ys,y.oneCell'=true):Go.Abs.Src Tryz.prog w 12 u m ys:=by
 rcases hu.2 with ⟨rfl,rfl⟩|⟨b,cap,cur,rfl,hb,hg,DS,zu,yU,xG⟩
 ·have:ys=[]:=zbc (by simpa using hu.1);subst this;exact ⟨rfl,λw' _=>run_firstCells_none w' _ 0 0 _,by simp,by simp⟩
 ·refine ⟨rfl,λw' hw=>run_firstCells_some w' _ m _ m cap ys hu.1 λj y hj=>?_,hu.1,h1⟩;rw [World.cell?_of_block (w:=w) (by rw [hw])];exact hu.cells (g:=b) rfl j y hj
theorem GP (w:World) {base n m:Nat} {v u:Value} {xs ys:List Value} (hs:w.ownsRow base 58 12 v n xs) (hu:w.ownsRow base 58 12 u m ys) (hm:0<m) (hb:n+m<=1000000000) (kW:base<=w.heap.size) (h1:∀ y∈ys,y.oneCell'=true) :
  Calls Tryz.prog 132 #[v,.int .i64 n,u] w λe w'=>∃ v',e=.returned v'/\dX base w v (n+m) (xs++ys) v' w':=by
 have t3:=Tryz.underlying3;have t22:=Tryz.underlying23;have u3:=run_underlying Tryz.underlying3;have TG:=run_underlying Tryz.underlying23;have MO:¬ ((m:Int)=0):=by omega
 obtain ⟨i,hi,hz,fT,Ev⟩:=iY;obtain ⟨v',w',iE,kM,_,hc⟩:=lU (P:=Tryz.prog) (ty:=23) w Tryz.underlying23 Tryz.underlying23 (.inr ⟨_,rfl⟩) hi hz fT (by rfl) hs (vn hu h1) (by simp only [maxLen];omega) (by rw [Ev];omega) kW;rcases hu.2 with ⟨_,h0⟩|⟨vb,vc,CT,rfl,_⟩
 ·omega
 rcases hs.2 with ⟨rfl,rfl⟩|⟨b,c,cur,rfl,zX,hg,DS,zu,yU,xG⟩
 ·go_enter Tryz.func132,Tryz.ntmps132
  go_wp2_with (at_builtin;refine Lib.wpList_append_run _ rfl _ _ _ _ rfl _ _ rfl rfl _ _ iE ?_)
  go_ret;exact ⟨_,rfl,kM,hc⟩
 ·go_enter Tryz.func132,Tryz.ntmps132
  go_wp2_with (at_builtin;refine Lib.wpList_append_run _ rfl _ _ _ _ rfl _ _ rfl rfl _ _ iE ?_)
  all_goals (go_ret;exact ⟨_,rfl,kM,hc⟩)
theorem jY {w:World} {base b n c:Nat} {xs:List Value} (hs:w.ownsRow base 58 12 (.slice (some ⟨b,0,none⟩) n c) n xs):base<=b/\n<=c/\c<=maxLen/\∃ cur:Array Value,w.heap[b]?=some (.cells cur 58 (0,0))/\cur.size=c*12/\cur.toList.take (n*12)=xs:=by
 rcases hs.2 with ⟨h,_⟩|⟨b',c',cur,h,zX,hg,DS,zu,yU,xG⟩
 ·cases h
 ·cases h;exact ⟨zX,DS,zu,cur,hg,yU,xG⟩
theorem GQ (w:World) {b vb m vc o lb cb cs:Nat} {cur CT:Array Value} (fi:vb≠b) (hg:w.heap[b]?=some (.cells cur 58 (0,0))) (PT:w.heap[vb]?=some (.cells CT 58 (0,0))) (hk:cur.size≠0) :
  (callFunc 178 #[.slice (some ⟨vb,0,none⟩) m vc,.slice (some ⟨b,o,none⟩) lb cb]).run Tryz.prog w=.ok (.value (.bool false)) w:=by
 obtain ⟨i,hi,hz,fT,Ev⟩:=iY;rw [run_callFunc_extern Tryz.func178 (by kernel_rfl) (by kernel_rfl) (by kernel_rfl) (e:=Extern.SlicesOverlaps.overlaps #[23,23] #[4]) (by kernel_rfl),
  Lib.run_overlaps_apart w 23 4 58 Tryz.underlying23 12 (λw'=>by simp [sizeOf,typeInfo,hi,fT]) ⟨vb,0,none⟩ ⟨b,o,none⟩ m vc lb cb fi 58 58 CT.size cur.size (by simp [World.shape?,PT]) (by simp [World.shape?,hg]) hk (by simp [World.frozen?,PT]) (by simp [World.frozen?,PT])]
 rfl
theorem DZ (w:World) {base b n c i vb m vc:Nat} {xs ys:List Value} (hs:w.ownsRow base 58 12 (.slice (some ⟨b,0,none⟩) n c) n xs) (hu:w.ownsRow base 58 12 (.slice (some ⟨vb,0,none⟩) m vc) m ys) (fi:vb≠b) (hi:i<n) (hm:0<m) (hb:n+m<=1000000000) (uO:n+m<=c)
  (DU:∀ x∈xs,x.oneCell'=true) (h1:∀ y∈ys,y.oneCell'=true) :
  Calls Tryz.prog 132 #[.slice (some ⟨b,0,none⟩) n c,.int .i64 i,.slice (some ⟨vb,0,none⟩) m vc] w λe w'=>∃ v',e=.returned v'/\dX base w (.slice (some ⟨b,0,none⟩) n c) (n+m) (xs.take (i*12)++ys++xs.drop (i*12)) v' w':=by
 have t3:=Tryz.underlying3;have t22:=Tryz.underlying23;have u3:=run_underlying Tryz.underlying3;have TG:=run_underlying Tryz.underlying23;obtain ⟨zX,DS,zu,cur,hg,yU,xG⟩:=jY hs;obtain ⟨_,hvc,_,CT,PT,XL,XM⟩:=jY hu;obtain ⟨inf,lY,hz,fT,Ev⟩:=iY;simp only [maxLen] at zu;have z32:∀ w,(Go.sizeOf 58).run Tryz.prog w=.ok 12 w:=λw'=>by simp [sizeOf,typeInfo,lY,fT]
 have MO:¬ ((m:Int)=0):=by omega
 have Y2:¬ ((i:Int)=(n:Int)):=by omega
 have mixed:=oc;have hw1:IntKind.i64.wrap ((i:Int)+(m:Int))=(i:Int)+(m:Int):=by rw [IntKind.wrap_i64];omega
 have Hn:(0:Int)<=(i:Int)+(m:Int):=by omega
 have Dr:i<=n:=by omega
 have htn:((i:Int)+(m:Int)).toNat=i+m:=by omega
 have Ho:¬ (c=i+m):=by omega
 have GR:(i:Int)<=(n:Int)+(m:Int):=by omega
 have VE:¬ (c=i):=by omega
 have RS:cur.size≠0:=by rw [yU];omega
 have wx:=hs.1;have vQ:=hu.1;have hov:∀ o lb cb,(callFunc 178 #[.slice (some ⟨vb,0,none⟩) m vc,.slice (some ⟨b,o,none⟩) lb cb]).run Tryz.prog w=.ok (.value (.bool false)) w:=λo lb cb=>GQ (cs:=0) w fi hg PT RS
 -- the first copy
 have Bz:∀ j x,xs[j]?=some x->w.cell? ⟨b,j,none⟩=some x:=λj x hj=>by have:=hs.cells (g:=b) rfl j x hj;rwa [Addr.add_lit,zca] at this
 have M8:∀ j v,(xs.drop (i*12))[j]?=some v->w.cell? (Addr.add ⟨b,i*12,none⟩ j)=some v:=λj v hj=>by
  rw [zbd] at hj;rw [Addr.add_lit];exact Bz _ _ hj
 have Uh:Nat.min (n+m-i) (n+m-(i+m))=n-i:=rH (by omega);have XN:Nat.min m (n+m-i)=m:=rH (by omega);have A4:(xs.drop (i*12)).length=Nat.min (n+m-i) (n+m-(i+m))*12:=by rw [zbg,wx,Uh];omega
 have GS:∀ (W:World),W.heap=w.heap->∀ ty dc sc,(Builtin.copy_ #[23,23] ty #[.slice (some ⟨b,(i+m)*12,none⟩) (n+m-(i+m)) dc,.slice (some ⟨b,i*12,none⟩) (n+m-i) sc]).run Tryz.prog W=.ok (goInt (Nat.min (n+m-i) (n+m-(i+m)))) (W.setRow b (laid cur.toList ((i+m)*12) (xs.drop (i*12))).toArray):=λW hW ty dc sc =>
  oa W Tryz.underlying23 lY fT (by rw [hW];exact hg) A4 (λj v hj=>by rw [World.cell?_of_block (w:=w) (by rw [hW])];exact M8 j v hj) (λv hv=>DU v (zdh hv)) (by rw [A4,yU,Uh];omega)
 generalize zx:laid cur.toList ((i+m)*12) (xs.drop (i*12))=L1 at GS;have sE:cur.toList.length=c*12:=by simpa using yU
 have ph:(i+m)*12+(xs.drop (i*12)).length<=cur.toList.length:=by rw [zbg,wx,sE];omega
 have DF:L1.length=cur.toList.length:=by rw [←zx];exact jl ph
 have Cq:∀ j v,ys[j]?=some v->w.cell? (Addr.add ⟨vb,0,none⟩ j)=some v:=λj v hj=>hu.cells (g:=vb) rfl j v hj
 have KW:∀ (W:World),W.heap[b]?=some (.cells L1.toArray 58 (0,0))->(∀ x:Addr,x.block≠b->W.cell? x=w.cell? x)->∀ ty dc,(Builtin.copy_ #[23,23] ty #[.slice (some ⟨b,i*12,none⟩) (n+m-i) dc,.slice (some ⟨vb,0,none⟩) m vc]).run Tryz.prog W=.ok (goInt (Nat.min m (n+m-i))) (W.setRow b (laid L1 (i*12) ys).toArray):=λW RT RU ty dc =>
  oa W Tryz.underlying23 lY fT RT (by rw [vQ,XN]) (λj v hj=>by rw [RU _ (by rw [Addr.add_lit];exact fi)];exact Cq j v hj) h1 (by simp only [zbz];omega)
 have Mo:((w.drew).setRow b L1.toArray).heap[b]?=some (.cells L1.toArray 58 (0,0)):=setRow_heap w.drew b cur _ 58 (0,0) hg;have uD:∀ x:Addr,x.block≠b->((w.drew).setRow b L1.toArray).cell? x=w.cell? x:=λx hx=>World.cell?_of_block (w:=w) (setRow_other w.drew b x.block _ hx)
 have pT:dX base w (.slice (some ⟨b,0,none⟩) n c) (n+m) (xs.take (i*12)++ys++xs.drop (i*12)) (.slice (some ⟨b,0,none⟩) (n+m) c) (((w.drew).setRow b L1.toArray).setRow b (laid L1 (i*12) ys).toArray):=by
  have BA:i*12+ys.length<=L1.length:=by rw [vQ,DF,sE];omega
  refine ⟨⟨by simp only [zak,zba,zbg];omega,.inr ⟨b,c,_,rfl,zX,setRow_heap _ b _ _ 58 (0,0) Mo,uO,by simp only [maxLen];omega,by rw [zbz,jl BA,DF,sE],?_⟩⟩,
   .inl ⟨rfl,by simp,⟨rfl,rfl,rfl,by simp,λk hk I8=>?_⟩⟩⟩
  ·rw [zdf,jW BA (by rw [vQ];omega),←zx];have e1:(laid cur.toList ((i+m)*12) (xs.drop (i*12))).take (i*12)=xs.take (i*12):=by
    apply zcm;intro j;rw [zal,zal,ym ph];by_cases h:j<i*12
    ·rw [zaa h,zaa h,zab (by omega),←xG,zal,zaa (by omega)]
    ·rw [zab h,zab h]
   rw [e1];congr 1;rw [jW ph (by rw [zbg,wx];omega),vQ];apply zcm;intro j;rw [zbd];have cU:(List.take ((i+m)*12) cur.toList).length=(i+m)*12:=by rw [zba,sE];omega
   by_cases h:j<(n-i)*12
   ·rw [zao (by rw [zak,cU,zbg,wx];omega),zaw (by rw [cU];omega),cU];congr 1;omega
   ·rw [zbp (by simp only [zak,zbg,zba,sE,wx];omega),zbp (by rw [zbg,wx];omega)]
  ·rw [setRow_other _ b k _ (λe=>I8 (by rw [e];rfl)),setRow_other _ b k _ (λe=>I8 (by rw [e];rfl))];rfl
 have RV:=GS w.drew rfl;have RW:=KW _ Mo uD;go_enter Tryz.func132,Tryz.ntmps132
 go_wp2_with (simp only [hov])
 go_region_law_o (refine ni rfl _ _ 23 23 rfl _ _ (by simp [Act.eval,Act.put]) (by simp [Act.eval,Act.put]) (RV _ _ _) ?_)
 go_wp2_with (at_builtin;refine ku _ rfl _ _ 23 23 rfl _ _ rfl rfl (RW _ _) ?_)
 go_ret;exact ⟨_,rfl,pT⟩
theorem FA (w:World) {base b n c i vb m vc:Nat} {xs ys:List Value} (hs:w.ownsRow base 58 12 (.slice (some ⟨b,0,none⟩) n c) n xs) (hu:w.ownsRow base 58 12 (.slice (some ⟨vb,0,none⟩) m vc) m ys) (hi:i<n) (hm:0<m) (hb:n+m<=1000000000) (uO:c<n+m) (kW:base<=w.heap.size)
  (DU:∀ x∈xs,x.oneCell'=true) (h1:∀ y∈ys,y.oneCell'=true) :
  Calls Tryz.prog 132 #[.slice (some ⟨b,0,none⟩) n c,.int .i64 i,.slice (some ⟨vb,0,none⟩) m vc] w λe w'=>∃ v',e=.returned v'/\dX base w (.slice (some ⟨b,0,none⟩) n c) (n+m) (xs.take (i*12)++ys++xs.drop (i*12)) v' w':=by
 have t3:=Tryz.underlying3;have t22:=Tryz.underlying23;have u3:=run_underlying Tryz.underlying3;have TG:=run_underlying Tryz.underlying23;obtain ⟨zX,DS,zu,cur,hg,yU,xG⟩:=jY hs;obtain ⟨_,hvc,_,CT,PT,XL,XM⟩:=jY hu;obtain ⟨inf,lY,hz,fT,Ev⟩:=iY;simp only [maxLen] at zu;have mixed:=oc;have MO:¬ ((m:Int)=0):=by omega
 have Y2:¬ ((i:Int)=(n:Int)):=by omega
 have xJ:(c:Int)<(n:Int)+(m:Int):=by omega
 have hbw:b<w.heap.size:=(hs.lt b rfl).2;have hvw:vb<w.heap.size:=(hu.lt vb rfl).2;have hkk:(n:Int)+(m:Int) - (i:Int)=((n+m-i:Nat):Int):=by omega
 have XO:i+(n+m-i)=n+m:=by omega
 have wx:=hs.1;have vQ:=hu.1;have Bz:∀ j x,xs[j]?=some x->w.cell? ⟨b,j,none⟩=some x:=λj x hj=>by have:=hs.cells (g:=b) rfl j x hj;rwa [Addr.add_lit,zca] at this
 have hold:(Builtin.firstCells inf.size i (.slice (some ⟨b,0,none⟩) i c)).run Tryz.prog w.drew=.ok (xs.take (i*12)).toArray w.drew:=by
  rw [fT];refine run_firstCells_some w.drew 12 i ⟨b,0,none⟩ i c (xs.take (i*12)) (by rw [zba];omega) (λj v hj=>?_);rw [Addr.add_lit,zca];rw [zal] at hj;split at hj
  ·exact Bz j v hj
  ·cases hj
 generalize hzv:(Value.agg _)=zv at hz;have Dm:zv.cells.size=12:=by rw [←hzv];rfl
 have XP:∀ ty,(Builtin.append_ #[23,3] ty #[.slice (some ⟨b,0,none⟩) i c,.int .i64 ((n:Int)+(m:Int) - (i:Int))]).run Tryz.prog w =
   .ok (.slice (some ⟨w.heap.size,0,none⟩) (n+m) (grownCap w (n+m) c 58)) (w.drew.alloc (.cells ((xs.take (i*12)).toArray++Builtin.zeroCells zv.cells (n+m-i)++Builtin.zeroCells zv.cells (grownCap w (n+m) c 58-(n+m))) 58)):=λty=>by
  have h:=Lib.run_append_grow_zeros w 23 3 ty 58 inf zv .i64 .i64 Tryz.underlying23 Tryz.underlying3 lY hz (some ⟨b,0,none⟩) i c (xs.take (i*12)) hold (n+m-i) (by omega) (by omega) (by omega) (by omega) (by rw [Ev];omega) (by rw [XO];exact growslice_fits uO (by rw [Ev];omega));rw [XO] at h;rw [hkk];exact h
 have hGn:n+m<=grownCap w (n+m) c 58:=grownCap_ge w _ _ _;have RX:grownCap w (n+m) c 58<=maxLen:=grownCap_le_maxLen w (n+m) c 58 (by unfold maxLen;omega);generalize grownCap w (n+m) c 58=G at XP hGn RX;simp only [maxLen] at RX;generalize hROW:(xs.take (i*12)).toArray++Builtin.zeroCells zv.cells (n+m-i)++Builtin.zeroCells zv.cells (G-(n+m))=vo at XP;have hRl:vo.size=G*12:=by
  rw [←hROW];simp only [zfq,zbz,zba,size_zeroCells,Dm,wx];omega
 have hRt:vo.toList.take (i*12)=xs.take (i*12):=by
  rw [←hROW];simp only [zgg,zat];rw [zec (by rw [zba];omega),zbw (by rw [zba];omega)]
 have XQ:vo.toList.length=G*12:=by simpa using hRl
 have hmA:Nat.min m (n+m-i)=m:=rH (by omega);have hmB:Nat.min (n-i) (n+m-(i+m))=n-i:=rH (by omega);have A4:(xs.drop (i*12)).length=(n-i)*12:=by rw [zbg,wx];omega
 have KX:i*12+ys.length<=vo.toList.length:=by rw [vQ,XQ];omega
 have RY:∀ (W:World),W.heap[w.heap.size]?=some (.cells vo 58 (0,0))->(∀ x:Addr,x.block<w.heap.size->W.cell? x=w.cell? x)->∀ ty dc,(Builtin.copy_ #[23,23] ty #[.slice (some ⟨w.heap.size,i*12,none⟩) (n+m-i) dc,.slice (some ⟨vb,0,none⟩) m vc]).run Tryz.prog W=.ok (goInt (Nat.min m (n+m-i))) (W.setRow w.heap.size (laid vo.toList (i*12) ys).toArray):=λW RT RU ty dc =>
  oa W Tryz.underlying23 lY fT RT (by rw [vQ,hmA]) (λj v hj=>by rw [RU _ (by rw [Addr.add_lit];exact hvw)];exact hu.cells (g:=vb) rfl j v hj) h1 (by rw [vQ,hRl];omega)
 generalize zx:laid vo.toList (i*12) ys=L1 at RY;have DF:L1.length=vo.toList.length:=by rw [←zx];exact jl KX
 have KY:(i+m)*12+(xs.drop (i*12)).length<=L1.length:=by rw [A4,DF,XQ];omega
 have RZ:∀ (W:World),W.heap[w.heap.size]?=some (.cells L1.toArray 58 (0,0))->(∀ x:Addr,x.block<w.heap.size->W.cell? x=w.cell? x)->∀ ty dc sc,(Builtin.copy_ #[23,23] ty #[.slice (some ⟨w.heap.size,(i+m)*12,none⟩) (n+m-(i+m)) dc,.slice (some ⟨b,i*12,none⟩) (n-i) sc]).run Tryz.prog W=.ok (goInt (Nat.min (n-i) (n+m-(i+m)))) (W.setRow w.heap.size (laid L1 ((i+m)*12) (xs.drop (i*12))).toArray):=λW RT RU ty dc sc =>
  oa W Tryz.underlying23 lY fT RT (by rw [A4,hmB]) (λj v hj=>by
   rw [RU _ (by rw [Addr.add_lit];exact hbw),Addr.add_lit];rw [zbd] at hj;exact Bz _ _ hj) (λv hv=>DU v (zdh hv)) (by simp only [zbz];omega)
 generalize zV:laid L1 ((i+m)*12) (xs.drop (i*12))=L2 at RZ;have QC:L2.length=L1.length:=by rw [←zV];exact jl KY
 have BC:∀ W:World,W.heap=w.heap.push (.cells vo 58 (0,0))->W.heap[w.heap.size]?=some (.cells vo 58 (0,0)):=λW hW=>by rw [hW];simp
 have PU:∀ W:World,W.heap=w.heap.push (.cells vo 58 (0,0))->∀ x:Addr,x.block<w.heap.size->W.cell? x=w.cell? x:=λW hW x hx=>World.cell?_of_block (w:=w) (by rw [hW,zdq hx];simp [hx]);have hB0:∀ W:World,W.heap=w.heap.push (.cells vo 58 (0,0))->(W.setRow w.heap.size L1.toArray).heap[w.heap.size]?=some (.cells L1.toArray 58 (0,0)):=λW hW=>setRow_heap W _ vo _ 58 (0,0) (BC W hW)
 have TC:∀ W:World,W.heap=w.heap.push (.cells vo 58 (0,0))->∀ x:Addr,x.block<w.heap.size->(W.setRow w.heap.size L1.toArray).cell? x=w.cell? x:=λW hW x hx=>(World.cell?_of_block (w:=W) (setRow_other W _ x.block _ (by omega))).trans (PU W hW x hx)
 have pT:∀ W W2:World,W.heap=w.heap.push (.cells vo 58 (0,0))->W.os=w.os->W.tape=w.tape->W.output=w.output->W2.heap=(W.setRow w.heap.size L1.toArray).heap->W2.os=w.os->W2.tape=w.tape->W2.output=w.output ->
   dX base w (.slice (some ⟨b,0,none⟩) n c) (n+m) (xs.take (i*12)++ys++xs.drop (i*12)) (.slice (some ⟨w.heap.size,0,none⟩) (n+m) G) (W2.setRow w.heap.size L2.toArray):=by
  intro W W2 hW ho ht hou XR Ph Cr XS;have XT:W2.heap[w.heap.size]?=some (.cells L1.toArray 58 (0,0)):=by rw [XR];exact hB0 W hW
  refine ⟨⟨by simp only [zak,zba,zbg];omega,.inr ⟨w.heap.size,G,_,rfl,kW,setRow_heap _ _ _ _ 58 (0,0) XT,hGn,by simp only [maxLen];omega,by rw [zbz,QC,DF,XQ],?_⟩⟩,
   .inr ⟨rfl,⟨Ph,Cr,XS,by simp [XR,hW],λk hk=>?_⟩⟩⟩
  ·have e2:(L1.take ((n+m)*12)).drop ((i+m)*12+(xs.drop (i*12)).length)=[]:=zcu (by rw [zba,A4];omega);rw [zdf,←zV,jW KY (by rw [A4];omega),e2,←zx];have e1:(laid vo.toList (i*12) ys).take ((i+m)*12)=xs.take (i*12)++ys:=by
    rw [jW KX (by rw [vQ];omega),hRt,vQ,zcu (by rw [zba];omega),zbn]
   rw [e1,zbn]
  ·rw [setRow_other _ _ k _ (by omega),XR,setRow_other _ _ k _ (by omega),hW,zdq hk];simp [hk]
 clear hkk XO hold hROW;have hGi:¬ (G=i):=by omega
 have hGim:¬ (G=i+m):=by omega
 have qK:¬ (c=i):=by omega
 have hw1:IntKind.i64.wrap ((i:Int)+(m:Int))=(i:Int)+(m:Int):=by rw [IntKind.wrap_i64];omega
 have Hn:(0:Int)<=(i:Int)+(m:Int):=by omega
 have Dr:i<=n:=by omega
 have htn:((i:Int)+(m:Int)).toNat=i+m:=by omega
 have GR:(i:Int)<=(n:Int):=by omega
 have R0:=RY (w.alloc (.cells vo 58)).drew (BC _ rfl) (PU _ rfl);have R1:=RZ ((w.alloc (.cells vo 58)).drew.setRow w.heap.size L1.toArray).drew (hB0 _ rfl) (TC (w.alloc (.cells vo 58)).drew rfl);have R2:=pT (w.alloc (.cells vo 58)).drew ((w.alloc (.cells vo 58)).drew.setRow w.heap.size L1.toArray).drew rfl rfl rfl rfl rfl rfl rfl rfl;go_enter Tryz.func132,Tryz.ntmps132
 go_wp2_with (first
  | (at_builtin;refine Lib.wpList_append_run _ rfl _ _ _ _ rfl _ _ rfl rfl _ _ (XP _) ?_)
  | (at_builtin;refine ku _ rfl _ _ 23 23 rfl _ _ rfl rfl (R0 _ _) ?_))
 go_region_law_o (refine ni rfl _ _ 23 23 rfl _ _ (by simp [Act.eval,Act.put]) (by simp [Act.eval,Act.put]) (R1 _ _ _) ?_)
 go_wp2
 go_ret;exact ⟨_,rfl,R2⟩
theorem GU (w:World) {base m:Nat} {A:Option Addr} {u:Value} {ys:List Value} (hu:w.ownsRow base 58 12 u m ys) (hm:0<m) (hb:m<=1000000000) (kW:base<=w.heap.size) (h1:∀ y∈ys,y.oneCell'=true) :
  Calls Tryz.prog 132 #[.slice A 0 0,.int .i64 0,u] w λe w'=>∃ v',e=.returned v'/\dX base w (.slice none 0 0) m ys v' w':=by
 have t3:=Tryz.underlying3;have t22:=Tryz.underlying23;have u3:=run_underlying Tryz.underlying3;have TG:=run_underlying Tryz.underlying23;have MO:¬ ((m:Int)=0):=by omega
 obtain ⟨i,hi,hz,fT,Ev⟩:=iY;have hs:=World.ownsRow_nil w base 58 12;obtain ⟨v',w',iE,kM,_,hc⟩:=lU (P:=Tryz.prog) (ty:=23) w Tryz.underlying23 Tryz.underlying23 (.inr ⟨_,rfl⟩) hi hz fT (by rfl) hs (vn hu h1) (by simp only [maxLen];omega) (by rw [Ev];omega) kW;rw [zca,zcc] at kM;have KZ:=((wF (ty:=23) Tryz.underlying23 Tryz.underlying23 (.inr ⟨_,rfl⟩) hi hz fT (vn hu h1) (by omega) (by rw [Ev];omega) A).2 (by omega)).trans iE;rcases hu.2 with ⟨_,h0⟩|⟨vb,vc,CT,rfl,_⟩
 ·omega
 cases A with
 | none =>
  go_enter Tryz.func132,Tryz.ntmps132
  go_wp2_with (at_builtin;refine Lib.wpList_append_run _ rfl _ _ _ _ rfl _ _ rfl rfl _ _ KZ ?_)
  all_goals (go_ret;exact ⟨_,rfl,kM,hc⟩)
 | some A =>
  obtain ⟨ab,ao,asp⟩:=A;go_enter Tryz.func132,Tryz.ntmps132
  go_wp2_with (at_builtin;refine Lib.wpList_append_run _ rfl _ _ _ _ rfl _ _ rfl rfl _ _ KZ ?_)
  all_goals (go_ret;exact ⟨_,rfl,kM,hc⟩)
theorem D1 (w:World) {base n m i:Nat} {v u:Value} {xs ys:List Value} (hs:w.ownsRow base 58 12 v n xs) (hu:w.ownsRow base 58 12 u m ys) (fi:∀ b,v.ownBlock=some b->u.ownBlock≠some b) (hi:i<=n) (hm:0<m) (hb:n+m<=1000000000) (kW:base<=w.heap.size)
  (DU:∀ x∈xs,x.oneCell'=true) (h1:∀ y∈ys,y.oneCell'=true) :
  Calls Tryz.prog 132 #[v,.int .i64 i,u] w λe w'=>∃ v',e=.returned v'/\dX base w v (n+m) (xs.take (i*12)++ys++xs.drop (i*12)) v' w':=by
 by_cases Dr:i=n
 ·subst Dr;have wx:=hs.1;rw [zbw (by omega),zcu (by omega),zbn];exact GP w hs hu hm hb kW h1
 ·obtain ⟨b,c,rfl⟩:=(jk hs).2 (by omega);obtain ⟨vb,vc,rfl⟩:=(jk hu).2 (by omega);by_cases hr:n+m<=c
  ·exact DZ w hs hu (λe=>fi b rfl (by rw [e];rfl)) (by omega) hm hb hr DU h1
  ·exact FA w hs hu (by omega) hm hb (by omega) kW DU h1
theorem CU {l l' r:List aa} {n0 n1:Nat} {i:Int} (H:qb i l l'=some r) :
  aR Tryz.prog 132 [.vc 0 n0,.d (cI i),.vc 1 n1] ⟨[],[⟨58,12,n0,some (l.map aa.row)⟩,⟨58,12,n1,some (l'.map aa.row)⟩]⟩
   (QE (.vc 2 r.length) ⟨[],[⟨58,12,([]:List aa).length,none⟩,⟨58,12,n1,some (l'.map aa.row)⟩,⟨58,12,r.length,some (r.map aa.row)⟩]⟩):=by
 obtain ⟨hk,H⟩:=au H;cases H;intro g w base vs hinv ha;obtain ⟨x,y,z,rfl,e1,e2,e3⟩:=Ry rfl ha;obtain ⟨k0,k1,k2,k3⟩:=hk;have Mn:y=.int .i64 i:=e2.bN;subst Mn;obtain ⟨xs,s1,s2,s3⟩:=hinv.own 0 _ _ _ _ rfl;obtain ⟨ys,u1,u2,u3⟩:=hinv.own 1 _ _ _ _ rfl;have NV:n0=l.length:=by have:=s3.len;simpa using this.symm
 have hn1:n1=l'.length:=by have:=u3.len;simpa using this.symm
 have hz:z=g.tk 1:=by
  rcases sV hinv rfl e3 with h|⟨_,h,_⟩
  ·exact h
  ·have:l'=[]:=by simpa using h
   rw [this] at k2;simp at k2
 subst hz;obtain ⟨j,rfl⟩:∃ j:Nat,i=(j:Int):=⟨i.toNat,by omega⟩;have rX:=s3.WY s1.1 u3 u1.1 (i:=j) (j:=j) (zar _) (by omega);have j5:(l.map aa.row).take j++l'.map aa.row++(l.map aa.row).drop j=(l.take j++l'++l.drop j).map aa.row:=by simp [List.map_take,List.map_drop]
 rw [j5,show j+n1+(n0-j)=n0+n1 from by omega] at rX;have hlen:(l.take j++l'++l.drop j).length=n0+n1:=by simp;omega
 have DU:=s3.one s1.1;have h1y:=u3.one u1.1;have fin:∀ v0:Value,(v0.ownBlock=(g.tk 0).ownBlock∨v0.ownBlock=none/\0<n0+n1)->∀ e w',(∃ v',e=.returned v'/\dX base w v0 (n0+n1) (xs.take (j*12)++ys++xs.drop (j*12)) v' w') ->
   ox ⟨g,w,⟨[],[⟨58,12,n0,some (l.map aa.row)⟩,⟨58,12,n1,some (l'.map aa.row)⟩]⟩,base⟩ (QE (.vc 2 (l.take (j:Int).toNat++l'++l.drop (j:Int).toNat).length) ⟨[],[⟨58,12,([]:List aa).length,none⟩,⟨58,12,n1,some (l'.map aa.row)⟩,⟨58,12,(l.take (j:Int).toNat++l'++l.drop (j:Int).toNat).length,some ((l.take (j:Int).toNat++l'++l.drop (j:Int).toNat).map aa.row)⟩]⟩) e w':=by
  rintro v0 MB e w' ⟨v',rfl,ho,hc⟩;rw [zce,hlen];refine wT hinv (tk:=0) rfl rfl ho ?_ rX;rcases hc with ⟨c1,c2,c3⟩|hc
  ·rcases MB with MB|⟨MB,hp⟩
   ·rw [MB] at c1 c3;exact .inl ⟨c1,c2,c3⟩
   ·rw [MB] at c1;obtain ⟨b,c,GG⟩:=(jk ho).2 (by omega);rw [GG] at c1;cases c1
  ·exact .inr hc
 rcases sV hinv rfl e1 with hx|⟨h0,WZ,A,hx⟩
 ·subst hx;refine (D1 w s1 u1 (λb h1 h2=>hinv.oH 0 1 _ _ b (by decide) rfl rfl h1 h2) (i:=j) (by omega) (by omega) (by omega) hinv.base DU h1y).mono ?_;exact fin _ (.inl rfl)
 ·subst hx;have hj:j=0:=by omega
  subst hj;have T1:xs=[]:=zbc (by rw [s1.1,h0,zfz]);subst T1;refine (GU w (A:=A) u1 (by omega) (by omega) hinv.base h1y).mono λe w' hh=>fin (.slice none 0 0) (.inr ⟨rfl,by omega⟩) e w' ?_
  rw [h0,zca];simpa using hh
theorem GV (w:World) {base b n c i m uc:Nat} {A:Option Addr} {xs ys:List Value} (hs:w.ownsRow base 58 12 (.slice (some ⟨b,0,none⟩) n c) n xs) (hu:Go.Abs.Src Tryz.prog w 12 (.slice A m uc) m ys) (hi:i<n) (hm:m<=n-i) (hb:n<=1000000000) :
  Calls Tryz.prog 182 #[.slice (some ⟨b,0,none⟩) n c,.int .i64 i,.int .i64 n,.slice A m uc] w λe w'=>∃ v',e=.returned v'/\dX base w (.slice (some ⟨b,0,none⟩) n c) (i+m) (xs.take (i*12)++ys) v' w':=by
 have t3:=Tryz.underlying3;have t22:=Tryz.underlying23;have u3:=run_underlying Tryz.underlying3;have TG:=run_underlying Tryz.underlying23;obtain ⟨zX,DS,zu,cur,hg,yU,xG⟩:=jY hs;obtain ⟨inf,lY,hz,fT,Ev⟩:=iY;simp only [maxLen] at zu;generalize hzv:(Value.agg _)=zv at hz;have Dm:zv.cells.size=12:=by rw [←hzv];rfl
 have MO:∀ v∈(Builtin.zeroCells zv.cells (n-(i+m))).toList,v.oneCell'=true:=vh (by rw [Dm,←hzv];decide);have Y2:¬ ((i:Int)=(n:Int)):=by omega
 have wx:=hs.1;have vQ:=hu.size;have sE:cur.toList.length=c*12:=by simpa using yU
 have ph:i*12+ys.length<=cur.toList.length:=by rw [vQ,sE];omega
 have iE:∀ ty,(Builtin.append_ #[23,23] ty #[.slice (some ⟨b,0,none⟩) i c,.slice A m uc]).run Tryz.prog w=.ok (.slice (some ⟨b,0,none⟩) (i+m) c) (w.setRow b (laid cur.toList (i*12) ys).toArray):=λty =>
  Dy w Tryz.underlying23 lY fT hg (by omega) (hu.cells w rfl) hu.one (by rw [←zda];exact ph)
 generalize zx:laid cur.toList (i*12) ys=L1 at iE;have DF:L1.length=cur.toList.length:=by rw [←zx];exact jl ph
 have Mo:(w.setRow b L1.toArray).heap[b]?=some (.cells L1.toArray 58 (0,0)):=setRow_heap w b cur _ 58 (0,0) hg;have TH:L1.take ((i+m)*12)=xs.take (i*12)++ys:=by
  have e1:(cur.toList.take ((i+m)*12)).drop (i*12+ys.length)=[]:=zcu (by rw [zba,vQ];omega);rw [←zx,jW ph (by rw [vQ];omega),e1,zbn,←xG,List.take_take,show min (i*12) (n*12)=i*12 from by omega]
 have hlen:(xs.take (i*12)++ys).length=(i+m)*12:=by simp only [zak,zba];omega
 have Dr:i<=n:=by omega
 have W4:(0:Int)<=(i:Int):=by omega
 have qK:¬ (c=i):=by omega
 by_cases Uh:i+m=n
 ·have cJ:¬ ((i:Int)+(m:Int)<(n:Int)):=by omega
  have hlt2:¬ (i+m<n):=by omega
  have hlt3:¬ (((i+m:Nat):Int)<(n:Int)):=by omega
  have pT:dX base w (.slice (some ⟨b,0,none⟩) n c) (i+m) (xs.take (i*12)++ys) (.slice (some ⟨b,0,none⟩) (i+m) c) (w.setRow b L1.toArray) :=
   ⟨⟨hlen,.inr ⟨b,c,_,rfl,zX,Mo,by omega,by simp only [maxLen];omega,by rw [zbz,DF,sE],by rw [zdf,TH]⟩⟩,.inl ⟨rfl,by simp,⟨rfl,rfl,rfl,by simp,λk hk I8=>setRow_other _ b k _ (λe=>I8 (by rw [e];rfl))⟩⟩⟩
  rw [Uh] at pT;go_enter Tryz.func182,Tryz.ntmps182
  go_wp2_with (at_builtin;refine Lib.wpList_append_run _ rfl _ _ _ _ rfl _ _ rfl rfl _ _ (iE _) ?_)
  all_goals (go_ret;exact ⟨_,rfl,pT⟩)
 ·have cJ:(i:Int)+(m:Int)<(n:Int):=by omega
  have hlt2:i+m<n:=by omega
  have DG:(i+m)*12+(Builtin.zeroCells zv.cells (n-(i+m))).toList.length<=L1.length:=by rw [zda,size_zeroCells,Dm,DF,sE];omega
  have D2:∀ ty dc,(Builtin.clear_ #[23] ty #[.slice (some ⟨b,(i+m)*12,none⟩) (n-(i+m)) dc]).run Tryz.prog (w.setRow b L1.toArray)=.ok (.tuple #[]) ((w.setRow b L1.toArray).setRow b (laid L1 ((i+m)*12) (Builtin.zeroCells zv.cells (n-(i+m))).toList).toArray):=λty dc=>by
   have:=Az (P:=Tryz.prog) (ty:=ty) (c:=dc) (w.setRow b L1.toArray) (o:=(i+m)*12) (n:=n-(i+m)) Tryz.underlying23 lY hz Dm Mo (by omega) (by rw [zbz,DF,sE];omega) MO;exact this
  generalize zV:laid L1 ((i+m)*12) (Builtin.zeroCells zv.cells (n-(i+m))).toList=L2 at D2;have QC:L2.length=L1.length:=by rw [←zV];exact jl DG
  have TI:L2.take ((i+m)*12)=xs.take (i*12)++ys:=by rw [←zV,AA DG (zar _),TH]
  have hcim:¬ (c=i+m):=by omega
  have hle:i+m<=n:=by omega
  have pT:dX base w (.slice (some ⟨b,0,none⟩) n c) (i+m) (xs.take (i*12)++ys) (.slice (some ⟨b,0,none⟩) (i+m) c) ((w.setRow b L1.toArray).setRow b L2.toArray) :=
   ⟨⟨hlen,.inr ⟨b,c,_,rfl,zX,setRow_heap _ b _ _ 58 (0,0) Mo,by omega,by simp only [maxLen];omega,by rw [zbz,QC,DF,sE],by rw [zdf,TI]⟩⟩,
    .inl ⟨rfl,by simp,⟨rfl,rfl,rfl,by simp,λk hk I8=>by rw [setRow_other _ b k _ (λe=>I8 (by rw [e];rfl)),setRow_other _ b k _ (λe=>I8 (by rw [e];rfl))]⟩⟩⟩
  go_enter Tryz.func182,Tryz.ntmps182
  go_wp2_with (first
   | (at_builtin;refine Lib.wpList_append_run _ rfl _ _ _ _ rfl _ _ rfl rfl _ _ (iE _) ?_)
   | (at_builtin;refine lf _ rfl _ 23 rfl _ rfl (D2 _ _) ?_))
  all_goals (go_ret;exact ⟨_,rfl,pT⟩)
theorem GW (w:World) {base b n c i j m uc:Nat} {A:Option Addr} {xs ys:List Value} (hs:w.ownsRow base 58 12 (.slice (some ⟨b,0,none⟩) n c) n xs) (hu:Go.Abs.Src Tryz.prog w 12 (.slice A m uc) m ys) (hi:i<j) (hj:j<n) (hm:m<=j-i) (hb:n<=1000000000) (DU:∀ x∈xs,x.oneCell'=true) :
  Calls Tryz.prog 182 #[.slice (some ⟨b,0,none⟩) n c,.int .i64 i,.int .i64 j,.slice A m uc] w λe w'=>∃ v',e=.returned v'/\dX base w (.slice (some ⟨b,0,none⟩) n c) (i+m+(n-j)) (xs.take (i*12)++ys++xs.drop (j*12)) v' w':=by
 have t3:=Tryz.underlying3;have t22:=Tryz.underlying23;have u3:=run_underlying Tryz.underlying3;have TG:=run_underlying Tryz.underlying23;obtain ⟨zX,DS,zu,cur,hg,yU,xG⟩:=jY hs;obtain ⟨inf,lY,hz,fT,Ev⟩:=iY;simp only [maxLen] at zu;have mixed:=oc;generalize hzv:(Value.agg _)=zv at hz;have Dm:zv.cells.size=12:=by rw [←hzv];rfl
 have wx:=hs.1;have vQ:=hu.size;have sE:cur.toList.length=c*12:=by simpa using yU
 obtain ⟨T,hT⟩:∃ T,i+m+(n-j)=T:=⟨_,rfl⟩;have hTi:(i:Int)+(m:Int)+((n-j:Nat):Int)=(T:Int):=by omega
 have hTn:T<=n:=by omega
 have MO:∀ v∈(Builtin.zeroCells zv.cells (n-T)).toList,v.oneCell'=true:=vh (by rw [Dm,←hzv];decide);have hne1:¬ ((i:Int)=(j:Int)):=by omega
 have hne2:¬ ((j:Int)=(n:Int)):=by omega
 have hw1:IntKind.i64.wrap ((i:Int)+(m:Int))=(i:Int)+(m:Int):=by rw [IntKind.wrap_i64];omega
 have hw2:IntKind.i64.wrap ((i:Int)+(m:Int)+((n-j:Nat):Int))=(T:Int):=by rw [IntKind.wrap_i64];omega
 have htc:¬ ((c:Int)<(T:Int)):=by omega
 have Hn:(0:Int)<=(i:Int)+(m:Int):=by omega
 have htn:((i:Int)+(m:Int)).toNat=i+m:=by omega
 have hle1:(i:Int)+(m:Int)<=(j:Int):=by omega
 have W0:(i:Int)+(m:Int)<=(T:Int):=by omega
 have hTc:T<=c:=by omega
 have Dr:i<=n:=by omega
 have ZO:i<=c:=by omega
 have hiT:i<=T:=by omega
 have hjn:j<=n:=by omega
 have N0:i<=j:=by omega
 have qK:¬ (c=i):=by omega
 have XU:¬ (c=j):=by omega
 have hcim:¬ (c=i+m):=by omega
 -- the first copy
 have ph:i*12+ys.length<=cur.toList.length:=by rw [vQ,sE];omega
 have GS:∀ ty dc,(Builtin.copy_ #[23,23] ty #[.slice (some ⟨b,i*12,none⟩) (T-i) dc,.slice A m uc]).run Tryz.prog w.drew=.ok (goInt m) (w.drew.setRow b (laid cur.toList (i*12) ys).toArray):=λty dc =>
  PI w.drew Tryz.underlying23 lY fT hg (by omega) (hu.cells _ rfl) hu.one (by rw [←zda];exact ph)
 generalize zx:laid cur.toList (i*12) ys=L1 at GS;have DF:L1.length=cur.toList.length:=by rw [←zx];exact jl ph
 have Mo:(w.drew.setRow b L1.toArray).heap[b]?=some (.cells L1.toArray 58 (0,0)):=setRow_heap w.drew b cur _ 58 (0,0) hg
 -- the second one
 have A4:(xs.drop (j*12)).length=(n-j)*12:=by rw [zbg,wx];omega
 have fg:∀ k v,(xs.drop (j*12))[k]?=some v->(w.drew.setRow b L1.toArray).drew.cell? (Addr.add ⟨b,j*12,none⟩ k)=some v:=λk v hk=>by
  have hkl:=(zad.1 hk).1;rw [zbd] at hk;rw [Addr.add_lit];have:(w.drew.setRow b L1.toArray).drew.cell? ⟨b,j*12+k,none⟩=L1[j*12+k]?:=by
   have:=cell_of_row (w.drew.setRow b L1.toArray) b (j*12+k) L1.toArray 58 (0,0) Mo;simpa using this
  rw [this,←zx,ym ph,zab (by rw [vQ];omega),←hk,←xG,zal,zaa (by omega)]
 have hmnB:Nat.min (n-j) (T-(i+m))=n-j:=rH (by omega);have BA:(i+m)*12+(xs.drop (j*12)).length<=L1.length:=by rw [A4,DF,sE];omega
 have KW:∀ ty dc sc,(Builtin.copy_ #[23,23] ty #[.slice (some ⟨b,(i+m)*12,none⟩) (T-(i+m)) dc,.slice (some ⟨b,j*12,none⟩) (n-j) sc]).run Tryz.prog (w.drew.setRow b L1.toArray).drew=.ok (goInt (Nat.min (n-j) (T-(i+m)))) ((w.drew.setRow b L1.toArray).drew.setRow b (laid L1 ((i+m)*12) (xs.drop (j*12))).toArray):=λty dc sc =>
  oa (w.drew.setRow b L1.toArray).drew Tryz.underlying23 lY fT Mo (by rw [A4,hmnB]) fg (λv hv=>DU v (zdh hv)) (by rw [←zda];exact BA)
 generalize zV:laid L1 ((i+m)*12) (xs.drop (j*12))=L2 at KW;have QC:L2.length=L1.length:=by rw [←zV];exact jl BA
 have XT:((w.drew.setRow b L1.toArray).drew.setRow b L2.toArray).heap[b]?=some (.cells L2.toArray 58 (0,0)):=setRow_heap (w.drew.setRow b L1.toArray).drew b _ _ 58 (0,0) Mo;have TH:L1.take ((i+m)*12)=xs.take (i*12)++ys:=by
  have e1:(cur.toList.take ((i+m)*12)).drop (i*12+ys.length)=[]:=zcu (by rw [zba,vQ];omega);rw [←zx,jW ph (by rw [vQ];omega),e1,zbn,←xG,List.take_take,show min (i*12) (n*12)=i*12 from by omega]
 have TI:L2.take (T*12)=xs.take (i*12)++ys++xs.drop (j*12):=by
  have e1:(L1.take (T*12)).drop ((i+m)*12+(xs.drop (j*12)).length)=[]:=zcu (by rw [zba,A4];omega);rw [←zV,jW BA (by rw [A4];omega),e1,zbn,TH]
 have hlen:(xs.take (i*12)++ys++xs.drop (j*12)).length=T*12:=by simp only [zak,zba,zbg];omega
 rw [hT];have NN:∀ k,k<w.heap.size->some k≠Value.ownBlock (.slice (some ⟨b,0,none⟩) n c)->((w.drew.setRow b L1.toArray).drew.setRow b L2.toArray).heap[k]?=w.heap[k]?:=λk hk I8=>by
  rw [setRow_other _ b k _ (λe=>I8 (by rw [e];rfl))];show (w.drew.setRow b L1.toArray).heap[k]?=_;rw [setRow_other _ b k _ (λe=>I8 (by rw [e];rfl))];rfl
 by_cases hTe:T=n
 ·have pT:dX base w (.slice (some ⟨b,0,none⟩) n c) T (xs.take (i*12)++ys++xs.drop (j*12)) (.slice (some ⟨b,0,none⟩) T c) ((w.drew.setRow b L1.toArray).drew.setRow b L2.toArray) :=
   ⟨⟨hlen,.inr ⟨b,c,_,rfl,zX,XT,hTc,by simp only [maxLen];omega,by rw [zbz,QC,DF,sE],by rw [zdf,TI]⟩⟩,.inl ⟨rfl,by simp,⟨rfl,rfl,rfl,by simp,NN⟩⟩⟩
  have D2:∀ (W:World) (A:Option Addr) ty dc,(Builtin.clear_ #[23] ty #[.slice A 0 dc]).run Tryz.prog W=.ok (.tuple #[]) W:=λW A ty dc=>Fl W Tryz.underlying23
  have YY:n-T=0:=by omega
  clear hTe;rw [zat] at pT ⊢;rcases Decidable.em (c=T) with hcT|hcT
  ·subst hcT;go_enter Tryz.func182,Tryz.ntmps182
   go_wp2
   go_region
   go_wp2_with (at_builtin;refine ku _ rfl _ _ 23 23 rfl _ _ rfl rfl (GS _ _) ?_)
   go_region_law_o (refine ni rfl _ _ 23 23 rfl _ _ (by simp [Act.eval,Act.put]) (by simp [Act.eval,Act.put]) (KW _ _ _) ?_)
   go_wp2_with (at_builtin;refine lf _ rfl _ 23 rfl _ rfl (D2 _ _ _ _) ?_)
   all_goals (go_ret;exact ⟨_,rfl,pT⟩)
  ·go_enter Tryz.func182,Tryz.ntmps182
   go_wp2
   go_region
   go_wp2_with (at_builtin;refine ku _ rfl _ _ 23 23 rfl _ _ rfl rfl (GS _ _) ?_)
   go_region_law_o (refine ni rfl _ _ 23 23 rfl _ _ (by simp [Act.eval,Act.put]) (by simp [Act.eval,Act.put]) (KW _ _ _) ?_)
   go_wp2_with (at_builtin;refine lf _ rfl _ 23 rfl _ rfl (D2 _ _ _ _) ?_)
   all_goals (go_ret;exact ⟨_,rfl,pT⟩)
 ·have DG:T*12+(Builtin.zeroCells zv.cells (n-T)).toList.length<=L2.length:=by rw [zda,size_zeroCells,Dm,QC,DF,sE];omega
  have D2:∀ ty dc,(Builtin.clear_ #[23] ty #[.slice (some ⟨b,T*12,none⟩) (n-T) dc]).run Tryz.prog ((w.drew.setRow b L1.toArray).drew.setRow b L2.toArray)=.ok (.tuple #[]) (((w.drew.setRow b L1.toArray).drew.setRow b L2.toArray).setRow b (laid L2 (T*12) (Builtin.zeroCells zv.cells (n-T)).toList).toArray):=λty dc=>by
   have:=Az (P:=Tryz.prog) (ty:=ty) (c:=dc) ((w.drew.setRow b L1.toArray).drew.setRow b L2.toArray) (o:=T*12) (n:=n-T) Tryz.underlying23 lY hz Dm XT (by omega) (by rw [zbz,QC,DF,sE];omega) MO;exact this
  generalize hl3:laid L2 (T*12) (Builtin.zeroCells zv.cells (n-T)).toList=L3 at D2;have hL3:L3.length=L2.length:=by rw [←hl3];exact jl DG
  have hT3:L3.take (T*12)=xs.take (i*12)++ys++xs.drop (j*12):=by rw [←hl3,AA DG (zar _),TI]
  have hcT:¬ (c=T):=by omega
  have pT:dX base w (.slice (some ⟨b,0,none⟩) n c) T (xs.take (i*12)++ys++xs.drop (j*12)) (.slice (some ⟨b,0,none⟩) T c) (((w.drew.setRow b L1.toArray).drew.setRow b L2.toArray).setRow b L3.toArray) :=
   ⟨⟨hlen,.inr ⟨b,c,_,rfl,zX,setRow_heap _ b _ _ 58 (0,0) XT,hTc,by simp only [maxLen];omega,by rw [zbz,hL3,QC,DF,sE],by rw [zdf,hT3]⟩⟩,.inl ⟨rfl,by simp,⟨rfl,rfl,rfl,by simp,λk hk I8=>by rw [setRow_other _ b k _ (λe=>I8 (by rw [e];rfl))];exact NN k hk I8⟩⟩⟩
  rw [zat] at pT ⊢;go_enter Tryz.func182,Tryz.ntmps182
  go_wp2
  go_region
  go_wp2_with (at_builtin;refine ku _ rfl _ _ 23 23 rfl _ _ rfl rfl (GS _ _) ?_)
  go_region_law_o (refine ni rfl _ _ 23 23 rfl _ _ (by simp [Act.eval,Act.put]) (by simp [Act.eval,Act.put]) (KW _ _ _) ?_)
  go_wp2_with (at_builtin;refine lf _ rfl _ 23 rfl _ rfl (D2 _ _) ?_)
  all_goals (go_ret;exact ⟨_,rfl,pT⟩)
theorem BD {l l' r:List aa} {n0:Nat} {i j:Int} (H:sL i j l' l=some r) :
  aR Tryz.prog 182 [.vc 0 n0,.d (cI i),.d (cI j),.d (aj 12 aa.row l')] ⟨[],[⟨58,12,n0,some (l.map aa.row)⟩]⟩
   (QE (.vc 1 r.length) ⟨[],[⟨58,12,([]:List aa).length,none⟩,⟨58,12,r.length,some (r.map aa.row)⟩]⟩):=by
 obtain ⟨hk,H⟩:=au H;cases H;intro g w base vs hinv ha;obtain ⟨x,y,z,u,rfl,e1,e2,e3,e4⟩:=ZT rfl ha;obtain ⟨k0,k1,k2,k3,k4⟩:=hk;have Mn:y=.int .i64 i:=e2.bN;have e3':z=.int .i64 j:=e3.bN;subst Mn;subst e3';obtain ⟨xs,s1,s2,s3⟩:=hinv.own 0 _ _ _ _ rfl;have NV:n0=l.length:=by have:=s3.len;simpa using this.symm
 have e4':dA g.lim w (.sl 12 (l'.map aa.row)) u:=by cases e4 with|d _ _ h=>exact h
 obtain ⟨ys,xr⟩:=vH (P:=Tryz.prog) e4';obtain ⟨A,uc,hu⟩:=Ek e4';have As:=xr.src;rw [zdc] at hu As;subst hu;have hx:x=g.tk 0:=by
  rcases sV hinv rfl e1 with h|⟨_,h,_⟩
  ·exact h
  ·have:l=[]:=by simpa using h
   rw [this] at k2;simp at k2;omega
 subst hx;obtain ⟨i',rfl⟩:∃ q:Nat,i=(q:Int):=⟨i.toNat,by omega⟩;obtain ⟨j',rfl⟩:∃ q:Nat,j=(q:Int):=⟨j.toNat,by omega⟩;have hys:dn g.lim w 12 l'.length (l'.map aa.row) ys:=⟨by simp,xr.rows,λq c v hc hv=>xr.rep q v c hv hc⟩;have rX:=s3.WY s1.1 hys As.size (i:=i') (j:=j') (by omega) (by omega);have j5:(l.map aa.row).take i'++l'.map aa.row++(l.map aa.row).drop j'=(l.take i'++l'++l.drop j').map aa.row:=by simp [List.map_take,List.map_drop]
 rw [j5] at rX;have hlen:(l.take i'++l'++l.drop j').length=i'+l'.length+(n0-j'):=by simp;omega
 obtain ⟨b,c,hv⟩:=(jk s1).2 (by omega);have DU:=s3.one s1.1;have fin:∀ e w',(∃ v',e=.returned v'/\dX base w (g.tk 0) (i'+l'.length+(n0-j')) (xs.take (i'*12)++ys++xs.drop (j'*12)) v' w') ->
   ox ⟨g,w,⟨[],[⟨58,12,n0,some (l.map aa.row)⟩]⟩,base⟩ (QE (.vc 1 (l.take (i':Int).toNat++l'++l.drop (j':Int).toNat).length) ⟨[],[⟨58,12,([]:List aa).length,none⟩,⟨58,12,(l.take (i':Int).toNat++l'++l.drop (j':Int).toNat).length,some ((l.take (i':Int).toNat++l'++l.drop (j':Int).toNat).map aa.row)⟩]⟩) e w':=by
  rintro e w' ⟨v',rfl,ho,hc⟩;rw [zce,zce,hlen];exact wT hinv (tk:=0) rfl rfl ho hc rX
 refine Calls.mono ?_ fin;have Ur:=s1;rw [hv] at Ur ⊢;by_cases hjn:j'=n0
 ·subst hjn;have:=GV w Ur As (i:=i') (by omega) (by omega) (by omega);rw [Nat.sub_self,zdn,zcu (by rw [s1.1];exact zar _),zbn];exact this
 ·exact GW w Ur As (by omega) (by omega) (by omega) (by omega) DU
theorem ry {l r:List aa} (H:fj l=some r):aR Tryz.prog 48 [.d (aj 12 aa.row l)] ⟨[],[]⟩ (QE (.vc 0 r.length) ⟨[],[⟨58,12,r.length,some (r.map aa.row)⟩]⟩):=by
 obtain ⟨hk,H⟩:=au H;cases H;obtain ⟨i32,BE,I9,BF,Ja⟩:=iY;refine aR.mj ?_;refine aR.enter Tryz.func48 rfl Tryz.ntmps48 rfl λS hS=>?_
 refine .F 8 rfl (.KN Tryz.underlying23 rfl rfl λb hb=>?_);refine .E 1 rfl (.cond rfl (λhc=>?_) (λhc=>?_))
 ·have hl:l=[]:=by simpa using hb hc
  subst hl;refine .E 4 rfl (.Pv (i:=2) (e:=58) (sz:=12) rfl (.R Tryz.func48 Tryz.results48 rfl ?_));exact ⟨[],[0],rfl,rfl,rfl,rfl,rfl,rfl,rfl,rfl,.ak _⟩
 ·refine .F 3 rfl (.v (x:=.vc 0 ([]:List aa).length) (vO aa.row Tryz.underlying23 BE BF) rfl (.vf (st':=⟨[],[⟨58,12,([]:List aa).length,some (([]:List aa).map aa.row)⟩]⟩) rfl (.F 1 rfl ?_)));refine .v (x:=.vc 0 (([]:List aa)++l).length) (gS (l:=[]) (l':=l) (row:=aa.row) Tryz.underlying23 BE I9 BF rfl (by rw [Ja];decide) rfl rfl rfl rfl (by simpa using hk)) rfl ?_;refine .vf (st':=⟨[],[⟨58,12,(([]:List aa)++l).length,some ((([]:List aa)++l).map aa.row)⟩]⟩) rfl (.E 2 rfl (.R Tryz.func48 Tryz.results48 rfl ?_));exact ⟨[],[0],rfl,rfl,rfl,rfl,rfl,rfl,rfl,rfl,.ak _⟩
theorem sO {l r:List aa} (H:fj l=some r):aF Tryz.prog 48 [aj 12 aa.row l] (·=aj 12 aa.row r):=.of (ry H).Oa
def jc (base:Nat) (w:World) (v:Value) (n:Nat) (xs:List Value) (v':Value) (w':World):Prop :=
 w'.ownsRow base 106 3 v' n xs/\((v'.ownBlock=v.ownBlock/\w'.heap.size=w.heap.size/\w.grownBy w' v.ownBlock)∨(v'.ownBlock=some w.heap.size/\Below w.heap.size w w'))
theorem w6 {base m:Nat} {w:World} {u:Value} {ys:List Value} (hu:w.ownsRow base 106 3 u m ys) (h1:∀ y∈ys,y.oneCell'=true):Go.Abs.Src Tryz.prog w 3 u m ys:=by
 rcases hu.2 with ⟨rfl,rfl⟩|⟨b,cap,cur,rfl,hb,hg,DS,zu,yU,xG⟩
 ·have:ys=[]:=zbc (by simpa using hu.1);subst this;exact ⟨rfl,λw' _=>run_firstCells_none w' _ 0 0 _,by simp,by simp⟩
 ·refine ⟨rfl,λw' hw=>run_firstCells_some w' _ m _ m cap ys hu.1 λj y hj=>?_,hu.1,h1⟩;rw [World.cell?_of_block (w:=w) (by rw [hw])];exact hu.cells (g:=b) rfl j y hj
theorem Jb (w:World) {base n m:Nat} {v u:Value} {xs ys:List Value} (hs:w.ownsRow base 106 3 v n xs) (hu:w.ownsRow base 106 3 u m ys) (hm:0<m) (hb:n+m<=1000000000) (kW:base<=w.heap.size) (h1:∀ y∈ys,y.oneCell'=true) :
  Calls Tryz.prog 164 #[v,.int .i64 n,u] w λe w'=>∃ v',e=.returned v'/\jc base w v (n+m) (xs++ys) v' w':=by
 have t3:=Tryz.underlying3;have t22:=Tryz.underlying22;have u3:=run_underlying Tryz.underlying3;have TG:=run_underlying Tryz.underlying22;have MO:¬ ((m:Int)=0):=by omega
 obtain ⟨i,hi,hz,fT,Ev⟩:=tR;obtain ⟨v',w',iE,kM,_,hc⟩:=lU (P:=Tryz.prog) (ty:=22) w Tryz.underlying22 Tryz.underlying22 (.inr ⟨_,rfl⟩) hi hz fT (by rfl) hs (w6 hu h1) (by simp only [maxLen];omega) (by rw [Ev];omega) kW;rcases hu.2 with ⟨_,h0⟩|⟨vb,vc,CT,rfl,_⟩
 ·omega
 rcases hs.2 with ⟨rfl,rfl⟩|⟨b,c,cur,rfl,zX,hg,DS,zu,yU,xG⟩
 ·go_enter Tryz.func164,Tryz.ntmps164
  go_wp2_with (at_builtin;refine Lib.wpList_append_run _ rfl _ _ _ _ rfl _ _ rfl rfl _ _ iE ?_)
  go_ret;exact ⟨_,rfl,kM,hc⟩
 ·go_enter Tryz.func164,Tryz.ntmps164
  go_wp2_with (at_builtin;refine Lib.wpList_append_run _ rfl _ _ _ _ rfl _ _ rfl rfl _ _ iE ?_)
  all_goals (go_ret;exact ⟨_,rfl,kM,hc⟩)
theorem nT {w:World} {base b n c:Nat} {xs:List Value} (hs:w.ownsRow base 106 3 (.slice (some ⟨b,0,none⟩) n c) n xs):base<=b/\n<=c/\c<=maxLen/\∃ cur:Array Value,w.heap[b]?=some (.cells cur 106 (0,0))/\cur.size=c*3/\cur.toList.take (n*3)=xs:=by
 rcases hs.2 with ⟨h,_⟩|⟨b',c',cur,h,zX,hg,DS,zu,yU,xG⟩
 ·cases h
 ·cases h;exact ⟨zX,DS,zu,cur,hg,yU,xG⟩
theorem Jc (w:World) {b vb m vc o lb cb cs:Nat} {cur CT:Array Value} (fi:vb≠b) (hg:w.heap[b]?=some (.cells cur 106 (0,0))) (PT:w.heap[vb]?=some (.cells CT 106 (0,0))) (hk:cur.size≠0) :
  (callFunc 193 #[.slice (some ⟨vb,0,none⟩) m vc,.slice (some ⟨b,o,none⟩) lb cb]).run Tryz.prog w=.ok (.value (.bool false)) w:=by
 obtain ⟨i,hi,hz,fT,Ev⟩:=tR;rw [run_callFunc_extern Tryz.func193 (by kernel_rfl) (by kernel_rfl) (by kernel_rfl) (e:=Extern.SlicesOverlaps.overlaps #[22,22] #[4]) (by kernel_rfl),
  Lib.run_overlaps_apart w 22 4 106 Tryz.underlying22 3 (λw'=>by simp [sizeOf,typeInfo,hi,fT]) ⟨vb,0,none⟩ ⟨b,o,none⟩ m vc lb cb fi 106 106 CT.size cur.size (by simp [World.shape?,PT]) (by simp [World.shape?,hg]) hk (by simp [World.frozen?,PT]) (by simp [World.frozen?,PT])]
 rfl
theorem FB (w:World) {base b n c i vb m vc:Nat} {xs ys:List Value} (hs:w.ownsRow base 106 3 (.slice (some ⟨b,0,none⟩) n c) n xs) (hu:w.ownsRow base 106 3 (.slice (some ⟨vb,0,none⟩) m vc) m ys) (fi:vb≠b) (hi:i<n) (hm:0<m) (hb:n+m<=1000000000) (uO:n+m<=c)
  (DU:∀ x∈xs,x.oneCell'=true) (h1:∀ y∈ys,y.oneCell'=true) :
  Calls Tryz.prog 164 #[.slice (some ⟨b,0,none⟩) n c,.int .i64 i,.slice (some ⟨vb,0,none⟩) m vc] w λe w'=>∃ v',e=.returned v'/\jc base w (.slice (some ⟨b,0,none⟩) n c) (n+m) (xs.take (i*3)++ys++xs.drop (i*3)) v' w':=by
 have t3:=Tryz.underlying3;have t22:=Tryz.underlying22;have u3:=run_underlying Tryz.underlying3;have TG:=run_underlying Tryz.underlying22;obtain ⟨zX,DS,zu,cur,hg,yU,xG⟩:=nT hs;obtain ⟨_,hvc,_,CT,PT,XL,XM⟩:=nT hu;obtain ⟨inf,lY,hz,fT,Ev⟩:=tR;simp only [maxLen] at zu;have z32:∀ w,(Go.sizeOf 106).run Tryz.prog w=.ok 3 w:=λw'=>by simp [sizeOf,typeInfo,lY,fT]
 have MO:¬ ((m:Int)=0):=by omega
 have Y2:¬ ((i:Int)=(n:Int)):=by omega
 have mixed:=oc;have hw1:IntKind.i64.wrap ((i:Int)+(m:Int))=(i:Int)+(m:Int):=by rw [IntKind.wrap_i64];omega
 have Hn:(0:Int)<=(i:Int)+(m:Int):=by omega
 have Dr:i<=n:=by omega
 have htn:((i:Int)+(m:Int)).toNat=i+m:=by omega
 have Ho:¬ (c=i+m):=by omega
 have GR:(i:Int)<=(n:Int)+(m:Int):=by omega
 have VE:¬ (c=i):=by omega
 have RS:cur.size≠0:=by rw [yU];omega
 have wx:=hs.1;have vQ:=hu.1;have hov:∀ o lb cb,(callFunc 193 #[.slice (some ⟨vb,0,none⟩) m vc,.slice (some ⟨b,o,none⟩) lb cb]).run Tryz.prog w=.ok (.value (.bool false)) w:=λo lb cb=>Jc (cs:=0) w fi hg PT RS
 -- the first copy
 have Bz:∀ j x,xs[j]?=some x->w.cell? ⟨b,j,none⟩=some x:=λj x hj=>by have:=hs.cells (g:=b) rfl j x hj;rwa [Addr.add_lit,zca] at this
 have M8:∀ j v,(xs.drop (i*3))[j]?=some v->w.cell? (Addr.add ⟨b,i*3,none⟩ j)=some v:=λj v hj=>by
  rw [zbd] at hj;rw [Addr.add_lit];exact Bz _ _ hj
 have Uh:Nat.min (n+m-i) (n+m-(i+m))=n-i:=rH (by omega);have XN:Nat.min m (n+m-i)=m:=rH (by omega);have A4:(xs.drop (i*3)).length=Nat.min (n+m-i) (n+m-(i+m))*3:=by rw [zbg,wx,Uh];omega
 have GS:∀ (W:World),W.heap=w.heap->∀ ty dc sc,(Builtin.copy_ #[22,22] ty #[.slice (some ⟨b,(i+m)*3,none⟩) (n+m-(i+m)) dc,.slice (some ⟨b,i*3,none⟩) (n+m-i) sc]).run Tryz.prog W=.ok (goInt (Nat.min (n+m-i) (n+m-(i+m)))) (W.setRow b (laid cur.toList ((i+m)*3) (xs.drop (i*3))).toArray):=λW hW ty dc sc =>
  oa W Tryz.underlying22 lY fT (by rw [hW];exact hg) A4 (λj v hj=>by rw [World.cell?_of_block (w:=w) (by rw [hW])];exact M8 j v hj) (λv hv=>DU v (zdh hv)) (by rw [A4,yU,Uh];omega)
 generalize zx:laid cur.toList ((i+m)*3) (xs.drop (i*3))=L1 at GS;have sE:cur.toList.length=c*3:=by simpa using yU
 have ph:(i+m)*3+(xs.drop (i*3)).length<=cur.toList.length:=by rw [zbg,wx,sE];omega
 have DF:L1.length=cur.toList.length:=by rw [←zx];exact jl ph
 have Cq:∀ j v,ys[j]?=some v->w.cell? (Addr.add ⟨vb,0,none⟩ j)=some v:=λj v hj=>hu.cells (g:=vb) rfl j v hj
 have KW:∀ (W:World),W.heap[b]?=some (.cells L1.toArray 106 (0,0))->(∀ x:Addr,x.block≠b->W.cell? x=w.cell? x)->∀ ty dc,(Builtin.copy_ #[22,22] ty #[.slice (some ⟨b,i*3,none⟩) (n+m-i) dc,.slice (some ⟨vb,0,none⟩) m vc]).run Tryz.prog W=.ok (goInt (Nat.min m (n+m-i))) (W.setRow b (laid L1 (i*3) ys).toArray):=λW RT RU ty dc =>
  oa W Tryz.underlying22 lY fT RT (by rw [vQ,XN]) (λj v hj=>by rw [RU _ (by rw [Addr.add_lit];exact fi)];exact Cq j v hj) h1 (by simp only [zbz];omega)
 have Mo:((w.drew).setRow b L1.toArray).heap[b]?=some (.cells L1.toArray 106 (0,0)):=setRow_heap w.drew b cur _ 106 (0,0) hg;have uD:∀ x:Addr,x.block≠b->((w.drew).setRow b L1.toArray).cell? x=w.cell? x:=λx hx=>World.cell?_of_block (w:=w) (setRow_other w.drew b x.block _ hx)
 have pT:jc base w (.slice (some ⟨b,0,none⟩) n c) (n+m) (xs.take (i*3)++ys++xs.drop (i*3)) (.slice (some ⟨b,0,none⟩) (n+m) c) (((w.drew).setRow b L1.toArray).setRow b (laid L1 (i*3) ys).toArray):=by
  have BA:i*3+ys.length<=L1.length:=by rw [vQ,DF,sE];omega
  refine ⟨⟨by simp only [zak,zba,zbg];omega,.inr ⟨b,c,_,rfl,zX,setRow_heap _ b _ _ 106 (0,0) Mo,uO,by simp only [maxLen];omega,by rw [zbz,jl BA,DF,sE],?_⟩⟩,
   .inl ⟨rfl,by simp,⟨rfl,rfl,rfl,by simp,λk hk I8=>?_⟩⟩⟩
  ·rw [zdf,jW BA (by rw [vQ];omega),←zx];have e1:(laid cur.toList ((i+m)*3) (xs.drop (i*3))).take (i*3)=xs.take (i*3):=by
    apply zcm;intro j;rw [zal,zal,ym ph];by_cases h:j<i*3
    ·rw [zaa h,zaa h,zab (by omega),←xG,zal,zaa (by omega)]
    ·rw [zab h,zab h]
   rw [e1];congr 1;rw [jW ph (by rw [zbg,wx];omega),vQ];apply zcm;intro j;rw [zbd];have cU:(List.take ((i+m)*3) cur.toList).length=(i+m)*3:=by rw [zba,sE];omega
   by_cases h:j<(n-i)*3
   ·rw [zao (by rw [zak,cU,zbg,wx];omega),zaw (by rw [cU];omega),cU];congr 1;omega
   ·rw [zbp (by simp only [zak,zbg,zba,sE,wx];omega),zbp (by rw [zbg,wx];omega)]
  ·rw [setRow_other _ b k _ (λe=>I8 (by rw [e];rfl)),setRow_other _ b k _ (λe=>I8 (by rw [e];rfl))];rfl
 have RV:=GS w.drew rfl;have RW:=KW _ Mo uD;go_enter Tryz.func164,Tryz.ntmps164
 go_wp2_with (simp only [hov])
 go_region_law_o (refine ni rfl _ _ 22 22 rfl _ _ (by simp [Act.eval,Act.put]) (by simp [Act.eval,Act.put]) (RV _ _ _) ?_)
 go_wp2_with (at_builtin;refine ku _ rfl _ _ 22 22 rfl _ _ rfl rfl (RW _ _) ?_)
 go_ret;exact ⟨_,rfl,pT⟩
theorem GX (w:World) {base b n c i vb m vc:Nat} {xs ys:List Value} (hs:w.ownsRow base 106 3 (.slice (some ⟨b,0,none⟩) n c) n xs) (hu:w.ownsRow base 106 3 (.slice (some ⟨vb,0,none⟩) m vc) m ys) (hi:i<n) (hm:0<m) (hb:n+m<=1000000000) (uO:c<n+m) (kW:base<=w.heap.size)
  (DU:∀ x∈xs,x.oneCell'=true) (h1:∀ y∈ys,y.oneCell'=true) :
  Calls Tryz.prog 164 #[.slice (some ⟨b,0,none⟩) n c,.int .i64 i,.slice (some ⟨vb,0,none⟩) m vc] w λe w'=>∃ v',e=.returned v'/\jc base w (.slice (some ⟨b,0,none⟩) n c) (n+m) (xs.take (i*3)++ys++xs.drop (i*3)) v' w':=by
 have t3:=Tryz.underlying3;have t22:=Tryz.underlying22;have u3:=run_underlying Tryz.underlying3;have TG:=run_underlying Tryz.underlying22;obtain ⟨zX,DS,zu,cur,hg,yU,xG⟩:=nT hs;obtain ⟨_,hvc,_,CT,PT,XL,XM⟩:=nT hu;obtain ⟨inf,lY,hz,fT,Ev⟩:=tR;simp only [maxLen] at zu;have mixed:=oc;have MO:¬ ((m:Int)=0):=by omega
 have Y2:¬ ((i:Int)=(n:Int)):=by omega
 have xJ:(c:Int)<(n:Int)+(m:Int):=by omega
 have hbw:b<w.heap.size:=(hs.lt b rfl).2;have hvw:vb<w.heap.size:=(hu.lt vb rfl).2;have hkk:(n:Int)+(m:Int) - (i:Int)=((n+m-i:Nat):Int):=by omega
 have XO:i+(n+m-i)=n+m:=by omega
 have wx:=hs.1;have vQ:=hu.1;have Bz:∀ j x,xs[j]?=some x->w.cell? ⟨b,j,none⟩=some x:=λj x hj=>by have:=hs.cells (g:=b) rfl j x hj;rwa [Addr.add_lit,zca] at this
 have hold:(Builtin.firstCells inf.size i (.slice (some ⟨b,0,none⟩) i c)).run Tryz.prog w.drew=.ok (xs.take (i*3)).toArray w.drew:=by
  rw [fT];refine run_firstCells_some w.drew 3 i ⟨b,0,none⟩ i c (xs.take (i*3)) (by rw [zba];omega) (λj v hj=>?_);rw [Addr.add_lit,zca];rw [zal] at hj;split at hj
  ·exact Bz j v hj
  ·cases hj
 generalize hzv:(Value.agg _)=zv at hz;have Dm:zv.cells.size=3:=by rw [←hzv];rfl
 have XP:∀ ty,(Builtin.append_ #[22,3] ty #[.slice (some ⟨b,0,none⟩) i c,.int .i64 ((n:Int)+(m:Int) - (i:Int))]).run Tryz.prog w =
   .ok (.slice (some ⟨w.heap.size,0,none⟩) (n+m) (grownCap w (n+m) c 106)) (w.drew.alloc (.cells ((xs.take (i*3)).toArray++Builtin.zeroCells zv.cells (n+m-i)++Builtin.zeroCells zv.cells (grownCap w (n+m) c 106-(n+m))) 106)):=λty=>by
  have h:=Lib.run_append_grow_zeros w 22 3 ty 106 inf zv .i64 .i64 Tryz.underlying22 Tryz.underlying3 lY hz (some ⟨b,0,none⟩) i c (xs.take (i*3)) hold (n+m-i) (by omega) (by omega) (by omega) (by omega) (by rw [Ev];omega) (by rw [XO];exact growslice_fits uO (by rw [Ev];omega));rw [XO] at h;rw [hkk];exact h
 have hGn:n+m<=grownCap w (n+m) c 106:=grownCap_ge w _ _ _;have RX:grownCap w (n+m) c 106<=maxLen:=grownCap_le_maxLen w (n+m) c 106 (by unfold maxLen;omega);generalize grownCap w (n+m) c 106=G at XP hGn RX;simp only [maxLen] at RX;generalize hROW:(xs.take (i*3)).toArray++Builtin.zeroCells zv.cells (n+m-i)++Builtin.zeroCells zv.cells (G-(n+m))=vo at XP;have hRl:vo.size=G*3:=by
  rw [←hROW];simp only [zfq,zbz,zba,size_zeroCells,Dm,wx];omega
 have hRt:vo.toList.take (i*3)=xs.take (i*3):=by
  rw [←hROW];simp only [zgg,zat];rw [zec (by rw [zba];omega),zbw (by rw [zba];omega)]
 have XQ:vo.toList.length=G*3:=by simpa using hRl
 have hmA:Nat.min m (n+m-i)=m:=rH (by omega);have hmB:Nat.min (n-i) (n+m-(i+m))=n-i:=rH (by omega);have A4:(xs.drop (i*3)).length=(n-i)*3:=by rw [zbg,wx];omega
 have KX:i*3+ys.length<=vo.toList.length:=by rw [vQ,XQ];omega
 have RY:∀ (W:World),W.heap[w.heap.size]?=some (.cells vo 106 (0,0))->(∀ x:Addr,x.block<w.heap.size->W.cell? x=w.cell? x)->∀ ty dc,(Builtin.copy_ #[22,22] ty #[.slice (some ⟨w.heap.size,i*3,none⟩) (n+m-i) dc,.slice (some ⟨vb,0,none⟩) m vc]).run Tryz.prog W=.ok (goInt (Nat.min m (n+m-i))) (W.setRow w.heap.size (laid vo.toList (i*3) ys).toArray):=λW RT RU ty dc =>
  oa W Tryz.underlying22 lY fT RT (by rw [vQ,hmA]) (λj v hj=>by rw [RU _ (by rw [Addr.add_lit];exact hvw)];exact hu.cells (g:=vb) rfl j v hj) h1 (by rw [vQ,hRl];omega)
 generalize zx:laid vo.toList (i*3) ys=L1 at RY;have DF:L1.length=vo.toList.length:=by rw [←zx];exact jl KX
 have KY:(i+m)*3+(xs.drop (i*3)).length<=L1.length:=by rw [A4,DF,XQ];omega
 have RZ:∀ (W:World),W.heap[w.heap.size]?=some (.cells L1.toArray 106 (0,0))->(∀ x:Addr,x.block<w.heap.size->W.cell? x=w.cell? x)->∀ ty dc sc,(Builtin.copy_ #[22,22] ty #[.slice (some ⟨w.heap.size,(i+m)*3,none⟩) (n+m-(i+m)) dc,.slice (some ⟨b,i*3,none⟩) (n-i) sc]).run Tryz.prog W=.ok (goInt (Nat.min (n-i) (n+m-(i+m)))) (W.setRow w.heap.size (laid L1 ((i+m)*3) (xs.drop (i*3))).toArray):=λW RT RU ty dc sc =>
  oa W Tryz.underlying22 lY fT RT (by rw [A4,hmB]) (λj v hj=>by
   rw [RU _ (by rw [Addr.add_lit];exact hbw),Addr.add_lit];rw [zbd] at hj;exact Bz _ _ hj) (λv hv=>DU v (zdh hv)) (by simp only [zbz];omega)
 generalize zV:laid L1 ((i+m)*3) (xs.drop (i*3))=L2 at RZ;have QC:L2.length=L1.length:=by rw [←zV];exact jl KY
 have BC:∀ W:World,W.heap=w.heap.push (.cells vo 106 (0,0))->W.heap[w.heap.size]?=some (.cells vo 106 (0,0)):=λW hW=>by rw [hW];simp
 have PU:∀ W:World,W.heap=w.heap.push (.cells vo 106 (0,0))->∀ x:Addr,x.block<w.heap.size->W.cell? x=w.cell? x:=λW hW x hx=>World.cell?_of_block (w:=w) (by rw [hW,zdq hx];simp [hx]);have hB0:∀ W:World,W.heap=w.heap.push (.cells vo 106 (0,0))->(W.setRow w.heap.size L1.toArray).heap[w.heap.size]?=some (.cells L1.toArray 106 (0,0)):=λW hW=>setRow_heap W _ vo _ 106 (0,0) (BC W hW)
 have TC:∀ W:World,W.heap=w.heap.push (.cells vo 106 (0,0))->∀ x:Addr,x.block<w.heap.size->(W.setRow w.heap.size L1.toArray).cell? x=w.cell? x:=λW hW x hx=>(World.cell?_of_block (w:=W) (setRow_other W _ x.block _ (by omega))).trans (PU W hW x hx)
 have pT:∀ W W2:World,W.heap=w.heap.push (.cells vo 106 (0,0))->W.os=w.os->W.tape=w.tape->W.output=w.output->W2.heap=(W.setRow w.heap.size L1.toArray).heap->W2.os=w.os->W2.tape=w.tape->W2.output=w.output ->
   jc base w (.slice (some ⟨b,0,none⟩) n c) (n+m) (xs.take (i*3)++ys++xs.drop (i*3)) (.slice (some ⟨w.heap.size,0,none⟩) (n+m) G) (W2.setRow w.heap.size L2.toArray):=by
  intro W W2 hW ho ht hou XR Ph Cr XS;have XT:W2.heap[w.heap.size]?=some (.cells L1.toArray 106 (0,0)):=by rw [XR];exact hB0 W hW
  refine ⟨⟨by simp only [zak,zba,zbg];omega,.inr ⟨w.heap.size,G,_,rfl,kW,setRow_heap _ _ _ _ 106 (0,0) XT,hGn,by simp only [maxLen];omega,by rw [zbz,QC,DF,XQ],?_⟩⟩,
   .inr ⟨rfl,⟨Ph,Cr,XS,by simp [XR,hW],λk hk=>?_⟩⟩⟩
  ·have e2:(L1.take ((n+m)*3)).drop ((i+m)*3+(xs.drop (i*3)).length)=[]:=zcu (by rw [zba,A4];omega);rw [zdf,←zV,jW KY (by rw [A4];omega),e2,←zx];have e1:(laid vo.toList (i*3) ys).take ((i+m)*3)=xs.take (i*3)++ys:=by
    rw [jW KX (by rw [vQ];omega),hRt,vQ,zcu (by rw [zba];omega),zbn]
   rw [e1,zbn]
  ·rw [setRow_other _ _ k _ (by omega),XR,setRow_other _ _ k _ (by omega),hW,zdq hk];simp [hk]
 clear hkk XO hold hROW;have hGi:¬ (G=i):=by omega
 have hGim:¬ (G=i+m):=by omega
 have qK:¬ (c=i):=by omega
 have hw1:IntKind.i64.wrap ((i:Int)+(m:Int))=(i:Int)+(m:Int):=by rw [IntKind.wrap_i64];omega
 have Hn:(0:Int)<=(i:Int)+(m:Int):=by omega
 have Dr:i<=n:=by omega
 have htn:((i:Int)+(m:Int)).toNat=i+m:=by omega
 have GR:(i:Int)<=(n:Int):=by omega
 have R0:=RY (w.alloc (.cells vo 106)).drew (BC _ rfl) (PU _ rfl);have R1:=RZ ((w.alloc (.cells vo 106)).drew.setRow w.heap.size L1.toArray).drew (hB0 _ rfl) (TC (w.alloc (.cells vo 106)).drew rfl);have R2:=pT (w.alloc (.cells vo 106)).drew ((w.alloc (.cells vo 106)).drew.setRow w.heap.size L1.toArray).drew rfl rfl rfl rfl rfl rfl rfl rfl;go_enter Tryz.func164,Tryz.ntmps164
 go_wp2_with (first
  | (at_builtin;refine Lib.wpList_append_run _ rfl _ _ _ _ rfl _ _ rfl rfl _ _ (XP _) ?_)
  | (at_builtin;refine ku _ rfl _ _ 22 22 rfl _ _ rfl rfl (R0 _ _) ?_))
 go_region_law_o (refine ni rfl _ _ 22 22 rfl _ _ (by simp [Act.eval,Act.put]) (by simp [Act.eval,Act.put]) (R1 _ _ _) ?_)
 go_wp2
 go_ret;exact ⟨_,rfl,R2⟩
theorem Jd (w:World) {base m:Nat} {A:Option Addr} {u:Value} {ys:List Value} (hu:w.ownsRow base 106 3 u m ys) (hm:0<m) (hb:m<=1000000000) (kW:base<=w.heap.size) (h1:∀ y∈ys,y.oneCell'=true) :
  Calls Tryz.prog 164 #[.slice A 0 0,.int .i64 0,u] w λe w'=>∃ v',e=.returned v'/\jc base w (.slice none 0 0) m ys v' w':=by
 have t3:=Tryz.underlying3;have t22:=Tryz.underlying22;have u3:=run_underlying Tryz.underlying3;have TG:=run_underlying Tryz.underlying22;have MO:¬ ((m:Int)=0):=by omega
 obtain ⟨i,hi,hz,fT,Ev⟩:=tR;have hs:=World.ownsRow_nil w base 106 3;obtain ⟨v',w',iE,kM,_,hc⟩:=lU (P:=Tryz.prog) (ty:=22) w Tryz.underlying22 Tryz.underlying22 (.inr ⟨_,rfl⟩) hi hz fT (by rfl) hs (w6 hu h1) (by simp only [maxLen];omega) (by rw [Ev];omega) kW;rw [zca,zcc] at kM;have KZ:=((wF (ty:=22) Tryz.underlying22 Tryz.underlying22 (.inr ⟨_,rfl⟩) hi hz fT (w6 hu h1) (by omega) (by rw [Ev];omega) A).2 (by omega)).trans iE;rcases hu.2 with ⟨_,h0⟩|⟨vb,vc,CT,rfl,_⟩
 ·omega
 cases A with
 | none =>
  go_enter Tryz.func164,Tryz.ntmps164
  go_wp2_with (at_builtin;refine Lib.wpList_append_run _ rfl _ _ _ _ rfl _ _ rfl rfl _ _ KZ ?_)
  all_goals (go_ret;exact ⟨_,rfl,kM,hc⟩)
 | some A =>
  obtain ⟨ab,ao,asp⟩:=A;go_enter Tryz.func164,Tryz.ntmps164
  go_wp2_with (at_builtin;refine Lib.wpList_append_run _ rfl _ _ _ _ rfl _ _ rfl rfl _ _ KZ ?_)
  all_goals (go_ret;exact ⟨_,rfl,kM,hc⟩)
theorem FC (w:World) {base n m i:Nat} {v u:Value} {xs ys:List Value} (hs:w.ownsRow base 106 3 v n xs) (hu:w.ownsRow base 106 3 u m ys) (fi:∀ b,v.ownBlock=some b->u.ownBlock≠some b) (hi:i<=n) (hm:0<m) (hb:n+m<=1000000000) (kW:base<=w.heap.size)
  (DU:∀ x∈xs,x.oneCell'=true) (h1:∀ y∈ys,y.oneCell'=true) :
  Calls Tryz.prog 164 #[v,.int .i64 i,u] w λe w'=>∃ v',e=.returned v'/\jc base w v (n+m) (xs.take (i*3)++ys++xs.drop (i*3)) v' w':=by
 by_cases Dr:i=n
 ·subst Dr;have wx:=hs.1;rw [zbw (by omega),zcu (by omega),zbn];exact Jb w hs hu hm hb kW h1
 ·obtain ⟨b,c,rfl⟩:=(jk hs).2 (by omega);obtain ⟨vb,vc,rfl⟩:=(jk hu).2 (by omega);by_cases hr:n+m<=c
  ·exact FB w hs hu (λe=>fi b rfl (by rw [e];rfl)) (by omega) hm hb hr DU h1
  ·exact GX w hs hu (by omega) hm hb (by omega) kW DU h1
theorem D3 {l l' r:List Range} {n0 n1:Nat} {i:Int} (H:rJ i l l'=some r) :
  aR Tryz.prog 164 [.vc 0 n0,.d (cI i),.vc 1 n1] ⟨[],[⟨106,3,n0,some (l.map Range.row)⟩,⟨106,3,n1,some (l'.map Range.row)⟩]⟩
   (QE (.vc 2 r.length) ⟨[],[⟨106,3,([]:List Range).length,none⟩,⟨106,3,n1,some (l'.map Range.row)⟩,⟨106,3,r.length,some (r.map Range.row)⟩]⟩):=by
 obtain ⟨hk,H⟩:=au H;cases H;intro g w base vs hinv ha;obtain ⟨x,y,z,rfl,e1,e2,e3⟩:=Ry rfl ha;obtain ⟨k0,k1,k2,k3⟩:=hk;have Mn:y=.int .i64 i:=e2.bN;subst Mn;obtain ⟨xs,s1,s2,s3⟩:=hinv.own 0 _ _ _ _ rfl;obtain ⟨ys,u1,u2,u3⟩:=hinv.own 1 _ _ _ _ rfl;have NV:n0=l.length:=by have:=s3.len;simpa using this.symm
 have hn1:n1=l'.length:=by have:=u3.len;simpa using this.symm
 have hz:z=g.tk 1:=by
  rcases sV hinv rfl e3 with h|⟨_,h,_⟩
  ·exact h
  ·have:l'=[]:=by simpa using h
   rw [this] at k2;simp at k2
 subst hz;obtain ⟨j,rfl⟩:∃ j:Nat,i=(j:Int):=⟨i.toNat,by omega⟩;have rX:=s3.WY s1.1 u3 u1.1 (i:=j) (j:=j) (zar _) (by omega);have j5:(l.map Range.row).take j++l'.map Range.row++(l.map Range.row).drop j=(l.take j++l'++l.drop j).map Range.row:=by simp [List.map_take,List.map_drop]
 rw [j5,show j+n1+(n0-j)=n0+n1 from by omega] at rX;have hlen:(l.take j++l'++l.drop j).length=n0+n1:=by simp;omega
 have DU:=s3.one s1.1;have h1y:=u3.one u1.1;have fin:∀ v0:Value,(v0.ownBlock=(g.tk 0).ownBlock∨v0.ownBlock=none/\0<n0+n1)->∀ e w',(∃ v',e=.returned v'/\jc base w v0 (n0+n1) (xs.take (j*3)++ys++xs.drop (j*3)) v' w') ->
   ox ⟨g,w,⟨[],[⟨106,3,n0,some (l.map Range.row)⟩,⟨106,3,n1,some (l'.map Range.row)⟩]⟩,base⟩ (QE (.vc 2 (l.take (j:Int).toNat++l'++l.drop (j:Int).toNat).length) ⟨[],[⟨106,3,([]:List Range).length,none⟩,⟨106,3,n1,some (l'.map Range.row)⟩,⟨106,3,(l.take (j:Int).toNat++l'++l.drop (j:Int).toNat).length,some ((l.take (j:Int).toNat++l'++l.drop (j:Int).toNat).map Range.row)⟩]⟩) e w':=by
  rintro v0 MB e w' ⟨v',rfl,ho,hc⟩;rw [zce,hlen];refine wT hinv (tk:=0) rfl rfl ho ?_ rX;rcases hc with ⟨c1,c2,c3⟩|hc
  ·rcases MB with MB|⟨MB,hp⟩
   ·rw [MB] at c1 c3;exact .inl ⟨c1,c2,c3⟩
   ·rw [MB] at c1;obtain ⟨b,c,GG⟩:=(jk ho).2 (by omega);rw [GG] at c1;cases c1
  ·exact .inr hc
 rcases sV hinv rfl e1 with hx|⟨h0,WZ,A,hx⟩
 ·subst hx;refine (FC w s1 u1 (λb h1 h2=>hinv.oH 0 1 _ _ b (by decide) rfl rfl h1 h2) (i:=j) (by omega) (by omega) (by omega) hinv.base DU h1y).mono ?_;exact fin _ (.inl rfl)
 ·subst hx;have hj:j=0:=by omega
  subst hj;have T1:xs=[]:=zbc (by rw [s1.1,h0,zfz]);subst T1;refine (Jd w (A:=A) u1 (by omega) (by omega) hinv.base h1y).mono λe w' hh=>fin (.slice none 0 0) (.inr ⟨rfl,by omega⟩) e w' ?_
  rw [h0,zca];simpa using hh
theorem FD (w:World) {base b n c i j:Nat} {xs:List Value} (hs:w.ownsRow base 106 3 (.slice (some ⟨b,0,none⟩) n c) n xs) (h1:∀ y∈xs,y.oneCell'=true) (hi:i<j) (hj:j<=n) (hb:n<=1000000000) :
  Calls Tryz.prog 166 #[.slice (some ⟨b,0,none⟩) n c,.int .i64 i,.int .i64 j] w λe w'=>∃ v',e=.returned v'/\jc base w (.slice (some ⟨b,0,none⟩) n c) (i+(n-j)) (xs.take (i*3)++xs.drop (j*3)) v' w':=by
 have t3:=Tryz.underlying3;have t22:=Tryz.underlying22;have u3:=run_underlying Tryz.underlying3;have TG:=run_underlying Tryz.underlying22;obtain ⟨zX,DS,zu,cur,hg,yU,xG⟩:=nT hs;obtain ⟨inf,lY,hz,fT,Ev⟩:=tR;simp only [maxLen] at zu;generalize hzv:(Value.agg _)=zv at hz;have Dm:zv.cells.size=3:=by rw [←hzv];rfl
 have MO:∀ v∈(Builtin.zeroCells zv.cells (n-(i+(n-j)))).toList,v.oneCell'=true:=vh (by rw [Dm,←hzv];decide);have wx:=hs.1;have sE:cur.toList.length=c*3:=by simpa using yU
 have vQ:(xs.drop (j*3)).length=(n-j)*3:=by rw [zbg,wx];omega
 have cZ:∀ y∈xs.drop (j*3),y.oneCell'=true:=λy hy=>h1 y (zdh hy)
 have ph:i*3+(xs.drop (j*3)).length<=cur.toList.length:=by rw [vQ,sE];omega
 have Y3:w.drew.heap[b]?=some (.cells cur 106 (0,0)):=hg;have sI:∀ (q:Nat) (y:Value),xs[q]?=some y->w.drew.cell? ((⟨b,0,none⟩:Addr).add q)=some y:=hs.cells (g:=b) rfl;have hf:(Builtin.firstCells 3 (n-j) (.slice (if c=j then some ⟨b,0,none⟩ else some ⟨b,j*3,none⟩) (n-j) (c-j))).run Tryz.prog w.drew=.ok (xs.drop (j*3)).toArray w.drew:=by
  by_cases XU:c=j
  ·have hnj:n-j=0:=by omega
   have hx0:xs.drop (j*3)=[]:=zbc (by rw [vQ,hnj,zfz]);rw [zaa XU,hnj,hx0];exact run_firstCells_some w.drew _ 0 _ 0 (c-j) [] rfl (λq y hq=>by simp at hq)
  ·rw [zab XU];exact run_firstCells_some w.drew _ (n-j) _ (n-j) (c-j) _ vQ λq y hq=>by
    rw [zbd] at hq;have:=sI (j*3+q) y hq;simp only [Addr.add_lit,zca] at this ⊢;exact this
 have iE:∀ ty,(Builtin.append_ #[22,22] ty #[.slice (some ⟨b,0,none⟩) i c,.slice (if c=j then some ⟨b,0,none⟩ else some ⟨b,j*3,none⟩) (n-j) (c-j)]).run Tryz.prog w.drew=.ok (.slice (some ⟨b,0,none⟩) (i+(n-j)) c) (w.drew.setRow b (laid cur.toList (i*3) (xs.drop (j*3))).toArray):=λty =>
  Dy w.drew Tryz.underlying22 lY fT Y3 (by omega) hf cZ (by rw [←zda];exact ph)
 generalize hys:xs.drop (j*3)=ys at iE ph vQ cZ hf ⊢;generalize zx:laid cur.toList (i*3) ys=L1 at iE;have DF:L1.length=cur.toList.length:=by rw [←zx];exact jl ph
 have Mo:(w.drew.setRow b L1.toArray).heap[b]?=some (.cells L1.toArray 106 (0,0)):=setRow_heap w.drew b cur _ 106 (0,0) Y3;have TH:L1.take ((i+(n-j))*3)=xs.take (i*3)++ys:=by
  have e1:(cur.toList.take ((i+(n-j))*3)).drop (i*3+ys.length)=[]:=zcu (by rw [zba,vQ];omega);rw [←zx,jW ph (by rw [vQ];omega),e1,zbn,←xG,List.take_take,show min (i*3) (n*3)=i*3 from by omega]
 have hlen:(xs.take (i*3)++ys).length=(i+(n-j))*3:=by simp only [zak,zba];omega
 have hm:i+(n-j)<n:=by omega
 have DG:(i+(n-j))*3+(Builtin.zeroCells zv.cells (n-(i+(n-j)))).toList.length<=L1.length:=by rw [zda,size_zeroCells,Dm,DF,sE];omega
 have D2:∀ ty dc,(Builtin.clear_ #[22] ty #[.slice (some ⟨b,(i+(n-j))*3,none⟩) (n-(i+(n-j))) dc]).run Tryz.prog (w.drew.setRow b L1.toArray)=.ok (.tuple #[]) ((w.drew.setRow b L1.toArray).setRow b (laid L1 ((i+(n-j))*3) (Builtin.zeroCells zv.cells (n-(i+(n-j)))).toList).toArray):=λty dc=>by
  have:=Az (P:=Tryz.prog) (ty:=ty) (c:=dc) (w.drew.setRow b L1.toArray) (o:=(i+(n-j))*3) (n:=n-(i+(n-j))) Tryz.underlying22 lY hz Dm Mo (by omega) (by rw [zbz,DF,sE];omega) MO;exact this
 generalize zV:laid L1 ((i+(n-j))*3) (Builtin.zeroCells zv.cells (n-(i+(n-j)))).toList=L2 at D2;have QC:L2.length=L1.length:=by rw [←zV];exact jl DG
 have TI:L2.take ((i+(n-j))*3)=xs.take (i*3)++ys:=by rw [←zV,AA DG (zar _),TH]
 have pT:jc base w (.slice (some ⟨b,0,none⟩) n c) (i+(n-j)) (xs.take (i*3)++ys) (.slice (some ⟨b,0,none⟩) (i+(n-j)) c) ((w.drew.setRow b L1.toArray).setRow b L2.toArray) :=
  ⟨⟨hlen,.inr ⟨b,c,_,rfl,zX,setRow_heap _ b _ _ 106 (0,0) Mo,by omega,by simp only [maxLen];omega,by rw [zbz,QC,DF,sE],by rw [zdf,TI]⟩⟩,
   .inl ⟨rfl,by simp,⟨rfl,rfl,rfl,by simp,λk hk I8=>by rw [setRow_other _ b k _ (λe=>I8 (by rw [e];rfl)),setRow_other _ b k _ (λe=>I8 (by rw [e];rfl))];rfl⟩⟩⟩
 generalize hmg:n-j=m at *;obtain rfl:j=n-m:=by omega
 have Dr:i<=n:=by omega
 have Vk:i<=c:=by omega
 have hnmc:n-m<=c:=by omega
 have hnmn:n-m<=n:=by omega
 have mixed:=oc;have hij2:i<=n-m:=by omega
 have W4:(0:Int)<=(i:Int):=by omega
 have qK:¬ (c=i):=by omega
 have hcim:¬ (c=i+m):=by omega
 have hle:i+m<=n:=by omega
 have fi:¬ ((i:Int)=((n-m:Nat):Int)):=by omega
 by_cases XU:c=n-m
 ·subst XU;rw [zaa rfl] at hf;simp only [zaa] at iE;go_enter Tryz.func166,Tryz.ntmps166
  go_wp2
  go_region_law_o (refine z6 rfl _ _ 22 rfl _ _ (by simp [Act.eval,Act.put]) (by simp [Act.eval,Act.put]) (iE _) ?_)
  go_wp2_with (at_builtin;refine lf _ rfl _ 22 rfl _ rfl (D2 _ _) ?_)
  all_goals (go_ret;exact ⟨_,rfl,pT⟩)
 ·rw [zab XU] at hf;simp only [zab XU] at iE;go_enter Tryz.func166,Tryz.ntmps166
  go_wp2
  go_region_law_o (refine z6 rfl _ _ 22 rfl _ _ (by simp [Act.eval,Act.put]) (by simp [Act.eval,Act.put]) (iE _) ?_)
  go_wp2_with (at_builtin;refine lf _ rfl _ 22 rfl _ rfl (D2 _ _) ?_)
  all_goals (go_ret;exact ⟨_,rfl,pT⟩)
theorem xv {l r:List Range} {n0:Nat} {i j:Int} (H:oS i j l=some r) :
  aR Tryz.prog 166 [.vc 0 n0,.d (cI i),.d (cI j)] ⟨[],[⟨106,3,n0,some (l.map Range.row)⟩]⟩
   (QE (.vc 1 r.length) ⟨[],[⟨106,3,([]:List Range).length,none⟩,⟨106,3,r.length,some (r.map Range.row)⟩]⟩):=by
 obtain ⟨hk,H⟩:=au H;cases H;intro g w base vs hinv ha;obtain ⟨x,y,z,rfl,e1,e2,e3⟩:=Ry rfl ha;obtain ⟨k0,k1,k2,k3⟩:=hk;have Mn:y=.int .i64 i:=e2.bN;have e3':z=.int .i64 j:=e3.bN;subst Mn;subst e3';obtain ⟨xs,s1,s2,s3⟩:=hinv.own 0 _ _ _ _ rfl;have NV:n0=l.length:=by have:=s3.len;simpa using this.symm
 have hx:x=g.tk 0:=by
  rcases sV hinv rfl e1 with h|⟨_,h,_⟩
  ·exact h
  ·have:l=[]:=by simpa using h
   rw [this] at k2;simp at k2;omega
 subst hx;obtain ⟨i',rfl⟩:∃ q:Nat,i=(q:Int):=⟨i.toNat,by omega⟩;obtain ⟨j',rfl⟩:∃ q:Nat,j=(q:Int):=⟨j.toNat,by omega⟩;have rX:=(s3.take (k:=i') (by omega)).app (by rw [zba,s1.1];have:i'*3<=n0*3:=zcz _ (by omega);omega) (s3.drop (k:=j') (by omega));have j5:(l.map Range.row).take i'++(l.map Range.row).drop j'=(l.take i'++l.drop j').map Range.row:=by simp [List.map_take,List.map_drop]
 rw [j5] at rX;have hlen:(l.take i'++l.drop j').length=i'+(n0-j'):=by simp;omega
 obtain ⟨b,c,hv⟩:=(jk s1).2 (by omega);have DU:=s3.one s1.1;have Ur:=s1;rw [hv] at Ur;have hw:=FD w Ur DU (i:=i') (j:=j') (by omega) (by omega) (by omega);rw [←hv] at hw;refine hw.mono ?_;rintro e w' ⟨v',rfl,ho,hc⟩;rw [zce,zce,hlen];exact wT hinv (tk:=0) rfl rfl ho hc rX
theorem xw {l r:List Range} (H:iV l=some r):aR Tryz.prog 85 [.d (aj 3 Range.row l)] ⟨[],[]⟩ (QE (.vc 0 r.length) ⟨[],[⟨106,3,r.length,some (r.map Range.row)⟩]⟩):=by
 obtain ⟨hk,H⟩:=au H;cases H;obtain ⟨i32,BE,I9,BF,Ja⟩:=tR;refine aR.mj ?_;refine aR.enter Tryz.func85 rfl Tryz.ntmps85 rfl λS hS=>?_
 refine .F 8 rfl (.KN Tryz.underlying22 rfl rfl λb hb=>?_);refine .E 1 rfl (.cond rfl (λhc=>?_) (λhc=>?_))
 ·have hl:l=[]:=by simpa using hb hc
  subst hl;refine .E 4 rfl (.Pv (i:=2) (e:=106) (sz:=3) rfl (.R Tryz.func85 Tryz.results85 rfl ?_));exact ⟨[],[0],rfl,rfl,rfl,rfl,rfl,rfl,rfl,rfl,.ak _⟩
 ·refine .F 3 rfl (.v (x:=.vc 0 ([]:List Range).length) (vO Range.row Tryz.underlying22 BE BF) rfl (.vf (st':=⟨[],[⟨106,3,([]:List Range).length,some (([]:List Range).map Range.row)⟩]⟩) rfl (.F 1 rfl ?_)));refine .v (x:=.vc 0 (([]:List Range)++l).length) (gS (l:=[]) (l':=l) (row:=Range.row) Tryz.underlying22 BE I9 BF rfl (by rw [Ja];decide) rfl rfl rfl rfl (by simpa using hk)) rfl ?_;refine .vf (st':=⟨[],[⟨106,3,(([]:List Range)++l).length,some ((([]:List Range)++l).map Range.row)⟩]⟩) rfl (.E 2 rfl (.R Tryz.func85 Tryz.results85 rfl ?_));exact ⟨[],[0],rfl,rfl,rfl,rfl,rfl,rfl,rfl,rfl,.ak _⟩
theorem uf {l r:List Range} (H:iV l=some r):aF Tryz.prog 85 [aj 3 Range.row l] (·=aj 3 Range.row r):=.of (xw H).Oa
theorem yw {l r:List Head} (H:nj l=some r):aR Tryz.prog 86 [.d (aj 4 Head.row l)] ⟨[],[]⟩ (QE (.vc 0 r.length) ⟨[],[⟨76,4,r.length,some (r.map Head.row)⟩]⟩):=by
 obtain ⟨hk,H⟩:=au H;cases H;obtain ⟨i32,BE,I9,BF,Ja⟩:=HK;refine aR.mj ?_;refine aR.enter Tryz.func86 rfl Tryz.ntmps86 rfl λS hS=>?_
 refine .F 8 rfl (.KN Tryz.underlying24 rfl rfl λb hb=>?_);refine .E 1 rfl (.cond rfl (λhc=>?_) (λhc=>?_))
 ·have hl:l=[]:=by simpa using hb hc
  subst hl;refine .E 4 rfl (.Pv (i:=2) (e:=76) (sz:=4) rfl (.R Tryz.func86 Tryz.results86 rfl ?_));exact ⟨[],[0],rfl,rfl,rfl,rfl,rfl,rfl,rfl,rfl,.ak _⟩
 ·refine .F 3 rfl (.v (x:=.vc 0 ([]:List Head).length) (vO Head.row Tryz.underlying24 BE BF) rfl (.vf (st':=⟨[],[⟨76,4,([]:List Head).length,some (([]:List Head).map Head.row)⟩]⟩) rfl (.F 1 rfl ?_)));refine .v (x:=.vc 0 (([]:List Head)++l).length) (gS (l:=[]) (l':=l) (row:=Head.row) Tryz.underlying24 BE I9 BF rfl (by rw [Ja];decide) rfl rfl rfl rfl (by simpa using hk)) rfl ?_;refine .vf (st':=⟨[],[⟨76,4,(([]:List Head)++l).length,some ((([]:List Head)++l).map Head.row)⟩]⟩) rfl (.E 2 rfl (.R Tryz.func86 Tryz.results86 rfl ?_));exact ⟨[],[0],rfl,rfl,rfl,rfl,rfl,rfl,rfl,rfl,.ak _⟩
theorem Ac {l r:List Head} (H:nj l=some r):aF Tryz.prog 86 [aj 4 Head.row l] (·=aj 4 Head.row r):=.of (yw H).Oa
theorem vZ {l r:List ai} (H:oT l=some r):aR Tryz.prog 88 [.d (aj 4 ai.row l)] ⟨[],[]⟩ (QE (.vc 0 r.length) ⟨[],[⟨66,4,r.length,some (r.map ai.row)⟩]⟩):=by
 obtain ⟨hk,H⟩:=au H;cases H;obtain ⟨i32,BE,I9,BF,Ja⟩:=HJ;refine aR.mj ?_;refine aR.enter Tryz.func88 rfl Tryz.ntmps88 rfl λS hS=>?_
 refine .F 8 rfl (.KN Tryz.underlying28 rfl rfl λb hb=>?_);refine .E 1 rfl (.cond rfl (λhc=>?_) (λhc=>?_))
 ·have hl:l=[]:=by simpa using hb hc
  subst hl;refine .E 4 rfl (.Pv (i:=2) (e:=66) (sz:=4) rfl (.R Tryz.func88 Tryz.results88 rfl ?_));exact ⟨[],[0],rfl,rfl,rfl,rfl,rfl,rfl,rfl,rfl,.ak _⟩
 ·refine .F 3 rfl (.v (x:=.vc 0 ([]:List ai).length) (vO ai.row Tryz.underlying28 BE BF) rfl (.vf (st':=⟨[],[⟨66,4,([]:List ai).length,some (([]:List ai).map ai.row)⟩]⟩) rfl (.F 1 rfl ?_)));refine .v (x:=.vc 0 (([]:List ai)++l).length) (gS (l:=[]) (l':=l) (row:=ai.row) Tryz.underlying28 BE I9 BF rfl (by rw [Ja];decide) rfl rfl rfl rfl (by simpa using hk)) rfl ?_;refine .vf (st':=⟨[],[⟨66,4,(([]:List ai)++l).length,some ((([]:List ai)++l).map ai.row)⟩]⟩) rfl (.E 2 rfl (.R Tryz.func88 Tryz.results88 rfl ?_));exact ⟨[],[0],rfl,rfl,rfl,rfl,rfl,rfl,rfl,rfl,.ak _⟩
theorem D4 {l r:List ai} (H:oT l=some r):aF Tryz.prog 88 [aj 4 ai.row l] (·=aj 4 ai.row r):=.of (vZ H).Oa
theorem xx {l r:List aE} (H:td l=some r):aR Tryz.prog 87 [.d (aj 12 aE.row l)] ⟨[],[]⟩ (QE (.vc 0 r.length) ⟨[],[⟨54,12,r.length,some (r.map aE.row)⟩]⟩):=by
 obtain ⟨hk,H⟩:=au H;cases H;obtain ⟨i32,BE,I9,BF,Ja⟩:=DA;refine aR.mj ?_;refine aR.enter Tryz.func87 rfl Tryz.ntmps87 rfl λS hS=>?_
 refine .F 8 rfl (.KN Tryz.underlying27 rfl rfl λb hb=>?_);refine .E 1 rfl (.cond rfl (λhc=>?_) (λhc=>?_))
 ·have hl:l=[]:=by simpa using hb hc
  subst hl;refine .E 4 rfl (.Pv (i:=2) (e:=54) (sz:=12) rfl (.R Tryz.func87 Tryz.results87 rfl ?_));exact ⟨[],[0],rfl,rfl,rfl,rfl,rfl,rfl,rfl,rfl,.ak _⟩
 ·refine .F 3 rfl (.v (x:=.vc 0 ([]:List aE).length) (vO aE.row Tryz.underlying27 BE BF) rfl (.vf (st':=⟨[],[⟨54,12,([]:List aE).length,some (([]:List aE).map aE.row)⟩]⟩) rfl (.F 1 rfl ?_)));refine .v (x:=.vc 0 (([]:List aE)++l).length) (gS (l:=[]) (l':=l) (row:=aE.row) Tryz.underlying27 BE I9 BF rfl (by rw [Ja];decide) rfl rfl rfl rfl (by simpa using hk)) rfl ?_;refine .vf (st':=⟨[],[⟨54,12,(([]:List aE)++l).length,some ((([]:List aE)++l).map aE.row)⟩]⟩) rfl (.E 2 rfl (.R Tryz.func87 Tryz.results87 rfl ?_));exact ⟨[],[0],rfl,rfl,rfl,rfl,rfl,rfl,rfl,rfl,.ak _⟩
end Go.Proofs.YtimkfiaffohhkaaGreatDoor
namespace Go.Proofs.YtimkfiaffohhkaaGreatDoor
open Go.Shelf
def Tryz.Je:Go.Shelf.Ren:=⟨fun|6=>81|15=>129|14=>128|28=>175|29=>176|20=>167|21=>168|22=>169|23=>170|24=>171|25=>172|26=>173|27=>174|46=>195|47=>196|48=>197|49=>198|50=>199|57=>211|n=>n,fun|22=>28|24=>66|25=>135|3=>3|39=>183|0=>0|53=>227|55=>229|4=>4|46=>221|45=>220|50=>94|5=>5|9=>9|66=>242|70=>246|76=>258|77=>199|n=>n,fun|n=>n⟩
theorem Tryz.K0:Go.Proofs.SlLaysF0.n6 Tryz.prog Tryz.Je:={
 mixed:=by kernel_rfl
 f6:=⟨Tryz.f81.name,by decide,Tryz.func81.trans (zbq some (by kernel_rfl))⟩
 f14:=⟨Tryz.f128.name,by decide,Tryz.func128.trans (zbq some (by kernel_rfl))⟩
 f15:=Tryz.func129.trans (zbq some (by kernel_rfl))
 f20:=⟨Tryz.f167.name,by decide,Tryz.func167.trans (zbq some (by kernel_rfl))⟩
 f21:=⟨Tryz.f168.name,by decide,Tryz.func168.trans (zbq some (by kernel_rfl))⟩
 f22:=⟨Tryz.f169.name,by decide,Tryz.func169.trans (zbq some (by kernel_rfl))⟩
 f23:=⟨Tryz.f170.name,by decide,Tryz.func170.trans (zbq some (by kernel_rfl))⟩
 f24:=⟨Tryz.f171.name,by decide,Tryz.func171.trans (zbq some (by kernel_rfl))⟩
 f25:=⟨Tryz.f172.name,by decide,Tryz.func172.trans (zbq some (by kernel_rfl))⟩
 f26:=⟨Tryz.f173.name,by decide,Tryz.func173.trans (zbq some (by kernel_rfl))⟩
 f27:=⟨Tryz.f174.name,by decide,Tryz.func174.trans (zbq some (by kernel_rfl))⟩
 f28:=Tryz.func175.trans (zbq some (by kernel_rfl))
 f29:=Tryz.func176.trans (zbq some (by kernel_rfl))
 f46:=⟨Tryz.f195.name,by decide,Tryz.func195.trans (zbq some (by kernel_rfl))⟩
 f47:=Tryz.func196.trans (zbq some (by kernel_rfl))
 f48:=Tryz.func197.trans (zbq some (by kernel_rfl))
 f49:=⟨Tryz.f198.name,by decide,Tryz.func198.trans (zbq some (by kernel_rfl))⟩
 f50:=⟨Tryz.f199.name,by decide,Tryz.func199.trans (zbq some (by kernel_rfl))⟩
 f57:=⟨Tryz.f211.name,by decide,Tryz.func211.trans (zbq some (by kernel_rfl))⟩
 t0:=Tryz.underlying0
 a0:=Tryz.isAgg0
 z0:=Tryz.sizeOf0
 v0:=Tryz.zeroValue0
 t3:=Tryz.underlying3
 a3:=Tryz.isAgg3
 z3:=Tryz.sizeOf3
 v3:=Tryz.zeroValue3
 t4:=Tryz.underlying4
 a4:=Tryz.isAgg4
 z4:=Tryz.sizeOf4
 v4:=Tryz.zeroValue4
 t5:=Tryz.underlying5
 a5:=Tryz.isAgg5
 z5:=Tryz.sizeOf5
 v5:=Tryz.zeroValue5
 t9:=Tryz.underlying9
 a9:=Tryz.isAgg9
 z9:=Tryz.sizeOf9
 v9:=Tryz.zeroValue9
 t22:=Tryz.underlying28
 a22:=Tryz.isAgg28
 z22:=Tryz.sizeOf28
 v22:=Tryz.zeroValue28
 t25:=Tryz.underlying135
 a25:=Tryz.isAgg135
 z25:=Tryz.sizeOf135
 v25:=Tryz.zeroValue135
 t39:=Tryz.underlying183
 a39:=Tryz.isAgg183
 z39:=Tryz.sizeOf183
 v39:=Tryz.zeroValue183
 t45:=Tryz.underlying220
 a45:=Tryz.isAgg220
 z45:=Tryz.sizeOf220
 v45:=Tryz.zeroValue220
 t46:=Tryz.underlying221
 a46:=Tryz.isAgg221
 z46:=Tryz.sizeOf221
 v46:=Tryz.zeroValue221
 t50:=Tryz.underlying94
 a50:=Tryz.isAgg94
 z50:=Tryz.sizeOf94
 v50:=Tryz.zeroValue94
 t53:=Tryz.underlying227
 a53:=Tryz.isAgg227
 z53:=Tryz.sizeOf227
 v53:=Tryz.zeroValue227
 t55:=Tryz.underlying229
 a55:=Tryz.isAgg229
 z55:=Tryz.sizeOf229
 v55:=Tryz.zeroValue229
 t66:=Tryz.underlying242
 a66:=Tryz.isAgg242
 z66:=Tryz.sizeOf242
 v66:=Tryz.zeroValue242
 t70:=Tryz.underlying246
 a70:=Tryz.isAgg246
 z70:=Tryz.sizeOf246
 v70:=Tryz.zeroValue246
 t76:=Tryz.underlying258
 a76:=Tryz.isAgg258
 z76:=Tryz.sizeOf258
 v76:=Tryz.zeroValue258
 t77:=Tryz.underlying199
 a77:=Tryz.isAgg199
 z77:=Tryz.sizeOf199
 v77:=Tryz.zeroValue199 }
def Tryz.Jf:Go.Shelf.Ren:=⟨fun|4=>112|n=>n,fun|22=>23|25=>58|3=>3|4=>4|9=>9|20=>20|0=>0|n=>n,fun|n=>n⟩
theorem Tryz.K1:Go.Proofs.Lays8.n4 Tryz.prog Tryz.Jf:={
 mixed:=by kernel_rfl
 f4:=⟨Tryz.f112.name,by decide,Tryz.func112.trans (zbq some (by kernel_rfl))⟩
 t0:=Tryz.underlying0
 a0:=Tryz.isAgg0
 z0:=Tryz.sizeOf0
 v0:=Tryz.zeroValue0
 t3:=Tryz.underlying3
 a3:=Tryz.isAgg3
 z3:=Tryz.sizeOf3
 v3:=Tryz.zeroValue3
 t4:=Tryz.underlying4
 a4:=Tryz.isAgg4
 z4:=Tryz.sizeOf4
 v4:=Tryz.zeroValue4
 t9:=Tryz.underlying9
 a9:=Tryz.isAgg9
 z9:=Tryz.sizeOf9
 v9:=Tryz.zeroValue9
 t20:=Tryz.underlying20
 a20:=Tryz.isAgg20
 z20:=Tryz.sizeOf20
 v20:=Tryz.zeroValue20
 t22:=Tryz.underlying23
 a22:=Tryz.isAgg23
 z22:=Tryz.sizeOf23
 v22:=Tryz.zeroValue23 }
def Tryz.DH:Go.Shelf.Ren:=⟨fun|156=>116|165=>153|166=>154|169=>155|240=>191|241=>192|276=>208|277=>209|n=>n,fun|31=>96|9=>9|3=>3|4=>4|0=>0|20=>20|72=>207|76=>211|70=>204|37=>205|75=>210|127=>240|164=>255|5=>5|80=>213|n=>n,fun|n=>n⟩
theorem Tryz.Oo:Go.Proofs.Lays.n156 Tryz.prog Tryz.DH:={
 mixed:=by kernel_rfl
 f156:=Tryz.func116.trans (zbq some (by kernel_rfl))
 f165:=Tryz.func153.trans (zbq some (by kernel_rfl))
 f166:=Tryz.func154.trans (zbq some (by kernel_rfl))
 f169:=Tryz.func155.trans (zbq some (by kernel_rfl))
 f240:=Tryz.func191.trans (zbq some (by kernel_rfl))
 f241:=Tryz.func192.trans (zbq some (by kernel_rfl))
 f276:=Tryz.func208.trans (zbq some (by kernel_rfl))
 f277:=Tryz.func209.trans (zbq some (by kernel_rfl))
 t0:=Tryz.underlying0
 a0:=Tryz.isAgg0
 z0:=Tryz.sizeOf0
 v0:=Tryz.zeroValue0
 t3:=Tryz.underlying3
 a3:=Tryz.isAgg3
 z3:=Tryz.sizeOf3
 v3:=Tryz.zeroValue3
 t4:=Tryz.underlying4
 a4:=Tryz.isAgg4
 z4:=Tryz.sizeOf4
 v4:=Tryz.zeroValue4
 t9:=Tryz.underlying9
 a9:=Tryz.isAgg9
 z9:=Tryz.sizeOf9
 v9:=Tryz.zeroValue9
 t20:=Tryz.underlying20
 a20:=Tryz.isAgg20
 z20:=Tryz.sizeOf20
 v20:=Tryz.zeroValue20
 t31:=Tryz.underlying96
 a31:=Tryz.isAgg96
 z31:=Tryz.sizeOf96
 v31:=Tryz.zeroValue96
 t37:=Tryz.underlying205
 a37:=Tryz.isAgg205
 z37:=Tryz.sizeOf205
 v37:=Tryz.zeroValue205
 t70:=Tryz.underlying204
 a70:=Tryz.isAgg204
 z70:=Tryz.sizeOf204
 v70:=Tryz.zeroValue204
 t72:=Tryz.underlying207
 a72:=Tryz.isAgg207
 z72:=Tryz.sizeOf207
 v72:=Tryz.zeroValue207
 t75:=Tryz.underlying210
 a75:=Tryz.isAgg210
 z75:=Tryz.sizeOf210
 v75:=Tryz.zeroValue210
 t76:=Tryz.underlying211
 a76:=Tryz.isAgg211
 z76:=Tryz.sizeOf211
 v76:=Tryz.zeroValue211
 t127:=Tryz.underlying240
 a127:=Tryz.isAgg240
 z127:=Tryz.sizeOf240
 v127:=Tryz.zeroValue240
 t164:=Tryz.underlying255
 a164:=Tryz.isAgg255
 z164:=Tryz.sizeOf255
 v164:=Tryz.zeroValue255 }
theorem Tryz.uY:Builder.Extra Tryz.prog Tryz.DH:={
 sizeBuilder:=by kernel_rfl
 liesBuilder:=by kernel_rfl
 t5:=Tryz.underlying5
 a5:=Tryz.isAgg5
 z5:=Tryz.sizeOf5
 v5:=Tryz.zeroValue5
 infoByte:=by kernel_rfl
 cellsByte:=by kernel_rfl
 sizeByte:=by kernel_rfl
 neB5:=by decide }
open Go.RowKit in
theorem Tryz.strings_Join_none (a:Option Addr) (c:Nat) (sep:ByteArray) (w:World) :
  Calls Tryz.prog 116 #[.slice a 0 c,.string sep] w λe w'=>e=.returned (.string ⟨#[]⟩)/\w'=w:=Any.strings_Join_none Tryz.Oo Tryz.uY a c sep w
open Go.RowKit in
theorem Tryz.strings_Join (bk o c:Nat) (xs:List ByteArray) (sep:ByteArray) (w:World) (sI:∀ (j:Nat) x,xs[j]?=some x->w.cell? ⟨bk,o+j,none⟩=some (.string x)) (JZ:bk<w.heap.size) (hN:xs.length<=140737488355328) (hcap:xs.length<=c) (hlen:(Lib.join (xs.map (·.data.toList)) sep.data.toList).length<=140737488355328) :
  Calls Tryz.prog 116 #[.slice (some ⟨bk,o,none⟩) xs.length c,.string sep] w λe w'=>e=.returned (.string ⟨(Lib.join (xs.map (·.data.toList)) sep.data.toList).toArray⟩)/\Below w.heap.size w w':=Any.strings_Join Tryz.Oo Tryz.uY bk o c xs sep w sI JZ hN hcap hlen
def Tryz.K2:Go.Shelf.Ren:=⟨fun|122=>83|215=>130|n=>n,fun|3=>3|4=>4|n=>n,fun|n=>n⟩
theorem Tryz.Us:Go.Proofs.Lays.n122 Tryz.prog Tryz.K2:={
 mixed:=by kernel_rfl
 f122:=Tryz.func83.trans (zbq some (by kernel_rfl))
 f215:=Tryz.func130.trans (zbq some (by kernel_rfl))
 t3:=Tryz.underlying3
 a3:=Tryz.isAgg3
 z3:=Tryz.sizeOf3
 v3:=Tryz.zeroValue3
 t4:=Tryz.underlying4
 a4:=Tryz.isAgg4
 z4:=Tryz.sizeOf4
 v4:=Tryz.zeroValue4 }
open Go.RowKit in
theorem Tryz.cmp_Compare_int (x y:Int) (w:World) :
  Calls Tryz.prog 83 #[.int .i64 x,.int .i64 y] w λe w'=>e=.returned (.int .i64 (Lib.compareInt x y))/\w'=w:=Any.cmp_Compare_int Tryz.Us x y w
def Tryz.Jg:Go.Shelf.Ren:=⟨fun|171=>115|243=>152|246=>190|283=>204|284=>205|285=>206|286=>207|129=>176|317=>217|318=>218|319=>219|320=>220|337=>225|338=>226|n=>n,fun|3=>3|9=>9|2=>2|4=>4|171=>251|0=>0|53=>229|37=>205|5=>5|173=>253|212=>269|51=>227|20=>20|213=>270|46=>183|232=>279|233=>280|n=>n,fun|17=>0|18=>2|19=>3|n=>n⟩
theorem Tryz.R3:Go.Proofs.LaysM.n171 Tryz.prog Tryz.Jg:={
 mixed:=by kernel_rfl
 f129:=Tryz.func176.trans (zbq some (by kernel_rfl))
 f171:=Tryz.func115.trans (zbq some (by kernel_rfl))
 f243:=Tryz.func152.trans (zbq some (by kernel_rfl))
 f246:=Tryz.func190.trans (zbq some (by kernel_rfl))
 f283:=Tryz.func204.trans (zbq some (by kernel_rfl))
 f284:=Tryz.func205.trans (zbq some (by kernel_rfl))
 f285:=Tryz.func206.trans (zbq some (by kernel_rfl))
 f286:=Tryz.func207.trans (zbq some (by kernel_rfl))
 f317:=Tryz.func217.trans (zbq some (by kernel_rfl))
 f318:=Tryz.func218.trans (zbq some (by kernel_rfl))
 f319:=Tryz.func219.trans (zbq some (by kernel_rfl))
 f320:=Tryz.func220.trans (zbq some (by kernel_rfl))
 f337:=Tryz.func225.trans (zbq some (by kernel_rfl))
 f338:=Tryz.func226.trans (zbq some (by kernel_rfl))
 t0:=Tryz.underlying0
 a0:=Tryz.isAgg0
 z0:=Tryz.sizeOf0
 v0:=Tryz.zeroValue0
 t2:=Tryz.underlying2
 a2:=Tryz.isAgg2
 z2:=Tryz.sizeOf2
 v2:=Tryz.zeroValue2
 t3:=Tryz.underlying3
 a3:=Tryz.isAgg3
 z3:=Tryz.sizeOf3
 v3:=Tryz.zeroValue3
 t4:=Tryz.underlying4
 a4:=Tryz.isAgg4
 z4:=Tryz.sizeOf4
 v4:=Tryz.zeroValue4
 t5:=Tryz.underlying5
 a5:=Tryz.isAgg5
 z5:=Tryz.sizeOf5
 v5:=Tryz.zeroValue5
 t9:=Tryz.underlying9
 a9:=Tryz.isAgg9
 z9:=Tryz.sizeOf9
 v9:=Tryz.zeroValue9
 t20:=Tryz.underlying20
 a20:=Tryz.isAgg20
 z20:=Tryz.sizeOf20
 v20:=Tryz.zeroValue20
 t37:=Tryz.underlying205
 a37:=Tryz.isAgg205
 z37:=Tryz.sizeOf205
 v37:=Tryz.zeroValue205
 t46:=Tryz.underlying183
 a46:=Tryz.isAgg183
 z46:=Tryz.sizeOf183
 v46:=Tryz.zeroValue183
 t51:=Tryz.underlying227
 a51:=Tryz.isAgg227
 z51:=Tryz.sizeOf227
 v51:=Tryz.zeroValue227
 t53:=Tryz.underlying229
 a53:=Tryz.isAgg229
 z53:=Tryz.sizeOf229
 v53:=Tryz.zeroValue229
 t171:=Tryz.underlying251
 a171:=Tryz.isAgg251
 z171:=Tryz.sizeOf251
 v171:=Tryz.zeroValue251
 t173:=Tryz.underlying253
 a173:=Tryz.isAgg253
 z173:=Tryz.sizeOf253
 v173:=Tryz.zeroValue253
 t212:=Tryz.underlying269
 a212:=Tryz.isAgg269
 z212:=Tryz.sizeOf269
 v212:=Tryz.zeroValue269
 t213:=Tryz.underlying270
 a213:=Tryz.isAgg270
 z213:=Tryz.sizeOf270
 t232:=Tryz.underlying279
 a232:=Tryz.isAgg279
 z232:=Tryz.sizeOf279
 v232:=Tryz.zeroValue279
 t233:=Tryz.underlying280
 a233:=Tryz.isAgg280
 z233:=Tryz.sizeOf280
 v233:=Tryz.zeroValue280
 g17:=by kernel_rfl
 g18:=by kernel_rfl
 g19:=by kernel_rfl
 i0:=by kernel_rfl
 i2:=by kernel_rfl
 i3:=by kernel_rfl
 i4:=by kernel_rfl
 i5:=by kernel_rfl
 i9:=by kernel_rfl
 i20:=by kernel_rfl
 i37:=by kernel_rfl
 i46:=by kernel_rfl
 i51:=by kernel_rfl
 i53:=by kernel_rfl
 i171:=by kernel_rfl
 i173:=by kernel_rfl
 i212:=by kernel_rfl
 i232:=by kernel_rfl
 i233:=by kernel_rfl
 m17:=by kernel_rfl
 m18:=by kernel_rfl
 m19:=by kernel_rfl }
open Go.RowKit Go.Sort Go.Lib in
theorem Tryz.strconv_Itoa (n:Int) (h0:-9223372036854775808<=n) (h1:n<=9223372036854775807) (w:World) (htab:Lib.TabIs Tryz.prog w "internal/strconv.uint64pow10" .u64 Lib.pow10Tab) :
  Calls Tryz.prog 115 #[.int .i64 n] w λe w'=>e=.returned (.string ⟨(Lib.itoa n).toArray⟩)/\∃ k os,w'=grow (w.drewN k) os:=Any.strconv_Itoa Tryz.R3 n h0 h1 w htab
end Go.Proofs.YtimkfiaffohhkaaGreatDoor
namespace Go.Abs
open Go.RowKit
theorem Dj.one {lim:Nat->Nat} {w:World} {d:D} {vs:Array Value} (h:Dj lim w [d] vs):∃ v,vs=#[v]/\dA lim w d v:=by
 obtain ⟨h1,h2⟩:=h
 match vs,h1 with
 | ⟨[v]⟩,_=>exact ⟨v,rfl,h2 0 d v rfl rfl⟩
theorem Dj.two {lim:Nat->Nat} {w:World} {d e:D} {vs:Array Value} (h:Dj lim w [d,e] vs):∃ v u,vs=#[v,u]/\dA lim w d v/\dA lim w e u:=by
 obtain ⟨h1,h2⟩:=h
 match vs,h1 with
 | ⟨[v,u]⟩,_=>exact ⟨v,u,rfl,h2 0 d v rfl rfl,h2 1 e u rfl rfl⟩
theorem FE (w:World) (k:Nat) (os:Array Obj):Below w.heap.size w (Go.Sort.grow (w.drewN k) os) :=
 ⟨rfl,rfl,rfl,by simp [Go.Sort.grow],λb hb=>by
  show ((w.drewN k).heap++os)[b]?=_;rw [zdx (show b<(w.drewN k).heap.size from hb)];rfl⟩
theorem aF.lib {P:Program} {f:FuncId} {args:List D} {u:Value}
  (h:∀ lim w vs,uK w.heap.size w->Dj lim w args vs->Calls P f vs w λe w'=>e=.returned u/\Below w.heap.size w w'):aF P f args (·=.ex u):=by
 intro lim w vs hg ha;refine (h lim w vs hg ha).mono ?_;rintro e w' ⟨rfl,hb⟩;exact ⟨u,.ex u,lim,rfl,rfl,.ex u,⟨hb.size,λ_ _=>zar _,λb off jZ _=>hb.cell (p:=⟨b,off,none⟩) jZ⟩,hb,λ_ _=>rfl⟩
theorem M9 {lim:Nat->Nat} {w:World} {xs:List (List UInt8)} {v:Value} (h:dA lim w (.sl 1 (xs.map rS)) v) :
  (∃ A c,v=.slice A 0 c/\xs=[])∨∃ b off c,v=.slice (some ⟨b,off,none⟩) xs.length c/\xs.length<=c/\b<w.heap.size/\∀ (j:Nat) x,xs[j]?=some x->w.cell? ⟨b,off+j,none⟩=some (.string ⟨x.toArray⟩):=by
 generalize hr:xs.map rS=rows at h;cases h with
 | nil _ A =>
  have:xs=[]:=by simpa using hr
  exact .inl ⟨A,0,rfl,this⟩
 | sl _ _ b off c hc rX hx fg =>
  subst hr;rw [zdc] at *;by_cases h0:xs=[]
  ·subst h0;exact .inl ⟨_,c,rfl,rfl⟩
  ·refine .inr ⟨b,off,c,rfl,hc,?_,λj x hj=>?_⟩
   ·have hl:0<xs.length:=zde.2 h0;obtain ⟨_,u,hu,_⟩:=hx 0 (by omega);exact World.block_lt_of_cell? w _ hu
   ·have GH:=(zad.1 hj).1;obtain ⟨_,u,hu,_⟩:=hx j (by omega);have:=fg j 0 (rS x) (.ex (.string ⟨x.toArray⟩)) u (by rw [zbe,hj];rfl) rfl (by rw [Nat.mul_one,zdn];exact hu);rw [hu,wJ this]
end Go.Abs
namespace Go.Proofs.YtimkfiaffohhkaaGreatDoor
open Go.RowKit Go.Abs Go.Lib Go.Sort Go.Shelf
def Ad (l:List ai) (i:Int):ai:=match l.find? (λr=>decide (r.index=i)) with
 | some r=>r
 | none=>⟨0,0,i,0⟩
theorem DI (l:List ai) (i:Int):(Ad l i).index=i:=by
 unfold Ad;split
 ·rename_i r h;simpa using List.find?_some h
 ·rfl
theorem HT:∀ {l:List ai},(l.map (·.index)).Nodup->∀ {r:ai},r∈l->Ad l r.index=r
 | x::l,hn,r,hr=>by
  rw [zap,zcd] at hn;unfold Ad;rcases zan.1 hr with rfl|hr
  ·rw [List.find?_cons_of_pos (by simp)]
  ·rw [List.find?_cons_of_neg (by
    simp;intro he;exact hn.1 (by rw [he];exact zci hr))]
   have:=HT hn.2 hr;unfold Ad at this;exact this
def zB (l:List ai) (i:Int):List Value:=ai.bJ (Ad l i)
theorem FF (l:List ai) (i:Int):(zB l i).length=4:=rfl
theorem R4 (l:List ai) (i:Int):∀ v∈zB l i,v.oneCell'=true:=by
 intro v hv;simp only [zB,ai.bJ,zan,zeq,or_false] at hv;rcases hv with rfl|rfl|rfl|rfl <;> rfl
theorem XV (x y:Int):ltOf (λx y:Int=>Lib.compareInt x y) x y=decide (x<y):=by
 unfold ltOf Lib.compareInt;by_cases h1:x<y
 ·simp [h1]
 ·by_cases h2:y<x <;> simp [h1,h2]
theorem swoI:SWO (ltOf λx y:Int=>Lib.compareInt x y) where
 irrefl x:=by rw [XV];simp
 trans x y z h1 h2:=by rw [XV] at *;simp at *;omega
 ntrans x y z h1 h2:=by rw [XV] at *;simp at *;omega
theorem R5 (x y:ai) (W:World):Calls Tryz.prog 82 #[.agg (ai.bJ x).toArray,.agg (ai.bJ y).toArray] W λe w'=>e=.returned (.int .i64 (Lib.compareInt x.index y.index))/\∃ q os',w'=grow (W.drewN q) os':=by
 have PV:=λW'=>Tryz.cmp_Compare_int x.index y.index W'
 unfold ai.bJ;generalize Lib.compareInt x.index y.index=r at PV ⊢;go_enter Tryz.func82,Tryz.ntmps82
 go_wp2_with (go_at_call 83;refine (PV _).mono ?_;rintro e w' ⟨rfl,rfl⟩)
 go_ret;exact ⟨rfl,0,_,by rw [alloc_eq_grow,alloc_eq_grow,grow_grow];rfl⟩
theorem R6 (l:List ai) (blk off size:Nat) (w:World):CmpLays Tryz.prog 82 #[] (zB l) 4 (λx y=>Lib.compareInt x y) blk off size w:=λ_ _ _ _ x y=>by
 have:=R5 (Ad l x) (Ad l y);rw [DI,DI] at this;exact this _
theorem kX (f:Int->List Value) (hf:∀ i,(f i).length=4):∀ (is:List Int) (t:Nat),t<is.length*4->(is.flatMap f)[t]?=some ((f is[t / 4]!)[t % 4]!)
 | [],t,h=>by simp at h
 | a::is,t,h=>by
  rw [zel];by_cases ht:t<4
  ·have h4:=hf a;rw [zao (by omega),show t / 4=0 from by omega,show t % 4=t from by omega];rw [zaf (by omega),zdz (f (a::is)[0]!) t (by rw [hf];omega)];rfl
  ·rw [zaw (by rw [hf];omega),hf,kX f hf is (t-4) (by simp only [zai] at h;omega),show t / 4=(t-4) / 4+1 from by omega,show t % 4=(t-4) % 4 from by omega];have cJ:(t-4) / 4<is.length:=by simp only [zai] at h;omega
   rw [zdz is _ cJ,zdz (a::is) _ (by simp only [zai];omega)];rfl
theorem FG (l:List ai) (is:List Int):(flatK (zB l) 4 is.toArray).toList=is.flatMap (zB l):=by
 have hl:(is.flatMap (zB l)).length=is.length*4:=by
  induction is with
  | nil=>rfl
  | cons a is ih=>rw [zel,zak,ih,FF,zai];omega
 apply zcm;intro t;by_cases ht:t<is.length*4
 ·rw [kX _ (FF l) is t ht,zcl,zbi (by simpa using ht)];have:=get_flatK (zB l) 4 is.toArray t (by simpa using ht);rw [zdz _ _ (by simpa using ht)] at this;rw [this];have cJ:t / 4<is.length:=by omega
  rw [zdz is.toArray _ (by simpa using cJ),zdz is _ cJ];simp
 ·rw [zbp (by rw [zda,size_flatK];simpa using ht),zbp (by rw [hl];omega)]
def pR (l:List ai):List Value:=l.flatMap ai.bJ
theorem zj:∀ (l:List ai),(pR l).length=l.length*4
 | []=>rfl
 | r::l=>by
  have:=zj l;unfold pR at this ⊢;rw [zel,zak,this];simp only [ai.bJ,zai,zbh];omega
theorem CV:∀ (l:List ai),(l.map ai.row).flatten=(pR l).map D.ex
 | []=>rfl
 | r::l=>by
  have:=CV l;unfold pR at this ⊢;rw [zap,zey,this,zel,zdd];rfl
theorem FI {l ls:List ai} (h:∀ r,r∈ls->Ad l r.index=r):(ls.map (·.index)).flatMap (zB l)=pR ls:=by
 unfold pR
 induction ls with
 | nil=>rfl
 | cons r ls ih =>
  rw [zap,zel,zel,ih (λx hx=>h x (zag _ hx))];unfold zB;rw [h r (zah ..)]
theorem Na {lim:Nat->Nat} {w:World} (l:List ai):dn lim w 4 l.length (l.map ai.row) (pR l):=by
 refine ⟨by simp,λr hr=>?_,λi c u hc hu=>?_⟩
 ·obtain ⟨x,_,rfl⟩:=zdb.1 hr;rfl
 ·rw [CV,zbe,hu] at hc;cases hc;refine ⟨.ex u,?_⟩;have hm:=zbj hu;unfold pR at hm;obtain ⟨r,_,hv⟩:=List.mem_flatMap.1 hm;simp only [ai.bJ,zan,zeq,or_false] at hv;rcases hv with rfl|rfl|rfl|rfl <;> rfl
theorem Nb {lim:Nat->Nat} {w:World} {l:List ai} {n:Nat} {xs:List Value} (h:dn lim w 4 n (l.map ai.row) xs) (hx:xs.length=n*4):xs=pR l:=by
 have hn:n=l.length:=by have:=h.len;simpa using this.symm
 apply zcm;intro i;by_cases hi:i<xs.length
 ·have hf:i<(pR l).length:=by rw [zj];omega
  have:=(h.rep i (.ex (pR l)[i]) xs[i] (by rw [CV,zbe,zaf hf];rfl) (zaf hi)).1;rw [zaf hi,zaf hf,wJ this]
 ·rw [zbp (by omega),zbp (by rw [zj];omega)]
theorem R7 {w:World} {g n:Nat} {cur:Array Value} {e:TypeId} {fr:Nat×Nat} (d:Array Value) (hb:w.heap[g]?=some (.cells cur e fr)):(putRow id (Sort.ahead w n) g 0 d).heap[g]?=some (.cells (Go.Sort.putCells id 0 d cur) e fr):=by
 simp [putRow,mapBlock,Sort.ahead,zfx,hb,onCells]
theorem PW {w:World} {g n:Nat} (d:Array Value):w.grownBy (putRow id (Sort.ahead w n) g 0 d) (some g):=by
 refine ⟨rfl,rfl,rfl,by simp,λk hk fi=>?_⟩;have:g≠k:=λe=>fi (by rw [e])
 simp [putRow,mapBlock,Sort.ahead,zfx,this]
theorem R8 (cur:Array Value) (ts:List Value) (h:ts.length<=cur.size):(Go.Sort.putCells id 0 ts.toArray cur).toList.take ts.length=ts:=by
 apply zcm;intro j;by_cases hj:j<ts.length
 ·rw [List.getElem?_take_of_lt hj,zcl];simp [Go.Sort.putCells,hj,show j<cur.size by omega]
 ·rw [List.getElem?_take_eq_none (by omega),zbp (by omega)]
theorem CW (x:ai):∀ (l:List ai),(DX x l).Perm (x::l)
 | []=>.refl _
 | y::l=>by
  unfold DX;split
  ·exact .refl _
  ·exact ((CW x l).cons y).trans (.swap _ _ _)
theorem AM:∀ (l:List ai),(HM l).Perm l
 | []=>.refl _
 | x::l=>(CW x _).trans ((AM l).cons x)
theorem K3 (x:ai):∀ {l:List ai},l.Pairwise (λa b=>a.index<=b.index)->(DX x l).Pairwise (λa b=>a.index<=b.index)
 | [],_=>by simp [DX]
 | y::l,h=>by
  have h2:=zax.1 h;unfold DX;split
  ·rename_i hx;refine zax.2 ⟨λz hz=>?_,h⟩;rcases zan.1 hz with rfl|hz
   ·exact hx
   ·have:=h2.1 z hz;omega
  ·rename_i hx;refine zax.2 ⟨λz hz=>?_,K3 x h2.2⟩;rcases zan.1 ((CW x l).mem_iff.1 hz) with rfl|hz
   ·omega
   ·exact h2.1 z hz
theorem HU:∀ (l:List ai),(HM l).Pairwise (λa b=>a.index<=b.index)
 | []=>.nil
 | x::l=>K3 x (HU l)
theorem HV:∀ {l l':List Int},l.Pairwise (·<=·)->l'.Pairwise (·<=·)->l.Perm l'->l=l'
 | [],l',_,_,p=>p.nil_eq
 | a::l,[],_,_,p=>absurd p.length_eq (by simp)
 | a::l,b::l',h,h',p=>by
  have h1:=zax.1 h;have h2:=zax.1 h';have Bb:a=b:=by
   have hb:b∈a::l:=p.mem_iff.2 (zah ..);have ha:a∈b::l':=p.mem_iff.1 (zah ..);rcases zan.1 hb with e|hb
   ·exact e.symm
   ·rcases zan.1 ha with e|ha
    ·exact e
    ·have:=h1.1 b hb;have:=h2.1 a ha;omega
  subst Bb;rw [HV h1.2 h2.2 ((List.perm_cons a).1 p)]
theorem FJ {l r:List ai} {n0:Nat} (H:tc l=some r) :
  aR Tryz.prog 81 [.vc 0 n0,.d (.ex (.func (.func 82) #[] #[]))] ⟨[],[⟨66,4,n0,some (l.map ai.row)⟩]⟩
   (QE (.d (.eF [])) ⟨[],[⟨66,4,n0,some (r.map ai.row)⟩]⟩):=by
 obtain ⟨hk,H⟩:=au H;injection H with hr;intro g w base vs hinv ha;obtain ⟨x,y,rfl,e1,e2⟩:∃ x y,vs=#[x,y]/\bK g w _ (.vc 0 n0) x/\bK g w _ (.d (.ex (.func (.func 82) #[] #[]))) y:=by
  obtain ⟨h1,h2⟩:=ha;obtain ⟨q⟩:=vs
  match q,h1 with
  | [x,y],_=>exact ⟨x,y,rfl,h2 0 _ _ rfl rfl,h2 1 _ _ rfl rfl⟩
 have Mn:y=.func (.func 82) #[] #[]:=e2.bN;subst Mn;obtain ⟨xs,s1,s2,s3⟩:=hinv.own 0 _ _ _ _ rfl;have NV:n0=l.length:=by have:=s3.len;simpa using this.symm
 by_cases WZ:l=[]
 ·subst WZ;have T0:r=[]:=by rw [←hr];rfl
  subst T0;have hx:∃ A c,x=.slice A 0 c:=by
   rcases sV hinv rfl e1 with h|⟨_,_,A,h⟩
   ·obtain ⟨A,c,hv⟩:=(jk s1).1;exact ⟨A,c,by rw [h,hv,NV];rfl⟩
   ·exact ⟨A,0,h⟩
  obtain ⟨A,c,rfl⟩:=hx;refine (AnyF.slices_SortFunc_none Tryz.K0 A c (.func (.func 82) #[] #[]) w).mono ?_;rintro e w' ⟨rfl,rfl⟩;exact ⟨_,_,_,g,rfl,⟨.ak _,rfl⟩,.d _ _ (.eF _ _ rfl (λi c u hi hu=>by simp at hu)),hinv,rW.refl _⟩
 ·have hx:x=g.tk 0:=by
   rcases sV hinv rfl e1 with h|⟨_,h,_⟩
   ·exact h
   ·exact absurd (by simpa using h) WZ
  subst hx;have hlp:0<l.length:=zde.2 WZ;obtain ⟨b,c,hv⟩:=(jk s1).2 (by omega);have T1:=Nb s3 s1.1;have Ur:=s1;rw [hv] at Ur;rcases Ur.2 with ⟨h,_⟩|⟨b',c',cur,h,zX,hg,DS,zu,yU,xG⟩
  ·cases h
  cases h;have hpk:∀ q,q∈l->Ad l q.index=q:=λq hq=>HT hk.2 hq
  have VF:(flatK (zB l) 4 (l.map (·.index)).toArray).toList=pR l:=by rw [FG,FI hpk]
  have hd:(l.map (·.index)).toArray.size=n0:=by simp [NV]
  have hH:HoldsK (zB l) 4 w b 0 (l.map (·.index)).toArray:=by
   intro j hj;have JY:j<(pR l).length:=by rw [←VF,zda];exact hj
   refine ⟨?_,by simp [World.frozen?,hg]⟩;have h1:xs[j]?=some ((flatK (zB l) 4 (l.map (·.index)).toArray)[j]!):=by
    rw [T1,←VF,zcl,zdz (flatK (zB l) 4 (l.map (·.index)).toArray) j hj,zbi hj]
   have:=s1.cells (g:=b) (by rw [hv];rfl) j _ h1;simp only [Addr.add_lit,zca] at this ⊢;exact this
  have eg:∀ args w,(callFunc 82 args).run Tryz.prog w=.ok (.enter 82 args) w:=enters_of Tryz.func82 (by kernel_rfl) rfl;have PV:=AnyQ.slices_SortFunc_total Tryz.K0 4 Tryz.isAgg66 Tryz.sizeOf66 (zB l) (FF l) (R4 l) (λx y:Int=>Lib.compareInt x y) swoI 82 #[] b 0 c (l.map (·.index)).toArray w eg (R6 l b 0 _ w) hH (zau.1 hg).1 (by rw [hd];omega)
   (λx y h1 h2=>by rw [XV] at h1 h2;simp at h1 h2;omega)
  change Calls Tryz.prog 81 _ _ _ at PV;rw [hd,←hv] at PV;refine PV.mono ?_;rintro e w' ⟨rfl,n,os,rfl⟩;have hms:((l.map (·.index)).toArray.toList.mergeSort λx y=>!(ltOf (λx y:Int=>Lib.compareInt x y)) y x)=r.map (·.index):=by
   refine HV ?_ ?_ ?_
   ·have:=List.pairwise_mergeSort (le:=λx y:Int=>!(ltOf (λx y:Int=>Lib.compareInt x y)) y x) (λa b c h1 h2=>by simp only [XV,zdk,zcy] at *;omega) (λa b=>by simp only [XV,zbx,zdk,zcy];omega) (l.map (·.index)).toArray.toList
    refine this.imp (λh=>?_);rw [XV] at h;simpa using h
   ·rw [←hr];exact List.pairwise_map.2 (HU l)
   ·refine (List.mergeSort_perm _ _).trans ?_;rw [←hr];exact ((AM l).map _).symm
  rw [hms];have hrp:r.Perm l:=by rw [←hr];exact AM l
  have Wq:r.length=l.length:=hrp.length_eq;have hfl2:flatK (zB l) 4 (r.map (·.index)).toArray=(pR r).toArray:=by
   apply Array.toList_inj.1;rw [FG,FI (λq hq=>hpk q (hrp.mem_iff.1 hq))]
  unfold sortWorldK putRowK;rw [hfl2];have hfr:(pR r).length=n0*4:=by rw [zj,Wq,NV]
  have Ba:(pR r).length<=cur.size:=by rw [hfr,yU];omega
  have kI:(putRow id (Sort.ahead w n) b 0 (pR r).toArray).ownsRow base 66 4 (g.tk 0) n0 (pR r):=by
   rw [hv];refine ⟨hfr,.inr ⟨b,c,_,rfl,zX,R7 _ hg,DS,zu,by simp [Go.Sort.putCells,yU],?_⟩⟩;rw [←hfr];exact R8 cur _ Ba
  have mY:dn g.lim w 4 n0 (r.map ai.row) (pR r):=by
   have:=Na (lim:=g.lim) (w:=w) r
   rwa [Wq,←NV] at this
  obtain ⟨g',t1,t2,t3,t4⟩:=hinv.Pm (tk:=0) (x':=⟨66,4,n0,some (r.map ai.row)⟩) rfl kI (.inl ⟨rfl,by simp [Sort.ahead],by rw [hv];exact PW _⟩)
   (λh=>by cases h) (λ_ _ _ _=>⟨rfl,zar _,λ_=>rfl⟩) (λbO h=>by cases h;exact mY)
  obtain ⟨i1,i2⟩:=t3.grow (g':=g') (FE (putRow id (Sort.ahead w n) b 0 (pR r).toArray) 0 os) (λ_ _=>rfl) rfl rfl;exact ⟨_,_,_,g',rfl,⟨.ak _,rfl⟩,.d _ _ (.eF _ _ rfl (λi c u hi hu=>by simp at hu)),i1,((rW.refl _).step t4).step i2⟩
end Go.Proofs.YtimkfiaffohhkaaGreatDoor
namespace Go.Proofs.YtimkfiaffohhkaaGreatDoor
open Go.RowKit Go.Abs Go.Lib Go.Shelf
theorem D5 {n:Int} {r:List aa} (H:wV n=some r):aR Tryz.prog 112 [.d (.ex (.slice none 0 0)),.d (.ex (.int .i64 n))] ⟨[],[]⟩ (QE (.vc 0 r.length) ⟨[],[⟨58,12,r.length,some (r.map aa.row)⟩]⟩):=by
 obtain ⟨hk,H⟩:=au H;cases H;obtain ⟨inf,hi,hz,hs,hb⟩:=iY;intro g w base vs hinv ha;obtain ⟨x,y,rfl,e1,e2⟩:∃ x y,vs=#[x,y]/\bK g w _ (.d (.ex (.slice none 0 0))) x/\bK g w _ (.d (.ex (.int .i64 n))) y:=by
  obtain ⟨h1,h2⟩:=ha;obtain ⟨q⟩:=vs
  match q,h1 with
  | [x,y],_=>exact ⟨x,y,rfl,h2 0 _ _ rfl rfl,h2 1 _ _ rfl rfl⟩
 have YW:x=.slice none 0 0:=e1.bN;have Mn:y=.int .i64 n:=e2.bN;subst YW;subst Mn;obtain ⟨k,rfl⟩:∃ k:Nat,n=(k:Int):=⟨n.toNat,by omega⟩;by_cases RS:k=0
 ·subst RS;refine (Any8.slices_Grow_room Tryz.K1 none 0 0 0 w (zar _) (by omega) (by omega) (by omega)).mono ?_;rintro e w' ⟨rfl,rfl⟩;obtain ⟨g',q1,q2,q3,q4,q5⟩:=hinv.s8 ⟨58,12,0,some []⟩ (World.ownsRow_nil w' base _ _) (.inl ⟨rfl,rfl⟩) (λrows hr=>by cases hr;exact ⟨rfl,by simp,by simp⟩);refine ⟨_,_,_,g',rfl,⟨.ak _,rfl⟩,?_,q4,(rW.refl ⟨g,w',_,base⟩).step q5⟩;refine .vc _ _ _ (by simp) ⟨_,_,_,rfl⟩ λx' rows kq ho=>?_
  have:x'=⟨58,12,0,some []⟩:=by simpa [St.tok,zfc] using kq
  subst this;exact ⟨zar _,λ_=>.inl q1.symm⟩
 ·have fT:0<inf.size:=by rw [hs];decide
  obtain ⟨z,hzz,Dm⟩:∃ z,inf.zero=some z/\z.cells.size=12:=⟨_,hz,rfl⟩;refine (Any8.slices_Grow_grow Tryz.K1 inf z hi hzz fT none 0 0 k [] w (zar _) (by omega) (by
   rw [hb];omega) (by omega) (by simp) (λ_=>rfl) (λa h=>by cases h)).mono ?_
  rintro e w' ⟨rfl,rfl⟩;have zu:grownCap w (0+k) 0 58<=maxLen:=grownCap_le_maxLen w (0+k) 0 58 (by unfold maxLen;omega);have hge:=grownCap_ge w (0+k) 0 58;have kM:(w.drew.alloc (.cells (([]:List Value).toArray++Builtin.zeroCells z.cells (0+k-0)++Builtin.zeroCells z.cells (grownCap w (0+k) 0 58-(0+k))) 58)).ownsRow base 58 12 (.slice (some ⟨w.heap.size,0,none⟩) 0 (grownCap w (0+k) 0 58)) 0 [] :=
   ⟨by simp,.inr ⟨w.heap.size,_,_,rfl,hinv.base,heap_alloc_new w.drew _,zfs _,zu,by
    simp only [zfq,size_zeroCells,zbz,zbh,Dm];generalize grownCap w (0+k) 0 58=c at hge;omega,by simp⟩⟩
  obtain ⟨g',q1,q2,q3,q4,q5⟩:=hinv.s8 ⟨58,12,0,some []⟩ kM (.inr ⟨rfl,((Below.refl _ w).drew).alloc (zar _) _⟩) (λrows hr=>by cases hr;exact ⟨rfl,by simp,by simp⟩);refine ⟨_,_,_,g',rfl,⟨.ak _,rfl⟩,?_,q4,(rW.refl ⟨g,w,_,base⟩).step q5⟩;refine .vc _ _ _ (by simp) ⟨_,_,_,rfl⟩ λx' rows kq ho=>?_
  have:x'=⟨58,12,0,some []⟩:=by simpa [St.tok,zfc] using kq
  subst this;exact ⟨zar _,λ_=>.inl q1.symm⟩
end Go.Proofs.YtimkfiaffohhkaaGreatDoor
namespace Go.Proofs.YtimkfiaffohhkaaGreatDoor
open Go.RowKit Go.Abs
theorem XW {w:World} (h:uK w.heap.size w):Go.Lib.TabIs Tryz.prog w "internal/strconv.uint64pow10" .u64 Go.Lib.pow10Tab:=by
 obtain ⟨_,ty,fr,h2⟩:=h.1 (0,(Go.Lib.pow10Tab.map λz=>Value.int .u64 z).toArray) (by simp [GL]);have hn:Tryz.prog.globalNamed "internal/strconv.uint64pow10" = some 0:=by kernel_rfl
 unfold Go.Lib.TabIs World.var?;rw [hn];simp only [zac];simp only at h2;rw [h2]
theorem ug {n:Int} {r:List UInt8} (H:vi n=some r):aF Tryz.prog 115 [cI n] (·=cS r):=by
 obtain ⟨h,H⟩:=au H;cases H;refine aF.lib λlim w vs hg ha=>?_
 obtain ⟨v,rfl,hv⟩:=ha.one;rw [wJ hv];refine (Tryz.strconv_Itoa n h.1 h.2 w (XW hg)).mono ?_;rintro e w' ⟨rfl,k,os,rfl⟩;exact ⟨rfl,FE w k os⟩
theorem R9 {xs:List (List UInt8)} {sep r:List UInt8} (H:M4 xs sep=some r):aF Tryz.prog 116 [aj 1 rS xs,cS sep] (·=cS r):=by
 obtain ⟨h,H⟩:=au H;cases H;refine aF.lib λlim w vs hg ha=>?_
 obtain ⟨v,u,rfl,hv,hu⟩:=ha.two;rw [wJ hu];rcases M9 hv with ⟨A,c,rfl,rfl⟩|⟨b,off,c,rfl,hc,hb,fg⟩
 ·exact (Tryz.strings_Join_none A c ⟨sep.toArray⟩ w).mono λe w' ⟨he,hw⟩=>⟨he,hw▸Below.refl _ _⟩
 ·have hm:(xs.map λx=>(⟨x.toArray⟩:ByteArray)).map (·.data.toList)=xs:=by simp [Function.comp_def]
  have:=Tryz.strings_Join b off c (xs.map λx=>(⟨x.toArray⟩:ByteArray)) ⟨sep.toArray⟩ w (λj x hj=>by
   rw [zbe] at hj;obtain ⟨y,hy,rfl⟩:=zco.1 hj;exact fg j y hy) hb (by simp;omega) (by simpa using hc) (by rw [hm];simp;omega)
  rw [hm,zdc] at this;exact this
end Go.Proofs.YtimkfiaffohhkaaGreatDoor
namespace Go.Proofs.YtimkfiaffohhkaaGreatDoor
open Go.RowKit Go.Abs Go.Proofs.Tryz
theorem w7 (a b:aW):dO (aW.bJ a) (aW.bJ b)=(a==b):=by
 cases a;cases b;rw [zbo];simp [aW.bJ,dO,Mm]
def sw:vP prog 114 aW:=ZN aW.bJ underlying114 XH (λ_=>rfl) w7
theorem zC (a b:bo):dO (bo.bJ a) (bo.bJ b)=(a==b):=by
 cases a;cases b;rw [zbo];simp [bo.bJ,dO,Mm]
def uZ:vP prog 164 bo:=ZN bo.bJ underlying164 XI (λ_=>rfl) zC
theorem u0 {kx:List aa} {r:Bool} (H:pL kx=some r):aF prog 17 [aj 12 aa.row kx] (·=cB r):=by
 refine aF.aZ func17 rfl ntmps17 rfl λS hS=>?_
 unfold pL at H;refine .E 9 rfl (.bQ (ι:=Unit) (λ_=>[(0,.d (aj 12 aa.row kx))]) (λ_=>⟨[],[]⟩) (λs=>qc kx=some r) ?_ ?_)
 ·rintro _ H;replace H:qc kx=some r:=H;unfold qc at H;refine .A 7 [.i (kx.length:Int)] rfl (ir.n rfl rfl) (.R func17 results17 rfl ?_);cases H;exact .m rfl (.ak _)
 ·intro qN gw;refine .lp H (λbC=>[(0,.d (aj 12 aa.row kx)),(3,.d (cI bC))]) (λbC=>⟨[],[]⟩) (.k2 rfl rfl (.nil)) rfl ?_;rintro bC q1 H bF;unfold oe at H;refine .A 12 [.i (kx.length:Int)] rfl ⟨rfl,rfl,ir.n rfl rfl⟩ (.ite H rfl (λH=>?_) (λH=>?_))
  ·obtain ⟨cU,dj,H⟩:=ck2 H;refine .A 22 [.d (.ro (aa.row (nth kx bC.toNat))),.i (((nth kx bC.toNat).a).length:Int),.d (.ro (aa.row (nth kx bC.toNat))),.i (((nth kx bC.toNat).b).length:Int)] rfl ⟨rfl,rfl,λhg=>aL.g (pC underlying9 rfl),rfl,rfl,rfl,λhg=>ir.ix rfl rfl rfl (dj hg),rfl,rfl,aL.g (pC underlying9 rfl),ir.ix rfl rfl rfl cU⟩ (.ite H rfl (λH=>?_) (λH=>?_))
   ·refine .E 4 rfl (.R func17 results17 rfl ?_);cases H;cases bF;exact .m rfl (.ak _)
   ·obtain ⟨eL,H⟩:=au H;refine .A 7 [.i (bC+1)] rfl (aJ rfl rfl eL) ?_;cases H;exact .z bF rfl rfl
  ·refine .E 1 rfl ?_;obtain ⟨q0,H9,mW⟩:=ca H;clear H;cases mW;cases bF;have H:=H9;exact .z (gw () H) rfl rfl
theorem Ae {v0:ag} {r:Bool} (H:pM v0=some r):aF prog 9 [.agg (ag.row v0)] (·=cB r):=by
 refine aF.aZ func9 rfl ntmps9 rfl λS hS=>?_
 unfold pM at H;refine .A 10 [.r 0] rfl trivial (.bQ (ι:=Unit) (λ_=>[(1,.ref 0 0)]) (λ_=>⟨[ag.o30 v0],[]⟩) (λs=>jm v0=some r) ?_ ?_)
 ·rintro _ H;replace H:jm v0=some r:=H;unfold jm at H;obtain ⟨y1,cZ,H⟩:=ae H;obtain ⟨y2,fU,H⟩:=ae H;refine .A 39 [.i (v0.usages.length:Int),.b y1,.b y2,.i (v0.ba.length:Int),.i (v0.aw.seen.length:Int),.i (v0.aw.aK.length:Int)] rfl ⟨rfl,rfl,λhg=>DV.n rfl rfl,rfl,rfl,rfl,rfl,rfl,λhg=>zd.n rfl rfl,rfl,rfl,rfl,rfl,rfl,λhg=>J2.n rfl rfl,rfl,rfl,rfl,λhg=>av (en 0 rfl) rfl rfl (u0 (aO fU hg)),rfl,rfl,rfl,rfl,λhg=>av (en 0 rfl) rfl rfl (u0 (aO cZ hg)),rfl,rfl,Cl.n rfl rfl⟩ (.R func9 results9 rfl ?_);cases H;exact .m rfl (.ak _)
 ·intro qN gw;refine .lp H (λbI=>[(1,.ref 0 0),(3,.d (cI bI))]) (λbI=>⟨[ag.o30 v0],[]⟩) (.k2 rfl rfl (.nil)) rfl ?_;rintro bI q1 H bF;unfold lh at H;refine .A 13 [.i (v0.usages.length:Int)] rfl ⟨rfl,rfl,Cl.n rfl rfl⟩ (.ite H rfl (λH=>?_) (λH=>?_))
  ·obtain ⟨cU,dj,H⟩:=ck2 H;refine .A 24 [.d (.ro (aE.row (nth v0.usages bI.toNat))),.i (((nth v0.usages bI.toNat).a).length:Int),.d (.ro (aE.row (nth v0.usages bI.toNat))),.i (((nth v0.usages bI.toNat).b).length:Int)] rfl ⟨rfl,rfl,λhg=>aL.g (pC underlying9 rfl),rfl,rfl,rfl,λhg=>Cl.ix rfl rfl rfl (dj hg),rfl,rfl,rfl,aL.g (pC underlying9 rfl),Cl.ix rfl rfl rfl cU⟩ (.ite H rfl (λH=>?_) (λH=>?_))
   ·refine .E 4 rfl (.R func9 results9 rfl ?_);cases H;cases bF;exact .m rfl (.ak _)
   ·obtain ⟨eL,H⟩:=au H;refine .A 7 [.i (bI+1)] rfl (aJ rfl rfl eL) ?_;cases H;exact .z bF rfl rfl
  ·refine .E 1 rfl ?_;obtain ⟨q0,H9,mW⟩:=ca H;clear H;cases mW;cases bF;have H:=H9;exact .z (gw () H) rfl rfl
theorem lR {I3:Bool} {r:(List Event)} (H:qd I3=some r):aF prog 30 [cB I3] (·=aj 7 Event.row r):=by
 obtain ⟨i79,PX,PY,hs79,hb79⟩:=Vv;refine aF.aZ func30 rfl ntmps30 rfl λS hS=>?_
 unfold qd at H;refine .A 17 [.d (.agg (Event.row kq11)),.d (.agg (Event.row kq5)),.d (.agg (Event.row kq1)),.n (.cY 7 (([kq11,kq5,kq1]:List Event).map Event.row) 0) ⟨79,7,([kq11,kq5,kq1]:List Event).length,none⟩] rfl ⟨.e (zU (n:=3) underlying36 PX hs79 PY rfl rfl rfl rfl rfl) rfl,aL.g (br Ol PX PY rfl rfl),aL.g (br Ol PX PY rfl rfl),aL.g (br Ol PX PY rfl rfl)⟩ (.ite H rfl (λH=>?_) (λH=>?_))
 ·obtain ⟨cU,H⟩:=au H;refine .A 12 [.d (.agg (Event.row kq2)),.d (aj 7 Event.row ([kq2]:List Event)),.a 0 79 7 Event.row (([kq11,kq5,kq1]:List Event)++([kq2]:List Event))] rfl ⟨M1.a rfl rfl rfl rfl cU,bp underlying36 PX hs79 PY rfl rfl rfl rfl rfl,aL.g (br Ol PX PY rfl rfl)⟩ (.R func30 results30 rfl ?_);cases H;exact .m rfl (.cY _ _ _)
 ·refine .E 6 rfl (.R func30 results30 rfl ?_);cases H;exact .m rfl (.cY _ _ _)
theorem CX {ep:Batch} {r:Head} (H:qe ep=some r):aF prog 124 [.agg (Batch.row ep)] (·=.agg (Head.row r)):=by
 obtain ⟨i76,K4,PZ,P0,XX⟩:=HK;refine aF.aZ func124 rfl ntmps124 rfl λS hS=>?_
 unfold qe at H;refine .A 19 [.r 0,.r 1,.i (ep.records.length:Int),.d (.agg (Head.row (⟨ep.source,ep.number,ep.format,(ep.records.length:Int)⟩:Head)))] rfl ⟨aL.g (br Vz K4 PZ rfl rfl),ir.n rfl rfl⟩ (.R func124 results124 rfl ?_);cases H;exact .m rfl (.ak _)
theorem ot {zz I4 I5:Int} {r:Bool} (H:jn zz I4 I5=some r):aF prog 163 [cI zz,cI I4,cI I5] (·=cB r):=by
 refine aF.aZ func163 rfl ntmps163 rfl λS hS=>?_
 unfold jn at H;refine .A 16 [] rfl ⟨rfl,rfl,rfl⟩ (.R func163 results163 rfl ?_);cases H;exact .m rfl (.ak _)
theorem zD {XK:Head} {r:Int} (H:j6 XK=some r):aF prog 123 [.agg (Head.row XK)] (·=cI r):=by
 refine aF.aZ func123 rfl ntmps123 rfl λS hS=>?_
 unfold j6 at H;obtain ⟨y1,cZ,H⟩:=ae H;obtain ⟨y2,fU,H⟩:=ae H;refine .A 21 [.r 0,.b y1,.b y2] rfl ⟨rfl,rfl,λhg=>av (en 1 rfl) rfl rfl (ot (aO fU hg)),rfl,rfl,av (en 1 rfl) rfl rfl (ot cZ)⟩ (.ite H rfl (λH=>?_) (λH=>?_))
 ·refine .E 4 rfl (.R func123 results123 rfl ?_);cases H;exact .m rfl (.ak _)
 ·obtain ⟨y3,jR,H⟩:=ae H;refine .A 8 [.b y3] rfl (av (en 1 rfl) rfl rfl (ot jR)) (.ite H rfl (λH=>?_) (λH=>?_))
  ·refine .E 4 rfl (.R func123 results123 rfl ?_);cases H;exact .m rfl (.ak _)
  ·obtain ⟨y4,oB,H⟩:=ae H;refine .A 8 [.b y4] rfl (av (en 1 rfl) rfl rfl (ot oB)) (.ite H rfl (λH=>?_) (λH=>?_))
   ·refine .E 4 rfl (.R func123 results123 rfl ?_);cases H;exact .m rfl (.ak _)
   ·refine .E 6 rfl (.R func123 results123 rfl ?_);cases H;exact .m rfl (.ak _)
theorem eR {zz I4 I5:Int} {r:Bool} (H:dH zz I4 I5=some r):aF prog 150 [cI zz,cI I4,cI I5] (·=cB r):=by
 refine aF.aZ func150 rfl ntmps150 rfl λS hS=>?_
 unfold dH at H;refine .A 16 [] rfl ⟨rfl,rfl,rfl⟩ (.R func150 results150 rfl ?_);cases H;exact .m rfl (.ak _)
theorem CY {Up:UInt8} {r:Bool} (H:qf Up=some r):aF prog 189 [ZE Up] (·=cB r):=by
 refine aF.aZ func189 rfl ntmps189 rfl λS hS=>?_
 unfold qf at H;refine .A 14 [.b (decide (Up>=48)),.b (decide (Up<=57))] rfl ⟨rfl,λhg=>aL.g (Ws (a:=Up) (b:=57) rfl rfl),rfl,aL.g (Wu (a:=Up) (b:=48) rfl rfl)⟩ (.R func189 results189 rfl ?_);cases H;exact .m rfl (.ak _)
theorem v7 {cm:List UInt8} {r:Bool} (H:lj cm=some r):aF prog 151 [cS cm] (·=cB r):=by
 refine aF.aZ func151 rfl ntmps151 rfl λS hS=>?_
 unfold lj at H;refine .A 11 [.i (cm.length:Int)] rfl (aL.g (pC underlying9 rfl)) (.bQ (ι:=Unit) (λ_=>[(0,.d (cS cm))]) (λ_=>⟨[],[]⟩) (λs=>j7 cm=some r) ?_ ?_)
 ·rintro _ H;replace H:j7 cm=some r:=H;unfold j7 at H;refine .A 12 [.i (cm.length:Int),.i (cm.length:Int)] rfl ⟨rfl,rfl,λhg=>aL.g (pC underlying9 rfl),rfl,aL.g (pC underlying9 rfl)⟩ (.R func151 results151 rfl ?_);cases H;exact .m rfl (.ak _)
 ·intro qN gw;refine .lp H (λsM=>[(0,.d (cS cm)),(5,.d (cI (cm.length:Int))),(6,.d (cI sM))]) (λsM=>⟨[],[]⟩) (.k3 rfl rfl rfl (.nil)) rfl ?_;rintro sM q1 H bF;unfold mP at H;refine .E 5 rfl (.ite H rfl (λH=>?_) (λH=>?_))
  ·obtain ⟨cU,H⟩:=au H;obtain ⟨y1,cZ,H⟩:=ae H;refine .A 16 [.c (nth cm sM.toNat),.b y1] rfl ⟨av (en 2 rfl) rfl rfl (CY cZ),aL.g (oP (i:=sM) underlying9 rfl rfl cU)⟩ (.ite H rfl (λH=>?_) (λH=>?_))
   ·refine .E 4 rfl (.R func151 results151 rfl ?_);cases H;cases bF;exact .m rfl (.ak _)
   ·obtain ⟨dj,H⟩:=au H;refine .A 6 [.i (sM+1)] rfl (aJ rfl rfl dj) ?_;cases H;exact .z bF rfl rfl
  ·refine .E 1 rfl ?_;obtain ⟨q0,H9,mW⟩:=ca H;clear H;cases mW;cases bF;have H:=H9;exact .z (gw () H) rfl rfl
theorem BG {v0:aa} {r:Int} (H:mn v0=some r):aF prog 114 [.agg (aa.row v0)] (·=cI r):=by
 refine aF.aZ func114 rfl ntmps114 rfl λS hS=>?_
 unfold mn at H;refine .A 21 [.r 0] rfl ⟨rfl,rfl,rfl⟩ (.kO (ι:=Int) (λCG=>[(1,.ref 0 0),(3,.d (cB ((v0.kind==3) || (v0.kind==4)))),(4,.d (cI CG))]) (λCG=>⟨[aa.o58 v0],[]⟩) (λs=>fA v0 s=some r) ?_ ?_)
 ·rintro CG H;replace H:fA v0 CG=some r:=H;unfold fA at H;obtain ⟨y1,cZ,H⟩:=ae H;obtain ⟨y2,fU,H⟩:=ae H;refine .A 16 [.b y1,.b y2] rfl ⟨rfl,rfl,λhg=>av (en 3 rfl) rfl rfl (eR (aO fU hg)),rfl,rfl,av (en 3 rfl) rfl rfl (eR cZ)⟩ (.ite H rfl (λH=>?_) (λH=>?_))
  ·refine .E 4 rfl (.R func114 results114 rfl ?_);cases H;exact .m rfl (.ak _)
  ·obtain ⟨y3,jR,H⟩:=ae H;refine .A 8 [.b y3] rfl (av (en 3 rfl) rfl rfl (eR jR)) (.ite H rfl (λH=>?_) (λH=>?_))
   ·refine .E 4 rfl (.R func114 results114 rfl ?_);cases H;exact .m rfl (.ak _)
   ·obtain ⟨y4,oB,H⟩:=ae H;obtain ⟨y5,sH,H⟩:=ae H;refine .B 17 [.b y4,.b y5] rfl ⟨rfl,rfl,rfl,rfl,rfl,λhg=>av (en 4 rfl) rfl rfl (v7 (aO sH hg)),rfl,rfl,av (en 4 rfl) rfl rfl (v7 oB)⟩ (.ib (env':=[(44,_),(47,_)]) rfl rfl rfl ⟨.inr (.inl rfl),⟨.inr (.inr ⟨_,_,rfl,rfl⟩),trivial⟩⟩ rfl (λhg=>aL.g (dE rfl rfl rfl)) (.B 1 [] rfl rfl (.ib (env':=[(42,_),(49,_)]) rfl rfl rfl ⟨.inr (.inl rfl),⟨.inr (.inr ⟨_,_,rfl,rfl⟩),trivial⟩⟩ rfl (λhg=>aL.g (dE rfl rfl rfl)) (.A 3 [] rfl rfl (.ite H rfl (λH=>?_) (λH=>?_))))))
    ·refine .E 4 rfl (.R func114 results114 rfl ?_);cases H;exact .m rfl (.ak _)
    ·obtain ⟨y6,xW,H⟩:=ae H;refine .A 8 [.b y6] rfl (av (en 3 rfl) rfl rfl (eR xW)) (.ite H rfl (λH=>?_) (λH=>?_))
     ·refine .E 4 rfl (.R func114 results114 rfl ?_);cases H;exact .m rfl (.ak _)
     ·obtain ⟨y7,J5,H⟩:=ae H;refine .A 9 [.b y7] rfl (av (en 3 rfl) rfl rfl (eR J5)) (.ite H rfl (λH=>?_) (λH=>?_))
      ·refine .E 4 rfl (.R func114 results114 rfl ?_);cases H;exact .m rfl (.ak _)
      ·obtain ⟨cU,H⟩:=au H;refine .A 15 [.i (v0.start+v0.cz)] rfl ⟨rfl,rfl,λhg=>aJ rfl rfl (cU hg),rfl,rfl,rfl,rfl⟩ (.ite H rfl (λH=>?_) (λH=>?_))
       ·refine .E 4 rfl (.R func114 results114 rfl ?_);cases H;exact .m rfl (.ak _)
       ·obtain ⟨y8,Oq,H⟩:=ae H;obtain ⟨y9,P1,H⟩:=ae H;refine .A 14 [.b y8,.b y9] rfl ⟨rfl,rfl,λhg=>av (en 3 rfl) rfl rfl (eR (aO P1 hg)),rfl,rfl,av (en 3 rfl) rfl rfl (eR Oq)⟩ (.ite H rfl (λH=>?_) (λH=>?_))
        ·refine .E 4 rfl (.R func114 results114 rfl ?_);cases H;exact .m rfl (.ak _)
        ·refine .B 16 [.b ((v0.part==0) != (v0.call==0))] rfl ⟨rfl,rfl,rfl,rfl,aL.g (ET rfl underlying4 rfl)⟩ (.ib (env':=[(97,_),(100,_)]) rfl rfl rfl ⟨.inr (.inl rfl),⟨.inr (.inr ⟨_,_,rfl,rfl⟩),trivial⟩⟩ rfl (λhg=>aL.g (dE rfl rfl rfl)) (.A 3 [] rfl rfl (.ite H rfl (λH=>?_) (λH=>?_))))
         ·refine .E 4 rfl (.R func114 results114 rfl ?_);cases H;exact .m rfl (.ak _)
         ·obtain ⟨Fx,Jh,H⟩:=ae H;refine .A 8 [.b Fx] rfl (av (en 3 rfl) rfl rfl (eR Jh)) (.ite H rfl (λH=>?_) (λH=>?_))
          ·refine .E 4 rfl (.R func114 results114 rfl ?_);cases H;exact .m rfl (.ak _)
          ·refine .A 11 [] rfl ⟨rfl,rfl,rfl⟩ (.ite H rfl (λH=>?_) (λH=>?_))
           ·refine .E 4 rfl (.R func114 results114 rfl ?_);cases H;exact .m rfl (.ak _)
           ·refine .E 6 rfl (.R func114 results114 rfl ?_);cases H;exact .m rfl (.ak _)
 ·intro qN;refine .E 6 rfl (.ite H rfl (λH=>?_) (λH=>?_))
  ·exact .E 3 rfl (.z (qN 604800 H) rfl rfl)
  ·exact .E 1 rfl (.z (qN 1099511627776 H) rfl rfl)
theorem uh {v0:aa} {r:(List UInt8)×Int} (H:fM v0=some r):aF prog 72 [.agg (aa.row v0)] (·=.eF [cS r.1,cI r.2]):=by
 obtain ⟨i9,J6,P2,J7,hb9⟩:=PO;refine aF.aZ func72 rfl ntmps72 rfl λS hS=>?_
 unfold fM at H;obtain ⟨y1,cZ,H⟩:=ae H;refine .A 18 [.r 0,.i y1] rfl (av (en 5 rfl) rfl rfl (BG cZ)) (.ite H rfl (λH=>?_) (λH=>?_))
 ·refine .E 6 rfl (.R func72 results72 rfl ?_);cases H;exact .m rfl (.mm rfl)
 ·refine .E 11 rfl (.kO (ι:=List UInt8) (λoK=>[(1,.ref 0 0),(5,.d (.ex (.func (.func 115) #[] #[]))),(6,.d (cS oK))]) (λoK=>⟨[aa.o58 v0],[]⟩) (λs=>ff v0 s=some r) ?_ ?_)
  ·rintro oK H;replace H:ff v0 oK=some r:=H;unfold ff at H;obtain ⟨cU,dj,H⟩:=ck2 H;obtain ⟨y2,fU,H⟩:=ae H;obtain ⟨y3,jR,H⟩:=ae H;obtain ⟨y4,oB,H⟩:=ae H;obtain ⟨y5,sH,H⟩:=ae H;refine let z0:=(([118,116,100,99]:List UInt8).take v0.kind.toNat);.A 31 [.p 25,.i (v0.kind-1),.s (z0.drop (v0.kind-1).toNat),.s y2,.s y3,.s y4,.s y5,.n (.cY 1 (([z0.drop (v0.kind-1).toNat,y2,y3,v0.a,oK,y4,y5]:List (List UInt8)).map rS) 0) (DC ([z0.drop (v0.kind-1).toNat,y2,y3,v0.a,oK,y4,y5]:List (List UInt8)).length)] rfl ⟨.e (zU (n:=7) underlying96 J6 J7 P2 rfl rfl rfl rfl rfl) rfl,s9 (en 6 rfl) rfl rfl rfl (ug sH),s9 (en 6 rfl) rfl rfl rfl (ug oB),s9 (en 6 rfl) rfl rfl rfl (ug jR),s9 (en 6 rfl) rfl rfl rfl (ug fU),aL.g (Rc underlying9 rfl rfl rfl dj),iF rfl rfl cU,(show ct _ _=true by kernel_rfl)⟩ ?_;refine .kO (ι:=List (List UInt8)) (λwW=>[(1,.ref 0 0),(5,.d (.ex (.func (.func 115) #[] #[]))),(7,.cY 1 (wW.map rS) 0)]) (λwW=>⟨[aa.o58 v0],[DC wW.length]⟩) (λs=>ek v0 s=some r) ?_ ?_
   ·rintro wW H;replace H:ek v0 wW=some r:=H;unfold ek at H;refine .kO (ι:=List (List UInt8)) (λM5=>[(7,.cY 1 (M5.map rS) 0)]) (λM5=>⟨[aa.o58 v0],[DC M5.length]⟩) (λs=>fe s=some r) ?_ ?_
    ·rintro M5 H;replace H:fe M5=some r:=H;unfold fe at H;obtain ⟨y6,xW,H⟩:=ae H;refine .A 7 [.s y6] rfl (av (en 7 rfl) rfl rfl (R9 xW)) (.R func72 results72 rfl ?_);cases H;exact .m rfl (.mm rfl)
    ·intro Sa;refine .E 6 rfl (.ite H rfl (λH=>?_) (λH=>?_))
     ·refine .E 4 rfl (.kO (ι:=List UInt8) (λFy=>[(1,.ref 0 0),(5,.d (.ex (.func (.func 115) #[] #[]))),(7,.cY 1 (wW.map rS) 0),(8,.d (cS Fy))]) (λFy=>⟨[aa.o58 v0],[DC wW.length]⟩) (λs=>gx v0 wW s=some r) ?_ ?_)
      ·rintro Fy H;replace H:gx v0 wW Fy=some r:=H;unfold gx at H;obtain ⟨y7,J5,H⟩:=ae H;obtain ⟨eL,H⟩:=au H;exact .A 11 [.s y7,.d (aj 1 rS ([Fy,y7]:List (List UInt8))),.a 0 9 1 rS (wW++([Fy,y7]:List (List UInt8)))] rfl ⟨DW.a rfl rfl rfl rfl eL,iW (n:=2) (rows:=([Fy,y7]:List (List UInt8)).map rS) underlying96 J6 J7 P2 rfl rfl rfl rfl rfl,s9 (en 6 rfl) rfl rfl rfl (ug J5)⟩ (.z (Sa (wW++([Fy,y7]:List (List UInt8))) H) rfl rfl)
      ·intro Y6;refine .E 5 rfl (.ite H rfl (λH=>?_) (λH=>?_))
       ·exact .E 3 rfl (.z (Y6 ([105,110]:List UInt8) H) rfl rfl)
       ·exact .E 1 rfl (.z (Y6 ([111,117,116]:List UInt8) H) rfl rfl)
     ·exact .E 1 rfl (.z (Sa wW H) rfl rfl)
   ·intro FL;refine .E 6 rfl (.ite H rfl (λH=>?_) (λH=>?_))
    ·obtain ⟨y8,Oq,H⟩:=ae H;obtain ⟨y9,P1,H⟩:=ae H;obtain ⟨iJ,H⟩:=au H;refine .A 21 [.p 10,.s y8,.s y9,.d (aj 1 rS ([([112,97,114,116]:List UInt8),y8,y9]:List (List UInt8))),.a 0 9 1 rS (([(([118,116,100,99]:List UInt8).take v0.kind.toNat).drop (v0.kind-1).toNat,y2,y3,v0.a,oK,y4,y5]:List (List UInt8))++([([112,97,114,116]:List UInt8),y8,y9]:List (List UInt8)))] rfl ⟨DW.a rfl rfl rfl rfl iJ,iW (n:=3) (rows:=([([112,97,114,116]:List UInt8),y8,y9]:List (List UInt8)).map rS) underlying96 J6 J7 P2 rfl rfl rfl rfl rfl,s9 (en 6 rfl) rfl rfl rfl (ug P1),s9 (en 6 rfl) rfl rfl rfl (ug Oq),(show ct _ _=true by kernel_rfl)⟩ (.ite H rfl (λH=>?_) (λH=>?_))
     ·obtain ⟨my,H⟩:=au H;exact .A 6 [.d (aj 1 rS ([([108,97,115,116]:List UInt8)]:List (List UInt8))),.a 0 9 1 rS ((([(([118,116,100,99]:List UInt8).take v0.kind.toNat).drop (v0.kind-1).toNat,y2,y3,v0.a,oK,y4,y5]:List (List UInt8))++([([112,97,114,116]:List UInt8),y8,y9]:List (List UInt8)))++([([108,97,115,116]:List UInt8)]:List (List UInt8)))] rfl ⟨DW.a rfl rfl rfl rfl my,bp underlying96 J6 J7 P2 rfl rfl rfl rfl rfl⟩ (.z (FL ((([(([118,116,100,99]:List UInt8).take v0.kind.toNat).drop (v0.kind-1).toNat,y2,y3,v0.a,oK,y4,y5]:List (List UInt8))++([([112,97,114,116]:List UInt8),y8,y9]:List (List UInt8)))++([([108,97,115,116]:List UInt8)]:List (List UInt8))) H) rfl rfl)
     ·exact .E 1 rfl (.z (FL (([(([118,116,100,99]:List UInt8).take v0.kind.toNat).drop (v0.kind-1).toNat,y2,y3,v0.a,oK,y4,y5]:List (List UInt8))++([([112,97,114,116]:List UInt8),y8,y9]:List (List UInt8))) H) rfl rfl)
    ·exact .E 1 rfl (.z (FL ([(([118,116,100,99]:List UInt8).take v0.kind.toNat).drop (v0.kind-1).toNat,y2,y3,v0.a,oK,y4,y5]:List (List UInt8)) H) rfl rfl)
  ·intro qN;refine .E 5 rfl (.ite H rfl (λH=>?_) (λH=>?_))
   ·exact .E 3 rfl (.z (qN ([45]:List UInt8) H) rfl rfl)
   ·exact .E 1 rfl (.z (qN v0.b H) rfl rfl)
theorem D6 {ep:Batch} {r:Int} (H:oU ep=some r):aF prog 76 [.agg (Batch.row ep)] (·=cI r):=by
 refine aF.aZ func76 rfl ntmps76 rfl λS hS=>?_
 unfold oU at H;obtain ⟨y1,cZ,H⟩:=ae H;obtain ⟨y2,fU,H⟩:=ae H;refine .A 18 [.r 0,.d (.agg (Head.row y1)),.i y2] rfl ⟨av (en 8 rfl) rfl rfl (zD fU),av (en 9 rfl) rfl rfl (CX cZ)⟩ (.ite H rfl (λH=>?_) (λH=>?_))
 ·refine .E 5 rfl (.R func76 results76 rfl ?_);cases H;exact .m rfl (.ak _)
 ·refine .A 10 [.i (ep.records.length:Int)] rfl (ir.n rfl rfl) (.lp H (λvT=>[(1,.ref 0 0),(15,.d (aj 12 aa.row ep.records)),(16,.d (cI (ep.records.length:Int))),(17,.d (cI vT))]) (λvT=>⟨[Batch.o38 ep],[]⟩) (.k4 rfl rfl rfl rfl (.nil)) rfl ?_);rintro vT q1 H bF;unfold gT at H;refine .E 5 rfl (.ite H rfl (λH=>?_) (λH=>?_))
  ·obtain ⟨cU,H⟩:=au H;obtain ⟨y3,jR,H⟩:=ae H;refine .A 26 [.d (.ro (aa.row (nth ep.records vT.toNat))),.r 1,.d (.eF [cS y3.1,cI y3.2])] rfl ⟨av (en 10 rfl) rfl rfl (uh jR),ir.ix rfl rfl rfl cU⟩ (.ite H rfl (λH=>?_) (λH=>?_))
   ·refine .E 5 rfl (.R func76 results76 rfl ?_);cases H;cases bF;exact .m rfl (.ak _)
   ·refine .E 9 rfl (.ite H rfl (λH=>?_) (λH=>?_))
    ·refine .E 4 rfl (.R func76 results76 rfl ?_);cases H;cases bF;exact .m rfl (.ak _)
    ·obtain ⟨dj,H⟩:=au H;refine .A 6 [.i (vT+1)] rfl (aJ rfl rfl dj) ?_;cases H;exact .t 1 0 bF rfl rfl rfl rfl rfl hS rfl
  ·refine .E 5 rfl (.R func76 results76 rfl ?_);cases H;cases bF;exact .m rfl (.ak _)
theorem sP {bW:aI} {bU r:Int} (H:hG bW bU=some r):aF prog 77 [.agg (aI.row bW),cI bU] (·=cI r):=by
 refine aF.aZ func77 rfl ntmps77 rfl λS hS=>?_
 unfold hG at H;refine .A 15 [.r 0] rfl ⟨rfl,rfl⟩ (.ite H rfl (λH=>?_) (λH=>?_))
 ·refine .E 4 rfl (.R func77 results77 rfl ?_);cases H;exact .m rfl (.ak _)
 ·obtain ⟨cU,H⟩:=au H;refine .A 11 [.i (bW.aK.length:Int),.i ((bW.aK.length:Int) - 1)] rfl ⟨iF rfl rfl cU,DV.n rfl rfl⟩ (.lp H (λaG=>[(1,.d (cI bU)),(2,.ref 0 0),(5,.d (cI aG))]) (λaG=>⟨[aI.o26 bW],[]⟩) (.k3 rfl rfl rfl (.nil)) rfl ?_);rintro aG q1 H bF;unfold q9 at H;refine .E 6 rfl (.ite H rfl (λH=>?_) (λH=>?_))
  ·obtain ⟨dj,H⟩:=au H;refine .A 14 [.d (.ro (Head.row (nth bW.aK aG.toNat)))] rfl (DV.ix rfl rfl rfl dj) (.ite H rfl (λH=>?_) (λH=>?_))
   ·obtain ⟨eL,iJ,H⟩:=ck2 H;refine .A 11 [.d (.ro (Head.row (nth bW.aK aG.toNat))),.i (((nth bW.aK aG.toNat).number)+1)] rfl ⟨aJ rfl rfl iJ,DV.ix rfl rfl rfl eL⟩ (.R func77 results77 rfl ?_);cases H;cases bF;exact .m rfl (.ak _)
   ·obtain ⟨my,H⟩:=au H;refine .A 7 [.i (aG-1)] rfl (iF rfl rfl my) ?_;cases H;exact .z bF rfl rfl
  ·refine .E 5 rfl (.R func77 results77 rfl ?_);cases H;cases bF;exact .m rfl (.ak _)
theorem zE {pF:aa} {J3:b9} {r:Int} (H:j8 pF J3=some r):aF prog 125 [.agg (aa.row pF),.agg (b9.row J3)] (·=cI r):=by
 refine aF.aZ func125 rfl ntmps125 rfl λS hS=>?_
 unfold j8 at H;refine .A 22 [.r 0,.r 1] rfl ⟨rfl,rfl,rfl,rfl,rfl⟩ (.ite H rfl (λH=>?_) (λH=>?_))
 ·refine .E 4 rfl (.R func125 results125 rfl ?_);cases H;exact .m rfl (.ak _)
 ·refine .E 5 rfl (.R func125 results125 rfl ?_);cases H;exact .m rfl (.ak _)
theorem jF {nk nm:Int} {r:Bool} (H:dI nk nm=some r):aF prog 110 [cI nk,cI nm] (·=cB r):=by
 refine aF.aZ func110 rfl ntmps110 rfl λS hS=>?_
 unfold dI at H;refine .A 22 [] rfl ⟨rfl,rfl,rfl,rfl,rfl,rfl⟩ (.R func110 results110 rfl ?_);cases H;exact .m rfl (.ak _)
theorem BI {tz aT aS:Int} {c9:(List Range)} {r:Bool} (H:jX tz c9 aT aS=some r):aR prog 149 [.d (cI tz),.ref 0 0,.ref 1 0,.ref 2 0] ⟨[.row 22 [.d (aj 3 Range.row c9)],.row 3 [.d (cI aT)],.row 3 [.d (cI aS)]],[]⟩ (QE (.d (cB r)) ⟨[.row 22 [.d (aj 3 Range.row c9)],.row 3 [.d (cI aT)],.row 3 [.d (cI aS)]],[]⟩):=by
 refine aR.mj ?_;refine aR.enter func149 rfl ntmps149 rfl λS hS=>?_
 unfold jX at H;obtain ⟨cU,H⟩:=au H;refine .B 29 [.d (.ro (Range.row (nth c9 tz.toNat))),.r 3] rfl ⟨rfl,rfl,rfl,rfl,rfl,rfl,rfl,zd.ix rfl rfl rfl cU⟩ (.ib (env':=[(20,_),(24,_)]) rfl rfl rfl ⟨.inr (.inl rfl),⟨.inr (.inr ⟨_,_,rfl,rfl⟩),trivial⟩⟩ rfl (λhg=>aL.g (dE rfl rfl rfl)) (.A 3 [] rfl rfl (.R func149 results149 rfl ?_)));cases H;exact ⟨[0,1,2],[],rfl,rfl,rfl,rfl,rfl,rfl,rfl,rfl,.ak _⟩
theorem D7 {zz aT aS r:Int} {c9:(List Range)} (H:kz zz c9 aT aS=some r):aR prog 148 [.d (cI zz),.wv 149 [.ref 0 0,.ref 1 0,.ref 2 0]] ⟨[.row 22 [.d (aj 3 Range.row c9)],.row 3 [.d (cI aT)],.row 3 [.d (cI aS)]],[]⟩ (QE (.d (cI r)) ⟨[.row 22 [.d (aj 3 Range.row c9)],.row 3 [.d (cI aT)],.row 3 [.d (cI aS)]],[]⟩):=by
 refine aR.mj ?_;refine aR.enter func148 rfl ntmps148 rfl λS hS=>?_
 unfold kz at H;refine .E 12 rfl (.lp H (λ⟨aG,iL⟩=>[(1,.wv 149 [.ref 0 0,.ref 1 0,.ref 2 0]),(5,.d (cI aG)),(6,.d (cI iL))]) (λ⟨aG,iL⟩=>⟨[.row 22 [.d (aj 3 Range.row c9)],.row 3 [.d (cI aT)],.row 3 [.d (cI aS)]],[]⟩) (.k3 rfl rfl rfl (.nil)) rfl ?_);rintro ⟨aG,iL⟩ q1 H bF
 dsimp only at H
 unfold jf at H;refine .E 7 rfl (.ite H rfl (λH=>?_) (λH=>?_))
 ·obtain ⟨cU,dj,H⟩:=ck2 H;obtain ⟨y1,cZ,H⟩:=ae H;refine let z0:=(Int.fdiv (IntKind.wrap .u64 (aG+iL)) (2 ^ (min (Int.toNat (1)) 64)));.B 16 [.i (aG+iL),.d (cK .u64 (IntKind.wrap .u64 (aG+iL))),.d (cK .u64 z0),.i (IntKind.wrap .i64 z0)] rfl ⟨aL.g (Io underlying183 underlying3 rfl rfl),aL.g (Vd (a:=IntKind.wrap .u64 (aG+iL)) (b:=1) rfl rfl dj rfl),aL.g (Io underlying3 underlying183 rfl rfl),aJ rfl rfl cU⟩ ?_;refine .Fc (en 15 rfl) rfl rfl [0,1,2] [] (x:=.d (cB y1)) (st':=⟨[.row 22 [.d (aj 3 Range.row c9)],.row 3 [.d (cI aT)],.row 3 [.d (cI aS)]],[]⟩) rfl (BI cZ) ⟨.ak _,.ak _,.ak _,.ak _,trivial⟩ rfl rfl rfl rfl rfl rfl (.E 2 rfl (.ite H rfl (λH=>?_) (λH=>?_)))
  ·obtain ⟨eL,H⟩:=au H;refine .A 6 [.i ((IntKind.wrap .i64 (Int.fdiv (IntKind.wrap .u64 (aG+iL)) (2 ^ (min (Int.toNat (1)) 64))))+1)] rfl (aJ rfl rfl eL) ?_;cases H;exact .z bF rfl rfl
  ·refine .E 5 rfl ?_;cases H;exact .z bF rfl rfl
 ·refine .E 6 rfl (.R func148 results148 rfl ?_);cases H;cases bF;exact ⟨[0,1,2],[],rfl,rfl,rfl,rfl,rfl,rfl,rfl,rfl,.ak _⟩
theorem D8 {aU:List Range} {bU cM r:Int} (H:oV aU bU cM=some r):aF prog 113 [aj 3 Range.row aU,cI bU,cI cM] (·=cI r):=by
 refine aF.aZ func113 rfl ntmps113 rfl λS hS=>?_
 unfold oV at H;obtain ⟨y1,cZ,H⟩:=ae H;refine .B 12 [.r 0,.r 1,.r 2,.i (aU.length:Int),.g (.wv 149 [.ref 0 0,.ref 1 0,.ref 2 0])] rfl ⟨aL.g (tP rfl),zd.n rfl rfl⟩ (.fJ (en 16 rfl) rfl [0,1,2] [] (x:=.d (cI y1)) (st':=⟨[.row 22 [.d (aj 3 Range.row aU)],.row 3 [.d (cI bU)],.row 3 [.d (cI cM)]],[]⟩) rfl (D7 cZ) ⟨.ak _,.ak _,trivial⟩ rfl rfl rfl rfl rfl rfl (.E 2 rfl (.R func113 results113 rfl ?_)));cases H;exact .m rfl (.ak _)
theorem Af {aU:List Range} {bU cM:Int} {r:Bool} (H:nn aU bU cM=some r):aF prog 70 [aj 3 Range.row aU,cI bU,cI cM] (·=cB r):=by
 refine aF.aZ func70 rfl ntmps70 rfl λS hS=>?_
 unfold nn at H;obtain ⟨y1,cZ,H⟩:=ae H;obtain ⟨y2,fU,H⟩:=ae H;obtain ⟨cU,dj,H⟩:=ck2 H;refine .A 43 [.i y1,.b y2,.i (aU.length:Int),.d (.ro (Range.row (nth aU y1.toNat))),.d (.ro (Range.row (nth aU y1.toNat)))] rfl ⟨rfl,rfl,rfl,rfl,rfl,λhg=>zd.ix rfl rfl rfl (dj hg),rfl,rfl,rfl,rfl,rfl,rfl,rfl,λhg=>zd.ix rfl rfl rfl (cU hg),rfl,rfl,rfl,rfl,rfl,λhg=>zd.n rfl rfl,rfl,av (en 17 rfl) rfl rfl (jF fU),av (en 18 rfl) rfl rfl (D8 cZ)⟩ (.R func70 results70 rfl ?_);cases H;exact .m rfl (.ak _)
theorem xy {fu gz:Range} {r:Bool} (H:mC fu gz=some r):aF prog 165 [.agg (Range.row fu),.agg (Range.row gz)] (·=cB r):=by
 refine aF.aZ func165 rfl ntmps165 rfl λS hS=>?_
 unfold mC at H;obtain ⟨cU,H⟩:=au H;refine .A 23 [.r 0,.r 1,.i (fu.ia+1)] rfl ⟨rfl,rfl,rfl,rfl,λhg=>aJ rfl rfl (cU hg),rfl,rfl⟩ (.R func165 results165 rfl ?_);cases H;exact .m rfl (.ak _)
theorem ui {tz sY:Int} {aT:(List aa)} {aX:List ai} {r:(List ai)} (H:lk tz sY aT aX=some r):aR prog 126 [.d (cI tz),.d (cI sY),.ref 0 0,.ref 1 0] ⟨[.row 28 [.cY 4 (aX.map ai.row) 0],.row 23 [.d (aj 12 aa.row aT)]],[wU aX.length]⟩ (QE (.d (.eF [])) ⟨[.row 28 [.cY 4 (r.map ai.row) 0],.row 23 [.d (aj 12 aa.row aT)]],[wU r.length]⟩):=by
 obtain ⟨i66,FM,FN,Ji,P3⟩:=HJ;refine aR.mj ?_;refine aR.enter func126 rfl ntmps126 rfl λS hS=>?_
 unfold lk at H;obtain ⟨cU,dj,eL,H⟩:=ck3 H;refine .A 20 [.p 15,.d (.ro (aa.row (nth aT tz.toNat))),.d (.ro (aa.row (nth aT tz.toNat))),.d (.agg (ai.row (⟨(nth aT tz.toNat).source,(nth aT tz.toNat).az,tz,sY⟩:ai))),.d (aj 4 ai.row ([(⟨(nth aT tz.toNat).source,(nth aT tz.toNat).az,tz,sY⟩:ai)]:List ai)),.a 0 66 4 ai.row (aX++([(⟨(nth aT tz.toNat).source,(nth aT tz.toNat).az,tz,sY⟩:ai)]:List ai))] rfl ⟨J2.a rfl rfl rfl rfl eL,bp underlying28 FM Ji FN rfl rfl rfl rfl rfl,aL.g (br Vy FM FN rfl rfl),ir.ix rfl rfl rfl dj,ir.ix rfl rfl rfl cU,(show ct _ _=true by kernel_rfl)⟩ (.ER func126 results126 ?_);cases H;exact ⟨[0,1],[0],rfl,rfl,rfl,rfl,rfl,rfl,rfl,rfl,eG.vM (ds:=[]) trivial⟩
theorem yx {tz aT aS:Int} {aX:List Range} {kN:Nat} {r:Bool} (H:jo tz aT aS aX=some r):aR prog 149 [.d (cI tz),.ref 0 0,.ref 1 0,.ref 2 0] ⟨[.row 22 [.vc 0 kN],.row 3 [.d (cI aT)],.row 3 [.d (cI aS)]],[Range.sX kN aX]⟩ (QE (.d (cB r)) ⟨[.row 22 [.vc 0 kN],.row 3 [.d (cI aT)],.row 3 [.d (cI aS)]],[Range.sX kN aX]⟩):=by
 obtain ⟨i106,uj,Ot,u4,VG⟩:=tR;refine aR.mj ?_;refine aR.enter func149 rfl ntmps149 rfl λS hS=>?_
 unfold jo at H;obtain ⟨cU,dj,H⟩:=ck2 H;refine .B 29 [.g (.vp 0 kN tz.toNat 0),.f 20 (.d (.agg (Range.row (nth aX tz.toNat)))),.r 3] rfl ⟨rfl,rfl,rfl,rfl,rfl,rfl,rfl,aL.g (mB (l:=aX) (row:=Range.row) (cs:=(Range.row (nth aX tz.toNat))) Bw Fq rfl rfl dj (zae rfl) rfl),aL.g (ng (l:=aX) (row:=Range.row) (i:=tz) underlying22 uj u4 rfl rfl rfl cU)⟩ (.ib (env':=[(20,_),(24,_)]) rfl rfl rfl ⟨.inr (.inl rfl),⟨.inr (.inr ⟨_,_,rfl,rfl⟩),trivial⟩⟩ rfl (λhg=>aL.g (dE rfl rfl rfl)) (.A 3 [] rfl rfl (.R func149 results149 rfl ?_)));cases H;exact ⟨[0,1,2],[0],rfl,rfl,rfl,rfl,rfl,rfl,rfl,rfl,.ak _⟩
theorem AN {zz aT aS r:Int} {aX:List Range} {kN:Nat} (H:ll zz aT aS aX=some r):aR prog 148 [.d (cI zz),.wv 149 [.ref 0 0,.ref 1 0,.ref 2 0]] ⟨[.row 22 [.vc 0 kN],.row 3 [.d (cI aT)],.row 3 [.d (cI aS)]],[Range.sX kN aX]⟩ (QE (.d (cI r)) ⟨[.row 22 [.vc 0 kN],.row 3 [.d (cI aT)],.row 3 [.d (cI aS)]],[Range.sX kN aX]⟩):=by
 refine aR.mj ?_;refine aR.enter func148 rfl ntmps148 rfl λS hS=>?_
 unfold ll at H;refine .E 12 rfl (.lp H (λ⟨aG,iL⟩=>[(1,.wv 149 [.ref 0 0,.ref 1 0,.ref 2 0]),(5,.d (cI aG)),(6,.d (cI iL))]) (λ⟨aG,iL⟩=>⟨[.row 22 [.vc 0 kN],.row 3 [.d (cI aT)],.row 3 [.d (cI aS)]],[Range.sX kN aX]⟩) (.k3 rfl rfl rfl (.nil)) rfl ?_);rintro ⟨aG,iL⟩ q1 H bF
 dsimp only at H
 unfold kP at H;refine .E 7 rfl (.ite H rfl (λH=>?_) (λH=>?_))
 ·obtain ⟨cU,dj,H⟩:=ck2 H;obtain ⟨y1,cZ,H⟩:=ae H;refine let z0:=(Int.fdiv (IntKind.wrap .u64 (aG+iL)) (2 ^ (min (Int.toNat (1)) 64)));.B 16 [.i (aG+iL),.d (cK .u64 (IntKind.wrap .u64 (aG+iL))),.d (cK .u64 z0),.i (IntKind.wrap .i64 z0)] rfl ⟨aL.g (Io underlying183 underlying3 rfl rfl),aL.g (Vd (a:=IntKind.wrap .u64 (aG+iL)) (b:=1) rfl rfl dj rfl),aL.g (Io underlying3 underlying183 rfl rfl),aJ rfl rfl cU⟩ ?_;refine .Fc (en 15 rfl) rfl rfl [0,1,2] [0] (x:=.d (cB y1)) (st':=⟨[.row 22 [.vc 0 kN],.row 3 [.d (cI aT)],.row 3 [.d (cI aS)]],[Range.sX kN aX]⟩) rfl (yx cZ) ⟨.ak _,.ak _,.ak _,.ak _,trivial⟩ rfl rfl rfl rfl rfl rfl (.E 2 rfl (.ite H rfl (λH=>?_) (λH=>?_)))
  ·obtain ⟨eL,H⟩:=au H;refine .A 6 [.i ((IntKind.wrap .i64 (Int.fdiv (IntKind.wrap .u64 (aG+iL)) (2 ^ (min (Int.toNat (1)) 64))))+1)] rfl (aJ rfl rfl eL) ?_;cases H;exact .z bF rfl rfl
  ·refine .E 5 rfl ?_;cases H;exact .z bF rfl rfl
 ·refine .E 6 rfl (.R func148 results148 rfl ?_);cases H;cases bF;exact ⟨[0,1,2],[0],rfl,rfl,rfl,rfl,rfl,rfl,rfl,rfl,.ak _⟩
theorem xz {bU cM r:Int} {aX:List Range} {kN:Nat} (H:iZ bU cM aX=some r):aR prog 113 [.vc 0 kN,.d (cI bU),.d (cI cM)] ⟨[],[Range.sX kN aX]⟩ (QE (.d (cI r)) ⟨[],[Range.sX kN aX]⟩):=by
 refine aR.mj ?_;refine aR.enter func113 rfl ntmps113 rfl λS hS=>?_
 unfold iZ at H;obtain ⟨y1,cZ,H⟩:=ae H;refine .B 12 [.r 0,.r 1,.r 2,.i (aX.length:Int),.g (.wv 149 [.ref 0 0,.ref 1 0,.ref 2 0])] rfl ⟨aL.g (tP rfl),aL.g (vg (l:=aX) (row:=Range.row) underlying22 rfl rfl)⟩ (.fJ (en 16 rfl) rfl [0,1,2] [0] (x:=.d (cI y1)) (st':=⟨[.row 22 [.vc 0 kN],.row 3 [.d (cI bU)],.row 3 [.d (cI cM)]],[Range.sX kN aX]⟩) rfl (AN cZ) ⟨.ak _,.ak _,trivial⟩ rfl rfl rfl rfl rfl rfl (.E 2 rfl (.R func113 results113 rfl ?_)));cases H;exact ⟨[],[0],rfl,rfl,rfl,rfl,rfl,rfl,rfl,rfl,.ak _⟩
end Go.Proofs.YtimkfiaffohhkaaGreatDoor
