/- Our own texts of this seat. -/
import Derived.Test.YtimkfiaffohhkaaGreatDoorYF1
import Derived.Lib.ItoaNum
import Derived.Lib.Join
import Derived.Shelf.Strings.Builder1
import Derived.Shelf.Strings.Builder2
import Derived.Shelf.Strings.OnBuilder
import Derived.Shelf.Small.Bits
import Derived.Shelf.Small.Wraps
import Derived.Shelf.Strconv.Itoa0
import Derived.Shelf.Strconv.Itoa1
import Derived.Shelf.LaysM
import Derived.Shelf.Strconv.Itoa2
import Derived.Shelf.Strconv.Itoa3
import Derived.Shelf.SlGeneric
import Derived.Shelf.SlSortCmp.NoneTotal
import Derived.Ground.SlsfProg
import Derived.Shelf.Spec.SlicesGrow
import Derived.Ground.Names8Prog
import Derived.Test.YtimkfiaffohhkaaGreatDoorProg
import Derived.Sort.Grow
import Derived.Deep.Draws
set_option linter.unusedSimpArgs false
set_option linter.unusedVariables false
set_option linter.unusedSectionVars false
set_option maxRecDepth 100000
set_option maxHeartbeats 4000000
namespace Go.Proofs.YtimkfiaffohhkaaGreatDoor
open Go.RowKit Go.Abs
structure aa where
 source:Int
 aI:Int
 kind:Int
 a:(List UInt8)
 b:(List UInt8)
 start:Int
 cU:Int
 call:Int
 part:Int
 last:Bool
 c9:Int
 bS:Bool
instance:Inhabited aa:=⟨⟨default,default,default,default,default,default,default,default,default,default,default,default⟩⟩
def aa.row (x:aa):List D:=[cI x.source,cI x.aI,cI x.kind,cS x.a,cS x.b,cI x.start,cI x.cU,cI x.call,cI x.part,cB x.last,cI x.c9,cB x.bS]
def aa.bP (x:aa):List Value:=[.int .i64 x.source,.int .i64 x.aI,.int .i64 x.kind,.string ⟨x.a.toArray⟩,.string ⟨x.b.toArray⟩,.int .i64 x.start,.int .i64 x.cU,.int .i64 x.call,.int .i64 x.part,.bool x.last,.int .i64 x.c9,.bool x.bS]
structure Range where
 source:Int
 from_:Int
 iu:Int
instance:Inhabited Range:=⟨⟨default,default,default⟩⟩
def Range.row (x:Range):List D:=[cI x.source,cI x.from_,cI x.iu]
def Range.bP (x:Range):List Value:=[.int .i64 x.source,.int .i64 x.from_,.int .i64 x.iu]
structure Head where
 source:Int
 number:Int
 format:Int
 count:Int
instance:Inhabited Head:=⟨⟨default,default,default,default⟩⟩
def Head.row (x:Head):List D:=[cI x.source,cI x.number,cI x.format,cI x.count]
def Head.bP (x:Head):List Value:=[.int .i64 x.source,.int .i64 x.number,.int .i64 x.format,.int .i64 x.count]
structure ag where
 source:Int
 aI:Int
 index:Int
 err:Int
instance:Inhabited ag:=⟨⟨default,default,default,default⟩⟩
def ag.row (x:ag):List D:=[cI x.source,cI x.aI,cI x.index,cI x.err]
def ag.bP (x:ag):List Value:=[.int .i64 x.source,.int .i64 x.aI,.int .i64 x.index,.int .i64 x.err]
structure aC where
 id:Int
 kind:Int
 au:Int
 sub:Int
 a:(List UInt8)
 b:(List UInt8)
 start:Int
 cU:Int
 c9:Int
 bS:Bool
 source:Int
 aI:Int
instance:Inhabited aC:=⟨⟨default,default,default,default,default,default,default,default,default,default,default,default⟩⟩
def aC.row (x:aC):List D:=[cI x.id,cI x.kind,cI x.au,cI x.sub,cS x.a,cS x.b,cI x.start,cI x.cU,cI x.c9,cB x.bS,cI x.source,cI x.aI]
def aC.bP (x:aC):List Value:=[.int .i64 x.id,.int .i64 x.kind,.int .i64 x.au,.int .i64 x.sub,.string ⟨x.a.toArray⟩,.string ⟨x.b.toArray⟩,.int .i64 x.start,.int .i64 x.cU,.int .i64 x.c9,.bool x.bS,.int .i64 x.source,.int .i64 x.aI]
structure aF where
 seen:(List Range)
 open_:(List aa)
 aO:(List Head)
instance:Inhabited aF:=⟨⟨default,default,default⟩⟩
def aF.row (x:aF):List D:=[ai 3 Range.row x.seen,ai 12 aa.row x.open_,ai 4 Head.row x.aO]
structure aj where
 aH:aF
 usages:(List aC)
 aS:(List aa)
 bA:(List ag)
instance:Inhabited aj:=⟨⟨default,default,default,default⟩⟩
def aj.row (x:aj):List D:=[ai 3 Range.row x.aH.seen,ai 12 aa.row x.aH.open_,ai 4 Head.row x.aH.aO,ai 12 aC.row x.usages,ai 12 aa.row x.aS,ai 4 ag.row x.bA]
structure Event where
 at_:Int
 kind:Int
 au:Int
 sub:Int
 number:(List UInt8)
 name:(List UInt8)
 value:Int
instance:Inhabited Event:=⟨⟨default,default,default,default,default,default,default⟩⟩
def Event.row (x:Event):List D:=[cI x.at_,cI x.kind,cI x.au,cI x.sub,cS x.number,cS x.name,cI x.value]
structure Batch where
 source:Int
 number:Int
 format:Int
 records:(List aa)
instance:Inhabited Batch:=⟨⟨default,default,default,default⟩⟩
def Batch.row (x:Batch):List D:=[cI x.source,cI x.number,cI x.format,ai 12 aa.row x.records]
structure bX where
 eA:Int
 iO:Int
instance:Inhabited bX:=⟨⟨default,default⟩⟩
def bX.row (x:bX):List D:=[cI x.eA,cI x.iO]
structure aV where
 source:Int
 number:Int
instance:Inhabited aV:=⟨⟨default,default⟩⟩
def aV.row (x:aV):List D:=[cI x.source,cI x.number]
def aV.bP (x:aV):List Value:=[.int .i64 x.source,.int .i64 x.number]
structure bD where
 call:aV
 kind:Int
 a:(List UInt8)
 b:(List UInt8)
 c9:Int
 bS:Bool
instance:Inhabited bD:=⟨⟨default,default,default,default,default,default⟩⟩
def bD.row (x:bD):List D:=[cI x.call.source,cI x.call.number,cI x.kind,cS x.a,cS x.b,cI x.c9,cB x.bS]
def bD.bP (x:bD):List Value:=[.int .i64 x.call.source,.int .i64 x.call.number,.int .i64 x.kind,.string ⟨x.a.toArray⟩,.string ⟨x.b.toArray⟩,.int .i64 x.c9,.bool x.bS]
structure dq where
 record:aa
instance:Inhabited dq:=⟨⟨default⟩⟩
def dq.row (x:dq):List D:=[cI x.record.source,cI x.record.aI,cI x.record.kind,cS x.record.a,cS x.record.b,cI x.record.start,cI x.record.cU,cI x.record.call,cI x.record.part,cB x.record.last,cI x.record.c9,cB x.record.bS]
structure al where
 id:Int
 since:Int
 anchor:Int
 fH:Bool
 closed:Bool
 bl:(List Int)
instance:Inhabited al:=⟨⟨default,default,default,default,default,default⟩⟩
def al.row (x:al):List D:=[cI x.id,cI x.since,cI x.anchor,cB x.fH,cB x.closed,ai 1 rI x.bl]
def al.n9 (x:al):List D:=[cI x.id,cI x.since,cI x.anchor,cB x.fH,cB x.closed,.e0 1]
structure Sub where
 id:Int
 au:Int
 since:Int
 vk:(List UInt8)
 numbers:(List (List UInt8))
 cj:(List (List UInt8))
 bL:Bool
 family:Bool
instance:Inhabited Sub:=⟨⟨default,default,default,default,default,default,default,default⟩⟩
def Sub.row (x:Sub):List D:=[cI x.id,cI x.au,cI x.since,cS x.vk,ai 1 rS x.numbers,ai 1 rS x.cj,cB x.bL,cB x.family]
structure b7 where
 aJ:(List al)
 bl:(List Sub)
instance:Inhabited b7:=⟨⟨default,default⟩⟩
def b7.row (x:b7):List D:=[ai 6 al.row x.aJ,ai 8 Sub.row x.bl]
structure jO where
 source:dq
 events:(List Event)
instance:Inhabited jO:=⟨⟨default,default⟩⟩
def jO.row (x:jO):List D:=[cI x.source.record.source,cI x.source.record.aI,cI x.source.record.kind,cS x.source.record.a,cS x.source.record.b,cI x.source.record.start,cI x.source.record.cU,cI x.source.record.call,cI x.source.record.part,cB x.source.record.last,cI x.source.record.c9,cB x.source.record.bS,ai 7 Event.row x.events]
structure th where
 sY:aj
 events:(List Event)
instance:Inhabited th:=⟨⟨default,default⟩⟩
def th.row (x:th):List D:=[ai 3 Range.row x.sY.aH.seen,ai 12 aa.row x.sY.aH.open_,ai 4 Head.row x.sY.aH.aO,ai 12 aC.row x.sY.usages,ai 12 aa.row x.sY.aS,ai 4 ag.row x.sY.bA,ai 7 Event.row x.events]
structure bV where
 read:Int
 accepted:Int
 merged:Int
 rejected:Int
 bL:Int
 open_:Int
instance:Inhabited bV:=⟨⟨default,default,default,default,default,default⟩⟩
def bV.row (x:bV):List D:=[cI x.read,cI x.accepted,cI x.merged,cI x.rejected,cI x.bL,cI x.open_]
def bV.bP (x:bV):List Value:=[.int .i64 x.read,.int .i64 x.accepted,.int .i64 x.merged,.int .i64 x.rejected,.int .i64 x.bL,.int .i64 x.open_]
structure bE where
 source:Int
 aI:Int
 deriving DecidableEq
instance:Inhabited bE:=⟨⟨default,default⟩⟩
def bE.row (x:bE):List D:=[cI x.source,cI x.aI]
def bE.bP (x:bE):List Value:=[.int .i64 x.source,.int .i64 x.aI]
structure bm where
 source:Int
 aI:Int
 deriving DecidableEq
instance:Inhabited bm:=⟨⟨default,default⟩⟩
def bm.row (x:bm):List D:=[cI x.source,cI x.aI]
def bm.bP (x:bm):List Value:=[.int .i64 x.source,.int .i64 x.aI]
structure ah where
 aJ:(List al)
 bl:(List Sub)
 ended:(List Int)
instance:Inhabited ah:=⟨⟨default,default,default⟩⟩
def ah.row (x:ah):List D:=[ai 6 al.n9 x.aJ,ai 8 Sub.row x.bl,ai 1 rI x.ended]
structure dB where
 batch:Batch
 EE:bX
instance:Inhabited dB:=⟨⟨default,default⟩⟩
def dB.row (x:dB):List D:=[cI x.batch.source,cI x.batch.number,cI x.batch.format,ai 12 aa.row x.batch.records,cI x.EE.eA,cI x.EE.iO]
abbrev aa.o58 (x:aa):dI:=.row 58 [.d (cI x.source),.d (cI x.aI),.d (cI x.kind),.d (cS x.a),.d (cS x.b),.d (cI x.start),.d (cI x.cU),.d (cI x.call),.d (cI x.part),.d (cB x.last),.d (cI x.c9),.d (cB x.bS)]
abbrev aF.o26 (x:aF):dI:=.row 26 [.d (ai 3 Range.row x.seen),.d (ai 12 aa.row x.open_),.d (ai 4 Head.row x.aO)]
abbrev aj.o30 (x:aj):dI:=.row 30 [.d (ai 3 Range.row x.aH.seen),.d (ai 12 aa.row x.aH.open_),.d (ai 4 Head.row x.aH.aO),.d (ai 12 aC.row x.usages),.d (ai 12 aa.row x.aS),.d (ai 4 ag.row x.bA)]
abbrev Batch.o38 (x:Batch):dI:=.row 38 [.d (cI x.source),.d (cI x.number),.d (cI x.format),.d (ai 12 aa.row x.records)]
abbrev Range.o106 (x:Range):dI:=.row 106 [.d (cI x.source),.d (cI x.from_),.d (cI x.iu)]
abbrev Head.o76 (x:Head):dI:=.row 76 [.d (cI x.source),.d (cI x.number),.d (cI x.format),.d (cI x.count)]
abbrev aC.o54 (x:aC):dI:=.row 54 [.d (cI x.id),.d (cI x.kind),.d (cI x.au),.d (cI x.sub),.d (cS x.a),.d (cS x.b),.d (cI x.start),.d (cI x.cU),.d (cI x.c9),.d (cB x.bS),.d (cI x.source),.d (cI x.aI)]
abbrev Event.o79 (x:Event):dI:=.row 79 [.d (cI x.at_),.d (cI x.kind),.d (cI x.au),.d (cI x.sub),.d (cS x.number),.d (cS x.name),.d (cI x.value)]
abbrev al.o175 (x:al):dI:=.row 175 [.d (cI x.id),.d (cI x.since),.d (cI x.anchor),.d (cB x.fH),.d (cB x.closed),.d (ai 1 rI x.bl)]
abbrev Sub.o98 (x:Sub):dI:=.row 98 [.d (cI x.id),.d (cI x.au),.d (cI x.since),.d (cS x.vk),.d (ai 1 rS x.numbers),.d (ai 1 rS x.cj),.d (cB x.bL),.d (cB x.family)]
abbrev ah.o123 (x:ah):dI:=.row 123 [.d (ai 6 al.n9 x.aJ),.d (ai 8 Sub.row x.bl),.d (ai 1 rI x.ended)]
abbrev mo0 (l:List ((Int)×Int)):dI:=.map (jM (λn=>Value.int .i64 n) (λx=>cI x) l)
abbrev mo1 (l:List ((Int)×Bool)):dI:=.map (jM (λn=>Value.int .i64 n) (λx=>cB x) l)
abbrev mo2 (l:List ((List UInt8)×Int)):dI:=.map (jM (λs=>Value.string ⟨s.toArray⟩) (λx=>cI x) l)
abbrev mo3 (l:List ((Int)×al)):dI:=.map (jM (λn=>Value.int .i64 n) (λx=>.agg (al.row x)) l)
abbrev mo4 (l:List ((Int)×Sub)):dI:=.map (jM (λn=>Value.int .i64 n) (λx=>.agg (Sub.row x)) l)
abbrev mo5 (l:List ((bm)×Bool)):dI:=.map (jM (λx=>Value.agg (bm.bP x).toArray) (λx=>cB x) l)
abbrev mo6 (l:List ((bE)×Bool)):dI:=.map (jM (λx=>Value.agg (bE.bP x).toArray) (λx=>cB x) l)
abbrev mo7 (l:List ((Int)×List Int)):dI:=.map (jM (λn=>Value.int .i64 n) (λx=>ai 1 rI x) l)
abbrev kq0:al:=(⟨0,0,0,false,false,([]:List Int)⟩:al)
abbrev kq1:Event:=(⟨0,5,0,2,([49]:List UInt8),([]:List UInt8),0⟩:Event)
abbrev kq2:Event:=(⟨10,5,0,2,([51]:List UInt8),([]:List UInt8),0⟩:Event)
abbrev kq3:aF:=(⟨([]:List Range),([]:List aa),([]:List Head)⟩:aF)
abbrev kq4:aC:=(⟨0,0,0,0,([]:List UInt8),([]:List UInt8),0,0,0,false,0,0⟩:aC)
abbrev kq5:Event:=(⟨0,3,1,2,([]:List UInt8),([98,97,115,105,99]:List UInt8),0⟩:Event)
abbrev kq6:aa:=(⟨0,0,0,([]:List UInt8),([]:List UInt8),0,0,0,0,false,0,false⟩:aa)
abbrev kq7:aa:=(⟨1,2,2,([49]:List UInt8),([50]:List UInt8),20,1,5,2,true,0,false⟩:aa)
abbrev kq8:aa:=(⟨1,1,2,([49]:List UInt8),([50]:List UInt8),20,1,0,0,false,0,false⟩:aa)
abbrev kq9:aa:=(⟨1,2,2,([51]:List UInt8),([50]:List UInt8),20,1,0,0,false,0,false⟩:aa)
abbrev kq10:aa:=(⟨1,1,2,([49]:List UInt8),([50]:List UInt8),20,1,5,1,false,0,false⟩:aa)
abbrev kq11:Event:=(⟨0,1,1,0,([]:List UInt8),([112,111,115,116,112,97,105,100]:List UInt8),1⟩:Event)
abbrev kq12:Sub:=(⟨0,0,0,([]:List UInt8),([]:List (List UInt8)),([]:List (List UInt8)),false,false⟩:Sub)
abbrev kq13:aj:=(⟨(⟨([]:List Range),([]:List aa),([]:List Head)⟩:aF),([]:List aC),([]:List aa),([]:List ag)⟩:aj)
abbrev CX (n:Nat):gD:=⟨9,1,n,none⟩
abbrev oR (n:Nat):gD:=⟨66,4,n,none⟩
abbrev Range.sn (n:Nat) (l:List Range):gD:=⟨106,3,n,some (l.map Range.row)⟩
abbrev ni (n:Nat):gD:=⟨106,3,n,none⟩
abbrev Range.nD (l:List Range):gD:=⟨106,3,l.length,some (l.map Range.row)⟩
abbrev bo (n:Nat):gD:=⟨58,12,n,none⟩
abbrev aa.qw (n:Nat) (l:List aa):gD:=⟨58,12,n,some (l.map aa.row)⟩
abbrev G2 (n:Nat):gD:=⟨3,1,n,none⟩
abbrev aa.nj (l:List aa):gD:=⟨58,12,l.length,some (l.map aa.row)⟩
abbrev ag.yK (l:List ag):gD:=⟨66,4,l.length,some (l.map ag.row)⟩
abbrev ag.AZ (n:Nat) (l:List ag):gD:=⟨66,4,n,some (l.map ag.row)⟩
abbrev B6 (n:Nat):gD:=⟨76,4,n,none⟩
abbrev nQ (n:Nat):gD:=⟨98,8,n,none⟩
abbrev DJ (n:Nat):gD:=⟨175,6,n,none⟩
abbrev aC.pn (l:List aC):gD:=⟨54,12,l.length,some (l.map aC.row)⟩
abbrev aC.SJ (n:Nat) (l:List aC):gD:=⟨54,12,n,some (l.map aC.row)⟩
abbrev Sub.B7 (n:Nat) (l:List Sub):gD:=⟨98,8,n,some (l.map Sub.row)⟩
abbrev Sub.Mg (l:List Sub):gD:=⟨98,8,l.length,some (l.map Sub.row)⟩
abbrev Ig (n:Nat):gD:=⟨54,12,n,none⟩
def uK (n:Int):Option (List UInt8):=ck (-9223372036854775808<=n/\n<=9223372036854775807) (some (Go.Lib.itoa n))
def Mh (xs:List (List UInt8)) (sep:List UInt8):Option (List UInt8):=ck (xs.length<=1000000000/\(Go.Lib.join xs sep).length<=1000000000) (some (Go.Lib.join xs sep))
def eU (xs:List aa):Option (List aa):=ck (xs.length<=1000000000) (some xs)
def iy (xs:List Range):Option (List Range):=ck (xs.length<=1000000000) (some xs)
def ml (xs:List Head):Option (List Head):=ck (xs.length<=1000000000) (some xs)
def po (i:Int) (l l':List aa):Option (List aa):=ck (0<=i/\i<=(l.length:Int)/\1<=l'.length/\l.length+l'.length<=1000000000) (some (l.take i.toNat++l'++l.drop i.toNat))
def qW (i:Int) (l l':List Range):Option (List Range):=ck (0<=i/\i<=(l.length:Int)/\1<=l'.length/\l.length+l'.length<=1000000000) (some (l.take i.toNat++l'++l.drop i.toNat))
def r8 (i j:Int) (l' l:List aa):Option (List aa):=ck (0<=i/\i<j/\j<=(l.length:Int)/\(l'.length:Int)<=j-i/\l.length<=1000000000) (some (l.take i.toNat++l'++l.drop j.toNat))
def oa (i j:Int) (l:List Range):Option (List Range):=ck (0<=i/\i<j/\j<=(l.length:Int)/\l.length<=1000000000) (some (l.take i.toNat++l.drop j.toNat))
def Dh (x:ag):List ag->List ag
 | []=>[x]
 | y::l=>if x.index<=y.index then x::y::l else y::Dh x l
def G3:List ag->List ag
 | []=>[]
 | x::l=>Dh x (G3 l)
def sG (l:List ag):Option (List ag):=ck (l.length<=1000000000/\(l.map (·.index)).Nodup) (some (G3 l))
def oc (xs:List ag):Option (List ag):=ck (xs.length<=1000000000) (some xs)
def sH (xs:List aC):Option (List aC):=ck (xs.length<=1000000000) (some xs)
def A0 (n:Int):Option (List aa):=ck (0<=n/\n<=1000000000) (some [])
def pq (jP:List aa):Option Bool :=
 some (decide ((jP.length:Int)<=30))
def nk (jP:List aa) (bB:Int):Option (Int ⊕ Bool) :=
 if ((decide (bB<(jP.length:Int))) && (decide (bB<31)))=true then (ck ((0:Int)<=bB/\bB<(jP.length:Int)) (ck ((!(decide ((((nth jP bB.toNat).a).length:Int) > 200)))=true->((0:Int)<=bB/\bB<(jP.length:Int))) (if ((decide ((((nth jP bB.toNat).a).length:Int) > 200)) || (decide ((((nth jP bB.toNat).b).length:Int) > 200)))=true then some (.inr false) else ck (cL (bB+1)) (some (.inl (bB+1)))))) else (pq jP).map (λz=>.inr z)
def qx (jP:List aa):Option Bool :=
 loop (λs=>nk jP s) 0
def iP (v0:aj):Option Bool :=
 (b9 (decide ((v0.usages.length:Int)<=30)) (qx v0.aS)).bind λy1=>(b9 ((decide ((v0.usages.length:Int)<=30)) && y1) (qx v0.aH.open_)).bind λy2=>some ((((((decide ((v0.usages.length:Int)<=30)) && y1) && y2) && (decide ((v0.bA.length:Int)<=30))) && (decide ((v0.aH.seen.length:Int)<=30))) && (decide ((v0.aH.aO.length:Int)<=30)))
def ki (v0:aj) (bI:Int):Option (Int ⊕ Bool) :=
 if ((decide (bI<(v0.usages.length:Int))) && (decide (bI<31)))=true then (ck ((0:Int)<=bI/\bI<(v0.usages.length:Int)) (ck ((!(decide ((((nth v0.usages bI.toNat).a).length:Int) > 200)))=true->((0:Int)<=bI/\bI<(v0.usages.length:Int))) (if ((decide ((((nth v0.usages bI.toNat).a).length:Int) > 200)) || (decide ((((nth v0.usages bI.toNat).b).length:Int) > 200)))=true then some (.inr false) else ck (cL (bI+1)) (some (.inl (bI+1)))))) else (iP v0).map (λz=>.inr z)
def rz (v0:aj):Option Bool :=
 loop (λs=>ki v0 s) 0
def pr (Ih:Bool):Option (List Event) :=
 if Ih=true then (ck (([(⟨0,1,1,0,([]:List UInt8),([112,111,115,116,112,97,105,100]:List UInt8),1⟩:Event),(⟨0,3,1,2,([]:List UInt8),([98,97,115,105,99]:List UInt8),0⟩:Event),(⟨0,5,0,2,([49]:List UInt8),([]:List UInt8),0⟩:Event)]:List Event).length+([(⟨10,5,0,2,([51]:List UInt8),([]:List UInt8),0⟩:Event)]:List Event).length<=1000000000) (some (([(⟨0,1,1,0,([]:List UInt8),([112,111,115,116,112,97,105,100]:List UInt8),1⟩:Event),(⟨0,3,1,2,([]:List UInt8),([98,97,115,105,99]:List UInt8),0⟩:Event),(⟨0,5,0,2,([49]:List UInt8),([]:List UInt8),0⟩:Event)]:List Event)++([(⟨10,5,0,2,([51]:List UInt8),([]:List UInt8),0⟩:Event)]:List Event)))) else some ([(⟨0,1,1,0,([]:List UInt8),([112,111,115,116,112,97,105,100]:List UInt8),1⟩:Event),(⟨0,3,1,2,([]:List UInt8),([98,97,115,105,99]:List UInt8),0⟩:Event),(⟨0,5,0,2,([49]:List UInt8),([]:List UInt8),0⟩:Event)]:List Event)
def pt (eO:Batch):Option Head :=
 some (⟨eO.source,eO.number,eO.format,(eO.records.length:Int)⟩:Head)
def iQ (yL:Int) (Ii:Int) (Ij:Int):Option Bool :=
 some ((decide (yL>=Ii)) && (decide (yL<=Ij)))
def jw (V7:Head):Option Int :=
 (iQ V7.source 1 99).bind λy1=>(b9 (!(!y1)) (iQ V7.number 1 999999999)).bind λy2=>if ((!y1) || (!y2))=true then some 6 else (iQ V7.format 1 3).bind λy3=>if (!y3)=true then some 7 else (iQ V7.count 0 4096).bind λy4=>if (!y4)=true then some 5 else some 0
def dE (yL:Int) (Ii:Int) (Ij:Int):Option Bool :=
 some ((decide (yL>=Ii)) && (decide (yL<=Ij)))
def pw (SK:UInt8):Option Bool :=
 some ((decide (SK>=48)) && (decide (SK<=57)))
def jx (b8:List UInt8):Option Bool :=
 some ((decide ((b8.length:Int)>=1)) && (decide ((b8.length:Int)<=15)))
def lX (b8:List UInt8) (sI:Int):Option (Int ⊕ Bool) :=
 if (decide (sI<(b8.length:Int)))=true then (ck ((0:Int)<=sI/\sI<(b8.length:Int)) ((pw (nth b8 sI.toNat)).bind λy1=>if (!y1)=true then some (.inr false) else ck (cL (sI+1)) (some (.inl (sI+1))))) else (jx b8).map (λz=>.inr z)
def kj (b8:List UInt8):Option Bool :=
 loop (λs=>lX b8 s) 0
def fg (v0:aa) (B8:Int):Option Int :=
 (dE v0.source 1 99).bind λy1=>(b9 (!(!y1)) (dE v0.aI 1 999999999)).bind λy2=>if ((!y1) || (!y2))=true then some 6 else (dE v0.kind 1 4).bind λy3=>if (!y3)=true then some 7 else (kj v0.a).bind λy4=>(b9 (!(!y4)) (kj v0.b)).bind λy5=>if ((!y4) || ((!y5) && (!(((v0.kind==3) || (v0.kind==4)) && (v0.b==([]:List UInt8))))))=true then some 12 else (dE v0.start 0 12622780799).bind λy6=>if (!y6)=true then some 15 else (dE v0.cU 0 B8).bind λy7=>if (!y7)=true then some 6 else ck ((v0.kind==1)=true->(cL (v0.start+v0.cU))) (if ((v0.kind==1) && (decide ((v0.start+v0.cU) > 12622780800)))=true then some 15 else (dE v0.call 0 999999999).bind λy8=>(b9 (!(!y8)) (dE v0.part 0 99)).bind λy9=>if ((!y8) || (!y9))=true then some 6 else if (((v0.part==0) != (v0.call==0)) || (v0.last && (v0.part==0)))=true then some 8 else (dE v0.c9 0 999).bind λV8=>if (!V8)=true then some 6 else if (v0.bS && (v0.c9==0))=true then some 8 else some 0)
def lB (v0:aa):Option Int :=
 if (v0.kind==1)=true then (fg v0 604800) else fg v0 1099511627776
def eP (Mi:List (List UInt8)):Option ((List UInt8)×Int) :=
 (Mh Mi ([32]:List UInt8)).bind λy6=>some (y6,0)
def fS (v0:aa) (wv:List (List UInt8)) (EF:List UInt8):Option ((List UInt8)×Int) :=
 (uK v0.c9).bind λy7=>ck (wv.length+([EF,y7]:List (List UInt8)).length<=1000000000) (eP (wv++([EF,y7]:List (List UInt8))))
def ed (v0:aa) (wv:List (List UInt8)):Option ((List UInt8)×Int) :=
 if (v0.c9 != 0)=true then (if v0.bS=true then (fS v0 wv ([105,110]:List UInt8)) else fS v0 wv ([111,117,116]:List UInt8)) else eP wv
def eQ (v0:aa) (xD:List UInt8):Option ((List UInt8)×Int) :=
 ck (cL (v0.kind-1)) (ck ((0:Int)<=v0.kind-1/\v0.kind-1<=v0.kind/\v0.kind<=(([118,116,100,99]:List UInt8).length:Int)) ((uK v0.source).bind λy2=>(uK v0.aI).bind λy3=>(uK v0.start).bind λy4=>(uK v0.cU).bind λy5=>if (v0.part != 0)=true then ((uK v0.call).bind λy8=>(uK v0.part).bind λy9=>ck (([(([118,116,100,99]:List UInt8).take v0.kind.toNat).drop (v0.kind-1).toNat,y2,y3,v0.a,xD,y4,y5]:List (List UInt8)).length+([([112,97,114,116]:List UInt8),y8,y9]:List (List UInt8)).length<=1000000000) (if v0.last=true then (ck ((([(([118,116,100,99]:List UInt8).take v0.kind.toNat).drop (v0.kind-1).toNat,y2,y3,v0.a,xD,y4,y5]:List (List UInt8))++([([112,97,114,116]:List UInt8),y8,y9]:List (List UInt8))).length+([([108,97,115,116]:List UInt8)]:List (List UInt8)).length<=1000000000) (ed v0 ((([(([118,116,100,99]:List UInt8).take v0.kind.toNat).drop (v0.kind-1).toNat,y2,y3,v0.a,xD,y4,y5]:List (List UInt8))++([([112,97,114,116]:List UInt8),y8,y9]:List (List UInt8)))++([([108,97,115,116]:List UInt8)]:List (List UInt8))))) else ed v0 (([(([118,116,100,99]:List UInt8).take v0.kind.toNat).drop (v0.kind-1).toNat,y2,y3,v0.a,xD,y4,y5]:List (List UInt8))++([([112,97,114,116]:List UInt8),y8,y9]:List (List UInt8))))) else ed v0 ([(([118,116,100,99]:List UInt8).take v0.kind.toNat).drop (v0.kind-1).toNat,y2,y3,v0.a,xD,y4,y5]:List (List UInt8))))
def fv (v0:aa):Option ((List UInt8)×Int) :=
 (lB v0).bind λy1=>if (y1 != 0)=true then some (([]:List UInt8),y1) else if (v0.b==([]:List UInt8))=true then (eQ v0 ([45]:List UInt8)) else eQ v0 v0.b
def gr (eO:Batch) (vl:Int):Option (Int ⊕ Int) :=
 if (decide (vl<(eO.records.length:Int)))=true then (ck ((0:Int)<=vl/\vl<(eO.records.length:Int)) ((fv (nth eO.records vl.toNat)).bind λy3=>if (y3.2 != 0)=true then some (.inr y3.2) else if ((nth eO.records vl.toNat).source != eO.source)=true then some (.inr 8) else ck (cL (vl+1)) (some (.inl (vl+1))))) else some (.inr 0)
def od (eO:Batch):Option Int :=
 (pt eO).bind λy1=>(jw y1).bind λy2=>if (y2 != 0)=true then some y2 else loop (λs=>gr eO s) 0
def qy (bM:aF) (bF:Int) (aE:Int):Option (Int ⊕ Int) :=
 if (decide (aE>=0))=true then (ck ((0:Int)<=aE/\aE<(bM.aO.length:Int)) (if (((nth bM.aO aE.toNat).source)==bF)=true then (ck ((0:Int)<=aE/\aE<(bM.aO.length:Int)) (ck (cL (((nth bM.aO aE.toNat).number)+1)) (some (.inr (((nth bM.aO aE.toNat).number)+1))))) else ck (cL (aE-1)) (some (.inl (aE-1))))) else some (.inr 1)
def iB (bM:aF) (bF:Int):Option Int :=
 if ((decide (bF<1)) || (decide (bF > 99)))=true then some 0 else ck (cL ((bM.aO.length:Int) - 1)) (loop (λs=>qy bM bF s) ((bM.aO.length:Int) - 1))
def jy (nm:aa) (DK:bX):Option Int :=
 if ((decide (nm.start<DK.eA)) || (decide (nm.start > DK.iO)))=true then some 15 else some 0
def dY (gH:Int) (mm:Int):Option Bool :=
 some ((((decide (gH>=1)) && (decide (gH<=99))) && (decide (mm>=1))) && (decide (mm<=999999999)))
def jr (sZ:Int) (cV:(List Range)) (aR:Int) (aQ:Int):Option Bool :=
 ck ((0:Int)<=sZ/\sZ<(cV.length:Int)) (some ((decide ((nth cV sZ.toNat).source > aR)) || ((((nth cV sZ.toNat).source)==aR) && (decide (((nth cV sZ.toNat).iu)>=aQ)))))
def iH (cV:(List Range)) (aR:Int) (aQ:Int) (aE:Int) (ib:Int):Option ((Int×Int) ⊕ Int) :=
 if (decide (aE<ib))=true then (ck (cL (aE+ib)) (ck ((0:Int)<=1) ((jr (IntKind.wrap .i64 (Int.fdiv (IntKind.wrap .u64 (aE+ib)) (2 ^ (min (Int.toNat (1)) 64)))) cV aR aQ).bind λy1=>if (!y1)=true then (ck (cL ((IntKind.wrap .i64 (Int.fdiv (IntKind.wrap .u64 (aE+ib)) (2 ^ (min (Int.toNat (1)) 64))))+1)) (some (.inl ((IntKind.wrap .i64 (Int.fdiv (IntKind.wrap .u64 (aE+ib)) (2 ^ (min (Int.toNat (1)) 64))))+1,ib)))) else some (.inl (aE,IntKind.wrap .i64 (Int.fdiv (IntKind.wrap .u64 (aE+ib)) (2 ^ (min (Int.toNat (1)) 64)))))))) else some (.inr aE)
def jQ (yL:Int) (cV:(List Range)) (aR:Int) (aQ:Int):Option Int :=
 loop (λs=>iH cV aR aQ s.1 s.2) (0,yL)
def oe (aU:List Range) (bF:Int) (cF:Int):Option Int :=
 (jQ (aU.length:Int) aU bF cF).bind λy1=>some y1
def mn (aU:List Range) (bF:Int) (cF:Int):Option Bool :=
 (oe aU bF cF).bind λy1=>(dY bF cF).bind λy2=>ck ((y2 && (decide (y1<(aU.length:Int))))=true->((0:Int)<=y1/\y1<(aU.length:Int))) (ck (((y2 && (decide (y1<(aU.length:Int)))) && (((nth aU y1.toNat).source)==bF))=true->((0:Int)<=y1/\y1<(aU.length:Int))) (some (((y2 && (decide (y1<(aU.length:Int)))) && (((nth aU y1.toNat).source)==bF)) && (decide (((nth aU y1.toNat).from_)<=cF)))))
def lM (fw:Range) (gi:Range):Option Bool :=
 ck ((fw.source==gi.source)=true->(cL (fw.iu+1))) (some ((fw.source==gi.source) && ((fw.iu+1)==gi.from_)))
def km (sZ:Int) (sr:Int) (aR:(List aa)) (aW:List ag):Option (List ag) :=
 ck ((0:Int)<=sZ/\sZ<(aR.length:Int)) (ck ((0:Int)<=sZ/\sZ<(aR.length:Int)) (ck (aW.length+([(⟨(nth aR sZ.toNat).source,(nth aR sZ.toNat).aI,sZ,sr⟩:ag)]:List ag).length<=1000000000) (some (aW++([(⟨(nth aR sZ.toNat).source,(nth aR sZ.toNat).aI,sZ,sr⟩:ag)]:List ag)))))
def iR (sZ:Int) (aR:Int) (aQ:Int) (aW:List Range):Option Bool :=
 ck ((0:Int)<=sZ/\sZ<(aW.length:Int)) (ck (sZ.toNat<aW.length) (some ((decide ((nth aW sZ.toNat).source > aR)) || ((((nth aW sZ.toNat).source)==aR) && (decide (((nth aW sZ.toNat).iu)>=aQ))))))
def j7 (aR:Int) (aQ:Int) (aW:List Range) (aE:Int) (ib:Int):Option ((Int×Int) ⊕ Int) :=
 if (decide (aE<ib))=true then (ck (cL (aE+ib)) (ck ((0:Int)<=1) ((iR (IntKind.wrap .i64 (Int.fdiv (IntKind.wrap .u64 (aE+ib)) (2 ^ (min (Int.toNat (1)) 64)))) aR aQ aW).bind λy1=>if (!y1)=true then (ck (cL ((IntKind.wrap .i64 (Int.fdiv (IntKind.wrap .u64 (aE+ib)) (2 ^ (min (Int.toNat (1)) 64))))+1)) (some (.inl ((IntKind.wrap .i64 (Int.fdiv (IntKind.wrap .u64 (aE+ib)) (2 ^ (min (Int.toNat (1)) 64))))+1,ib)))) else some (.inl (aE,IntKind.wrap .i64 (Int.fdiv (IntKind.wrap .u64 (aE+ib)) (2 ^ (min (Int.toNat (1)) 64)))))))) else some (.inr aE)
def kn (yL:Int) (aR:Int) (aQ:Int) (aW:List Range):Option Int :=
 loop (λs=>j7 aR aQ aW s.1 s.2) (0,yL)
def iC (bF:Int) (cF:Int) (aW:List Range):Option Int :=
 (kn (aW.length:Int) bF cF aW).bind λy1=>some y1
def rA (bF:Int) (cF:Int) (aW:List Range):Option Bool :=
 (iC bF cF aW).bind λy1=>(dY bF cF).bind λy2=>ck ((y2 && (decide (y1<(aW.length:Int))))=true->((0:Int)<=y1/\y1<(aW.length:Int))) (ck ((y2 && (decide (y1<(aW.length:Int))))=true->(y1.toNat<aW.length)) (ck (((y2 && (decide (y1<(aW.length:Int)))) && (((nth aW y1.toNat).source)==bF))=true->((0:Int)<=y1/\y1<(aW.length:Int))) (ck (((y2 && (decide (y1<(aW.length:Int)))) && (((nth aW y1.toNat).source)==bF))=true->(y1.toNat<aW.length)) (some (((y2 && (decide (y1<(aW.length:Int)))) && (((nth aW y1.toNat).source)==bF)) && (decide (((nth aW y1.toNat).from_)<=cF)))))))
def fJ (y1:Int) (eH:List Range):Option (List Range) :=
 ck ((decide (y1 > 0))=true->(cL (y1-1))) (ck ((decide (y1 > 0))=true->((0:Int)<=(y1-1)/\(y1-1)<(eH.length:Int))) (ck ((decide (y1 > 0))=true->((y1-1).toNat<eH.length)) (ck ((decide (y1 > 0))=true->((0:Int)<=y1/\y1<(eH.length:Int))) (ck ((decide (y1 > 0))=true->(y1.toNat<eH.length)) ((b9 (decide (y1 > 0)) (lM (nth eH (y1-1).toNat) (nth eH y1.toNat))).bind λy3=>if ((decide (y1 > 0)) && y3)=true then (ck (cL (y1-1)) (ck ((0:Int)<=y1/\y1<(eH.length:Int)) (ck (y1.toNat<eH.length) (ck ((0:Int)<=(y1-1)/\(y1-1)<(eH.length:Int)) (ck ((y1-1).toNat<eH.length) (ck (cL (y1+1)) ((oa y1 (y1+1) (eH.set (y1-1).toNat (⟨(nth eH (y1-1).toNat).source,(nth eH (y1-1).toNat).from_,(nth eH y1.toNat).iu⟩:Range))).bind λy4=>some y4))))))) else some eH)))))
def gI (v1:Int) (v2:Int) (aW:List Range):Option (List Range) :=
 (iC v1 v2 aW).bind λy1=>(qW y1 aW ([(⟨v1,v2,v2⟩:Range)]:List Range)).bind λy2=>ck (cL (y1+1)) (ck ((decide ((y1+1)<(y2.length:Int)))=true->((0:Int)<=y1/\y1<(y2.length:Int))) (ck ((decide ((y1+1)<(y2.length:Int)))=true->(y1.toNat<y2.length)) (ck ((decide ((y1+1)<(y2.length:Int)))=true->(cL (y1+1))) (ck ((decide ((y1+1)<(y2.length:Int)))=true->((0:Int)<=(y1+1)/\(y1+1)<(y2.length:Int))) (ck ((decide ((y1+1)<(y2.length:Int)))=true->((y1+1).toNat<y2.length)) ((b9 (decide ((y1+1)<(y2.length:Int))) (lM (nth y2 y1.toNat) (nth y2 (y1+1).toNat))).bind λy5=>if ((decide ((y1+1)<(y2.length:Int))) && y5)=true then (ck (cL (y1+1)) (ck ((0:Int)<=(y1+1)/\(y1+1)<(y2.length:Int)) (ck ((y1+1).toNat<y2.length) (ck ((0:Int)<=y1/\y1<(y2.length:Int)) (ck (y1.toNat<y2.length) (ck (cL (y1+1)) (ck (cL (y1+2)) ((oa (y1+1) (y1+2) (y2.set y1.toNat (⟨(nth y2 y1.toNat).source,(nth y2 y1.toNat).from_,(nth y2 (y1+1).toNat).iu⟩:Range))).bind λy6=>fJ y1 y6)))))))) else fJ y1 y2))))))
def jz (CY:List Range) (wx:List aa) (ko:List ag):Option ((List Range)×(List aa)×(List ag)) :=
 some (CY,wx,ko)
def lY (bW:List aa) (bn:List Range) (ji:List aa) (dp:Int) (cw:List ag):Option ((List Range×List aa×Int×List ag) ⊕ ((List Range)×(List aa)×(List ag))) :=
 if (decide (dp<(bW.length:Int)))=true then (ck ((0:Int)<=dp/\dp<(bW.length:Int)) ((dY (nth bW dp.toNat).source (nth bW dp.toNat).aI).bind λy2=>if (!y2)=true then ((km dp 6 bW cw).bind λy3=>ck (cL (dp+1)) (some (.inl (bn,ji,dp+1,y3)))) else (rA (nth bW dp.toNat).source (nth bW dp.toNat).aI bn).bind λy4=>if y4=true then ((km dp 13 bW cw).bind λy5=>ck (cL (dp+1)) (some (.inl (bn,ji,dp+1,y5)))) else (gI (nth bW dp.toNat).source (nth bW dp.toNat).aI bn).bind λy6=>ck (ji.length+([nth bW dp.toNat]:List aa).length<=1000000000) (ck (cL (dp+1)) (some (.inl (y6,ji++([nth bW dp.toNat]:List aa),dp+1,cw)))))) else (jz bn ji cw).map (λz=>.inr z)
def mo (aU:List Range) (bW:List aa):Option ((List Range)×(List aa)×(List ag)) :=
 (iy aU).bind λy1=>loop (λs=>lY bW s.1 s.2.1 s.2.2.1 s.2.2.2) (y1,([]:List aa),0,([]:List ag))
def lC (Jq:Int):Option Bool :=
 some (Jq != Jq)
def fK (Jq:Int) (Xt:Int):Option Int :=
 (lC Jq).bind λy1=>(lC Xt).bind λy2=>if y1=true then (if y2=true then some 0 else some (-1)) else if y2=true then some 1 else if (decide (Jq<Xt))=true then some (-1) else if (decide (Jq > Xt))=true then some 1 else some 0
def oG (qz:List Int) (aZ:Int):Option (Int ⊕ Int) :=
 if (decide (aZ<(qz.length:Int)))=true then (ck ((0:Int)<=aZ/\aZ<(qz.length:Int)) (if ((nth qz aZ.toNat) != 0)=true then some (.inr (nth qz aZ.toNat)) else ck (cL (aZ+1)) (some (.inl (aZ+1))))) else some (.inr 0)
def pz (qz:List Int):Option Int :=
 loop (λs=>oG qz s) 0
def iS (fw:aa) (gi:aa):Option Int :=
 (fK fw.source gi.source).bind λy1=>(fK fw.call gi.call).bind λy2=>(fK fw.part gi.part).bind λy3=>(pz ([y1,y2,y3]:List Int)).bind λy4=>some y4
def c6 (nm:aa):Option aV :=
 some (⟨nm.source,nm.call⟩:aV)
def lq (nm:aa) (cV:aV):Option Bool :=
 (c6 nm).bind λy1=>some (ew (aV.bP y1) (aV.bP cV))
def lZ (nm:aa):Option aa :=
 some (⟨nm.source,nm.aI,nm.kind,nm.a,nm.b,nm.start,nm.cU,0,0,false,nm.c9,nm.bS⟩:aa)
def dF (nm:aa):Option Int :=
 (fv nm).bind λy1=>some y1.2
def gJ (nm:aa):Option bD :=
 (c6 nm).bind λy1=>some (⟨y1,nm.kind,nm.a,nm.b,nm.c9,nm.bS⟩:bD)
def gK (y1:aa) (pA:Int):Option (aa×Bool) :=
 (dF (⟨y1.source,y1.aI,y1.kind,y1.a,y1.b,y1.start,pA,y1.call,y1.part,y1.last,y1.c9,y1.bS⟩:aa)).bind λy2=>if (y2 != 0)=true then some ((⟨0,0,0,([]:List UInt8),([]:List UInt8),0,0,0,0,false,0,false⟩:aa),false) else some ((⟨y1.source,y1.aI,y1.kind,y1.a,y1.b,y1.start,pA,y1.call,y1.part,y1.last,y1.c9,y1.bS⟩:aa),true)
def jA (aA:List aa) (y1:aa) (dp:Int) (fh:Int):Option ((Int×Int) ⊕ (aa×Bool)) :=
 if (decide (dp<(aA.length:Int)))=true then (ck ((0:Int)<=dp/\dp<(aA.length:Int)) ((b9 (!(((nth aA dp.toNat).part)==0)) (dF (nth aA dp.toNat))).bind λy3=>(b9 (!((((nth aA dp.toNat).part)==0) || (y3 != 0))) (gJ (nth aA dp.toNat))).bind λy4=>ck ((!((((nth aA dp.toNat).part)==0) || (y3 != 0)))=true->((0:Int)<=0/\0<(aA.length:Int))) ((b9 (!((((nth aA dp.toNat).part)==0) || (y3 != 0))) (gJ (nth aA (Int.toNat (0))))).bind λy5=>ck ((!(((((nth aA dp.toNat).part)==0) || (y3 != 0)) || (!(ew (bD.bP y4) (bD.bP y5)))))=true->(cL (1099511627776-fh))) (if ((((((nth aA dp.toNat).part)==0) || (y3 != 0)) || (!(ew (bD.bP y4) (bD.bP y5)))) || (decide ((nth aA dp.toNat).cU > (1099511627776-fh))))=true then some (.inr ((⟨0,0,0,([]:List UInt8),([]:List UInt8),0,0,0,0,false,0,false⟩:aa),false)) else ck (cL (fh+((nth aA dp.toNat).cU))) (ck (cL (dp+1)) (some (.inl (dp+1,fh+((nth aA dp.toNat).cU))))))))) else (gK y1 fh).map (λz=>.inr z)
def jB (aA:List aa):Option (aa×Bool) :=
 if ((aA.length:Int)==0)=true then some ((⟨0,0,0,([]:List UInt8),([]:List UInt8),0,0,0,0,false,0,false⟩:aa),false) else ck ((0:Int)<=0/\0<(aA.length:Int)) ((lZ (nth aA (Int.toNat (0)))).bind λy1=>loop (λs=>jA aA y1 s.1 s.2) (0,0))
def fx (aA:List aa):Option (aa×Bool) :=
 (jB aA).bind λy1=>some (y1.1,y1.2)
def gT (aA:List aa) (aZ:Int):Option (Int ⊕ (aa×Bool)) :=
 if (decide (aZ<(aA.length:Int)))=true then (ck ((0:Int)<=aZ/\aZ<(aA.length:Int)) (ck (cL (aZ+1)) (ck ((!((nth aA aZ.toNat).part != (aZ+1)))=true->(cL ((aA.length:Int) - 1))) (if (((nth aA aZ.toNat).part != (aZ+1)) || ((nth aA aZ.toNat).last != (aZ==((aA.length:Int) - 1))))=true then some (.inr ((⟨0,0,0,([]:List UInt8),([]:List UInt8),0,0,0,0,false,0,false⟩:aa),false)) else ck (cL (aZ+1)) (some (.inl (aZ+1))))))) else (fx aA).map (λz=>.inr z)
def gL (aA:List aa):Option (aa×Bool) :=
 loop (λs=>gT aA s) 0
def lr (cV:aV) (aW:List aa) (aZ:Int):Option (Int ⊕ Int) :=
 if (decide (aZ<(aW.length:Int)))=true then (ck ((0:Int)<=aZ/\aZ<(aW.length:Int)) (ck (aZ.toNat<aW.length) ((lq (nth aW aZ.toNat) cV).bind λy1=>if y1=true then some (.inr aZ) else ck (cL (aZ+1)) (some (.inl (aZ+1)))))) else some (.inr (-1))
def lD (cV:aV) (aW:List aa):Option Int :=
 loop (λs=>lr cV aW s) 0
def j8 (OO:aV) (aW:List aa) (y1:Int) (jR:Int):Option (Int ⊕ (Int×Int)) :=
 ck ((decide (jR<(aW.length:Int)))=true->((0:Int)<=jR/\jR<(aW.length:Int))) (ck ((decide (jR<(aW.length:Int)))=true->(jR.toNat<aW.length)) ((b9 (decide (jR<(aW.length:Int))) (c6 (nth aW jR.toNat))).bind λy2=>if ((decide (jR<(aW.length:Int))) && (ew (aV.bP y2) (aV.bP OO)))=true then (ck (cL (jR+1)) (some (.inl (jR+1)))) else some (.inr (y1,jR))))
def kp (OO:aV) (aW:List aa):Option (Int×Int) :=
 (lD OO aW).bind λy1=>if (decide (y1<0))=true then some (0,0) else loop (λs=>j8 OO aW y1 s) y1
def ga (aA:List aa) (lu:Bool) (eB:List (Int×Int)) (og:List Int) (jn:Int):Option ((List Int×Int) ⊕ (List Int)) :=
 if (!(aB eB jn).isSome)=true then some (.inr og) else ck (og.length+([(aB eB jn).getD 0]:List Int).length<=1000000000) (ck (lu=true->((0:Int)<=((aB eB jn).getD 0)/\((aB eB jn).getD 0)<(aA.length:Int))) (ck (lu=true->(((aB eB jn).getD 0).toNat<aA.length)) (if (lu && (nth aA ((aB eB jn).getD 0).toNat).last)=true then some (.inr (og++([(aB eB jn).getD 0]:List Int))) else ck (cL (jn+1)) (some (.inl (og++([(aB eB jn).getD 0]:List Int),jn+1))))))
def eL (aA:List aa) (lu:Bool) (eB:List (Int×Int)):Option (List Int) :=
 loop (λs=>ga aA lu eB s.1 s.2) (([]:List Int),1)
def dN (aA:List aa) (lu:Bool) (iT:Int) (eC:List (Int×Int)):Option ((Int×(List (Int×Int))) ⊕ (List Int)) :=
 if (decide (iT<(aA.length:Int)))=true then (ck ((0:Int)<=iT/\iT<(aA.length:Int)) (ck (iT.toNat<aA.length) (if (!(aB eC (nth aA iT.toNat).part).isSome)=true then (ck (cL (iT+1)) (some (.inl (iT+1,da eC (nth aA iT.toNat).part iT)))) else ck (cL (iT+1)) (some (.inl (iT+1,eC)))))) else (eL aA lu eC).map (λz=>.inr z)
def fL (aA:List aa) (lu:Bool):Option (List Int) :=
 loop (λs=>dN aA lu s.1 s.2) (0,([]:List (Int×Int)))
def ic (aA:List aa) (gZ:List aa) (eB:List (Int×Bool)) (iU:List aa) (kZ:Int):Option ((List aa×Int) ⊕ ((List aa)×(List aa))) :=
 if (decide (kZ<(aA.length:Int)))=true then (ck ((0:Int)<=kZ/\kZ<(aA.length:Int)) (ck (kZ.toNat<aA.length) (if (!((aB eB kZ).getD false))=true then (ck (iU.length+([nth aA kZ.toNat]:List aa).length<=1000000000) (ck (cL (kZ+1)) (some (.inl (iU++([nth aA kZ.toNat]:List aa),kZ+1))))) else ck (cL (kZ+1)) (some (.inl (iU,kZ+1)))))) else some (.inr (gZ,iU))
def ig (aA:List aa) (gZ:List aa) (eB:List (Int×Bool)):Option ((List aa)×(List aa)) :=
 loop (λs=>ic aA gZ eB s.1 s.2) (([]:List aa),0)
def fT (aA:List aa) (kq:List Int) (hC:List aa) (kr:Int) (eC:List (Int×Bool)):Option ((List aa×Int×(List (Int×Bool))) ⊕ ((List aa)×(List aa))) :=
 if (decide (kr<(kq.length:Int)))=true then (ck ((0:Int)<=kr/\kr<(kq.length:Int)) (ck ((0:Int)<=(nth kq kr.toNat)/\(nth kq kr.toNat)<(aA.length:Int)) (ck ((nth kq kr.toNat).toNat<aA.length) (ck (hC.length+([nth aA (nth kq kr.toNat).toNat]:List aa).length<=1000000000) (ck (cL (kr+1)) (some (.inl (hC++([nth aA (nth kq kr.toNat).toNat]:List aa),kr+1,da eC (nth kq kr.toNat) true)))))))) else (ig aA hC eC).map (λz=>.inr z)
def kt (aA:List aa) (kq:List Int):Option ((List aa)×(List aa)) :=
 loop (λs=>fT aA kq s.1 s.2.1 s.2.2) (([]:List aa),0,([]:List (Int×Bool)))
def fM (DL:aV) (j1:List aa) (gU:List aa):Option ((List aa×List aa) ⊕ ((List aa)×(List aa))) :=
 (kp DL j1).bind λy1=>ck ((0:Int)<=y1.1/\y1.1<=y1.2/\y1.2<=(j1.length:Int)) (ck ((0:Int)<=y1.1/\y1.1<=y1.2/\y1.2<=(j1.length:Int)) ((fL ((j1.take y1.2.toNat).drop y1.1.toNat) true).bind λy2=>(kt ((j1.take y1.2.toNat).drop y1.1.toNat) y2).bind λy3=>(gL y3.1).bind λy4=>if (!y4.2)=true then some (.inr (j1,gU)) else (r8 y1.1 y1.2 y3.2 j1).bind λy5=>ck (gU.length+([y4.1]:List aa).length<=1000000000) (some (.inl (y5,gU++([y4.1]:List aa))))))
def ij (DL:aV) (aW:List aa) (j2:List aa):Option ((List aa)×(List aa)) :=
 loop (λs=>fM DL s.1 s.2) (aW,j2)
def fU (bg:List aa) (bn:List aa) (dK:List aa) (dL:Int) (yr:Int):Option ((List aa×List aa×Int) ⊕ ((List aa)×(List aa))) :=
 (po yr bn ([nth bg dL.toNat]:List aa)).bind λy2=>(c6 (nth bg dL.toNat)).bind λy3=>(ij y3 y2 dK).bind λy4=>ck (cL (dL+1)) (some (.inl (y4.1,y4.2,dL+1)))
def ik (bg:List aa) (bn:List aa) (dK:List aa) (dL:Int) (gB:Int):Option (Int ⊕ ((List aa×List aa×Int) ⊕ ((List aa)×(List aa)))) :=
 ck ((decide (gB<(bn.length:Int)))=true->((0:Int)<=gB/\gB<(bn.length:Int))) (ck ((decide (gB<(bn.length:Int)))=true->(gB.toNat<bn.length)) ((b9 (decide (gB<(bn.length:Int))) (iS (nth bn gB.toNat) (nth bg dL.toNat))).bind λy5=>if ((decide (gB<(bn.length:Int))) && (decide (y5<=0)))=true then (ck (cL (gB+1)) (some (.inl (gB+1)))) else (fU bg bn dK dL gB).map (λz=>.inr z)))
def j9 (bg:List aa) (bn:List aa) (dK:List aa) (dL:Int):Option ((List aa×List aa×Int) ⊕ ((List aa)×(List aa))) :=
 if (decide (dL<(bg.length:Int)))=true then (ck ((0:Int)<=dL/\dL<(bg.length:Int)) (if (((nth bg dL.toNat).part)==0)=true then (ck (dK.length+([nth bg dL.toNat]:List aa).length<=1000000000) (ck (cL (dL+1)) (some (.inl (bn,dK++([nth bg dL.toNat]:List aa),dL+1))))) else loop (λs=>ik bg bn dK dL s) 0)) else some (.inr (dK,bn))
def iI (db:List aa) (bg:List aa):Option ((List aa)×(List aa)) :=
 (eU db).bind λy1=>loop (λs=>j9 bg s.1 s.2.1 s.2.2) (y1,([]:List aa),0)
def gv (cA:List aa) (DK:bX) (eI:List ag) (qA:List Int) (bt:Int):Option ((List ag×List Int×Int) ⊕ ((List Int)×(List ag))) :=
 if (decide (bt<(cA.length:Int)))=true then (ck ((0:Int)<=bt/\bt<(cA.length:Int)) ((jy (nth cA bt.toNat) DK).bind λy1=>if (y1 != 0)=true then (ck (eI.length+([(⟨(nth cA bt.toNat).source,(nth cA bt.toNat).aI,bt,y1⟩:ag)]:List ag).length<=1000000000) (ck (cL (bt+1)) (some (.inl (eI++([(⟨(nth cA bt.toNat).source,(nth cA bt.toNat).aI,bt,y1⟩:ag)]:List ag),qA,bt+1))))) else ck (qA.length+([bt]:List Int).length<=1000000000) (ck (cL (bt+1)) (some (.inl (eI,qA++([bt]:List Int),bt+1)))))) else some (.inr (qA,eI))
def lE (cA:List aa) (DK:bX):Option ((List Int)×(List ag)) :=
 loop (λs=>gv cA DK s.1 s.2.1 s.2.2) (([]:List ag),([]:List Int),0)
def oH (bM:aF):Option ((List Range)×(List aa)×(List Head)) :=
 (iy bM.seen).bind λy1=>(eU bM.open_).bind λy2=>(ml bM.aO).bind λy3=>some (y1,y2,y3)
def fi (v1:Batch) (y4:(List Range)×(List aa)×(List Head)) (y5:(List Range)×(List aa)×(List ag)) (CZ:List ag):Option (aF×(List aa)×(List ag)×Int) :=
 (sG CZ).bind λy6=>(iI y4.2.1 y5.2.1).bind λy7=>ck (y4.2.2.length+([(⟨v1.source,v1.number,v1.format,(v1.records.length:Int)⟩:Head)]:List Head).length<=1000000000) (some ((⟨y5.1,y7.2,y4.2.2++([(⟨v1.source,v1.number,v1.format,(v1.records.length:Int)⟩:Head)]:List Head)⟩:aF),y7.1,y6,0))
def iV (v1:Batch) (y3:(List Int)×(List ag)) (y4:(List Range)×(List aa)×(List Head)) (y5:(List Range)×(List aa)×(List ag)) (bn:List ag) (fW:Int):Option ((List ag×Int) ⊕ (aF×(List aa)×(List ag)×Int)) :=
 if (decide (fW<(y5.2.2.length:Int)))=true then (ck ((0:Int)<=fW/\fW<(y5.2.2.length:Int)) (ck ((0:Int)<=((nth y5.2.2 fW.toNat).index)/\((nth y5.2.2 fW.toNat).index)<(y3.1.length:Int)) (ck (bn.length+([(⟨(nth y5.2.2 fW.toNat).source,(nth y5.2.2 fW.toNat).aI,nth y3.1 ((nth y5.2.2 fW.toNat).index).toNat,(nth y5.2.2 fW.toNat).err⟩:ag)]:List ag).length<=1000000000) (ck (cL (fW+1)) (some (.inl (bn++([(⟨(nth y5.2.2 fW.toNat).source,(nth y5.2.2 fW.toNat).aI,nth y3.1 ((nth y5.2.2 fW.toNat).index).toNat,(nth y5.2.2 fW.toNat).err⟩:ag)]:List ag),fW+1))))))) else (fi v1 y4 y5 bn).map (λz=>.inr z)
def fj (v0:aF) (v1:Batch) (y3:(List Int)×(List ag)) (lf:List aa):Option (aF×(List aa)×(List ag)×Int) :=
 (oH v0).bind λy4=>(mo y4.1 lf).bind λy5=>loop (λs=>iV v1 y3 y4 y5 s.1 s.2) (y3.2,0)
def fk (v0:aF) (v1:Batch) (y3:(List Int)×(List ag)) (xE:List aa) (pB:Int):Option ((List aa×Int) ⊕ (aF×(List aa)×(List ag)×Int)) :=
 if (decide (pB<(y3.1.length:Int)))=true then (ck ((0:Int)<=pB/\pB<(y3.1.length:Int)) (ck ((0:Int)<=(nth y3.1 pB.toNat)/\(nth y3.1 pB.toNat)<(v1.records.length:Int)) (ck (xE.length+([nth v1.records (nth y3.1 pB.toNat).toNat]:List aa).length<=1000000000) (ck (cL (pB+1)) (some (.inl (xE++([nth v1.records (nth y3.1 pB.toNat).toNat]:List aa),pB+1))))))) else (fj v0 v1 y3 xE).map (λz=>.inr z)
def lF (v0:aF) (v1:Batch) (v2:bX):Option (aF×(List aa)×(List ag)×Int) :=
 (od v1).bind λy1=>if (y1 != 0)=true then some ((⟨([]:List Range),([]:List aa),([]:List Head)⟩:aF),([]:List aa),([]:List ag),y1) else (iB v0 v1.source).bind λy2=>if (v1.number != y2)=true then some ((⟨([]:List Range),([]:List aa),([]:List Head)⟩:aF),([]:List aa),([]:List ag),20) else (lE v1.records v2).bind λy3=>loop (λs=>fk v0 v1 y3 s.1 s.2) (([]:List aa),0)
def fN (b8:dq):Option (List UInt8) :=
 if b8.record.bS=true then some b8.record.b else some b8.record.a
def er (aL:List Int) (rY:Int) (bY:Int):Option (List Int) :=
 ck ((0:Int)<=bY/\bY<=(aL.length:Int)) (ck ((aL.take bY.toNat).length<=1000000000) (ck ((aL.take bY.toNat).length+([rY]:List Int).length<=1000000000) (ck ((0:Int)<=bY/\bY<=(aL.length:Int)) (ck (((aL.take bY.toNat)++([rY]:List Int)).length+(aL.drop bY.toNat).length<=1000000000) (some (((aL.take bY.toNat)++([rY]:List Int))++(aL.drop bY.toNat)))))))
def ku (aL:List Int) (rY:Int) (cT:Int):Option (Int ⊕ (List Int)) :=
 ck ((decide (cT<(aL.length:Int)))=true->((0:Int)<=cT/\cT<(aL.length:Int))) (if ((decide (cT<(aL.length:Int))) && (decide ((nth aL cT.toNat)<rY)))=true then (ck (cL (cT+1)) (some (.inl (cT+1)))) else (er aL rY cT).map (λz=>.inr z))
def fz (aL:List Int) (rY:Int):Option (List Int) :=
 loop (λs=>ku aL rY s) 0
def dG (aL:List (List UInt8)) (rY:List UInt8) (bY:Int):Option (List (List UInt8)) :=
 ck ((0:Int)<=bY/\bY<=(aL.length:Int)) (ck ((aL.take bY.toNat).length<=1000000000) (ck ((aL.take bY.toNat).length+([rY]:List (List UInt8)).length<=1000000000) (ck ((0:Int)<=bY/\bY<=(aL.length:Int)) (ck (((aL.take bY.toNat)++([rY]:List (List UInt8))).length+(aL.drop bY.toNat).length<=1000000000) (some (((aL.take bY.toNat)++([rY]:List (List UInt8)))++(aL.drop bY.toNat)))))))
def iW (aL:List (List UInt8)) (rY:List UInt8) (cT:Int):Option (Int ⊕ (List (List UInt8))) :=
 ck ((decide (cT<(aL.length:Int)))=true->((0:Int)<=cT/\cT<(aL.length:Int))) (if ((decide (cT<(aL.length:Int))) && (nO (nth aL cT.toNat) rY))=true then (ck (cL (cT+1)) (some (.inl (cT+1)))) else (dG aL rY cT).map (λz=>.inr z))
def et (aL:List (List UInt8)) (rY:List UInt8):Option (List (List UInt8)) :=
 loop (λs=>iW aL rY s) 0
def mq (aL:List (List UInt8)) (rY:List UInt8) (dr:List (List UInt8)) (bG:Int):Option ((List (List UInt8)×Int) ⊕ (List (List UInt8))) :=
 if (decide (bG<(aL.length:Int)))=true then (ck ((0:Int)<=bG/\bG<(aL.length:Int)) (if ((nth aL bG.toNat) != rY)=true then (ck (dr.length+([nth aL bG.toNat]:List (List UInt8)).length<=1000000000) (ck (cL (bG+1)) (some (.inl (dr++([nth aL bG.toNat]:List (List UInt8)),bG+1))))) else ck (cL (bG+1)) (some (.inl (dr,bG+1))))) else some (.inr dr)
def gV (aL:List (List UInt8)) (rY:List UInt8):Option (List (List UInt8)) :=
 loop (λs=>mq aL rY s.1 s.2) (([]:List (List UInt8)),0)
def nn:Option ((List (Int×al))×(List (Int×Sub))×(List (Int×Bool))×(List ((List UInt8)×Int))×(List (Int×Int))) :=
 some (([]:List (Int×al)),([]:List (Int×Sub)),([]:List (Int×Bool)),([]:List ((List UInt8)×Int)),([]:List (Int×Int)))
def oI (az:List Event) (FI:Int):Option ((List Event)×Int) :=
 some (az,FI)
def eV (v1:Sub) (v2:Event) (bz:List Int) (bj:List Int) (aR:List (Int×al)) (aQ:List (Int×Sub)) (bU:List (Int×Bool)) (bZ:List ((List UInt8)×Int)) (bN:List (Int×Int)):Option (Sub×(List ((List UInt8)×Int))) :=
 if (v2.kind==5)=true then ((et v1.numbers v2.number).bind λy1=>some ((⟨v1.id,v1.au,v1.since,v1.vk,y1,v1.cj,v1.bL,v1.family⟩:Sub),da bZ v2.number v2.sub)) else if (v2.kind==6)=true then ((gV v1.numbers v2.number).bind λy2=>some ((⟨v1.id,v1.au,v1.since,v1.vk,y2,v1.cj,v1.bL,v1.family⟩:Sub),ff bZ v2.number)) else if (v2.kind==7)=true then some ((⟨v1.id,v1.au,v1.since,v2.name,v1.numbers,v1.cj,v1.bL,v1.family⟩:Sub),bZ) else if (v2.kind==8)=true then ((et v1.cj v2.name).bind λy3=>some ((⟨v1.id,v1.au,v1.since,v1.vk,v1.numbers,y3,v1.bL,v1.family⟩:Sub),bZ)) else if (v2.kind==9)=true then ((gV v1.cj v2.name).bind λy4=>some ((⟨v1.id,v1.au,v1.since,v1.vk,v1.numbers,y4,v1.bL,v1.family⟩:Sub),bZ)) else if (v2.kind==10)=true then some ((⟨v1.id,v1.au,v1.since,v1.vk,v1.numbers,v1.cj,true,v1.family⟩:Sub),bZ) else if (v2.kind==11)=true then some ((⟨v1.id,v1.au,v1.since,v1.vk,v1.numbers,v1.cj,false,v1.family⟩:Sub),bZ) else if (v2.kind==12)=true then some ((⟨v1.id,v1.au,v1.since,v1.vk,v1.numbers,v1.cj,v1.bL,true⟩:Sub),bZ) else if (v2.kind==13)=true then some ((⟨v1.id,v1.au,v1.since,v1.vk,v1.numbers,v1.cj,v1.bL,false⟩:Sub),bZ) else some (v1,bZ)
def di (v1:Event) (bj:List Int) (aR:List (Int×al)) (aQ:List (Int×Sub)) (bU:List (Int×Bool)) (bZ:List ((List UInt8)×Int)) (bN:List (Int×Int)) (zY:List Int):Option ((List Int)×(List Int)×(List (Int×al))×(List (Int×Sub))×(List (Int×Bool))×(List ((List UInt8)×Int))×(List (Int×Int))) :=
 some (zY,bj,da aR v1.au (⟨v1.au,v1.at_,v1.value,(v1.name==([112,114,101,112,97,105,100]:List UInt8)),false,([]:List Int)⟩:al),aQ,bU,bZ,bN)
def dj (v1:Event) (bz:List Int) (aR:List (Int×al)) (aQ:List (Int×Sub)) (bU:List (Int×Bool)) (bZ:List ((List UInt8)×Int)) (bN:List (Int×Int)) (zZ:List Int):Option ((List Int)×(List Int)×(List (Int×al))×(List (Int×Sub))×(List (Int×Bool))×(List ((List UInt8)×Int))×(List (Int×Int))) :=
 ck (cL (((aB bN v1.au).getD 0)+1)) (some (bz,zZ,aR,da aQ v1.sub (⟨v1.sub,v1.au,v1.at_,v1.name,([]:List (List UInt8)),([]:List (List UInt8)),false,false⟩:Sub),da bU v1.sub true,bZ,da bN v1.au (((aB bN v1.au).getD 0)+1)))
def cC (v1:Event) (bz:List Int) (bj:List Int) (aR:List (Int×al)) (aQ:List (Int×Sub)) (bU:List (Int×Bool)) (bN:List (Int×Int)) (xF:List ((List UInt8)×Int)):Option ((List Int)×(List Int)×(List (Int×al))×(List (Int×Sub))×(List (Int×Bool))×(List ((List UInt8)×Int))×(List (Int×Int))) :=
 ck (cL (((aB bN ((aB aQ v1.sub).getD (⟨0,0,0,([]:List UInt8),([]:List (List UInt8)),([]:List (List UInt8)),false,false⟩:Sub)).au).getD 0) - 1)) (some (bz,bj,aR,ff aQ v1.sub,bU,xF,da bN ((aB aQ v1.sub).getD (⟨0,0,0,([]:List UInt8),([]:List (List UInt8)),([]:List (List UInt8)),false,false⟩:Sub)).au (((aB bN ((aB aQ v1.sub).getD (⟨0,0,0,([]:List UInt8),([]:List (List UInt8)),([]:List (List UInt8)),false,false⟩:Sub)).au).getD 0) - 1)))
def eM (v1:Event) (bz:List Int) (bj:List Int) (aR:List (Int×al)) (aQ:List (Int×Sub)) (bU:List (Int×Bool)) (bN:List (Int×Int)) (pC:Int) (mr:List ((List UInt8)×Int)):Option ((Int×(List ((List UInt8)×Int))) ⊕ ((List Int)×(List Int)×(List (Int×al))×(List (Int×Sub))×(List (Int×Bool))×(List ((List UInt8)×Int))×(List (Int×Int)))) :=
 if (decide (pC<((((aB aQ v1.sub).getD (⟨0,0,0,([]:List UInt8),([]:List (List UInt8)),([]:List (List UInt8)),false,false⟩:Sub)).numbers).length:Int)))=true then (ck ((0:Int)<=pC/\pC<((((aB aQ v1.sub).getD (⟨0,0,0,([]:List UInt8),([]:List (List UInt8)),([]:List (List UInt8)),false,false⟩:Sub)).numbers).length:Int)) (ck (cL (pC+1)) (some (.inl (pC+1,ff mr (nth ((aB aQ v1.sub).getD (⟨0,0,0,([]:List UInt8),([]:List (List UInt8)),([]:List (List UInt8)),false,false⟩:Sub)).numbers pC.toNat)))))) else (cC v1 bz bj aR aQ bU bN mr).map (λz=>.inr z)
def dm (v1:Event) (bz:List Int) (bj:List Int) (aR:List (Int×al)) (aQ:List (Int×Sub)) (bU:List (Int×Bool)) (bZ:List ((List UInt8)×Int)) (bN:List (Int×Int)) (B9:Bool):Option ((List Int)×(List Int)×(List (Int×al))×(List (Int×Sub))×(List (Int×Bool))×(List ((List UInt8)×Int))×(List (Int×Int))) :=
 if B9=true then some (bz,bj,aR,aQ,bU,bZ,bN) else if ((aB aQ v1.sub).isSome)=true then ((eV ((aB aQ v1.sub).getD (⟨0,0,0,([]:List UInt8),([]:List (List UInt8)),([]:List (List UInt8)),false,false⟩:Sub)) v1 bz bj aR aQ bU bZ bN).bind λy3=>some (bz,bj,aR,da aQ v1.sub y3.1,bU,y3.2,bN)) else some (bz,bj,aR,aQ,bU,bZ,bN)
def eK (v1:Event) (bz:List Int) (bj:List Int) (aR:List (Int×al)) (aQ:List (Int×Sub)) (bU:List (Int×Bool)) (bZ:List ((List UInt8)×Int)) (bN:List (Int×Int)):Option ((List Int)×(List Int)×(List (Int×al))×(List (Int×Sub))×(List (Int×Bool))×(List ((List UInt8)×Int))×(List (Int×Int))) :=
 if (v1.kind==1)=true then (if (!(aB aR v1.au).isSome)=true then ((fz bz v1.au).bind λy1=>di v1 bj aR aQ bU bZ bN y1) else di v1 bj aR aQ bU bZ bN bz) else if (v1.kind==2)=true then some (bz,bj,da aR v1.au (⟨((aB aR v1.au).getD (⟨0,0,0,false,false,([]:List Int)⟩:al)).id,((aB aR v1.au).getD (⟨0,0,0,false,false,([]:List Int)⟩:al)).since,((aB aR v1.au).getD (⟨0,0,0,false,false,([]:List Int)⟩:al)).anchor,((aB aR v1.au).getD (⟨0,0,0,false,false,([]:List Int)⟩:al)).fH,true,((aB aR v1.au).getD (⟨0,0,0,false,false,([]:List Int)⟩:al)).bl⟩:al),aQ,bU,bZ,bN) else if (v1.kind==3)=true then (if (!((aB bU v1.sub).getD false))=true then ((fz bj v1.sub).bind λy2=>dj v1 bz aR aQ bU bZ bN y2) else dj v1 bz aR aQ bU bZ bN bj) else if (v1.kind==4)=true then (loop (λs=>eM v1 bz bj aR aQ bU bN s.1 s.2) (0,bZ)) else if (v1.kind==14)=true then (dm v1 bz bj aR aQ bU bZ bN (v1.kind==14)) else dm v1 bz bj aR aQ bU bZ bN (v1.kind==15)
def iX (e:Event) (zu:List Int) (zw:List Int) (aQ:List (Int×al)) (bU:List (Int×Sub)) (bZ:List (Int×Bool)) (bN:List ((List UInt8)×Int)) (zx:List (Int×Int)):Option ((List Int)×(List Int)×(List (Int×al))×(List (Int×Sub))×(List (Int×Bool))×(List ((List UInt8)×Int))×(List (Int×Int))) :=
 (eK e zu zw aQ bU bZ bN zx).bind λy1=>some (y1.1,y1.2.1,y1.2.2.1,y1.2.2.2.1,y1.2.2.2.2.1,y1.2.2.2.2.2.1,y1.2.2.2.2.2.2)
def jC (nE:List Event) (uj:Int) (aZ:Int) (pD:List Int) (fh:List Int) (bQ:List (Int×al)) (z6:List (Int×Sub)) (mr:List (Int×Bool)) (z7:List ((List UInt8)×Int)) (z8:List (Int×Int)):Option ((Int×List Int×List Int×(List (Int×al))×(List (Int×Sub))×(List (Int×Bool))×(List ((List UInt8)×Int))×(List (Int×Int))) ⊕ ((List Int)×(List Int)×(List (Int×al))×(List (Int×Sub))×(List (Int×Bool))×(List ((List UInt8)×Int))×(List (Int×Int)))) :=
 if (decide (aZ<(nE.length:Int)))=true then (ck ((0:Int)<=aZ/\aZ<(nE.length:Int)) (if (decide (((nth nE aZ.toNat).at_)<=uj))=true then ((iX (nth nE aZ.toNat) pD fh bQ z6 mr z7 z8).bind λy1=>ck (cL (aZ+1)) (some (.inl (aZ+1,y1.1,y1.2.1,y1.2.2.1,y1.2.2.2.1,y1.2.2.2.2.1,y1.2.2.2.2.2.1,y1.2.2.2.2.2.2)))) else ck (cL (aZ+1)) (some (.inl (aZ+1,pD,fh,bQ,z6,mr,z7,z8))))) else some (.inr (pD,fh,bQ,z6,mr,z7,z8))
def gW (nE:List Event) (uj:Int) (zu:List Int) (zw:List Int) (aQ:List (Int×al)) (bU:List (Int×Sub)) (bZ:List (Int×Bool)) (bN:List ((List UInt8)×Int)) (zx:List (Int×Int)):Option ((List Int)×(List Int)×(List (Int×al))×(List (Int×Sub))×(List (Int×Bool))×(List ((List UInt8)×Int))×(List (Int×Int))) :=
 loop (λs=>jC nE uj s.1 s.2.1 s.2.2.1 s.2.2.2.1 s.2.2.2.2.1 s.2.2.2.2.2.1 s.2.2.2.2.2.2.1 s.2.2.2.2.2.2.2) (0,zu,zw,aQ,bU,bZ,bN,zx)
def dM (bz:List Int) (aR:List (Int×al)) (pE:List Sub) (mu:List (Int×(List Int))) (fO:Int) (wy:List al):Option ((Int×List al) ⊕ b7) :=
 if (decide (fO<(bz.length:Int)))=true then (ck ((0:Int)<=fO/\fO<(bz.length:Int)) (ck (wy.length+([(⟨((aB aR (nth bz fO.toNat)).getD (⟨0,0,0,false,false,([]:List Int)⟩:al)).id,((aB aR (nth bz fO.toNat)).getD (⟨0,0,0,false,false,([]:List Int)⟩:al)).since,((aB aR (nth bz fO.toNat)).getD (⟨0,0,0,false,false,([]:List Int)⟩:al)).anchor,((aB aR (nth bz fO.toNat)).getD (⟨0,0,0,false,false,([]:List Int)⟩:al)).fH,((aB aR (nth bz fO.toNat)).getD (⟨0,0,0,false,false,([]:List Int)⟩:al)).closed,(aB mu (nth bz fO.toNat)).getD ([]:List Int)⟩:al)]:List al).length<=1000000000) (ck (cL (fO+1)) (some (.inl (fO+1,wy++([(⟨((aB aR (nth bz fO.toNat)).getD (⟨0,0,0,false,false,([]:List Int)⟩:al)).id,((aB aR (nth bz fO.toNat)).getD (⟨0,0,0,false,false,([]:List Int)⟩:al)).since,((aB aR (nth bz fO.toNat)).getD (⟨0,0,0,false,false,([]:List Int)⟩:al)).anchor,((aB aR (nth bz fO.toNat)).getD (⟨0,0,0,false,false,([]:List Int)⟩:al)).fH,((aB aR (nth bz fO.toNat)).getD (⟨0,0,0,false,false,([]:List Int)⟩:al)).closed,(aB mu (nth bz fO.toNat)).getD ([]:List Int)⟩:al)]:List al))))))) else some (.inr (⟨wy,pE⟩:b7))
def cM (bz:List Int) (aR:List (Int×al)) (pE:List Sub) (mu:List (Int×(List Int))):Option b7 :=
 loop (λs=>dM bz aR pE mu s.1 s.2) (0,([]:List al))
def cN (bz:List Int) (bj:List Int) (aR:List (Int×al)) (aQ:List (Int×Sub)) (dx:Int) (jS:List Sub) (fP:List (Int×(List Int))):Option ((Int×List Sub×(List (Int×(List Int)))) ⊕ b7) :=
 if (decide (dx<(bj.length:Int)))=true then (ck ((0:Int)<=dx/\dx<(bj.length:Int)) (if (!(aB aQ (nth bj dx.toNat)).isSome)=true then (ck (cL (dx+1)) (some (.inl (dx+1,jS,fP)))) else ck (((aB fP ((aB aQ (nth bj dx.toNat)).getD (⟨0,0,0,([]:List UInt8),([]:List (List UInt8)),([]:List (List UInt8)),false,false⟩:Sub)).au).getD ([]:List Int)).length+([nth bj dx.toNat]:List Int).length<=1000000000) (ck (jS.length+([(aB aQ (nth bj dx.toNat)).getD (⟨0,0,0,([]:List UInt8),([]:List (List UInt8)),([]:List (List UInt8)),false,false⟩:Sub)]:List Sub).length<=1000000000) (ck (cL (dx+1)) (some (.inl (dx+1,jS++([(aB aQ (nth bj dx.toNat)).getD (⟨0,0,0,([]:List UInt8),([]:List (List UInt8)),([]:List (List UInt8)),false,false⟩:Sub)]:List Sub),da fP ((aB aQ (nth bj dx.toNat)).getD (⟨0,0,0,([]:List UInt8),([]:List (List UInt8)),([]:List (List UInt8)),false,false⟩:Sub)).au (((aB fP ((aB aQ (nth bj dx.toNat)).getD (⟨0,0,0,([]:List UInt8),([]:List (List UInt8)),([]:List (List UInt8)),false,false⟩:Sub)).au).getD ([]:List Int))++([nth bj dx.toNat]:List Int))))))))) else (cM bz aR jS fP).map (λz=>.inr z)
def eD (bz:List Int) (bj:List Int) (aR:List (Int×al)) (aQ:List (Int×Sub)) (bU:List (Int×Bool)) (bZ:List ((List UInt8)×Int)) (bN:List (Int×Int)):Option b7 :=
 loop (λs=>cN bz bj aR aQ s.1 s.2.1 s.2.2) (0,([]:List Sub),([]:List (Int×(List Int))))
def dZ (az:List Event) (FI:Int):Option b7 :=
 (nn).bind λy1=>(oI az FI).bind λy2=>(gW y2.1 y2.2 ([]:List Int) ([]:List Int) y1.1 y1.2.1 y1.2.2.1 y1.2.2.2.1 y1.2.2.2.2).bind λy3=>(eD y3.1 y3.2.1 y3.2.2.1 y3.2.2.2.1 y3.2.2.2.2.1 y3.2.2.2.2.2.1 y3.2.2.2.2.2.2).bind λy4=>some y4
def gj (y1:b7) (j3:Int) (uk:Int) (eC:List ((List UInt8)×Int)):Option ((Int×(List ((List UInt8)×Int))) ⊕ ((Int×(List ((List UInt8)×Int))) ⊕ (List ((List UInt8)×Int)))) :=
 if (decide (uk<(((nth y1.bl j3.toNat).numbers).length:Int)))=true then (ck ((0:Int)<=uk/\uk<(((nth y1.bl j3.toNat).numbers).length:Int)) (ck (cL (uk+1)) (some (.inl (uk+1,da eC (nth (nth y1.bl j3.toNat).numbers uk.toNat) (nth y1.bl j3.toNat).id))))) else ck (cL (j3+1)) (some (.inr (.inl (j3+1,eC))))
def gl (y1:b7) (j3:Int) (dt:List ((List UInt8)×Int)):Option ((Int×(List ((List UInt8)×Int))) ⊕ (List ((List UInt8)×Int))) :=
 if (decide (j3<(y1.bl.length:Int)))=true then (ck ((0:Int)<=j3/\j3<(y1.bl.length:Int)) (loop (λs=>gj y1 j3 s.1 s.2) (0,dt))) else some (.inr dt)
def iY (az:List Event) (FI:Int):Option (List ((List UInt8)×Int)) :=
 (dZ az FI).bind λy1=>loop (λs=>gl y1 s.1 s.2) (0,([]:List ((List UInt8)×Int)))
def l7 (az:List Event) (dd:List UInt8) (Ik:Int):Option (Int×Bool) :=
 (iY az Ik).bind λy1=>some ((aB y1 dd).getD 0,(aB y1 dd).isSome)
def jD (wz:Int) (y1:b7) (dL:Int):Option (Int ⊕ (Sub×Bool)) :=
 if (decide (dL<(y1.bl.length:Int)))=true then (ck ((0:Int)<=dL/\dL<(y1.bl.length:Int)) (if (((nth y1.bl dL.toNat).id)==wz)=true then some (.inr (nth y1.bl dL.toNat,true)) else ck (cL (dL+1)) (some (.inl (dL+1))))) else some (.inr ((⟨0,0,0,([]:List UInt8),([]:List (List UInt8)),([]:List (List UInt8)),false,false⟩:Sub),false))
def mv (az:List Event) (wz:Int) (Ik:Int):Option (Sub×Bool) :=
 (dZ az Ik).bind λy1=>loop (λs=>jD wz y1 s) 0
def il (T1:jO):Option (Sub×Bool) :=
 (fN T1.source).bind λy1=>(l7 T1.events y1 T1.source.record.start).bind λy2=>if (!y2.2)=true then some ((⟨0,0,0,([]:List UInt8),([]:List (List UInt8)),([]:List (List UInt8)),false,false⟩:Sub),false) else (mv T1.events y2.1 T1.source.record.start).bind λy3=>some (y3.1,y3.2)
def jj (b8:dq) (wz:Int) (EG:Sub):Option aC :=
 some (⟨wz,b8.record.kind,EG.au,EG.id,b8.record.a,b8.record.b,b8.record.start,b8.record.cU,b8.record.c9,b8.record.bS,b8.record.source,b8.record.aI⟩:aC)
def fQ (az:List Event) (R2:aa) (SL:Int):Option (aC×Int) :=
 (dF R2).bind λy1=>if (y1 != 0)=true then some ((⟨0,0,0,0,([]:List UInt8),([]:List UInt8),0,0,0,false,0,0⟩:aC),y1) else if (R2.part != 0)=true then some ((⟨0,0,0,0,([]:List UInt8),([]:List UInt8),0,0,0,false,0,0⟩:aC),8) else (il (⟨(⟨R2⟩:dq),az⟩:jO)).bind λy2=>if (!y2.2)=true then some ((⟨0,0,0,0,([]:List UInt8),([]:List UInt8),0,0,0,false,0,0⟩:aC),11) else if (y2.1.bL && (!R2.bS))=true then some ((⟨0,0,0,0,([]:List UInt8),([]:List UInt8),0,0,0,false,0,0⟩:aC),16) else (jj (⟨R2⟩:dq) SL y2.1).bind λy3=>some (y3,0)
def kv (az:List Event) (jT:aj):Option ((List Range)×(List aa)×(List Head)×(List aC)×(List ag)×(List Event)×(List aa)) :=
 (iy jT.aH.seen).bind λy1=>(eU jT.aH.open_).bind λy2=>(ml jT.aH.aO).bind λy3=>(sH jT.usages).bind λy4=>(oc jT.bA).bind λy5=>some (y1,y2,y3,y4,y5,az,jT.aS)
def c8 (bg:List aa) (bj:List Event) (bn:List aC) (eI:List aa) (bG:Int):Option ((List aC×List aa×Int) ⊕ ((List aC)×(List aa))) :=
 if (decide (bG<(bg.length:Int)))=true then (ck ((0:Int)<=bG/\bG<(bg.length:Int)) (ck (cL ((bn.length:Int)+1)) ((fQ bj (nth bg bG.toNat) ((bn.length:Int)+1)).bind λy1=>if (y1.2==0)=true then (ck (bn.length+([y1.1]:List aC).length<=1000000000) (ck (cL (bG+1)) (some (.inl (bn++([y1.1]:List aC),eI,bG+1))))) else ck (eI.length+([nth bg bG.toNat]:List aa).length<=1000000000) (ck (cL (bG+1)) (some (.inl (bn,eI++([nth bg bG.toNat]:List aa),bG+1))))))) else some (.inr (bn,eI))
def fA (bg:List aa) (cV:List Range) (oh:List aa) (oi:List Head) (bj:List Event) (aW:List aC) (j2:List aa) (um:List ag):Option ((List aC)×(List aa)) :=
 loop (λs=>c8 bg bj s.1 s.2.1 s.2.2) (aW,j2,0)
def gw (v0:List Event) (v1:aj) (v2:Batch) (v3:bX):Option (aj×Int) :=
 (lF v1.aH v2 v3).bind λy1=>if (y1.2.2.2 != 0)=true then some ((⟨(⟨([]:List Range),([]:List aa),([]:List Head)⟩:aF),([]:List aC),([]:List aa),([]:List ag)⟩:aj),y1.2.2.2) else (kv v0 v1).bind λy2=>(eU y2.2.2.2.2.2.2).bind λy3=>ck (y2.2.2.2.2.1.length+y1.2.2.1.length<=1000000000) ((fA y1.2.1 y1.1.seen y1.1.open_ y1.1.aO y2.2.2.2.2.2.1 y2.2.2.2.1 y3 (y2.2.2.2.2.1++y1.2.2.1)).bind λy4=>some ((⟨y1.1,y4.1,y4.2,y2.2.2.2.2.1++y1.2.2.1⟩:aj),0))
def vm (aU:List Range) (om:Int) (aZ:Int):Option ((Int×Int) ⊕ Int) :=
 if (decide (aZ<(aU.length:Int)))=true then (ck ((0:Int)<=aZ/\aZ<(aU.length:Int)) (ck (cL ((nth aU aZ.toNat).iu - (nth aU aZ.toNat).from_)) (ck (cL (((nth aU aZ.toNat).iu - (nth aU aZ.toNat).from_)+1)) (ck (cL (om+(((nth aU aZ.toNat).iu - (nth aU aZ.toNat).from_)+1))) (ck (cL (aZ+1)) (some (.inl (om+(((nth aU aZ.toNat).iu - (nth aU aZ.toNat).from_)+1),aZ+1)))))))) else some (.inr om)
def uL (aU:List Range):Option Int :=
 loop (λs=>vm aU s.1 s.2) (0,0)
def iz (df:aj) (qB:Int):Option bV :=
 (uL df.aH.seen).bind λy1=>ck (cL (y1-(df.usages.length:Int))) (ck (cL ((y1-(df.usages.length:Int)) - (df.aS.length:Int))) (ck (cL (((y1-(df.usages.length:Int)) - (df.aS.length:Int)) - (df.aH.open_.length:Int))) (some (⟨qB,(df.usages.length:Int),((y1-(df.usages.length:Int)) - (df.aS.length:Int)) - (df.aH.open_.length:Int),(df.bA.length:Int),(df.aS.length:Int),(df.aH.open_.length:Int)⟩:bV))))
def pF (df:aj) (uq:Int) (bQ:Int):Option ((Int×Int) ⊕ bV) :=
 if (decide (uq<(df.aH.aO.length:Int)))=true then (ck ((0:Int)<=uq/\uq<(df.aH.aO.length:Int)) (ck (cL (bQ+((nth df.aH.aO uq.toNat).count))) (ck (cL (uq+1)) (some (.inl (uq+1,bQ+((nth df.aH.aO uq.toNat).count))))))) else (iz df bQ).map (λz=>.inr z)
def im (df:aj):Option bV :=
 loop (λs=>pF df s.1 s.2) (0,0)
def iq (az:List Event) (jT:aj):Option ((List Range)×(List aa)×(List Head)×(List aC)×(List ag)×(List Event)×(List aa)) :=
 (iy jT.aH.seen).bind λy1=>(eU jT.aH.open_).bind λy2=>(ml jT.aH.aO).bind λy3=>(sH jT.usages).bind λy4=>(oc jT.bA).bind λy5=>some (y1,y2,y3,y4,y5,az,jT.aS)
def cO (bg:List aa) (bj:List Event) (bn:List aC) (bG:Int) (hG:List aa):Option ((List aC×Int×List aa) ⊕ ((List aC)×(List aa))) :=
 if (decide (bG<(bg.length:Int)))=true then (ck ((0:Int)<=bG/\bG<(bg.length:Int)) (ck (cL ((bn.length:Int)+1)) ((fQ bj (nth bg bG.toNat) ((bn.length:Int)+1)).bind λy1=>if (y1.2==0)=true then (ck (bn.length+([y1.1]:List aC).length<=1000000000) (ck (cL (bG+1)) (some (.inl (bn++([y1.1]:List aC),bG+1,hG))))) else ck (hG.length+([nth bg bG.toNat]:List aa).length<=1000000000) (ck (cL (bG+1)) (some (.inl (bn,bG+1,hG++([nth bg bG.toNat]:List aa)))))))) else some (.inr (bn,hG))
def eE (bg:List aa) (cV:List Range) (oh:List aa) (oi:List Head) (bz:List ag) (bj:List Event) (aW:List aC) (j2:List aa):Option ((List aC)×(List aa)) :=
 loop (λs=>cO bg bj s.1 s.2.1 s.2.2) (aW,0,j2)
def pG (az:List Event) (jT:aj):Option aj :=
 (iq az jT).bind λy1=>(eE y1.2.2.2.2.2.2 y1.1 y1.2.1 y1.2.2.1 y1.2.2.2.2.1 y1.2.2.2.2.2.1 y1.2.2.2.1 ([]:List aa)).bind λy2=>some (⟨(⟨y1.1,y1.2.1,y1.2.2.1⟩:aF),y2.1,y2.2,y1.2.2.2.2.1⟩:aj)
def vn (aU:List Range) (aZ:Int):Option (Int ⊕ Bool) :=
 if (decide (aZ<(aU.length:Int)))=true then (ck ((0:Int)<=aZ/\aZ<(aU.length:Int)) ((dY (nth aU aZ.toNat).source (nth aU aZ.toNat).from_).bind λy1=>(b9 (!(!y1)) (dY (nth aU aZ.toNat).source (nth aU aZ.toNat).iu)).bind λy2=>if (((!y1) || (!y2)) || (decide ((nth aU aZ.toNat).from_ > (nth aU aZ.toNat).iu)))=true then some (.inr false) else if (decide (aZ > 0))=true then (ck (cL (aZ-1)) (ck ((0:Int)<=(aZ-1)/\(aZ-1)<(aU.length:Int)) (ck (((!(decide ((nth aU (aZ-1).toNat).source > (nth aU aZ.toNat).source))) && (((nth aU (aZ-1).toNat).source)==((nth aU aZ.toNat).source)))=true->(cL (((nth aU (aZ-1).toNat).iu)+1))) (if ((decide ((nth aU (aZ-1).toNat).source > (nth aU aZ.toNat).source)) || ((((nth aU (aZ-1).toNat).source)==((nth aU aZ.toNat).source)) && (decide ((((nth aU (aZ-1).toNat).iu)+1)>=((nth aU aZ.toNat).from_)))))=true then some (.inr false) else ck (cL (aZ+1)) (some (.inl (aZ+1))))))) else ck (cL (aZ+1)) (some (.inl (aZ+1))))) else some (.inr true)
def qX (aU:List Range):Option Bool :=
 loop (λs=>vn aU s) 0
def wS (yM:List aa) (Ca:List aa) (bt:Int):Option (Int ⊕ Bool) :=
 if (decide (bt<(yM.length:Int)))=true then (ck ((0:Int)<=bt/\bt<(yM.length:Int)) (ck ((0:Int)<=bt/\bt<(Ca.length:Int)) (if (!(ew (aa.bP (nth yM bt.toNat)) (aa.bP (nth Ca bt.toNat))))=true then some (.inr false) else ck (cL (bt+1)) (some (.inl (bt+1)))))) else some (.inr true)
def wA (yM:List aa) (Ca:List aa):Option Bool :=
 if ((yM.length:Int) != (Ca.length:Int))=true then some false else loop (λs=>wS yM Ca s) 0
def np (bM:aF) (ko:List (bE×Bool)):Option Bool :=
 (iI ([]:List aa) bM.open_).bind λy1=>(b9 ((y1.1.length:Int)==0) (wA y1.2 bM.open_)).bind λy2=>some (((y1.1.length:Int)==0) && y2)
def vo (bM:aF) (bt:Int) (cw:List (bE×Bool)):Option ((Int×(List (bE×Bool))) ⊕ Bool) :=
 if (decide (bt<(bM.open_.length:Int)))=true then (ck ((0:Int)<=bt/\bt<(bM.open_.length:Int)) ((b9 (!(((nth bM.open_ bt.toNat).part)==0)) (dF (nth bM.open_ bt.toNat))).bind λy3=>(b9 (!(((((nth bM.open_ bt.toNat).part)==0) || (y3 != 0)) || ((aB cw (⟨(nth bM.open_ bt.toNat).source,(nth bM.open_ bt.toNat).aI⟩:bE)).getD false))) (mn bM.seen (nth bM.open_ bt.toNat).source (nth bM.open_ bt.toNat).aI)).bind λy4=>if ((((((nth bM.open_ bt.toNat).part)==0) || (y3 != 0)) || ((aB cw (⟨(nth bM.open_ bt.toNat).source,(nth bM.open_ bt.toNat).aI⟩:bE)).getD false)) || (!y4))=true then some (.inr false) else ck (cL (bt+1)) (some (.inl (bt+1,da cw (⟨(nth bM.open_ bt.toNat).source,(nth bM.open_ bt.toNat).aI⟩:bE) true))))) else (np bM cw).map (λz=>.inr z)
def qY (bM:aF):Option Bool :=
 loop (λs=>vo bM s.1 s.2) (0,([]:List (bE×Bool)))
def ur (v0:List Head) (aX:Int) (dt:List (Int×Int)):Option ((Int×(List (Int×Int))) ⊕ (List (Int×Int))) :=
 if (decide (aX<(v0.length:Int)))=true then (ck ((0:Int)<=aX/\aX<(v0.length:Int)) (ck ((0:Int)<=aX/\aX<=(v0.length:Int)) ((iB (⟨([]:List Range),([]:List aa),v0.take aX.toNat⟩:aF) (nth v0 aX.toNat).source).bind λy1=>if ((((((((!(ew (Head.bP (nth v0 aX.toNat)) (Head.bP (⟨(nth v0 aX.toNat).source,y1,(nth v0 aX.toNat).format,(nth v0 aX.toNat).count⟩:Head)))) || (decide ((nth v0 aX.toNat).source<1))) || (decide ((nth v0 aX.toNat).source > 99))) || (decide ((nth v0 aX.toNat).format<1))) || (decide (((nth v0 aX.toNat).format)>=4))) || (decide ((nth v0 aX.toNat).count<0))) || (decide ((nth v0 aX.toNat).count > 4096))) || (decide ((nth v0 aX.toNat).number > 999999999)))=true then none else ck (cL (((aB dt (nth v0 aX.toNat).source).getD 0)+((nth v0 aX.toNat).count))) (ck (cL (aX+1)) (some (.inl (aX+1,da dt (nth v0 aX.toNat).source (((aB dt (nth v0 aX.toNat).source).getD 0)+((nth v0 aX.toNat).count))))))))) else some (.inr dt)
def mw (v0:List Head):Option (List (Int×Int)) :=
 loop (λs=>ur v0 s.1 s.2) (0,([]:List (Int×Int)))
def rB (v0:List Head) (aX:Int) (dt:List (Int×Int)):Option ((Int×(List (Int×Int))) ⊕ Unit) :=
 if (decide (aX<(v0.length:Int)))=true then (ck ((0:Int)<=aX/\aX<(v0.length:Int)) (ck ((0:Int)<=aX/\aX<=(v0.length:Int)) ((iB (⟨([]:List Range),([]:List aa),v0.take aX.toNat⟩:aF) (nth v0 aX.toNat).source).bind λy1=>if ((((((((!(ew (Head.bP (nth v0 aX.toNat)) (Head.bP (⟨(nth v0 aX.toNat).source,y1,(nth v0 aX.toNat).format,(nth v0 aX.toNat).count⟩:Head)))) || (decide ((nth v0 aX.toNat).source<1))) || (decide ((nth v0 aX.toNat).source > 99))) || (decide ((nth v0 aX.toNat).format<1))) || (decide (((nth v0 aX.toNat).format)>=4))) || (decide ((nth v0 aX.toNat).count<0))) || (decide ((nth v0 aX.toNat).count > 4096))) || (decide ((nth v0 aX.toNat).number > 999999999)))=true then some (.inr ()) else ck (cL (((aB dt (nth v0 aX.toNat).source).getD 0)+((nth v0 aX.toNat).count))) (ck (cL (aX+1)) (some (.inl (aX+1,da dt (nth v0 aX.toNat).source (((aB dt (nth v0 aX.toNat).source).getD 0)+((nth v0 aX.toNat).count))))))))) else none
def pH (v0:List Head):Option Unit :=
 loop (λs=>rB v0 s.1 s.2) (0,([]:List (Int×Int)))
def uu (bM:aF) (y1:(List (Int×Int))) (du:Int) (bQ:List (Int×Int)):Option ((Int×(List (Int×Int))) ⊕ Bool) :=
 if (decide (du<(bM.seen.length:Int)))=true then (ck ((0:Int)<=du/\du<(bM.seen.length:Int)) (ck (cL ((nth bM.seen du.toNat).iu - (nth bM.seen du.toNat).from_)) (ck (cL (((nth bM.seen du.toNat).iu - (nth bM.seen du.toNat).from_)+1)) (ck (cL (((aB bQ (nth bM.seen du.toNat).source).getD 0)+(((nth bM.seen du.toNat).iu - (nth bM.seen du.toNat).from_)+1))) (if (decide (((aB (da bQ (nth bM.seen du.toNat).source (((aB bQ (nth bM.seen du.toNat).source).getD 0)+(((nth bM.seen du.toNat).iu - (nth bM.seen du.toNat).from_)+1))) (nth bM.seen du.toNat).source).getD 0) > ((aB y1 (nth bM.seen du.toNat).source).getD 0)))=true then some (.inr false) else ck (cL (du+1)) (some (.inl (du+1,da bQ (nth bM.seen du.toNat).source (((aB bQ (nth bM.seen du.toNat).source).getD 0)+(((nth bM.seen du.toNat).iu - (nth bM.seen du.toNat).from_)+1)))))))))) else some (.inr true)
def ti (bM:aF):Option Bool :=
 if ((mw bM.aO).isSome)=true then ((mw bM.aO).bind λy1=>(b9 (!(!true)) (qX bM.seen)).bind λy2=>(b9 (!((!true) || (!y2))) (qY bM)).bind λy3=>if (((!true) || (!y2)) || (!y3))=true then some false else loop (λs=>uu bM y1 s.1 s.2) (0,([]:List (Int×Int)))) else (pH bM.aO).bind λy4=>(b9 (!(!false)) (qX bM.seen)).bind λy5=>(b9 (!((!false) || (!y5))) (qY bM)).bind λy6=>some false
def lv (uM:aC):Option aa :=
 some (⟨uM.source,uM.aI,uM.kind,uM.a,uM.b,uM.start,uM.cU,0,0,false,uM.c9,uM.bS⟩:aa)
def qg (aL:List aC) (fF:Int):Option (Int ⊕ Bool) :=
 if (decide (fF<(aL.length:Int)))=true then (ck ((0:Int)<=fF/\fF<(aL.length:Int)) (ck (cL (fF+1)) ((b9 (!((((nth aL fF.toNat).id != (fF+1)) || (decide ((if (nth aL fF.toNat).sub<(nth aL fF.toNat).au then (nth aL fF.toNat).sub else (nth aL fF.toNat).au)<1))) || (decide ((if (nth aL fF.toNat).sub > (nth aL fF.toNat).au then (nth aL fF.toNat).sub else (nth aL fF.toNat).au) > 9999)))) (lv (nth aL fF.toNat))).bind λy1=>(b9 (!((((nth aL fF.toNat).id != (fF+1)) || (decide ((if (nth aL fF.toNat).sub<(nth aL fF.toNat).au then (nth aL fF.toNat).sub else (nth aL fF.toNat).au)<1))) || (decide ((if (nth aL fF.toNat).sub > (nth aL fF.toNat).au then (nth aL fF.toNat).sub else (nth aL fF.toNat).au) > 9999)))) (dF y1)).bind λy2=>if (((((nth aL fF.toNat).id != (fF+1)) || (decide ((if (nth aL fF.toNat).sub<(nth aL fF.toNat).au then (nth aL fF.toNat).sub else (nth aL fF.toNat).au)<1))) || (decide ((if (nth aL fF.toNat).sub > (nth aL fF.toNat).au then (nth aL fF.toNat).sub else (nth aL fF.toNat).au) > 9999))) || (y2 != 0))=true then some (.inr false) else ck (cL (fF+1)) (some (.inl (fF+1)))))) else some (.inr true)
def oS (aL:List aC):Option Bool :=
 loop (λs=>qg aL s) 0
def nF (cG:List (List aa)) (bn:List aa) (sv:Int):Option ((List aa×Int) ⊕ (List aa)) :=
 if (decide (sv<(cG.length:Int)))=true then (ck ((0:Int)<=sv/\sv<(cG.length:Int)) (ck (bn.length+(nth cG sv.toNat).length<=1000000000) (ck (cL (sv+1)) (some (.inl (bn++(nth cG sv.toNat),sv+1)))))) else some (.inr bn)
def gf (cG:List (List aa)) (vq:Int):Option (List aa) :=
 (A0 vq).bind λy1=>loop (λs=>nF cG s.1 s.2) (y1,0)
def gg (cG:List (List aa)) (mx:Int) (rC:Int):Option ((Int×Int) ⊕ (List aa)) :=
 if (decide (rC<(cG.length:Int)))=true then (ck ((0:Int)<=rC/\rC<(cG.length:Int)) (ck (cL (mx+((nth cG rC.toNat).length:Int))) (if (decide ((mx+((nth cG rC.toNat).length:Int))<0))=true then none else ck (cL (rC+1)) (some (.inl (mx+((nth cG rC.toNat).length:Int),rC+1)))))) else (gf cG mx).map (λz=>.inr z)
def lx (cG:List (List aa)):Option (List aa) :=
 loop (λs=>gg cG s.1 s.2) (0,0)
def qh (df:aj) (cD:List aa) (iD:Int) (cw:List (bm×Bool)):Option ((Int×(List (bm×Bool))) ⊕ Bool) :=
 if (decide (iD<(cD.length:Int)))=true then (ck ((0:Int)<=iD/\iD<(cD.length:Int)) ((b9 (!((aB cw (⟨(nth cD iD.toNat).source,(nth cD iD.toNat).aI⟩:bm)).getD false)) (mn df.aH.seen (nth cD iD.toNat).source (nth cD iD.toNat).aI)).bind λy2=>if (((aB cw (⟨(nth cD iD.toNat).source,(nth cD iD.toNat).aI⟩:bm)).getD false) || (!y2))=true then some (.inr false) else ck (cL (iD+1)) (some (.inl (iD+1,da cw (⟨(nth cD iD.toNat).source,(nth cD iD.toNat).aI⟩:bm) true))))) else some (.inr true)
def jk (df:aj) (cD:List aa):Option Bool :=
 loop (λs=>qh df cD s.1 s.2) (0,([]:List (bm×Bool)))
def jl (df:aj) (my:List aa) (vr:Int):Option ((List aa×Int) ⊕ Bool) :=
 if (decide (vr<(df.usages.length:Int)))=true then (ck ((0:Int)<=vr/\vr<(df.usages.length:Int)) ((lv (nth df.usages vr.toNat)).bind λy3=>ck (my.length+([y3]:List aa).length<=1000000000) (ck (cL (vr+1)) (some (.inl (my++([y3]:List aa),vr+1)))))) else (jk df my).map (λz=>.inr z)
def oT (df:aj):Option Bool :=
 (lx ([df.aS,df.aH.open_]:List (List aa))).bind λy1=>loop (λs=>jl df s.1 s.2) (y1,0)
def nR (nm:aa):Option Bool :=
 (b9 (!(nm.part != 0)) (dF nm)).bind λy1=>some ((nm.part != 0) || (y1 != 0))
def nS (Jq:ag):Option Bool :=
 some ((Jq.err != 15) && (Jq.err != 13))
def tj (b8:List aa) (aZ:Int):Option (Int ⊕ Int) :=
 if (decide (aZ<(b8.length:Int)))=true then (ck ((0:Int)<=aZ/\aZ<(b8.length:Int)) ((nR (nth b8 aZ.toNat)).bind λy1=>if y1=true then some (.inr aZ) else ck (cL (aZ+1)) (some (.inl (aZ+1))))) else some (.inr (-1))
def r9 (b8:List aa):Option Int :=
 loop (λs=>tj b8 s) 0
def sa (b8:List aa):Option Bool :=
 (r9 b8).bind λy1=>some (decide (y1>=0))
def lG (b8:List ag) (aZ:Int):Option (Int ⊕ Int) :=
 if (decide (aZ<(b8.length:Int)))=true then (ck ((0:Int)<=aZ/\aZ<(b8.length:Int)) ((nS (nth b8 aZ.toNat)).bind λy1=>if y1=true then some (.inr aZ) else ck (cL (aZ+1)) (some (.inl (aZ+1))))) else some (.inr (-1))
def jo (b8:List ag):Option Int :=
 loop (λs=>lG b8 s) 0
def hU (b8:List ag):Option Bool :=
 (jo b8).bind λy1=>some (decide (y1>=0))
def pI (df:aj):Option Bool :=
 (ti df.aH).bind λy1=>(b9 (!(!y1)) (oS df.usages)).bind λy2=>(b9 (!((!y1) || (!y2))) (oT df)).bind λy3=>if (((!y1) || (!y2)) || (!y3))=true then some false else (sa df.aS).bind λy4=>if y4=true then some false else (hU df.bA).bind λy5=>if y5=true then some false else (im df).bind λy6=>ck ((decide (y6.merged>=0))=true->(cL (y6.accepted+y6.merged))) (ck ((decide (y6.merged>=0))=true->(cL ((y6.accepted+y6.merged)+y6.rejected))) (ck ((decide (y6.merged>=0))=true->(cL (((y6.accepted+y6.merged)+y6.rejected)+y6.bL))) (ck ((decide (y6.merged>=0))=true->(cL ((((y6.accepted+y6.merged)+y6.rejected)+y6.bL)+y6.open_))) (some ((decide (y6.merged>=0)) && (y6.read==((((y6.accepted+y6.merged)+y6.rejected)+y6.bL)+y6.open_)))))))
def rD:Option Bool :=
 (pr false).bind λy1=>(gw y1 (⟨(⟨([]:List Range),([]:List aa),([]:List Head)⟩:aF),([]:List aC),([]:List aa),([]:List ag)⟩:aj) (⟨1,1,1,([(⟨1,1,2,([49]:List UInt8),([50]:List UInt8),20,1,0,0,false,0,false⟩:aa),(⟨1,2,2,([51]:List UInt8),([50]:List UInt8),20,1,0,0,false,0,false⟩:aa)]:List aa)⟩:Batch) (⟨0,100⟩:bX)).bind λy2=>(pr false).bind λy3=>(gw y3 (⟨(⟨([]:List Range),([]:List aa),([]:List Head)⟩:aF),([]:List aC),([]:List aa),([]:List ag)⟩:aj) (⟨1,1,1,([(⟨1,1,2,([49]:List UInt8),([50]:List UInt8),20,1,5,1,false,0,false⟩:aa),(⟨1,2,2,([49]:List UInt8),([50]:List UInt8),20,1,5,2,true,0,false⟩:aa)]:List aa)⟩:Batch) (⟨0,100⟩:bX)).bind λy4=>(b9 (!((y2.2 != 0) || (y4.2 != 0))) (im y2.1)).bind λy5=>(b9 (!(((y2.2 != 0) || (y4.2 != 0)) || (!(ew (bV.bP y5) (bV.bP (⟨2,1,0,0,1,0⟩:bV)))))) (im y4.1)).bind λy6=>if ((((y2.2 != 0) || (y4.2 != 0)) || (!(ew (bV.bP y5) (bV.bP (⟨2,1,0,0,1,0⟩:bV))))) || (!(ew (bV.bP y6) (bV.bP (⟨2,1,1,0,0,0⟩:bV)))))=true then some false else (pr true).bind λy7=>(pG y7 y2.1).bind λy8=>ck (((y8.usages.length:Int)==2)=true->((0:Int)<=1/\1<(y8.usages.length:Int))) (ck ((((y8.usages.length:Int)==2) && (((nth y8.usages (Int.toNat (1))).id)==2))=true->((0:Int)<=1/\1<(y8.usages.length:Int))) ((b9 (((((y8.usages.length:Int)==2) && (((nth y8.usages (Int.toNat (1))).id)==2)) && (((nth y8.usages (Int.toNat (1))).a)==([51]:List UInt8))) && ((y8.aS.length:Int)==0)) (pI y8)).bind λy9=>ck ((((((((y8.usages.length:Int)==2) && (((nth y8.usages (Int.toNat (1))).id)==2)) && (((nth y8.usages (Int.toNat (1))).a)==([51]:List UInt8))) && ((y8.aS.length:Int)==0)) && y9) && ((y4.1.usages.length:Int)==1))=true->((0:Int)<=0/\0<(y4.1.usages.length:Int))) (some ((((((((y8.usages.length:Int)==2) && (((nth y8.usages (Int.toNat (1))).id)==2)) && (((nth y8.usages (Int.toNat (1))).a)==([51]:List UInt8))) && ((y8.aS.length:Int)==0)) && y9) && ((y4.1.usages.length:Int)==1)) && (((nth y4.1.usages (Int.toNat (0))).cU)==2)))))
def qZ (l8:List Head) (vt:Int) (tn:Int) (G4:Int) (ef:Int):Option ((Int×Int) ⊕ Int) :=
 if (decide (ef<vt))=true then (ck ((0:Int)<=ef/\ef<(l8.length:Int)) (if (((nth l8 ef.toNat).source)==tn)=true then (ck ((0:Int)<=ef/\ef<(l8.length:Int)) (ck (cL (((nth l8 ef.toNat).number)+1)) (ck (cL (ef+1)) (some (.inl (((nth l8 ef.toNat).number)+1,ef+1)))))) else ck (cL (ef+1)) (some (.inl (G4,ef+1))))) else some (.inr G4)
def oU (l8:List Head) (vt:Int) (tn:Int):Option Int :=
 loop (λs=>qZ l8 vt tn s.1 s.2) (1,0)
def mz (v0:aF) (bI:Int):Option (Int ⊕ Bool) :=
 if (decide (bI<(v0.aO.length:Int)))=true then (ck ((0:Int)<=bI/\bI<(v0.aO.length:Int)) ((b9 (!((((decide ((nth v0.aO bI.toNat).source<1)) || (decide ((nth v0.aO bI.toNat).source > 99))) || (decide ((nth v0.aO bI.toNat).number<1))) || (decide ((nth v0.aO bI.toNat).number > 999999999)))) (oU v0.aO bI (nth v0.aO bI.toNat).source)).bind λy1=>if (((((((((decide ((nth v0.aO bI.toNat).source<1)) || (decide ((nth v0.aO bI.toNat).source > 99))) || (decide ((nth v0.aO bI.toNat).number<1))) || (decide ((nth v0.aO bI.toNat).number > 999999999))) || ((nth v0.aO bI.toNat).number != y1)) || (decide ((nth v0.aO bI.toNat).format<1))) || (decide (((nth v0.aO bI.toNat).format)>=4))) || (decide ((nth v0.aO bI.toNat).count<0))) || (decide ((nth v0.aO bI.toNat).count > 4096)))=true then some (.inr false) else ck (cL (bI+1)) (some (.inl (bI+1))))) else some (.inr true)
def rE (v0:aF):Option Bool :=
 loop (λs=>mz v0 s) 0
def fR (gH:Int) (mm:Int):Option Bool :=
 some ((((decide (gH>=1)) && (decide (gH<=99))) && (decide (mm>=1))) && (decide (mm<=999999999)))
def mA (v0:List Range) (bI:Int):Option (Int ⊕ Bool) :=
 if (decide (bI<(v0.length:Int)))=true then (ck ((0:Int)<=bI/\bI<(v0.length:Int)) ((fR (nth v0 bI.toNat).source (nth v0 bI.toNat).from_).bind λy1=>(b9 (!(!y1)) (fR (nth v0 bI.toNat).source (nth v0 bI.toNat).iu)).bind λy2=>if (((!y1) || (!y2)) || (decide ((nth v0 bI.toNat).from_ > (nth v0 bI.toNat).iu)))=true then some (.inr false) else ck ((decide (bI > 0))=true->(cL (bI-1))) (ck ((decide (bI > 0))=true->((0:Int)<=(bI-1)/\(bI-1)<(v0.length:Int))) (ck (((decide (bI > 0)) && (!(decide ((nth v0 (bI-1).toNat).source > (nth v0 bI.toNat).source))))=true->(cL (bI-1))) (ck (((decide (bI > 0)) && (!(decide ((nth v0 (bI-1).toNat).source > (nth v0 bI.toNat).source))))=true->((0:Int)<=(bI-1)/\(bI-1)<(v0.length:Int))) (ck ((((decide (bI > 0)) && (!(decide ((nth v0 (bI-1).toNat).source > (nth v0 bI.toNat).source)))) && (((nth v0 (bI-1).toNat).source)==((nth v0 bI.toNat).source)))=true->(cL (bI-1))) (ck ((((decide (bI > 0)) && (!(decide ((nth v0 (bI-1).toNat).source > (nth v0 bI.toNat).source)))) && (((nth v0 (bI-1).toNat).source)==((nth v0 bI.toNat).source)))=true->((0:Int)<=(bI-1)/\(bI-1)<(v0.length:Int))) (ck ((((decide (bI > 0)) && (!(decide ((nth v0 (bI-1).toNat).source > (nth v0 bI.toNat).source)))) && (((nth v0 (bI-1).toNat).source)==((nth v0 bI.toNat).source)))=true->(cL (((nth v0 (bI-1).toNat).iu)+1))) (if ((decide (bI > 0)) && ((decide ((nth v0 (bI-1).toNat).source > (nth v0 bI.toNat).source)) || ((((nth v0 (bI-1).toNat).source)==((nth v0 bI.toNat).source)) && (decide ((((nth v0 (bI-1).toNat).iu)+1)>=((nth v0 bI.toNat).from_))))))=true then some (.inr false) else ck (cL (bI+1)) (some (.inl (bI+1)))))))))))) else some (.inr true)
def rF (v0:List Range):Option Bool :=
 loop (λs=>mA v0 s) 0
def mB (yL:Int) (Ns:Int) (Il:Int):Option Bool :=
 some ((decide (yL>=Ns)) && (decide (yL<=Il)))
def mC (b8:List UInt8):Option Bool :=
 some ((decide ((b8.length:Int)>=1)) && (decide ((b8.length:Int)<=15)))
def pJ (b8:List UInt8) (bB:Int):Option (Int ⊕ Bool) :=
 if (decide (bB<(b8.length:Int)))=true then (ck ((0:Int)<=bB/\bB<(b8.length:Int)) (ck ((!(decide ((nth b8 bB.toNat)<48)))=true->((0:Int)<=bB/\bB<(b8.length:Int))) (if ((decide ((nth b8 bB.toNat)<48)) || (decide ((nth b8 bB.toNat) > 57)))=true then some (.inr false) else ck (cL (bB+1)) (some (.inl (bB+1)))))) else (mC b8).map (λz=>.inr z)
def mD (b8:List UInt8):Option Bool :=
 loop (λs=>pJ b8 s) 0
def oZ (v0:aa):Option Int :=
 (mB v0.source 1 99).bind λy1=>(b9 (!(!y1)) (mB v0.aI 1 999999999)).bind λy2=>if ((!y1) || (!y2))=true then some 6 else (mB v0.kind 1 4).bind λy3=>if (!y3)=true then some 7 else (mD v0.a).bind λy4=>if (!y4)=true then some 12 else (mD v0.b).bind λy5=>if ((!y5) && ((v0.b != ([]:List UInt8)) || ((v0.kind != 3) && (v0.kind != 4))))=true then some 12 else (mB v0.start 0 12622780799).bind λy6=>if (!y6)=true then some 15 else (mB v0.cU 0 1099511627776).bind λy7=>if ((!y7) || ((v0.kind==1) && (decide (v0.cU > 604800))))=true then some 6 else ck ((v0.kind==1)=true->(cL (v0.start+v0.cU))) (if ((v0.kind==1) && (decide ((v0.start+v0.cU) > 12622780800)))=true then some 15 else (mB v0.call 0 999999999).bind λy8=>(b9 (!(!y8)) (mB v0.part 0 99)).bind λy9=>if ((!y8) || (!y9))=true then some 6 else if (((v0.part==0) != (v0.call==0)) || (v0.last && (v0.part==0)))=true then some 8 else (mB v0.c9 0 999).bind λV8=>if (!V8)=true then some 6 else if (v0.bS && (v0.c9==0))=true then some 8 else some 0)
def gM (nm:aa):Option Int :=
 (oZ nm).bind λy1=>some y1
def nq (fw:aa) (gi:aa):Option Bool :=
 if (fw.source != gi.source)=true then some (decide (fw.source<gi.source)) else if (fw.call != gi.call)=true then some (decide (fw.call<gi.call)) else some (decide (fw.part<gi.part))
def qC (fw:aa) (gi:aa):Option Bool :=
 some ((fw.source==gi.source) && (fw.call==gi.call))
def oJ (db:List aa) (rY:aa) (qD:Bool) (ly:List Int) (ef:Int):Option ((List Int×Int) ⊕ (List Int)) :=
 if (decide (ef<(db.length:Int)))=true then (ck ((0:Int)<=ef/\ef<(db.length:Int)) ((qC (nth db ef.toNat) rY).bind λy1=>ck (y1=true->((0:Int)<=ef/\ef<(db.length:Int))) (ck (y1=true->(cL ((ly.length:Int)+1))) (if (y1 && (((nth db ef.toNat).part)==((ly.length:Int)+1)))=true then (ck (ly.length+([ef]:List Int).length<=1000000000) (ck (qD=true->((0:Int)<=ef/\ef<(db.length:Int))) (if (qD && (nth db ef.toNat).last)=true then some (.inr (ly++([ef]:List Int))) else ck (cL (ef+1)) (some (.inl (ly++([ef]:List Int),ef+1)))))) else ck (cL (ef+1)) (some (.inl (ly,ef+1))))))) else some (.inr ly)
def nr (db:List aa) (rY:aa) (qD:Bool):Option (List Int) :=
 loop (λs=>oJ db rY qD s.1 s.2) (([]:List Int),0)
def q8 (aL:List aa) (kq:List Int) (dK:List aa) (oo:List aa) (uv:Int) (cm:Int):Option ((List aa×List aa×Int×Int) ⊕ ((List aa)×(List aa))) :=
 if (decide (cm<(aL.length:Int)))=true then (ck ((decide (uv<(kq.length:Int)))=true->((0:Int)<=uv/\uv<(kq.length:Int))) (if ((decide (uv<(kq.length:Int))) && ((nth kq uv.toNat)==cm))=true then (ck ((0:Int)<=cm/\cm<(aL.length:Int)) (ck (dK.length+([nth aL cm.toNat]:List aa).length<=1000000000) (ck (cL (uv+1)) (ck (cL (cm+1)) (some (.inl (dK++([nth aL cm.toNat]:List aa),oo,uv+1,cm+1))))))) else ck ((0:Int)<=cm/\cm<(aL.length:Int)) (ck (oo.length+([nth aL cm.toNat]:List aa).length<=1000000000) (ck (cL (cm+1)) (some (.inl (dK,oo++([nth aL cm.toNat]:List aa),uv,cm+1))))))) else some (.inr (dK,oo))
def qE (aL:List aa) (kq:List Int):Option ((List aa)×(List aa)) :=
 loop (λs=>q8 aL kq s.1 s.2.1 s.2.2.1 s.2.2.2) (([]:List aa),([]:List aa),0,0)
def mE (v0:List aa) (ko:Int) (Cb:Int) (Cc:Int) (Cd:List UInt8) (Ce:List UInt8) (Cg:Int) (pA:Int) (yt:Int) (yu:Bool):Option (aa×Bool) :=
 some ((⟨ko,Cb,Cc,Cd,Ce,Cg,pA,0,0,false,yt,yu⟩:aa),decide ((v0.length:Int) > 0))
def pK (v0:List aa) (sb:Int) (cw:Int) (pL:Int) (pM:Int) (Ch:List UInt8) (Ci:List UInt8) (pD:Int) (fh:Int) (yw:Int) (yx:Bool):Option ((Int×Int×Int×Int×List UInt8×List UInt8×Int×Int×Int×Bool) ⊕ (aa×Bool)) :=
 if (decide (sb<(v0.length:Int)))=true then (ck ((0:Int)<=sb/\sb<(v0.length:Int)) ((b9 (!(((nth v0 sb.toNat).part)==0)) (gM (nth v0 sb.toNat))).bind λy1=>if ((((nth v0 sb.toNat).part)==0) || (y1 != 0))=true then some (.inr ((⟨0,0,0,([]:List UInt8),([]:List UInt8),0,0,0,0,false,0,false⟩:aa),false)) else ck (cL (fh+((nth v0 sb.toNat).cU))) (ck ((0:Int)<=0/\0<(v0.length:Int)) ((qC (nth v0 sb.toNat) (nth v0 (Int.toNat (0)))).bind λy2=>if ((((((!y2) || ((nth v0 sb.toNat).kind != (nth v0 (Int.toNat (0))).kind)) || ((nth v0 sb.toNat).a != (nth v0 (Int.toNat (0))).a)) || ((nth v0 sb.toNat).b != (nth v0 (Int.toNat (0))).b)) || ((nth v0 sb.toNat).c9 != (nth v0 (Int.toNat (0))).c9)) || ((nth v0 sb.toNat).bS != (nth v0 (Int.toNat (0))).bS))=true then some (.inr ((⟨0,0,0,([]:List UInt8),([]:List UInt8),0,0,0,0,false,0,false⟩:aa),false)) else (gM (⟨(nth v0 (Int.toNat (0))).source,(nth v0 (Int.toNat (0))).aI,(nth v0 (Int.toNat (0))).kind,(nth v0 (Int.toNat (0))).a,(nth v0 (Int.toNat (0))).b,(nth v0 (Int.toNat (0))).start,fh+((nth v0 sb.toNat).cU),0,0,false,(nth v0 (Int.toNat (0))).c9,(nth v0 (Int.toNat (0))).bS⟩:aa)).bind λy3=>if (y3 != 0)=true then some (.inr ((⟨0,0,0,([]:List UInt8),([]:List UInt8),0,0,0,0,false,0,false⟩:aa),false)) else ck (cL (sb+1)) (some (.inl (sb+1,(nth v0 (Int.toNat (0))).source,(nth v0 (Int.toNat (0))).aI,(nth v0 (Int.toNat (0))).kind,(nth v0 (Int.toNat (0))).a,(nth v0 (Int.toNat (0))).b,(nth v0 (Int.toNat (0))).start,fh+((nth v0 sb.toNat).cU),(nth v0 (Int.toNat (0))).c9,(nth v0 (Int.toNat (0))).bS))))))) else (mE v0 cw pL pM Ch Ci pD fh yw yx).map (λz=>.inr z)
def o4 (v0:List aa):Option (aa×Bool) :=
 loop (λs=>pK v0 s.1 s.2.1 s.2.2.1 s.2.2.2.1 s.2.2.2.2.1 s.2.2.2.2.2.1 s.2.2.2.2.2.2.1 s.2.2.2.2.2.2.2.1 s.2.2.2.2.2.2.2.2.1 s.2.2.2.2.2.2.2.2.2) (0,0,0,0,([]:List UInt8),([]:List UInt8),0,0,0,false)
def jE (aA:List aa):Option (aa×Bool) :=
 (o4 aA).bind λy1=>some (y1.1,y1.2)
def l9 (aA:List aa) (bO:Int):Option (Int ⊕ (aa×Bool)) :=
 if (decide (bO<(aA.length:Int)))=true then (ck ((0:Int)<=bO/\bO<(aA.length:Int)) (ck (cL (bO+1)) (ck ((!((nth aA bO.toNat).part != (bO+1)))=true->((0:Int)<=bO/\bO<(aA.length:Int))) (ck ((!((nth aA bO.toNat).part != (bO+1)))=true->(cL (bO+1))) (if (((nth aA bO.toNat).part != (bO+1)) || ((nth aA bO.toNat).last != ((bO+1)==(aA.length:Int))))=true then some (.inr ((⟨0,0,0,([]:List UInt8),([]:List UInt8),0,0,0,0,false,0,false⟩:aa),false)) else ck (cL (bO+1)) (some (.inl (bO+1)))))))) else (jE aA).map (λz=>.inr z)
def kx (aA:List aa):Option (aa×Bool) :=
 loop (λs=>l9 aA s) 0
def q9 (v0:List aa) (Di:Int):Option (Int ⊕ Bool) :=
 if (decide (Di<(v0.length:Int)))=true then (ck ((0:Int)<=Di/\Di<(v0.length:Int)) ((nr v0 (nth v0 Di.toNat) true).bind λy1=>(qE v0 y1).bind λy2=>(kx y2.1).bind λy3=>if y3.2=true then some (.inr false) else ck (cL (Di+1)) (some (.inl (Di+1))))) else some (.inr true)
def lN (v0:List aa):Option Bool :=
 loop (λs=>q9 v0 s) 0
def jU (v0:List aa) (lH:Int):Option (Int ⊕ Bool) :=
 if (decide (lH<(v0.length:Int)))=true then (ck ((0:Int)<=lH/\lH<(v0.length:Int)) (ck ((!(((nth v0 lH.toNat).part)==0))=true->((0:Int)<=lH/\lH<(v0.length:Int))) ((b9 (!(((nth v0 lH.toNat).part)==0)) (gM (nth v0 lH.toNat))).bind λy4=>ck (((!((((nth v0 lH.toNat).part)==0) || (y4 != 0))) && (decide (lH > 0)))=true->((0:Int)<=lH/\lH<(v0.length:Int))) (ck (((!((((nth v0 lH.toNat).part)==0) || (y4 != 0))) && (decide (lH > 0)))=true->(cL (lH-1))) (ck (((!((((nth v0 lH.toNat).part)==0) || (y4 != 0))) && (decide (lH > 0)))=true->((0:Int)<=(lH-1)/\(lH-1)<(v0.length:Int))) ((b9 ((!((((nth v0 lH.toNat).part)==0) || (y4 != 0))) && (decide (lH > 0))) (nq (nth v0 lH.toNat) (nth v0 (lH-1).toNat))).bind λy5=>if (((((nth v0 lH.toNat).part)==0) || (y4 != 0)) || ((decide (lH > 0)) && y5))=true then some (.inr false) else ck (cL (lH+1)) (some (.inl (lH+1))))))))) else (lN v0).map (λz=>.inr z)
def tp (v0:List aa):Option Bool :=
 loop (λs=>jU v0 s) 0
def kz (bI:Int) (OP:Int):Option (Int ⊕ Bool) :=
 if (decide (OP > 0))=true then some (.inr false) else ck (cL (bI+1)) (some (.inl (bI+1)))
def nt (v0:aF) (bI:Int) (FZ:Int) (oV:Int):Option ((Int×Int) ⊕ (Int ⊕ Bool)) :=
 if (decide (oV<(v0.aO.length:Int)))=true then (ck ((0:Int)<=oV/\oV<(v0.aO.length:Int)) (if (((nth v0.aO oV.toNat).source)==bI)=true then (ck ((0:Int)<=oV/\oV<(v0.aO.length:Int)) (ck (cL (FZ-((nth v0.aO oV.toNat).count))) (ck (cL (oV+1)) (some (.inl (FZ-((nth v0.aO oV.toNat).count),oV+1)))))) else ck (cL (oV+1)) (some (.inl (FZ,oV+1))))) else (kz bI FZ).map (λz=>.inr z)
def iJ (v0:aF) (bI:Int) (B8:Int):Option (Int ⊕ Bool) :=
 loop (λs=>nt v0 bI s.1 s.2) (B8,0)
def gx (v0:aF) (bI:Int) (Aa:Int) (nu:Int):Option ((Int×Int) ⊕ (Int ⊕ Bool)) :=
 if (decide (nu<(v0.seen.length:Int)))=true then (ck ((0:Int)<=nu/\nu<(v0.seen.length:Int)) (if (((nth v0.seen nu.toNat).source)==bI)=true then (ck ((0:Int)<=nu/\nu<(v0.seen.length:Int)) (ck (cL (Aa+((nth v0.seen nu.toNat).iu))) (ck ((0:Int)<=nu/\nu<(v0.seen.length:Int)) (ck (cL ((Aa+((nth v0.seen nu.toNat).iu)) - (nth v0.seen nu.toNat).from_)) (ck (cL (((Aa+((nth v0.seen nu.toNat).iu)) - (nth v0.seen nu.toNat).from_)+1)) (ck (cL (nu+1)) (some (.inl (((Aa+((nth v0.seen nu.toNat).iu)) - (nth v0.seen nu.toNat).from_)+1,nu+1))))))))) else ck (cL (nu+1)) (some (.inl (Aa,nu+1))))) else (iJ v0 bI Aa).map (λz=>.inr z)
def qF (v0:aF) (bI:Int):Option (Int ⊕ Bool) :=
 if (decide (bI<=99))=true then (loop (λs=>gx v0 bI s.1 s.2) (0,0)) else some (.inr true)
def oq (v0:aF):Option Bool :=
 loop (λs=>qF v0 s) 1
def sJ (aU:List Range) (bF:Int) (cF:Int) (eo:Int):Option (Int ⊕ Bool) :=
 if (decide (eo<(aU.length:Int)))=true then (ck ((0:Int)<=eo/\eo<(aU.length:Int)) (ck ((((nth aU eo.toNat).source)==bF)=true->((0:Int)<=eo/\eo<(aU.length:Int))) (ck (((((nth aU eo.toNat).source)==bF) && (decide (((nth aU eo.toNat).from_)<=cF)))=true->((0:Int)<=eo/\eo<(aU.length:Int))) (if (((((nth aU eo.toNat).source)==bF) && (decide (((nth aU eo.toNat).from_)<=cF))) && (decide (cF<=((nth aU eo.toNat).iu))))=true then ((fR bF cF).bind λy1=>some (.inr y1)) else ck (cL (eo+1)) (some (.inl (eo+1))))))) else some (.inr false)
def qG (aU:List Range) (bF:Int) (cF:Int):Option Bool :=
 loop (λs=>sJ aU bF cF s) 0
def mF (v0:aF) (bI:Int) (xG:Int):Option (Int ⊕ (Int ⊕ Bool)) :=
 if (decide (xG<bI))=true then (ck ((0:Int)<=xG/\xG<(v0.open_.length:Int)) (ck ((((nth v0.open_ xG.toNat).source)==((nth v0.open_ bI.toNat).source))=true->((0:Int)<=xG/\xG<(v0.open_.length:Int))) (if ((((nth v0.open_ xG.toNat).source)==((nth v0.open_ bI.toNat).source)) && (((nth v0.open_ xG.toNat).aI)==((nth v0.open_ bI.toNat).aI)))=true then some (.inr (.inr false)) else ck (cL (xG+1)) (some (.inl (xG+1)))))) else ck (cL (bI+1)) (some (.inr (.inl (bI+1))))
def mG (v0:aF) (bI:Int):Option (Int ⊕ Bool) :=
 if (decide (bI<(v0.open_.length:Int)))=true then (ck ((0:Int)<=bI/\bI<(v0.open_.length:Int)) ((qG v0.seen (nth v0.open_ bI.toNat).source (nth v0.open_ bI.toNat).aI).bind λy5=>if (!y5)=true then some (.inr false) else loop (λs=>mF v0 bI s) 0)) else some (.inr true)
def rG (v0:aF):Option Bool :=
 (rE v0).bind λy1=>(b9 (!(!y1)) (rF v0.seen)).bind λy2=>(b9 (!((!y1) || (!y2))) (tp v0.open_)).bind λy3=>(b9 (!(((!y1) || (!y2)) || (!y3))) (oq v0)).bind λy4=>if ((((!y1) || (!y2)) || (!y3)) || (!y4))=true then some false else loop (λs=>mG v0 s) 0
def sK (uM:aC):Option aa :=
 some (⟨uM.source,uM.aI,uM.kind,uM.a,uM.b,uM.start,uM.cU,0,0,false,uM.c9,uM.bS⟩:aa)
def kA (df:aj) (pN:List aa):Option (List aa) :=
 ck (pN.length+df.aS.length<=1000000000) (ck ((pN++df.aS).length+df.aH.open_.length<=1000000000) (some ((pN++df.aS)++df.aH.open_)))
def kB (df:aj) (ra:List aa) (bO:Int):Option ((List aa×Int) ⊕ (List aa)) :=
 if (decide (bO<(df.usages.length:Int)))=true then (ck ((0:Int)<=bO/\bO<(df.usages.length:Int)) ((sK (nth df.usages bO.toNat)).bind λy1=>ck (ra.length+([y1]:List aa).length<=1000000000) (ck (cL (bO+1)) (some (.inl (ra++([y1]:List aa),bO+1)))))) else (kA df ra).map (λz=>.inr z)
def ot (df:aj):Option (List aa) :=
 loop (λs=>kB df s.1 s.2) (([]:List aa),0)
def mH (aU:List Range) (om:Int) (bO:Int):Option ((Int×Int) ⊕ Int) :=
 if (decide (bO<(aU.length:Int)))=true then (ck ((0:Int)<=bO/\bO<(aU.length:Int)) (ck (cL (om+((nth aU bO.toNat).iu))) (ck ((0:Int)<=bO/\bO<(aU.length:Int)) (ck (cL ((om+((nth aU bO.toNat).iu)) - (nth aU bO.toNat).from_)) (ck (cL (((om+((nth aU bO.toNat).iu)) - (nth aU bO.toNat).from_)+1)) (ck (cL (bO+1)) (some (.inl (((om+((nth aU bO.toNat).iu)) - (nth aU bO.toNat).from_)+1,bO+1))))))))) else some (.inr om)
def rH (aU:List Range):Option Int :=
 loop (λs=>mH aU s.1 s.2) (0,0)
def kC (df:aj) (qB:Int):Option bV :=
 (rH df.aH.seen).bind λy1=>ck (cL (y1-(df.usages.length:Int))) (ck (cL ((y1-(df.usages.length:Int)) - (df.aS.length:Int))) (ck (cL (((y1-(df.usages.length:Int)) - (df.aS.length:Int)) - (df.aH.open_.length:Int))) (some (⟨qB,(df.usages.length:Int),((y1-(df.usages.length:Int)) - (df.aS.length:Int)) - (df.aH.open_.length:Int),(df.bA.length:Int),(df.aS.length:Int),(df.aH.open_.length:Int)⟩:bV))))
def kD (df:aj) (bO:Int) (bQ:Int):Option ((Int×Int) ⊕ bV) :=
 if (decide (bO<(df.aH.aO.length:Int)))=true then (ck ((0:Int)<=bO/\bO<(df.aH.aO.length:Int)) (ck (cL (bQ+((nth df.aH.aO bO.toNat).count))) (ck (cL (bO+1)) (some (.inl (bO+1,bQ+((nth df.aH.aO bO.toNat).count))))))) else (kC df bQ).map (λz=>.inr z)
def ou (df:aj):Option bV :=
 loop (λs=>kD df s.1 s.2) (0,0)
def kE (v0:aj):Option Bool :=
 (ou v0).bind λy3=>ck ((decide (y3.merged>=0))=true->(cL (y3.accepted+y3.merged))) (ck ((decide (y3.merged>=0))=true->(cL ((y3.accepted+y3.merged)+y3.rejected))) (ck ((decide (y3.merged>=0))=true->(cL (((y3.accepted+y3.merged)+y3.rejected)+y3.bL))) (ck ((decide (y3.merged>=0))=true->(cL ((((y3.accepted+y3.merged)+y3.rejected)+y3.bL)+y3.open_))) (some ((decide (y3.merged>=0)) && (y3.read==((((y3.accepted+y3.merged)+y3.rejected)+y3.bL)+y3.open_)))))))
def mI (y2:(List aa)) (aZ:Int) (w8:Int):Option (Int ⊕ (Int ⊕ Bool)) :=
 if (decide (w8<aZ))=true then (ck ((0:Int)<=w8/\w8<(y2.length:Int)) (ck ((0:Int)<=aZ/\aZ<(y2.length:Int)) (ck ((((nth y2 w8.toNat).source)==((nth y2 aZ.toNat).source))=true->((0:Int)<=w8/\w8<(y2.length:Int))) (ck ((((nth y2 w8.toNat).source)==((nth y2 aZ.toNat).source))=true->((0:Int)<=aZ/\aZ<(y2.length:Int))) (if ((((nth y2 w8.toNat).source)==((nth y2 aZ.toNat).source)) && (((nth y2 w8.toNat).aI)==((nth y2 aZ.toNat).aI)))=true then some (.inr (.inr false)) else ck (cL (w8+1)) (some (.inl (w8+1)))))))) else ck (cL (aZ+1)) (some (.inr (.inl (aZ+1))))
def pO (v0:aj) (y2:(List aa)) (aZ:Int):Option (Int ⊕ Bool) :=
 if (decide (aZ<(y2.length:Int)))=true then (ck ((0:Int)<=aZ/\aZ<(y2.length:Int)) ((gM (nth y2 aZ.toNat)).bind λy4=>ck ((!(y4 != 0))=true->((0:Int)<=aZ/\aZ<(y2.length:Int))) (ck ((!(y4 != 0))=true->((0:Int)<=aZ/\aZ<(y2.length:Int))) ((b9 (!(y4 != 0)) (qG v0.aH.seen (nth y2 aZ.toNat).source (nth y2 aZ.toNat).aI)).bind λy5=>if ((y4 != 0) || (!y5))=true then some (.inr false) else loop (λs=>mI y2 aZ s) 0)))) else (kE v0).map (λz=>.inr z)
def kF (v0:aj):Option Bool :=
 (ot v0).bind λy2=>loop (λs=>pO v0 y2 s) 0
def kG (v0:aj) (w9:Int):Option (Int ⊕ Bool) :=
 if (decide (w9<(v0.bA.length:Int)))=true then (ck ((0:Int)<=w9/\w9<(v0.bA.length:Int)) (ck (((nth v0.bA w9.toNat).err != 15)=true->((0:Int)<=w9/\w9<(v0.bA.length:Int))) (if (((nth v0.bA w9.toNat).err != 15) && ((nth v0.bA w9.toNat).err != 13))=true then some (.inr false) else ck (cL (w9+1)) (some (.inl (w9+1)))))) else (kF v0).map (λz=>.inr z)
def kH (v0:aj):Option Bool :=
 loop (λs=>kG v0 s) 0
def kI (v0:aj) (Cj:Int):Option (Int ⊕ Bool) :=
 if (decide (Cj<(v0.aS.length:Int)))=true then (ck ((0:Int)<=Cj/\Cj<(v0.aS.length:Int)) (if ((nth v0.aS Cj.toNat).part != 0)=true then some (.inr false) else ck (cL (Cj+1)) (some (.inl (Cj+1))))) else (kH v0).map (λz=>.inr z)
def kJ (v0:aj):Option Bool :=
 loop (λs=>kI v0 s) 0
def iZ (v0:aj) (vu:Int):Option (Int ⊕ Bool) :=
 if (decide (vu<(v0.usages.length:Int)))=true then (ck ((0:Int)<=vu/\vu<(v0.usages.length:Int)) (ck (cL (vu+1)) (if ((((((nth v0.usages vu.toNat).id != (vu+1)) || (decide ((nth v0.usages vu.toNat).au<1))) || (decide ((nth v0.usages vu.toNat).au > 9999))) || (decide ((nth v0.usages vu.toNat).sub<1))) || (decide ((nth v0.usages vu.toNat).sub > 9999)))=true then some (.inr false) else ck (cL (vu+1)) (some (.inl (vu+1)))))) else (kJ v0).map (λz=>.inr z)
def rJ (v0:aj):Option Bool :=
 (rG v0.aH).bind λy1=>if (!y1)=true then some false else loop (λs=>iZ v0 s) 0
def jV (G5:Bool):Option (List Bool) :=
 if G5=true then some ([true,false,false,false,true]:List Bool) else some ([false,true,false,false,false]:List Bool)
def iE (eh:Int) (G6:Bool):Option (List Bool) :=
 if G6=true then some ([false,true,false,true,false]:List Bool) else if (eh==14)=true then (jV (eh==14)) else jV (eh==15)
def jW (eh:Int) (lf:Bool):Option (List Bool) :=
 if lf=true then some ([false,true,true,false,false]:List Bool) else if (eh==7)=true then (iE eh (eh==7)) else if (eh==8)=true then (iE eh (eh==8)) else iE eh (eh==9)
def qH (eh:Int):Option (List Bool) :=
 if (eh==1)=true then some ([true,false,false,true,true]:List Bool) else if (eh==2)=true then some ([true,false,false,false,false]:List Bool) else if (eh==3)=true then some ([true,true,false,true,false]:List Bool) else if (eh==5)=true then (jW eh (eh==5)) else jW eh (eh==6)
def xH (yL:Int):Option Bool :=
 some ((decide (yL>=1)) && (decide (yL<=9999)))
def ov (b8:List UInt8) (bB:Int):Option (Int ⊕ Bool) :=
 if (decide (bB<(b8.length:Int)))=true then (ck ((0:Int)<=bB/\bB<(b8.length:Int)) (ck ((!(decide ((nth b8 bB.toNat)<97)))=true->((0:Int)<=bB/\bB<(b8.length:Int))) (ck (((decide ((nth b8 bB.toNat)<97)) || (decide ((nth b8 bB.toNat) > 122)))=true->((0:Int)<=bB/\bB<(b8.length:Int))) (ck ((((decide ((nth b8 bB.toNat)<97)) || (decide ((nth b8 bB.toNat) > 122))) && (!(decide ((nth b8 bB.toNat)<48))))=true->((0:Int)<=bB/\bB<(b8.length:Int))) (ck ((((decide ((nth b8 bB.toNat)<97)) || (decide ((nth b8 bB.toNat) > 122))) && ((decide ((nth b8 bB.toNat)<48)) || (decide ((nth b8 bB.toNat) > 57))))=true->((0:Int)<=bB/\bB<(b8.length:Int))) (if ((((decide ((nth b8 bB.toNat)<97)) || (decide ((nth b8 bB.toNat) > 122))) && ((decide ((nth b8 bB.toNat)<48)) || (decide ((nth b8 bB.toNat) > 57)))) && ((nth b8 bB.toNat) != 45))=true then some (.inr false) else ck (cL (bB+1)) (some (.inl (bB+1))))))))) else some (.inr true)
def tq (b8:List UInt8):Option Bool :=
 ck ((!((decide ((b8.length:Int)<1)) || (decide ((b8.length:Int) > 24))))=true->((0:Int)<=0/\0<(b8.length:Int))) (ck ((!(((decide ((b8.length:Int)<1)) || (decide ((b8.length:Int) > 24))) || (decide ((nth b8 (Int.toNat (0)))<97))))=true->((0:Int)<=0/\0<(b8.length:Int))) (if ((((decide ((b8.length:Int)<1)) || (decide ((b8.length:Int) > 24))) || (decide ((nth b8 (Int.toNat (0)))<97))) || (decide ((nth b8 (Int.toNat (0))) > 122)))=true then some false else loop (λs=>ov b8 s) 0))
def rK (QG:Event):Option Bool :=
 if (QG.kind==1)=true then some ((decide (QG.value>=1)) && (decide (QG.value<=28))) else if (QG.kind==14)=true then some ((decide (QG.value>=1)) && (decide (QG.value<=1125899906842624))) else some ((decide (QG.value>=(-1125899906842624))) && (decide (QG.value<=0)))
def tr (v0:Event) (v1:Int):Option Int :=
 if ((decide (v0.kind<1)) || (decide (v0.kind > 15)))=true then some 7 else if ((decide (v0.at_<0)) || (decide (v0.at_>=12622780800)))=true then some 15 else if (decide (v0.at_<v1))=true then some 9 else (qH v0.kind).bind λy1=>if ((((((!(nth y1 0)) && (v0.au != 0)) || ((!(nth y1 1)) && (v0.sub != 0))) || ((!(nth y1 2)) && (v0.number != ([]:List UInt8)))) || ((!(nth y1 3)) && (v0.name != ([]:List UInt8)))) || ((!(nth y1 4)) && (v0.value != 0)))=true then some 8 else (b9 (nth y1 0) (xH v0.au)).bind λy2=>(b9 ((!((nth y1 0) && (!y2))) && (nth y1 1)) (xH v0.sub)).bind λy3=>if (((nth y1 0) && (!y2)) || ((nth y1 1) && (!y3)))=true then some 6 else (b9 (nth y1 3) (tq v0.name)).bind λy4=>if (((nth y1 3) && (!y4)) || (((v0.kind==1) && (v0.name != ([112,114,101,112,97,105,100]:List UInt8))) && (v0.name != ([112,111,115,116,112,97,105,100]:List UInt8))))=true then some 8 else (b9 (nth y1 2) (mD v0.number)).bind λy5=>if ((nth y1 2) && (!y5))=true then some 12 else (b9 (nth y1 4) (rK v0)).bind λy6=>if ((nth y1 4) && (!y6))=true then some 6 else some 0
def kK (eO:ah) (vt:Int) (aE:Int):Option (Int ⊕ Int) :=
 if (decide (aE<(eO.aJ.length:Int)))=true then (ck ((0:Int)<=aE/\aE<(eO.aJ.length:Int)) (if (((nth eO.aJ aE.toNat).id)==vt)=true then some (.inr aE) else ck (cL (aE+1)) (some (.inl (aE+1))))) else some (.inr (-1))
def jX (eO:ah) (vt:Int):Option Int :=
 loop (λs=>kK eO vt s) 0
def pP (eO:ah) (vt:Int) (aE:Int):Option (Int ⊕ Int) :=
 if (decide (aE<(eO.bl.length:Int)))=true then (ck ((0:Int)<=aE/\aE<(eO.bl.length:Int)) (if (((nth eO.bl aE.toNat).id)==vt)=true then some (.inr aE) else ck (cL (aE+1)) (some (.inl (aE+1))))) else some (.inr (-1))
def nv (eO:ah) (vt:Int):Option Int :=
 loop (λs=>pP eO vt s) 0
def mJ (eO:ah) (vt:Int) (aE:Int):Option (Int ⊕ Bool) :=
 if (decide (aE<(eO.ended.length:Int)))=true then (ck ((0:Int)<=aE/\aE<(eO.ended.length:Int)) (if ((nth eO.ended aE.toNat)==vt)=true then some (.inr true) else ck (cL (aE+1)) (some (.inl (aE+1))))) else some (.inr false)
def lg (eO:ah) (vt:Int):Option Bool :=
 loop (λs=>mJ eO vt s) 0
def ox (eO:ah) (vt:Int) (aE:Int):Option (Int ⊕ Bool) :=
 if (decide (aE<(eO.bl.length:Int)))=true then (ck ((0:Int)<=aE/\aE<(eO.bl.length:Int)) (ck ((((nth eO.bl aE.toNat).au)==vt)=true->((0:Int)<=aE/\aE<(eO.bl.length:Int))) ((b9 (((nth eO.bl aE.toNat).au)==vt) (lg eO (nth eO.bl aE.toNat).id)).bind λy1=>if ((((nth eO.bl aE.toNat).au)==vt) && (!y1))=true then some (.inr true) else ck (cL (aE+1)) (some (.inl (aE+1)))))) else some (.inr false)
def tu (eO:ah) (vt:Int):Option Bool :=
 loop (λs=>ox eO vt s) 0
def lI (eO:ah) (sr:Event):Option Int :=
 (jX eO sr.au).bind λy1=>if (sr.kind==1)=true then (if (decide (y1>=0))=true then some 10 else some 0) else if (decide (y1<0))=true then some 11 else ck ((0:Int)<=y1/\y1<(eO.aJ.length:Int)) (if ((nth eO.aJ y1.toNat).closed)=true then some 17 else (b9 (sr.kind==3) (nv eO sr.sub)).bind λy2=>if ((sr.kind==3) && (decide (y2>=0)))=true then some 10 else (b9 (sr.kind==2) (tu eO sr.au)).bind λy3=>ck (((!((sr.kind==2) && y3)) && (decide (sr.kind > 13)))=true->((0:Int)<=y1/\y1<(eO.aJ.length:Int))) (if (((sr.kind==2) && y3) || ((decide (sr.kind > 13)) && (!(nth eO.aJ y1.toNat).fH)))=true then some 22 else some 0))
def pQ (jP:List (List UInt8)) (xI:List UInt8) (aE:Int):Option (Int ⊕ Bool) :=
 if (decide (aE<(jP.length:Int)))=true then (ck ((0:Int)<=aE/\aE<(jP.length:Int)) (if ((nth jP aE.toNat)==xI)=true then some (.inr true) else ck (cL (aE+1)) (some (.inl (aE+1))))) else some (.inr false)
def nw (jP:List (List UInt8)) (xI:List UInt8):Option Bool :=
 loop (λs=>pQ jP xI s) 0
def mK (eO:ah) (dd:List UInt8) (aE:Int):Option (Int ⊕ Bool) :=
 if (decide (aE<(eO.bl.length:Int)))=true then (ck ((0:Int)<=aE/\aE<(eO.bl.length:Int)) ((nw (nth eO.bl aE.toNat).numbers dd).bind λy1=>if y1=true then some (.inr true) else ck (cL (aE+1)) (some (.inl (aE+1))))) else some (.inr false)
def rL (eO:ah) (dd:List UInt8):Option Bool :=
 loop (λs=>mK eO dd s) 0
def kL (v0:ah) (v1:Event) (y1:Int) (G7:Bool):Option Int :=
 if G7=true then (if (((nth v0.bl y1.toNat).family)==(v1.kind==12))=true then some 22 else some 0) else some 0
def kM (v0:ah) (v1:Event) (y1:Int) (G8:Bool):Option Int :=
 if G8=true then (if (((nth v0.bl y1.toNat).bL)==(v1.kind==10))=true then some 22 else some 0) else if (v1.kind==12)=true then (kL v0 v1 y1 (v1.kind==12)) else kL v0 v1 y1 (v1.kind==13)
def rM (v0:ah) (v1:Event):Option Int :=
 (nv v0 v1.sub).bind λy1=>if (decide (y1<0))=true then some 11 else (lg v0 v1.sub).bind λy2=>if y2=true then some 17 else ck ((0:Int)<=y1/\y1<(v0.bl.length:Int)) (if (v1.kind==5)=true then ((rL v0 v1.number).bind λy3=>if y3=true then some 12 else some 0) else if (v1.kind==6)=true then ((nw (nth v0.bl y1.toNat).numbers v1.number).bind λy4=>if (!y4)=true then some 12 else some 0) else if (v1.kind==8)=true then ((nw (nth v0.bl y1.toNat).cj v1.name).bind λy5=>if y5=true then some 10 else some 0) else if (v1.kind==9)=true then ((nw (nth v0.bl y1.toNat).cj v1.name).bind λy6=>if (!y6)=true then some 11 else some 0) else if (v1.kind==10)=true then (kM v0 v1 y1 (v1.kind==10)) else kM v0 v1 y1 (v1.kind==11))
def o5 (eO:ah) (sr:Event) (qD:Int):Option Int :=
 (tr sr qD).bind λy1=>if (y1 != 0)=true then some y1 else (qH sr.kind).bind λy2=>if (nth y2 0)=true then ((lI eO sr).bind λy3=>some y3) else (rM eO sr).bind λy4=>some y4
def lO (jP:List (List UInt8)) (xI:List UInt8) (bY:Int):Option (List (List UInt8)) :=
 ck ((0:Int)<=bY/\bY<=(jP.length:Int)) (ck (([]:List (List UInt8)).length+(jP.take bY.toNat).length<=1000000000) (ck ((([]:List (List UInt8))++(jP.take bY.toNat)).length+([xI]:List (List UInt8)).length<=1000000000) (ck ((0:Int)<=bY/\bY<=(jP.length:Int)) (ck (((([]:List (List UInt8))++(jP.take bY.toNat))++([xI]:List (List UInt8))).length+(jP.drop bY.toNat).length<=1000000000) (some (((([]:List (List UInt8))++(jP.take bY.toNat))++([xI]:List (List UInt8)))++(jP.drop bY.toNat)))))))
def uN (jP:List (List UInt8)) (xI:List UInt8) (cT:Int):Option (Int ⊕ (List (List UInt8))) :=
 ck ((decide (cT<(jP.length:Int)))=true->((0:Int)<=cT/\cT<(jP.length:Int))) (if ((decide (cT<(jP.length:Int))) && (nO (nth jP cT.toNat) xI))=true then (ck (cL (cT+1)) (some (.inl (cT+1)))) else (lO jP xI cT).map (λz=>.inr z))
def qI (jP:List (List UInt8)) (xI:List UInt8):Option (List (List UInt8)) :=
 loop (λs=>uN jP xI s) 0
def qJ (jP:List (List UInt8)) (xI:List UInt8) (dr:List (List UInt8)) (cX:Int):Option ((List (List UInt8)×Int) ⊕ (List (List UInt8))) :=
 if (decide (cX<(jP.length:Int)))=true then (ck ((0:Int)<=cX/\cX<(jP.length:Int)) (if ((nth jP cX.toNat) != xI)=true then (ck ((0:Int)<=cX/\cX<(jP.length:Int)) (ck (dr.length+([nth jP cX.toNat]:List (List UInt8)).length<=1000000000) (ck (cL (cX+1)) (some (.inl (dr++([nth jP cX.toNat]:List (List UInt8)),cX+1)))))) else ck (cL (cX+1)) (some (.inl (dr,cX+1))))) else some (.inr dr)
def lP (jP:List (List UInt8)) (xI:List UInt8):Option (List (List UInt8)) :=
 loop (λs=>qJ jP xI s.1 s.2) (([]:List (List UInt8)),0)
def oy (b8:Sub) (sr:Event):Option Sub :=
 if (sr.kind==4)=true then some (⟨b8.id,b8.au,b8.since,b8.vk,([]:List (List UInt8)),([]:List (List UInt8)),b8.bL,b8.family⟩:Sub) else if (sr.kind==5)=true then ((qI b8.numbers sr.number).bind λy1=>some (⟨b8.id,b8.au,b8.since,b8.vk,y1,b8.cj,b8.bL,b8.family⟩:Sub)) else if (sr.kind==6)=true then ((lP b8.numbers sr.number).bind λy2=>some (⟨b8.id,b8.au,b8.since,b8.vk,y2,b8.cj,b8.bL,b8.family⟩:Sub)) else if (sr.kind==7)=true then some (⟨b8.id,b8.au,b8.since,sr.name,b8.numbers,b8.cj,b8.bL,b8.family⟩:Sub) else if (sr.kind==8)=true then ((qI b8.cj sr.name).bind λy3=>some (⟨b8.id,b8.au,b8.since,b8.vk,b8.numbers,y3,b8.bL,b8.family⟩:Sub)) else if (sr.kind==9)=true then ((lP b8.cj sr.name).bind λy4=>some (⟨b8.id,b8.au,b8.since,b8.vk,b8.numbers,y4,b8.bL,b8.family⟩:Sub)) else if (sr.kind==10)=true then some (⟨b8.id,b8.au,b8.since,b8.vk,b8.numbers,b8.cj,true,b8.family⟩:Sub) else if (sr.kind==11)=true then some (⟨b8.id,b8.au,b8.since,b8.vk,b8.numbers,b8.cj,false,b8.family⟩:Sub) else if (sr.kind==12)=true then some (⟨b8.id,b8.au,b8.since,b8.vk,b8.numbers,b8.cj,b8.bL,true⟩:Sub) else if (sr.kind==13)=true then some (⟨b8.id,b8.au,b8.since,b8.vk,b8.numbers,b8.cj,b8.bL,false⟩:Sub) else some b8
def ja (v0:ah) (v1:Event) (G9:Bool):Option ah :=
 if G9=true then some (⟨([]:List al)++v0.aJ,([]:List Sub)++v0.bl,([]:List Int)++v0.ended⟩:ah) else (nv v0 v1.sub).bind λy2=>ck ((0:Int)<=y2/\y2<((([]:List Sub)++v0.bl).length:Int)) (ck (y2.toNat<(([]:List Sub)++v0.bl).length) ((oy (nth (([]:List Sub)++v0.bl) y2.toNat) v1).bind λy3=>ck ((0:Int)<=y2/\y2<((([]:List Sub)++v0.bl).length:Int)) (ck (y2.toNat<(([]:List Sub)++v0.bl).length) (if (v1.kind==4)=true then (ck ((([]:List Int)++v0.ended).length+([v1.sub]:List Int).length<=1000000000) (some (⟨([]:List al)++v0.aJ,(([]:List Sub)++v0.bl).set y2.toNat y3,(([]:List Int)++v0.ended)++([v1.sub]:List Int)⟩:ah))) else some (⟨([]:List al)++v0.aJ,(([]:List Sub)++v0.bl).set y2.toNat y3,([]:List Int)++v0.ended⟩:ah)))))
def gN (v0:ah) (v1:Event):Option ah :=
 ck (v0.aJ.length<=1000000000) (ck (v0.bl.length<=1000000000) (ck (v0.ended.length<=1000000000) (if (v1.kind==1)=true then (ck ((([]:List al)++v0.aJ).length+([(⟨v1.au,v1.at_,v1.value,(v1.name==([112,114,101,112,97,105,100]:List UInt8)),false,([]:List Int)⟩:al)]:List al).length<=1000000000) (some (⟨(([]:List al)++v0.aJ)++([(⟨v1.au,v1.at_,v1.value,(v1.name==([112,114,101,112,97,105,100]:List UInt8)),false,([]:List Int)⟩:al)]:List al),([]:List Sub)++v0.bl,([]:List Int)++v0.ended⟩:ah))) else if (v1.kind==2)=true then ((jX v0 v1.au).bind λy1=>ck ((0:Int)<=y1/\y1<((([]:List al)++v0.aJ).length:Int)) (ck (y1.toNat<(([]:List al)++v0.aJ).length) (some (⟨(([]:List al)++v0.aJ).set y1.toNat (⟨(nth (([]:List al)++v0.aJ) y1.toNat).id,(nth (([]:List al)++v0.aJ) y1.toNat).since,(nth (([]:List al)++v0.aJ) y1.toNat).anchor,(nth (([]:List al)++v0.aJ) y1.toNat).fH,true,([]:List Int)⟩:al),([]:List Sub)++v0.bl,([]:List Int)++v0.ended⟩:ah)))) else if (v1.kind==3)=true then (ck ((([]:List Sub)++v0.bl).length+([(⟨v1.sub,v1.au,v1.at_,v1.name,([]:List (List UInt8)),([]:List (List UInt8)),false,false⟩:Sub)]:List Sub).length<=1000000000) (some (⟨([]:List al)++v0.aJ,(([]:List Sub)++v0.bl)++([(⟨v1.sub,v1.au,v1.at_,v1.name,([]:List (List UInt8)),([]:List (List UInt8)),false,false⟩:Sub)]:List Sub),([]:List Int)++v0.ended⟩:ah))) else if (v1.kind==14)=true then (ja v0 v1 (v1.kind==14)) else ja v0 v1 (v1.kind==15))))
def mL (az:List Event) (xJ:Int) (cX:Int) (dt:List al) (jY:List Sub) (jZ:List Int):Option ((Int×Int×List al×List Sub×List Int) ⊕ (Int×Int)) :=
 if (decide (cX<(az.length:Int)))=true then (ck ((0:Int)<=cX/\cX<(az.length:Int)) ((o5 (⟨dt,jY,jZ⟩:ah) (nth az cX.toNat) xJ).bind λy1=>if (y1 != 0)=true then some (.inr (cX,y1)) else ck ((0:Int)<=cX/\cX<(az.length:Int)) ((gN (⟨dt,jY,jZ⟩:ah) (nth az cX.toNat)).bind λy2=>ck ((0:Int)<=cX/\cX<(az.length:Int)) (ck (cL (cX+1)) (some (.inl ((nth az cX.toNat).at_,cX+1,y2.aJ,y2.bl,y2.ended))))))) else some (.inr (0,0))
def rN (az:List Event):Option (Int×Int) :=
 if (decide ((az.length:Int) > 4096))=true then some (0,5) else loop (λs=>mL az s.1 s.2.1 s.2.2.1 s.2.2.2.1 s.2.2.2.2) (0,0,([]:List al),([]:List Sub),([]:List Int))
def pR (az:List Event):Option Bool :=
 if (decide ((az.length:Int) > 40))=true then some false else (rN az).bind λy1=>some (y1.2==0)
def sL (az:List Event) (bB:Int):Option (Int ⊕ Bool) :=
 if ((decide (bB<(az.length:Int))) && (decide (bB<41)))=true then (ck ((0:Int)<=bB/\bB<(az.length:Int)) (ck ((!(decide ((((nth az bB.toNat).name).length:Int) > 200)))=true->((0:Int)<=bB/\bB<(az.length:Int))) (if ((decide ((((nth az bB.toNat).name).length:Int) > 200)) || (decide ((((nth az bB.toNat).number).length:Int) > 200)))=true then some (.inr false) else ck (cL (bB+1)) (some (.inl (bB+1)))))) else (pR az).map (λz=>.inr z)
def vv (az:List Event):Option Bool :=
 loop (λs=>sL az s) 0
def kN (df:aj):Option Bool :=
 (rz df).bind λy1=>(b9 y1 (rJ df)).bind λy2=>some (y1 && y2)
def tv (gH:Int) (dd:Int) (xK:Int):Option Int :=
 if ((((decide (gH<1)) || (decide (gH > 99))) || (decide (dd<1))) || (decide (dd > 999999999)))=true then some 6 else if ((decide (xK<1)) || (decide (xK>=4)))=true then some 7 else some 0
def jb (eO:Batch) (bO:Int):Option (Int ⊕ Int) :=
 if (decide (bO<(eO.records.length:Int)))=true then (ck ((0:Int)<=bO/\bO<(eO.records.length:Int)) ((oZ (nth eO.records bO.toNat)).bind λy2=>if (y2 != 0)=true then some (.inr y2) else ck ((0:Int)<=bO/\bO<(eO.records.length:Int)) (if ((nth eO.records bO.toNat).source != eO.source)=true then some (.inr 8) else ck (cL (bO+1)) (some (.inl (bO+1)))))) else some (.inr 0)
def rO (eO:Batch):Option Int :=
 (tv eO.source eO.number eO.format).bind λy1=>if (y1 != 0)=true then some y1 else if (decide ((eO.records.length:Int) > 4096))=true then some 5 else loop (λs=>jb eO s) 0
def tw (bM:aF) (bF:Int):Option Int :=
 if ((decide (bF<1)) || (decide (bF > 99)))=true then some 0 else (oU bM.aO (bM.aO.length:Int) bF).bind λy1=>some y1
def sM (nm:aa) (DK:bX):Option Int :=
 if ((decide (nm.start<DK.eA)) || (decide (nm.start > DK.iO)))=true then some 15 else some 0
def pS (v1:Int) (F0:List Range) (Ha:Bool) (wB:Int) (wC:Int):Option ((List Range)×Bool) :=
 if (!Ha)=true then (ck (F0.length+([(⟨v1,wB,wC⟩:Range)]:List Range).length<=1000000000) (some (F0++([(⟨v1,wB,wC⟩:Range)]:List Range),true))) else some (F0,true)
def sN (v0:List Range) (v1:Int) (v2:Int) (aZ:List Range) (bG:Bool) (aX:Int) (jY:Int) (jZ:Int):Option ((List Range×Bool×Int×Int×Int) ⊕ ((List Range)×Bool)) :=
 if (decide (aX<(v0.length:Int)))=true then (ck ((0:Int)<=aX/\aX<(v0.length:Int)) (ck ((((nth v0 aX.toNat).source)==v1)=true->(cL (((nth v0 aX.toNat).iu)+1))) (if ((((nth v0 aX.toNat).source)==v1) && ((((nth v0 aX.toNat).iu)+1)==v2))=true then (ck (cL (aX+1)) (some (.inl (aZ,bG,aX+1,(nth v0 aX.toNat).from_,jZ)))) else ck ((((nth v0 aX.toNat).source)==v1)=true->(cL ((nth v0 aX.toNat).from_ - 1))) (if ((((nth v0 aX.toNat).source)==v1) && (((nth v0 aX.toNat).from_ - 1)==v2))=true then (ck (cL (aX+1)) (some (.inl (aZ,bG,aX+1,jY,(nth v0 aX.toNat).iu)))) else if ((bG || (decide ((nth v0 aX.toNat).source<v1))) || ((((nth v0 aX.toNat).source)==v1) && (decide ((nth v0 aX.toNat).iu<v2))))=true then (ck (aZ.length+([nth v0 aX.toNat]:List Range).length<=1000000000) (ck (cL (aX+1)) (some (.inl (aZ++([nth v0 aX.toNat]:List Range),bG,aX+1,jY,jZ))))) else ck (aZ.length+([(⟨v1,jY,jZ⟩:Range),nth v0 aX.toNat]:List Range).length<=1000000000) (ck (cL (aX+1)) (some (.inl (aZ++([(⟨v1,jY,jZ⟩:Range),nth v0 aX.toNat]:List Range),true,aX+1,jY,jZ)))))))) else (pS v1 aZ bG jY jZ).map (λz=>.inr z)
def vz (v0:List Range) (v1:Int) (v2:Int):Option ((List Range)×Bool) :=
 (fR v1 v2).bind λy1=>(b9 (!(!y1)) (qG v0 v1 v2)).bind λy2=>if ((!y1) || y2)=true then some (([]:List Range),false) else loop (λs=>sN v0 v1 v2 s.1 s.2.1 s.2.2.1 s.2.2.2.1 s.2.2.2.2) (([]:List Range),false,0,v2,v2)
def lJ (FJ:aa) (rb:List aa) (vA:Bool):Option (List aa) :=
 if (!vA)=true then (ck (rb.length+([FJ]:List aa).length<=1000000000) (some (rb++([FJ]:List aa)))) else some rb
def js (db:List aa) (eo:Int) (sO:List aa) (vB:Bool):Option ((List aa×Bool×Int) ⊕ (List aa)) :=
 ck ((0:Int)<=eo/\eo<(db.length:Int)) (ck (sO.length+([nth db eo.toNat]:List aa).length<=1000000000) (ck (cL (eo+1)) (some (.inl (sO++([nth db eo.toNat]:List aa),vB,eo+1)))))
def oK (db:List aa) (FJ:aa) (dr:List aa) (mM:Bool) (eo:Int):Option ((List aa×Bool×Int) ⊕ (List aa)) :=
 if (decide (eo<(db.length:Int)))=true then (ck ((!mM)=true->((0:Int)<=eo/\eo<(db.length:Int))) ((b9 (!mM) (nq FJ (nth db eo.toNat))).bind λy1=>if ((!mM) && y1)=true then (ck (dr.length+([FJ]:List aa).length<=1000000000) (js db eo (dr++([FJ]:List aa)) true)) else js db eo dr mM)) else (lJ FJ dr mM).map (λz=>.inr z)
def pT (db:List aa) (FJ:aa):Option (List aa) :=
 loop (λs=>oK db FJ s.1 s.2.1 s.2.2) (([]:List aa),false,0)
def re (v1:List aa) (aZ:Int) (oV:List aa) (Mj:List aa):Option ((List aa×List aa) ⊕ ((List aa×List aa×Int) ⊕ ((List aa)×(List aa)))) :=
 ck ((0:Int)<=aZ/\aZ<(v1.length:Int)) ((nr Mj (nth v1 aZ.toNat) true).bind λy2=>(qE Mj y2).bind λy3=>(kx y3.1).bind λy4=>if (!y4.2)=true then (ck (cL (aZ+1)) (some (.inr (.inl (oV,Mj,aZ+1))))) else ck (oV.length+([y4.1]:List aa).length<=1000000000) (some (.inl (oV++([y4.1]:List aa),y3.2))))
def rf (v1:List aa) (sI:List aa) (fF:List aa) (aZ:Int):Option ((List aa×List aa×Int) ⊕ ((List aa)×(List aa))) :=
 if (decide (aZ<(v1.length:Int)))=true then (ck ((0:Int)<=aZ/\aZ<(v1.length:Int)) (if (((nth v1 aZ.toNat).part)==0)=true then (ck ((0:Int)<=aZ/\aZ<(v1.length:Int)) (ck (sI.length+([nth v1 aZ.toNat]:List aa).length<=1000000000) (ck (cL (aZ+1)) (some (.inl (sI++([nth v1 aZ.toNat]:List aa),fF,aZ+1)))))) else ck ((0:Int)<=aZ/\aZ<(v1.length:Int)) ((pT fF (nth v1 aZ.toNat)).bind λy1=>loop (λs=>re v1 aZ s.1 s.2) (sI,y1)))) else some (.inr (sI,fF))
def tx (v0:List aa) (v1:List aa):Option ((List aa)×(List aa)) :=
 ck (v0.length<=1000000000) (loop (λs=>rf v1 s.1 s.2.1 s.2.2) (([]:List aa),v0,0))
def lK (v0:aF) (v1:Batch) (EI:List Range) (EJ:List aa) (lf:List ag):Option (aF×(List aa)×(List ag)×Int) :=
 (tx v0.open_ EJ).bind λy3=>ck (([]:List Head).length+v0.aO.length<=1000000000) (ck ((([]:List Head)++v0.aO).length+([(⟨v1.source,v1.number,v1.format,(v1.records.length:Int)⟩:Head)]:List Head).length<=1000000000) (some ((⟨EI,y3.2,(([]:List Head)++v0.aO)++([(⟨v1.source,v1.number,v1.format,(v1.records.length:Int)⟩:Head)]:List Head)⟩:aF),y3.1,lf,0)))
def hZ (v1:Batch) (aX:List Range) (qi:List aa) (bt:List ag) (eW:Int) (zy:Int):Option ((List Range×List aa×List ag×Int) ⊕ (aF×(List aa)×(List ag)×Int)) :=
 ck (bt.length+([(⟨(nth v1.records eW.toNat).source,(nth v1.records eW.toNat).aI,eW,zy⟩:ag)]:List ag).length<=1000000000) (ck (cL (eW+1)) (some (.inl (aX,qi,bt++([(⟨(nth v1.records eW.toNat).source,(nth v1.records eW.toNat).aI,eW,zy⟩:ag)]:List ag),eW+1))))
def oL (v0:aF) (v1:Batch) (v2:bX) (aX:List Range) (qi:List aa) (bt:List ag) (eW:Int):Option ((List Range×List aa×List ag×Int) ⊕ (aF×(List aa)×(List ag)×Int)) :=
 if (decide (eW<(v1.records.length:Int)))=true then (ck ((0:Int)<=eW/\eW<(v1.records.length:Int)) ((sM (nth v1.records eW.toNat) v2).bind λy4=>if (y4==0)=true then ((vz aX (nth v1.records eW.toNat).source (nth v1.records eW.toNat).aI).bind λy5=>if y5.2=true then (ck (qi.length+([nth v1.records eW.toNat]:List aa).length<=1000000000) (ck (cL (eW+1)) (some (.inl (y5.1,qi++([nth v1.records eW.toNat]:List aa),bt,eW+1))))) else hZ v1 aX qi bt eW 13) else hZ v1 aX qi bt eW y4)) else (lK v0 v1 aX qi bt).map (λz=>.inr z)
def pU (v0:aF) (v1:Batch) (v2:bX):Option (aF×(List aa)×(List ag)×Int) :=
 (rO v1).bind λy1=>if (y1 != 0)=true then some ((⟨([]:List Range),([]:List aa),([]:List Head)⟩:aF),([]:List aa),([]:List ag),y1) else (tw v0 v1.source).bind λy2=>if (v1.number != y2)=true then some ((⟨([]:List Range),([]:List aa),([]:List Head)⟩:aF),([]:List aa),([]:List ag),20) else ck (v0.seen.length<=1000000000) (loop (λs=>oL v0 v1 v2 s.1 s.2.1 s.2.2.1 s.2.2.2) (v0.seen,([]:List aa),([]:List ag),0))
def oz (az:List Event) (FI:Int) (cX:Int) (cw:List al) (pL:List Sub) (pM:List Int):Option ((Int×List al×List Sub×List Int) ⊕ ah) :=
 if (decide (cX<(az.length:Int)))=true then (ck ((0:Int)<=cX/\cX<(az.length:Int)) (if (decide (((nth az cX.toNat).at_)<=FI))=true then (ck ((0:Int)<=cX/\cX<(az.length:Int)) ((gN (⟨cw,pL,pM⟩:ah) (nth az cX.toNat)).bind λy1=>ck (cL (cX+1)) (some (.inl (cX+1,y1.aJ,y1.bl,y1.ended))))) else ck (cL (cX+1)) (some (.inl (cX+1,cw,pL,pM))))) else some (.inr (⟨cw,pL,pM⟩:ah))
def qK (az:List Event) (FI:Int):Option ah :=
 loop (λs=>oz az FI s.1 s.2.1 s.2.2.1 s.2.2.2) (0,([]:List al),([]:List Sub),([]:List Int))
def mN (y1:ah) (uO:Int) (bQ:List al) (y2:Int) (wD:List Int):Option ((Int×List al) ⊕ b7) :=
 ck (bQ.length+([(⟨(nth y1.aJ y2.toNat).id,(nth y1.aJ y2.toNat).since,(nth y1.aJ y2.toNat).anchor,(nth y1.aJ y2.toNat).fH,(nth y1.aJ y2.toNat).closed,wD⟩:al)]:List al).length<=1000000000) (ck (cL (uO+1)) (some (.inl (uO+1,bQ++([(⟨(nth y1.aJ y2.toNat).id,(nth y1.aJ y2.toNat).since,(nth y1.aJ y2.toNat).anchor,(nth y1.aJ y2.toNat).fH,(nth y1.aJ y2.toNat).closed,wD⟩:al)]:List al)))))
def pV (y1:ah) (fZ:List Sub) (uO:Int) (bQ:List al) (y2:Int) (nG:Int) (tz:List Int):Option ((Int×List Int) ⊕ ((Int×List al) ⊕ b7)) :=
 if (decide (nG<(fZ.length:Int)))=true then (ck ((0:Int)<=nG/\nG<(fZ.length:Int)) (if (((nth fZ nG.toNat).au)==uO)=true then (ck ((0:Int)<=nG/\nG<(fZ.length:Int)) (ck (tz.length+([(nth fZ nG.toNat).id]:List Int).length<=1000000000) (ck (cL (nG+1)) (some (.inl (nG+1,tz++([(nth fZ nG.toNat).id]:List Int))))))) else ck (cL (nG+1)) (some (.inl (nG+1,tz))))) else (mN y1 uO bQ y2 tz).map (λz=>.inr z)
def pX (y1:ah) (fZ:List Sub) (uO:Int) (bQ:List al):Option ((Int×List al) ⊕ b7) :=
 if ((decide (uO<=9999)) && (decide ((bQ.length:Int)<(y1.aJ.length:Int))))=true then ((jX y1 uO).bind λy2=>if (decide (y2<0))=true then (ck (cL (uO+1)) (some (.inl (uO+1,bQ)))) else ck ((0:Int)<=y2/\y2<(y1.aJ.length:Int)) (loop (λs=>pV y1 fZ uO bQ y2 s.1 s.2) (0,([]:List Int)))) else some (.inr (⟨bQ,fZ⟩:b7))
def kO (y1:ah) (fZ:List Sub):Option b7 :=
 loop (λs=>pX y1 fZ s.1 s.2) (1,([]:List al))
def kP (y1:ah) (Ab:Int) (pY:List Sub):Option ((Int×List Sub) ⊕ b7) :=
 ck ((decide (Ab<=9999))=true->(cL ((y1.bl.length:Int) - (y1.ended.length:Int)))) (if ((decide (Ab<=9999)) && (decide ((pY.length:Int)<((y1.bl.length:Int) - (y1.ended.length:Int)))))=true then ((nv y1 Ab).bind λy3=>(b9 (decide (y3>=0)) (lg y1 Ab)).bind λy4=>if ((decide (y3>=0)) && (!y4))=true then (ck ((0:Int)<=y3/\y3<(y1.bl.length:Int)) (ck (pY.length+([nth y1.bl y3.toNat]:List Sub).length<=1000000000) (ck (cL (Ab+1)) (some (.inl (Ab+1,pY++([nth y1.bl y3.toNat]:List Sub))))))) else ck (cL (Ab+1)) (some (.inl (Ab+1,pY)))) else (kO y1 pY).map (λz=>.inr z))
def rP (v0:List Event) (v1:Int):Option b7 :=
 (qK v0 v1).bind λy1=>loop (λs=>kP y1 s.1 s.2) (1,([]:List Sub))
def mO (dd:List UInt8) (y1:b7) (cm:Int):Option (Int ⊕ (Int×Bool)) :=
 if (decide (cm<(y1.bl.length:Int)))=true then (ck ((0:Int)<=cm/\cm<(y1.bl.length:Int)) ((nw (nth y1.bl cm.toNat).numbers dd).bind λy2=>if y2=true then (ck ((0:Int)<=cm/\cm<(y1.bl.length:Int)) (some (.inr ((nth y1.bl cm.toNat).id,true)))) else ck (cL (cm+1)) (some (.inl (cm+1))))) else some (.inr (0,false))
def rQ (az:List Event) (dd:List UInt8) (Ik:Int):Option (Int×Bool) :=
 (rP az Ik).bind λy1=>loop (λs=>mO dd y1 s) 0
def vC (az:List Event) (wz:Int) (Ik:Int):Option (Sub×Bool) :=
 (qK az Ik).bind λy1=>(nv y1 wz).bind λy2=>(b9 (!(decide (y2<0))) (lg y1 wz)).bind λy3=>if ((decide (y2<0)) || y3)=true then some ((⟨0,0,0,([]:List UInt8),([]:List (List UInt8)),([]:List (List UInt8)),false,false⟩:Sub),false) else ck ((0:Int)<=y2/\y2<(y1.bl.length:Int)) (some (nth y1.bl y2.toNat,true))
def jc (v0:List Event) (v1:aa) (v2:Int) (Mk:List UInt8):Option (aC×Int) :=
 (rQ v0 Mk v1.start).bind λy2=>if ((!y2.2) || (Mk==([]:List UInt8)))=true then some ((⟨0,0,0,0,([]:List UInt8),([]:List UInt8),0,0,0,false,0,0⟩:aC),11) else (vC v0 y2.1 v1.start).bind λy3=>if (y3.1.bL && (!v1.bS))=true then some ((⟨0,0,0,0,([]:List UInt8),([]:List UInt8),0,0,0,false,0,0⟩:aC),16) else some ((⟨v2,v1.kind,y3.1.au,y2.1,v1.a,v1.b,v1.start,v1.cU,v1.c9,v1.bS,v1.source,v1.aI⟩:aC),0)
def mP (v0:List Event) (v1:aa) (v2:Int):Option (aC×Int) :=
 (gM v1).bind λy1=>if (y1 != 0)=true then some ((⟨0,0,0,0,([]:List UInt8),([]:List UInt8),0,0,0,false,0,0⟩:aC),y1) else if (v1.part != 0)=true then some ((⟨0,0,0,0,([]:List UInt8),([]:List UInt8),0,0,0,false,0,0⟩:aC),8) else if v1.bS=true then (jc v0 v1 v2 v1.b) else jc v0 v1 v2 v1.a
def xL (jT:aj) (jd:List aC) (mQ:List aa):Option aj :=
 ck (jT.bA.length<=1000000000) (some (⟨jT.aH,jd,mQ,jT.bA⟩:aj))
def pZ (az:List Event) (jT:aj) (gO:List aa) (dn:List aC) (ir:List aa) (cm:Int):Option ((List aC×List aa×Int) ⊕ aj) :=
 if (decide (cm<(gO.length:Int)))=true then (ck ((0:Int)<=cm/\cm<(gO.length:Int)) (ck (cL ((dn.length:Int)+1)) ((mP az (nth gO cm.toNat) ((dn.length:Int)+1)).bind λy1=>if (y1.2==0)=true then (ck (dn.length+([y1.1]:List aC).length<=1000000000) (ck (cL (cm+1)) (some (.inl (dn++([y1.1]:List aC),ir,cm+1))))) else ck ((0:Int)<=cm/\cm<(gO.length:Int)) (ck (ir.length+([nth gO cm.toNat]:List aa).length<=1000000000) (ck (cL (cm+1)) (some (.inl (dn,ir++([nth gO cm.toNat]:List aa),cm+1)))))))) else (xL jT dn ir).map (λz=>.inr z)
def C0 (az:List Event) (jT:aj) (gO:List aa):Option aj :=
 ck (([]:List aC).length+jT.usages.length<=1000000000) (ck (([]:List aa).length+jT.aS.length<=1000000000) (loop (λs=>pZ az jT gO s.1 s.2.1 s.2.2) (([]:List aC)++jT.usages,([]:List aa)++jT.aS,0)))
def mR (jT:aj) (jd:List aC) (mQ:List aa):Option ((List Range)×(List aa)×(List Head)×(List aC)×(List aa)×(List ag)) :=
 ck (([]:List ag).length+jT.bA.length<=1000000000) (some (jT.aH.seen,jT.aH.open_,jT.aH.aO,jd,mQ,([]:List ag)++jT.bA))
def mS (az:List Event) (jT:aj) (gO:List aa) (dn:List aC) (ir:List aa) (cm:Int):Option ((List aC×List aa×Int) ⊕ ((List Range)×(List aa)×(List Head)×(List aC)×(List aa)×(List ag))) :=
 if (decide (cm<(gO.length:Int)))=true then (ck ((0:Int)<=cm/\cm<(gO.length:Int)) (ck (cL ((dn.length:Int)+1)) ((mP az (nth gO cm.toNat) ((dn.length:Int)+1)).bind λy1=>if (y1.2==0)=true then (ck (dn.length+([y1.1]:List aC).length<=1000000000) (ck (cL (cm+1)) (some (.inl (dn++([y1.1]:List aC),ir,cm+1))))) else ck ((0:Int)<=cm/\cm<(gO.length:Int)) (ck (ir.length+([nth gO cm.toNat]:List aa).length<=1000000000) (ck (cL (cm+1)) (some (.inl (dn,ir++([nth gO cm.toNat]:List aa),cm+1)))))))) else (mR jT dn ir).map (λz=>.inr z)
def rR (az:List Event) (jT:aj) (gO:List aa):Option ((List Range)×(List aa)×(List Head)×(List aC)×(List aa)×(List ag)) :=
 ck (([]:List aC).length+jT.usages.length<=1000000000) (ck (([]:List aa).length+jT.aS.length<=1000000000) (loop (λs=>mS az jT gO s.1 s.2.1 s.2.2) (([]:List aC)++jT.usages,([]:List aa)++jT.aS,0)))
def tA (az:List Event) (jT:aj) (YR:Batch) (Xu:bX):Option (aj×Int) :=
 (pU jT.aH YR Xu).bind λy1=>if (y1.2.2.2 != 0)=true then some ((⟨(⟨([]:List Range),([]:List aa),([]:List Head)⟩:aF),([]:List aC),([]:List aa),([]:List ag)⟩:aj),y1.2.2.2) else (rR az jT y1.2.1).bind λy2=>ck (y2.2.2.2.2.2.length+y1.2.2.1.length<=1000000000) (some ((⟨y1.1,y2.2.2.2.1,y2.2.2.2.2.1,y2.2.2.2.2.2++y1.2.2.1⟩:aj),0))
def rh (fw:List Range) (gi:List Range) (aE:Int):Option (Int ⊕ Bool) :=
 if (decide (aE<(fw.length:Int)))=true then (ck ((0:Int)<=aE/\aE<(fw.length:Int)) (ck ((0:Int)<=aE/\aE<(gi.length:Int)) (if (!(ew (Range.bP (nth fw aE.toNat)) (Range.bP (nth gi aE.toNat))))=true then some (.inr false) else ck (cL (aE+1)) (some (.inl (aE+1)))))) else some (.inr true)
def tB (fw:List Range) (gi:List Range):Option Bool :=
 if ((fw.length:Int) != (gi.length:Int))=true then some false else loop (λs=>rh fw gi s) 0
def ri (fw:List aa) (gi:List aa) (aE:Int):Option (Int ⊕ Bool) :=
 if (decide (aE<(fw.length:Int)))=true then (ck ((0:Int)<=aE/\aE<(fw.length:Int)) (ck ((0:Int)<=aE/\aE<(gi.length:Int)) (if (!(ew (aa.bP (nth fw aE.toNat)) (aa.bP (nth gi aE.toNat))))=true then some (.inr false) else ck (cL (aE+1)) (some (.inl (aE+1)))))) else some (.inr true)
def qL (fw:List aa) (gi:List aa):Option Bool :=
 if ((fw.length:Int) != (gi.length:Int))=true then some false else loop (λs=>ri fw gi s) 0
def oA (fw:aF) (gi:aF):Option Bool :=
 (tB fw.seen gi.seen).bind λy1=>(b9 y1 (qL fw.open_ gi.open_)).bind λy2=>some (y1 && y2)
def rj (fw:aF) (gi:aF) (aE:Int):Option (Int ⊕ Bool) :=
 if (decide (aE<(fw.aO.length:Int)))=true then (ck ((0:Int)<=aE/\aE<(fw.aO.length:Int)) (ck ((0:Int)<=aE/\aE<(gi.aO.length:Int)) (if (!(ew (Head.bP (nth fw.aO aE.toNat)) (Head.bP (nth gi.aO aE.toNat))))=true then some (.inr false) else ck (cL (aE+1)) (some (.inl (aE+1)))))) else (oA fw gi).map (λz=>.inr z)
def tC (fw:aF) (gi:aF):Option Bool :=
 if ((fw.aO.length:Int) != (gi.aO.length:Int))=true then some false else loop (λs=>rj fw gi s) 0
def rk (fw:List aC) (gi:List aC) (aE:Int):Option (Int ⊕ Bool) :=
 if (decide (aE<(fw.length:Int)))=true then (ck ((0:Int)<=aE/\aE<(fw.length:Int)) (ck ((0:Int)<=aE/\aE<(gi.length:Int)) (if (!(ew (aC.bP (nth fw aE.toNat)) (aC.bP (nth gi aE.toNat))))=true then some (.inr false) else ck (cL (aE+1)) (some (.inl (aE+1)))))) else some (.inr true)
def tD (fw:List aC) (gi:List aC):Option Bool :=
 if ((fw.length:Int) != (gi.length:Int))=true then some false else loop (λs=>rk fw gi s) 0
def jF (fw:List ag) (gi:List ag) (aE:Int):Option (Int ⊕ Bool) :=
 if (decide (aE<(fw.length:Int)))=true then (ck ((0:Int)<=aE/\aE<(fw.length:Int)) (ck ((0:Int)<=aE/\aE<(gi.length:Int)) (if (!(ew (ag.bP (nth fw aE.toNat)) (ag.bP (nth gi aE.toNat))))=true then some (.inr false) else ck (cL (aE+1)) (some (.inl (aE+1)))))) else some (.inr true)
def jG (fw:List ag) (gi:List ag):Option Bool :=
 if ((fw.length:Int) != (gi.length:Int))=true then some false else loop (λs=>jF fw gi s) 0
def qM (fw:aj) (gi:aj):Option Bool :=
 (tC fw.aH gi.aH).bind λy1=>(b9 y1 (tD fw.usages gi.usages)).bind λy2=>(b9 (y1 && y2) (qL fw.aS gi.aS)).bind λy3=>(b9 ((y1 && y2) && y3) (jG fw.bA gi.bA)).bind λy4=>some (((y1 && y2) && y3) && y4)
def jH (az:List Event) (jT:aj) (T2:dB):Option Bool :=
 (vv az).bind λy1=>(b9 (!(!y1)) (kN jT)).bind λy2=>(b9 (!((!y1) || (!y2))) (qx T2.batch.records)).bind λy3=>if (((!y1) || (!y2)) || (!y3))=true then ((rD).bind λy4=>some y4) else (gw az jT T2.batch T2.EE).bind λy5=>(tA az jT T2.batch T2.EE).bind λy6=>(qM y5.1 y6.1).bind λy7=>(b9 (y7 && (y5.2==y6.2)) rD).bind λy8=>some ((y7 && (y5.2==y6.2)) && y8)
def eS (bg:List aa) (bj:List Event) (bn:List aC) (eI:List aa) (bG:Int):Option ((List aC×List aa×Int) ⊕ ((List aC)×(List aa))) :=
 if (decide (bG<(bg.length:Int)))=true then (ck ((0:Int)<=bG/\bG<(bg.length:Int)) (ck (cL ((bn.length:Int)+1)) ((fQ bj (nth bg bG.toNat) ((bn.length:Int)+1)).bind λy1=>if (y1.2==0)=true then (ck (bn.length+([y1.1]:List aC).length<=1000000000) (ck (cL (bG+1)) (some (.inl (bn++([y1.1]:List aC),eI,bG+1))))) else ck (eI.length+([nth bg bG.toNat]:List aa).length<=1000000000) (ck (cL (bG+1)) (some (.inl (bn,eI++([nth bg bG.toNat]:List aa),bG+1))))))) else some (.inr (bn,eI))
def mT (bg:List aa) (cV:List Range) (oh:List aa) (oi:List Head) (bz:List ag) (bj:List Event) (aW:List aC) (j2:List aa):Option ((List aC)×(List aa)) :=
 loop (λs=>eS bg bj s.1 s.2.1 s.2.2) (aW,j2,0)
def dQ (base:Nat) (w:World) (v:Value) (n:Nat) (xs:List Value) (v':Value) (w':World):Prop :=
 w'.ownsRow base 58 12 v' n xs/\((v'.ownBlock=v.ownBlock/\w'.heap.size=w.heap.size/\w.grownBy w' v.ownBlock)∨(v'.ownBlock=some w.heap.size/\Below w.heap.size w w'))
theorem uP {base m:Nat} {w:World} {u:Value} {ys:List Value} (hu:w.ownsRow base 58 12 u m ys) (h1:∀ y∈ys,y.oneCell'=true):Go.Abs.Src Tryz.prog w 12 u m ys:=by
 rcases hu.2 with ⟨rfl,rfl⟩|⟨b,cap,cur,rfl,hb,hg,D3,yG,yh,CH⟩
 ·have:ys=[]:=zba (by simpa using hu.1);subst this;exact ⟨rfl,λw' _=>run_firstCells_none w' _ 0 0 _,by simp,by simp⟩
 ·refine ⟨rfl,λw' hw=>run_firstCells_some w' _ m _ m cap ys hu.1 λj y hj=>?_,hu.1,h1⟩;rw [World.cell?_of_block (w:=w) (by rw [hw])];exact hu.cells (g:=b) rfl j y hj
theorem F1 (w:World) {base n m:Nat} {v u:Value} {xs ys:List Value} (hs:w.ownsRow base 58 12 v n xs) (hu:w.ownsRow base 58 12 u m ys) (hm:0<m) (hb:n+m<=1000000000) (kb:base<=w.heap.size) (h1:∀ y∈ys,y.oneCell'=true) :
  Calls Tryz.prog 132 #[v,.int .i64 n,u] w λe w'=>∃ v',e=.returned v'/\dQ base w v (n+m) (xs++ys) v' w':=by
 have t3:=Tryz.underlying3;have t22:=Tryz.underlying23;have u3:=run_underlying Tryz.underlying3;have R3:=run_underlying Tryz.underlying23;have LZ:¬ ((m:Int)=0):=by omega
 obtain ⟨i,hi,hz,fE,DM⟩:=gG;obtain ⟨v',w',gY,j4,_,hc⟩:=kX (P:=Tryz.prog) (ty:=23) w Tryz.underlying23 Tryz.underlying23 (.inr ⟨_,rfl⟩) hi hz fE (by rfl) hs (uP hu h1) (by simp only [maxLen];omega) (by rw [DM];omega) kb;rcases hu.2 with ⟨_,h0⟩|⟨vb,vc,Ck,rfl,_⟩
 ·omega
 rcases hs.2 with ⟨rfl,rfl⟩|⟨b,c,cur,rfl,Ay,hg,D3,yG,yh,CH⟩
 ·go_enter Tryz.func132,Tryz.ntmps132
  go_wp2_with (at_builtin;refine Lib.wpList_append_run _ rfl _ _ _ _ rfl _ _ rfl rfl _ _ gY ?_)
  go_ret;exact ⟨_,rfl,j4,hc⟩
 ·go_enter Tryz.func132,Tryz.ntmps132
  go_wp2_with (at_builtin;refine Lib.wpList_append_run _ rfl _ _ _ _ rfl _ _ rfl rfl _ _ gY ?_)
  all_goals (go_ret;exact ⟨_,rfl,j4,hc⟩)
theorem jt {w:World} {base b n c:Nat} {xs:List Value} (hs:w.ownsRow base 58 12 (.slice (some ⟨b,0,none⟩) n c) n xs):base<=b/\n<=c/\c<=maxLen/\∃ cur:Array Value,w.heap[b]?=some (.cells cur 58 (0,0))/\cur.size=c*12/\cur.toList.take (n*12)=xs:=by
 rcases hs.2 with ⟨h,_⟩|⟨b',c',cur,h,Ay,hg,D3,yG,yh,CH⟩
 ·cases h
 ·cases h;exact ⟨Ay,D3,yG,cur,hg,yh,CH⟩
theorem F2 (w:World) {b vb m vc o lb cb cs:Nat} {cur Ck:Array Value} (eT:vb≠b) (hg:w.heap[b]?=some (.cells cur 58 (0,0))) (OQ:w.heap[vb]?=some (.cells Ck 58 (0,0))) (hk:cur.size≠0) :
  (callFunc 178 #[.slice (some ⟨vb,0,none⟩) m vc,.slice (some ⟨b,o,none⟩) lb cb]).run Tryz.prog w=.ok (.value (.bool false)) w:=by
 obtain ⟨i,hi,hz,fE,DM⟩:=gG;rw [run_callFunc_extern Tryz.func178 (by kernel_rfl) (by kernel_rfl) (by kernel_rfl) (e:=Extern.SlicesOverlaps.overlaps #[23,23] #[4]) (by kernel_rfl),
  Lib.run_overlaps_apart w 23 4 58 Tryz.underlying23 12 (λw'=>by simp [sizeOf,typeInfo,hi,fE]) ⟨vb,0,none⟩ ⟨b,o,none⟩ m vc lb cb eT 58 58 Ck.size cur.size (by simp [World.shape?,OQ]) (by simp [World.shape?,hg]) hk (by simp [World.frozen?,OQ]) (by simp [World.frozen?,OQ])]
 rfl
theorem Dj (w:World) {base b n c i vb m vc:Nat} {xs ys:List Value} (hs:w.ownsRow base 58 12 (.slice (some ⟨b,0,none⟩) n c) n xs) (hu:w.ownsRow base 58 12 (.slice (some ⟨vb,0,none⟩) m vc) m ys) (eT:vb≠b) (hi:i<n) (hm:0<m) (hb:n+m<=1000000000) (ue:n+m<=c)
  (Df:∀ x∈xs,x.oneCell'=true) (h1:∀ y∈ys,y.oneCell'=true) :
  Calls Tryz.prog 132 #[.slice (some ⟨b,0,none⟩) n c,.int .i64 i,.slice (some ⟨vb,0,none⟩) m vc] w λe w'=>∃ v',e=.returned v'/\dQ base w (.slice (some ⟨b,0,none⟩) n c) (n+m) (xs.take (i*12)++ys++xs.drop (i*12)) v' w':=by
 have t3:=Tryz.underlying3;have t22:=Tryz.underlying23;have u3:=run_underlying Tryz.underlying3;have R3:=run_underlying Tryz.underlying23;obtain ⟨Ay,D3,yG,cur,hg,yh,CH⟩:=jt hs;obtain ⟨_,hvc,_,Ck,OQ,V9,Wa⟩:=jt hu;obtain ⟨inf,lh,hz,fE,DM⟩:=gG;simp only [maxLen] at yG;have z32:∀ w,(Go.sizeOf 58).run Tryz.prog w=.ok 12 w:=λw'=>by simp [sizeOf,typeInfo,lh,fE]
 have LZ:¬ ((m:Int)=0):=by omega
 have Xq:¬ ((i:Int)=(n:Int)):=by omega
 have mixed:=nP;have ZY:IntKind.i64.wrap ((i:Int)+(m:Int))=(i:Int)+(m:Int):=by rw [IntKind.wrap_i64];omega
 have D2:(0:Int)<=(i:Int)+(m:Int):=by omega
 have CN:i<=n:=by omega
 have ZZ:((i:Int)+(m:Int)).toNat=i+m:=by omega
 have FF:¬ (c=i+m):=by omega
 have F3:(i:Int)<=(n:Int)+(m:Int):=by omega
 have T3:¬ (c=i):=by omega
 have QH:cur.size≠0:=by rw [yh];omega
 have vS:=hs.1;have vi:=hu.1;have hov:∀ o lb cb,(callFunc 178 #[.slice (some ⟨vb,0,none⟩) m vc,.slice (some ⟨b,o,none⟩) lb cb]).run Tryz.prog w=.ok (.value (.bool false)) w:=λo lb cb=>F2 (cs:=0) w eT hg OQ QH
 -- the first copy
 have A1:∀ j x,xs[j]?=some x->w.cell? ⟨b,j,none⟩=some x:=λj x hj=>by have:=hs.cells (g:=b) rfl j x hj;rwa [Addr.add_lit,zbr] at this
 have Ml:∀ j v,(xs.drop (i*12))[j]?=some v->w.cell? (Addr.add ⟨b,i*12,none⟩ j)=some v:=λj v hj=>by
  rw [zbb] at hj;rw [Addr.add_lit];exact A1 _ _ hj
 have SC:Nat.min (n+m-i) (n+m-(i+m))=n-i:=qV (by omega);have Wb:Nat.min m (n+m-i)=m:=qV (by omega);have Ax:(xs.drop (i*12)).length=Nat.min (n+m-i) (n+m-(i+m))*12:=by rw [zbi,vS,SC];omega
 have F4:∀ (W:World),W.heap=w.heap->∀ ty dc sc,(Builtin.copy_ #[23,23] ty #[.slice (some ⟨b,(i+m)*12,none⟩) (n+m-(i+m)) dc,.slice (some ⟨b,i*12,none⟩) (n+m-i) sc]).run Tryz.prog W=.ok (goInt (Nat.min (n+m-i) (n+m-(i+m)))) (W.setRow b (laid cur.toList ((i+m)*12) (xs.drop (i*12))).toArray):=λW hW ty dc sc =>
  nh W Tryz.underlying23 lh fE (by rw [hW];exact hg) Ax (λj v hj=>by rw [World.cell?_of_block (w:=w) (by rw [hW])];exact Ml j v hj) (λv hv=>Df v (zcz hv)) (by rw [Ax,yh,SC];omega)
 generalize yJ:laid cur.toList ((i+m)*12) (xs.drop (i*12))=L1 at F4;have rp:cur.toList.length=c*12:=by simpa using yh
 have oB:(i+m)*12+(xs.drop (i*12)).length<=cur.toList.length:=by rw [zbi,vS,rp];omega
 have C1:L1.length=cur.toList.length:=by rw [←yJ];exact iN oB
 have BP:∀ j v,ys[j]?=some v->w.cell? (Addr.add ⟨vb,0,none⟩ j)=some v:=λj v hj=>hu.cells (g:=vb) rfl j v hj
 have Kg:∀ (W:World),W.heap[b]?=some (.cells L1.toArray 58 (0,0))->(∀ x:Addr,x.block≠b->W.cell? x=w.cell? x)->∀ ty dc,(Builtin.copy_ #[23,23] ty #[.slice (some ⟨b,i*12,none⟩) (n+m-i) dc,.slice (some ⟨vb,0,none⟩) m vc]).run Tryz.prog W=.ok (goInt (Nat.min m (n+m-i))) (W.setRow b (laid L1 (i*12) ys).toArray):=λW QI QJ ty dc =>
  nh W Tryz.underlying23 lh fE QI (by rw [vi,Wb]) (λj v hj=>by rw [QJ _ (by rw [Addr.add_lit];exact eT)];exact BP j v hj) h1 (by simp only [zbs];omega)
 have Lq:((w.drew).setRow b L1.toArray).heap[b]?=some (.cells L1.toArray 58 (0,0)):=setRow_heap w.drew b cur _ 58 (0,0) hg;have tU:∀ x:Addr,x.block≠b->((w.drew).setRow b L1.toArray).cell? x=w.cell? x:=λx hx=>World.cell?_of_block (w:=w) (setRow_other w.drew b x.block _ hx)
 have o8:dQ base w (.slice (some ⟨b,0,none⟩) n c) (n+m) (xs.take (i*12)++ys++xs.drop (i*12)) (.slice (some ⟨b,0,none⟩) (n+m) c) (((w.drew).setRow b L1.toArray).setRow b (laid L1 (i*12) ys).toArray):=by
  have A2:i*12+ys.length<=L1.length:=by rw [vi,C1,rp];omega
  refine ⟨⟨by simp only [zai,zbe,zbi];omega,.inr ⟨b,c,_,rfl,Ay,setRow_heap _ b _ _ 58 (0,0) Lq,ue,by simp only [maxLen];omega,by rw [zbs,iN A2,C1,rp],?_⟩⟩,
   .inl ⟨rfl,by simp,⟨rfl,rfl,rfl,by simp,λk hk Im=>?_⟩⟩⟩
  ·rw [zcx,jq A2 (by rw [vi];omega),←yJ];have e1:(laid cur.toList ((i+m)*12) (xs.drop (i*12))).take (i*12)=xs.take (i*12):=by
    apply zce;intro j;rw [zam,zam,xB oB];by_cases h:j<i*12
    ·rw [zab h,zab h,zaa (by omega),←CH,zam,zab (by omega)]
    ·rw [zaa h,zaa h]
   rw [e1];congr 1;rw [jq oB (by rw [zbi,vS];omega),vi];apply zce;intro j;rw [zbb];have cH:(List.take ((i+m)*12) cur.toList).length=(i+m)*12:=by rw [zbe,rp];omega
   by_cases h:j<(n-i)*12
   ·rw [zan (by rw [zai,cH,zbi,vS];omega),zav (by rw [cH];omega),cH];congr 1;omega
   ·rw [zbl (by simp only [zai,zbi,zbe,rp,vS];omega),zbl (by rw [zbi,vS];omega)]
  ·rw [setRow_other _ b k _ (λe=>Im (by rw [e];rfl)),setRow_other _ b k _ (λe=>Im (by rw [e];rfl))];rfl
 have QK:=F4 w.drew rfl;have QL:=Kg _ Lq tU;go_enter Tryz.func132,Tryz.ntmps132
 go_wp2_with (simp only [hov])
 go_region_law_o (refine mj rfl _ _ 23 23 rfl _ _ (by simp [Act.eval,Act.put]) (by simp [Act.eval,Act.put]) (QK _ _ _) ?_)
 go_wp2_with (at_builtin;refine jN _ rfl _ _ 23 23 rfl _ _ rfl rfl (QL _ _) ?_)
 go_ret;exact ⟨_,rfl,o8⟩
theorem EK (w:World) {base b n c i vb m vc:Nat} {xs ys:List Value} (hs:w.ownsRow base 58 12 (.slice (some ⟨b,0,none⟩) n c) n xs) (hu:w.ownsRow base 58 12 (.slice (some ⟨vb,0,none⟩) m vc) m ys) (hi:i<n) (hm:0<m) (hb:n+m<=1000000000) (ue:c<n+m) (kb:base<=w.heap.size)
  (Df:∀ x∈xs,x.oneCell'=true) (h1:∀ y∈ys,y.oneCell'=true) :
  Calls Tryz.prog 132 #[.slice (some ⟨b,0,none⟩) n c,.int .i64 i,.slice (some ⟨vb,0,none⟩) m vc] w λe w'=>∃ v',e=.returned v'/\dQ base w (.slice (some ⟨b,0,none⟩) n c) (n+m) (xs.take (i*12)++ys++xs.drop (i*12)) v' w':=by
 have t3:=Tryz.underlying3;have t22:=Tryz.underlying23;have u3:=run_underlying Tryz.underlying3;have R3:=run_underlying Tryz.underlying23;obtain ⟨Ay,D3,yG,cur,hg,yh,CH⟩:=jt hs;obtain ⟨_,hvc,_,Ck,OQ,V9,Wa⟩:=jt hu;obtain ⟨inf,lh,hz,fE,DM⟩:=gG;simp only [maxLen] at yG;have mixed:=nP;have LZ:¬ ((m:Int)=0):=by omega
 have Xq:¬ ((i:Int)=(n:Int)):=by omega
 have xa:(c:Int)<(n:Int)+(m:Int):=by omega
 have hbw:b<w.heap.size:=(hs.lt b rfl).2;have hvw:vb<w.heap.size:=(hu.lt vb rfl).2;have YS:(n:Int)+(m:Int) - (i:Int)=((n+m-i:Nat):Int):=by omega
 have Wc:i+(n+m-i)=n+m:=by omega
 have vS:=hs.1;have vi:=hu.1;have A1:∀ j x,xs[j]?=some x->w.cell? ⟨b,j,none⟩=some x:=λj x hj=>by have:=hs.cells (g:=b) rfl j x hj;rwa [Addr.add_lit,zbr] at this
 have hold:(Builtin.firstCells inf.size i (.slice (some ⟨b,0,none⟩) i c)).run Tryz.prog w.drew=.ok (xs.take (i*12)).toArray w.drew:=by
  rw [fE];refine run_firstCells_some w.drew 12 i ⟨b,0,none⟩ i c (xs.take (i*12)) (by rw [zbe];omega) (λj v hj=>?_);rw [Addr.add_lit,zbr];rw [zam] at hj;split at hj
  ·exact A1 j v hj
  ·cases hj
 generalize hzv:(Value.agg _)=zv at hz;have CJ:zv.cells.size=12:=by rw [←hzv];rfl
 have Wd:∀ ty,(Builtin.append_ #[23,3] ty #[.slice (some ⟨b,0,none⟩) i c,.int .i64 ((n:Int)+(m:Int) - (i:Int))]).run Tryz.prog w =
   .ok (.slice (some ⟨w.heap.size,0,none⟩) (n+m) (grownCap w (n+m) c 58)) (w.drew.alloc (.cells ((xs.take (i*12)).toArray++Builtin.zeroCells zv.cells (n+m-i)++Builtin.zeroCells zv.cells (grownCap w (n+m) c 58-(n+m))) 58)):=λty=>by
  have h:=Lib.run_append_grow_zeros w 23 3 ty 58 inf zv .i64 .i64 Tryz.underlying23 Tryz.underlying3 lh hz (some ⟨b,0,none⟩) i c (xs.take (i*12)) hold (n+m-i) (by omega) (by omega) (by omega) (by omega) (by rw [DM];omega) (by rw [Wc];exact growslice_fits ue (by rw [DM];omega));rw [Wc] at h;rw [YS];exact h
 have YT:n+m<=grownCap w (n+m) c 58:=grownCap_ge w _ _ _;have QM:grownCap w (n+m) c 58<=maxLen:=grownCap_le_maxLen w (n+m) c 58 (by unfold maxLen;omega);generalize grownCap w (n+m) c 58=G at Wd YT QM;simp only [maxLen] at QM;generalize hROW:(xs.take (i*12)).toArray++Builtin.zeroCells zv.cells (n+m-i)++Builtin.zeroCells zv.cells (G-(n+m))=uQ at Wd;have YU:uQ.size=G*12:=by
  rw [←hROW];simp only [zfd,zbs,zbe,size_zeroCells,CJ,vS];omega
 have hRt:uQ.toList.take (i*12)=xs.take (i*12):=by
  rw [←hROW];simp only [zfv,zat];rw [zdx (by rw [zbe];omega),zbw (by rw [zbe];omega)]
 have We:uQ.toList.length=G*12:=by simpa using YU
 have hmA:Nat.min m (n+m-i)=m:=qV (by omega);have hmB:Nat.min (n-i) (n+m-(i+m))=n-i:=qV (by omega);have Ax:(xs.drop (i*12)).length=(n-i)*12:=by rw [zbi,vS];omega
 have Kh:i*12+ys.length<=uQ.toList.length:=by rw [vi,We];omega
 have QN:∀ (W:World),W.heap[w.heap.size]?=some (.cells uQ 58 (0,0))->(∀ x:Addr,x.block<w.heap.size->W.cell? x=w.cell? x)->∀ ty dc,(Builtin.copy_ #[23,23] ty #[.slice (some ⟨w.heap.size,i*12,none⟩) (n+m-i) dc,.slice (some ⟨vb,0,none⟩) m vc]).run Tryz.prog W=.ok (goInt (Nat.min m (n+m-i))) (W.setRow w.heap.size (laid uQ.toList (i*12) ys).toArray):=λW QI QJ ty dc =>
  nh W Tryz.underlying23 lh fE QI (by rw [vi,hmA]) (λj v hj=>by rw [QJ _ (by rw [Addr.add_lit];exact hvw)];exact hu.cells (g:=vb) rfl j v hj) h1 (by rw [vi,YU];omega)
 generalize yJ:laid uQ.toList (i*12) ys=L1 at QN;have C1:L1.length=uQ.toList.length:=by rw [←yJ];exact iN Kh
 have Ki:(i+m)*12+(xs.drop (i*12)).length<=L1.length:=by rw [Ax,C1,We];omega
 have QO:∀ (W:World),W.heap[w.heap.size]?=some (.cells L1.toArray 58 (0,0))->(∀ x:Addr,x.block<w.heap.size->W.cell? x=w.cell? x)->∀ ty dc sc,(Builtin.copy_ #[23,23] ty #[.slice (some ⟨w.heap.size,(i+m)*12,none⟩) (n+m-(i+m)) dc,.slice (some ⟨b,i*12,none⟩) (n-i) sc]).run Tryz.prog W=.ok (goInt (Nat.min (n-i) (n+m-(i+m)))) (W.setRow w.heap.size (laid L1 ((i+m)*12) (xs.drop (i*12))).toArray):=λW QI QJ ty dc sc =>
  nh W Tryz.underlying23 lh fE QI (by rw [Ax,hmB]) (λj v hj=>by
   rw [QJ _ (by rw [Addr.add_lit];exact hbw),Addr.add_lit];rw [zbb] at hj;exact A1 _ _ hj) (λv hv=>Df v (zcz hv)) (by simp only [zbs];omega)
 generalize zl:laid L1 ((i+m)*12) (xs.drop (i*12))=L2 at QO;have Pr:L2.length=L1.length:=by rw [←zl];exact iN Ki
 have A3:∀ W:World,W.heap=w.heap.push (.cells uQ 58 (0,0))->W.heap[w.heap.size]?=some (.cells uQ 58 (0,0)):=λW hW=>by rw [hW];simp
 have Wf:∀ W:World,W.heap=w.heap.push (.cells uQ 58 (0,0))->∀ x:Addr,x.block<w.heap.size->W.cell? x=w.cell? x:=λW hW x hx=>World.cell?_of_block (w:=w) (by rw [hW,zdk hx];simp [hx]);have YV:∀ W:World,W.heap=w.heap.push (.cells uQ 58 (0,0))->(W.setRow w.heap.size L1.toArray).heap[w.heap.size]?=some (.cells L1.toArray 58 (0,0)):=λW hW=>setRow_heap W _ uQ _ 58 (0,0) (A3 W hW)
 have RZ:∀ W:World,W.heap=w.heap.push (.cells uQ 58 (0,0))->∀ x:Addr,x.block<w.heap.size->(W.setRow w.heap.size L1.toArray).cell? x=w.cell? x:=λW hW x hx=>(World.cell?_of_block (w:=W) (setRow_other W _ x.block _ (by omega))).trans (Wf W hW x hx)
 have o8:∀ W W2:World,W.heap=w.heap.push (.cells uQ 58 (0,0))->W.os=w.os->W.tape=w.tape->W.output=w.output->W2.heap=(W.setRow w.heap.size L1.toArray).heap->W2.os=w.os->W2.tape=w.tape->W2.output=w.output ->
   dQ base w (.slice (some ⟨b,0,none⟩) n c) (n+m) (xs.take (i*12)++ys++xs.drop (i*12)) (.slice (some ⟨w.heap.size,0,none⟩) (n+m) G) (W2.setRow w.heap.size L2.toArray):=by
  intro W W2 hW ho ht hou Wg Oe BQ Wh;have Wi:W2.heap[w.heap.size]?=some (.cells L1.toArray 58 (0,0)):=by rw [Wg];exact YV W hW
  refine ⟨⟨by simp only [zai,zbe,zbi];omega,.inr ⟨w.heap.size,G,_,rfl,kb,setRow_heap _ _ _ _ 58 (0,0) Wi,YT,by simp only [maxLen];omega,by rw [zbs,Pr,C1,We],?_⟩⟩,
   .inr ⟨rfl,⟨Oe,BQ,Wh,by simp [Wg,hW],λk hk=>?_⟩⟩⟩
  ·have e2:(L1.take ((n+m)*12)).drop ((i+m)*12+(xs.drop (i*12)).length)=[]:=zck (by rw [zbe,Ax];omega);rw [zcx,←zl,jq Ki (by rw [Ax];omega),e2,←yJ];have e1:(laid uQ.toList (i*12) ys).take ((i+m)*12)=xs.take (i*12)++ys:=by
    rw [jq Kh (by rw [vi];omega),hRt,vi,zck (by rw [zbe];omega),zbq]
   rw [e1,zbq]
  ·rw [setRow_other _ _ k _ (by omega),Wg,setRow_other _ _ k _ (by omega),hW,zdk hk];simp [hk]
 clear YS Wc hold hROW;have hGi:¬ (G=i):=by omega
 have hGim:¬ (G=i+m):=by omega
 have qc:¬ (c=i):=by omega
 have ZY:IntKind.i64.wrap ((i:Int)+(m:Int))=(i:Int)+(m:Int):=by rw [IntKind.wrap_i64];omega
 have D2:(0:Int)<=(i:Int)+(m:Int):=by omega
 have CN:i<=n:=by omega
 have ZZ:((i:Int)+(m:Int)).toNat=i+m:=by omega
 have F3:(i:Int)<=(n:Int):=by omega
 have QP:=QN (w.alloc (.cells uQ 58)).drew (A3 _ rfl) (Wf _ rfl);have QQ:=QO ((w.alloc (.cells uQ 58)).drew.setRow w.heap.size L1.toArray).drew (YV _ rfl) (RZ (w.alloc (.cells uQ 58)).drew rfl);have QR:=o8 (w.alloc (.cells uQ 58)).drew ((w.alloc (.cells uQ 58)).drew.setRow w.heap.size L1.toArray).drew rfl rfl rfl rfl rfl rfl rfl rfl;go_enter Tryz.func132,Tryz.ntmps132
 go_wp2_with (first
  | (at_builtin;refine Lib.wpList_append_run _ rfl _ _ _ _ rfl _ _ rfl rfl _ _ (Wd _) ?_)
  | (at_builtin;refine jN _ rfl _ _ 23 23 rfl _ _ rfl rfl (QP _ _) ?_))
 go_region_law_o (refine mj rfl _ _ 23 23 rfl _ _ (by simp [Act.eval,Act.put]) (by simp [Act.eval,Act.put]) (QQ _ _ _) ?_)
 go_wp2
 go_ret;exact ⟨_,rfl,QR⟩
theorem F5 (w:World) {base m:Nat} {A:Option Addr} {u:Value} {ys:List Value} (hu:w.ownsRow base 58 12 u m ys) (hm:0<m) (hb:m<=1000000000) (kb:base<=w.heap.size) (h1:∀ y∈ys,y.oneCell'=true) :
  Calls Tryz.prog 132 #[.slice A 0 0,.int .i64 0,u] w λe w'=>∃ v',e=.returned v'/\dQ base w (.slice none 0 0) m ys v' w':=by
 have t3:=Tryz.underlying3;have t22:=Tryz.underlying23;have u3:=run_underlying Tryz.underlying3;have R3:=run_underlying Tryz.underlying23;have LZ:¬ ((m:Int)=0):=by omega
 obtain ⟨i,hi,hz,fE,DM⟩:=gG;have hs:=World.ownsRow_nil w base 58 12;obtain ⟨v',w',gY,j4,_,hc⟩:=kX (P:=Tryz.prog) (ty:=23) w Tryz.underlying23 Tryz.underlying23 (.inr ⟨_,rfl⟩) hi hz fE (by rfl) hs (uP hu h1) (by simp only [maxLen];omega) (by rw [DM];omega) kb;rw [zbr,zbx] at j4;have Kj:=((vY (ty:=23) Tryz.underlying23 Tryz.underlying23 (.inr ⟨_,rfl⟩) hi hz fE (uP hu h1) (by omega) (by rw [DM];omega) A).2 (by omega)).trans gY;rcases hu.2 with ⟨_,h0⟩|⟨vb,vc,Ck,rfl,_⟩
 ·omega
 cases A with
 | none =>
  go_enter Tryz.func132,Tryz.ntmps132
  go_wp2_with (at_builtin;refine Lib.wpList_append_run _ rfl _ _ _ _ rfl _ _ rfl rfl _ _ Kj ?_)
  all_goals (go_ret;exact ⟨_,rfl,j4,hc⟩)
 | some A =>
  obtain ⟨ab,ao,asp⟩:=A;go_enter Tryz.func132,Tryz.ntmps132
  go_wp2_with (at_builtin;refine Lib.wpList_append_run _ rfl _ _ _ _ rfl _ _ rfl rfl _ _ Kj ?_)
  all_goals (go_ret;exact ⟨_,rfl,j4,hc⟩)
theorem Dk (w:World) {base n m i:Nat} {v u:Value} {xs ys:List Value} (hs:w.ownsRow base 58 12 v n xs) (hu:w.ownsRow base 58 12 u m ys) (eT:∀ b,v.ownBlock=some b->u.ownBlock≠some b) (hi:i<=n) (hm:0<m) (hb:n+m<=1000000000) (kb:base<=w.heap.size)
  (Df:∀ x∈xs,x.oneCell'=true) (h1:∀ y∈ys,y.oneCell'=true) :
  Calls Tryz.prog 132 #[v,.int .i64 i,u] w λe w'=>∃ v',e=.returned v'/\dQ base w v (n+m) (xs.take (i*12)++ys++xs.drop (i*12)) v' w':=by
 by_cases CN:i=n
 ·subst CN;have vS:=hs.1;rw [zbw (by omega),zck (by omega),zbq];exact F1 w hs hu hm hb kb h1
 ·obtain ⟨b,c,rfl⟩:=(iM hs).2 (by omega);obtain ⟨vb,vc,rfl⟩:=(iM hu).2 (by omega);by_cases hr:n+m<=c
  ·exact Dj w hs hu (λe=>eT b rfl (by rw [e];rfl)) (by omega) hm hb hr Df h1
  ·exact EK w hs hu (by omega) hm hb (by omega) kb Df h1
theorem Cl {l l' r:List aa} {n0 n1:Nat} {i:Int} (H:po i l l'=some r) :
  aN Tryz.prog 132 [.vc 0 n0,.d (cI i),.vc 1 n1] ⟨[],[⟨58,12,n0,some (l.map aa.row)⟩,⟨58,12,n1,some (l'.map aa.row)⟩]⟩
   (QE (.vc 2 r.length) ⟨[],[⟨58,12,([]:List aa).length,none⟩,⟨58,12,n1,some (l'.map aa.row)⟩,⟨58,12,r.length,some (r.map aa.row)⟩]⟩):=by
 obtain ⟨hk,H⟩:=aq H;cases H;intro g w base vs hinv ha;obtain ⟨x,y,z,rfl,e1,e2,e3⟩:=Qk rfl ha;obtain ⟨k0,k1,k2,k3⟩:=hk;have Lp:y=.int .i64 i:=e2.bK;subst Lp;obtain ⟨xs,s1,s2,s3⟩:=hinv.own 0 _ _ _ _ rfl;obtain ⟨ys,u1,u2,u3⟩:=hinv.own 1 _ _ _ _ rfl;have Ln:n0=l.length:=by have:=s3.len;simpa using this.symm
 have hn1:n1=l'.length:=by have:=u3.len;simpa using this.symm
 have hz:z=g.tk 1:=by
  rcases sk hinv rfl e3 with h|⟨_,h,_⟩
  ·exact h
  ·have:l'=[]:=by simpa using h
   rw [this] at k2;simp at k2
 subst hz;obtain ⟨j,rfl⟩:∃ j:Nat,i=(j:Int):=⟨i.toNat,by omega⟩;have rn:=s3.Vl s1.1 u3 u1.1 (i:=j) (j:=j) (zap _) (by omega);have jv:(l.map aa.row).take j++l'.map aa.row++(l.map aa.row).drop j=(l.take j++l'++l.drop j).map aa.row:=by simp [List.map_take,List.map_drop]
 rw [jv,show j+n1+(n0-j)=n0+n1 from by omega] at rn;have hlen:(l.take j++l'++l.drop j).length=n0+n1:=by simp;omega
 have Df:=s3.one s1.1;have YW:=u3.one u1.1;have fin:∀ v0:Value,(v0.ownBlock=(g.tk 0).ownBlock∨v0.ownBlock=none/\0<n0+n1)->∀ e w',(∃ v',e=.returned v'/\dQ base w v0 (n0+n1) (xs.take (j*12)++ys++xs.drop (j*12)) v' w') ->
   nC ⟨g,w,⟨[],[⟨58,12,n0,some (l.map aa.row)⟩,⟨58,12,n1,some (l'.map aa.row)⟩]⟩,base⟩ (QE (.vc 2 (l.take (j:Int).toNat++l'++l.drop (j:Int).toNat).length) ⟨[],[⟨58,12,([]:List aa).length,none⟩,⟨58,12,n1,some (l'.map aa.row)⟩,⟨58,12,(l.take (j:Int).toNat++l'++l.drop (j:Int).toNat).length,some ((l.take (j:Int).toNat++l'++l.drop (j:Int).toNat).map aa.row)⟩]⟩) e w':=by
  rintro v0 LJ e w' ⟨v',rfl,ho,hc⟩;rw [zco,hlen];refine wq hinv (tk:=0) rfl rfl ho ?_ rn;rcases hc with ⟨c1,c2,c3⟩|hc
  ·rcases LJ with LJ|⟨LJ,hp⟩
   ·rw [LJ] at c1 c3;exact .inl ⟨c1,c2,c3⟩
   ·rw [LJ] at c1;obtain ⟨b,c,MY⟩:=(iM ho).2 (by omega);rw [MY] at c1;cases c1
  ·exact .inr hc
 rcases sk hinv rfl e1 with hx|⟨h0,Vn,A,hx⟩
 ·subst hx;refine (Dk w s1 u1 (λb h1 h2=>hinv.nK 0 1 _ _ b (by decide) rfl rfl h1 h2) (i:=j) (by omega) (by omega) (by omega) hinv.base Df YW).mono ?_;exact fin _ (.inl rfl)
 ·subst hx;have hj:j=0:=by omega
  subst hj;have Sk:xs=[]:=zba (by rw [s1.1,h0,zfn]);subst Sk;refine (F5 w (A:=A) u1 (by omega) (by omega) hinv.base YW).mono λe w' hh=>fin (.slice none 0 0) (.inr ⟨rfl,by omega⟩) e w' ?_
  rw [h0,zbr];simpa using hh
theorem F6 (w:World) {base b n c i m uc:Nat} {A:Option Addr} {xs ys:List Value} (hs:w.ownsRow base 58 12 (.slice (some ⟨b,0,none⟩) n c) n xs) (hu:Go.Abs.Src Tryz.prog w 12 (.slice A m uc) m ys) (hi:i<n) (hm:m<=n-i) (hb:n<=1000000000) :
  Calls Tryz.prog 182 #[.slice (some ⟨b,0,none⟩) n c,.int .i64 i,.int .i64 n,.slice A m uc] w λe w'=>∃ v',e=.returned v'/\dQ base w (.slice (some ⟨b,0,none⟩) n c) (i+m) (xs.take (i*12)++ys) v' w':=by
 have t3:=Tryz.underlying3;have t22:=Tryz.underlying23;have u3:=run_underlying Tryz.underlying3;have R3:=run_underlying Tryz.underlying23;obtain ⟨Ay,D3,yG,cur,hg,yh,CH⟩:=jt hs;obtain ⟨inf,lh,hz,fE,DM⟩:=gG;simp only [maxLen] at yG;generalize hzv:(Value.agg _)=zv at hz;have CJ:zv.cells.size=12:=by rw [←hzv];rfl
 have LZ:∀ v∈(Builtin.zeroCells zv.cells (n-(i+m))).toList,v.oneCell'=true:=uJ (by rw [CJ,←hzv];decide);have Xq:¬ ((i:Int)=(n:Int)):=by omega
 have vS:=hs.1;have vi:=hu.size;have rp:cur.toList.length=c*12:=by simpa using yh
 have oB:i*12+ys.length<=cur.toList.length:=by rw [vi,rp];omega
 have gY:∀ ty,(Builtin.append_ #[23,23] ty #[.slice (some ⟨b,0,none⟩) i c,.slice A m uc]).run Tryz.prog w=.ok (.slice (some ⟨b,0,none⟩) (i+m) c) (w.setRow b (laid cur.toList (i*12) ys).toArray):=λty =>
  CT w Tryz.underlying23 lh fE hg (by omega) (hu.cells w rfl) hu.one (by rw [←zcr];exact oB)
 generalize yJ:laid cur.toList (i*12) ys=L1 at gY;have C1:L1.length=cur.toList.length:=by rw [←yJ];exact iN oB
 have Lq:(w.setRow b L1.toArray).heap[b]?=some (.cells L1.toArray 58 (0,0)):=setRow_heap w b cur _ 58 (0,0) hg;have R4:L1.take ((i+m)*12)=xs.take (i*12)++ys:=by
  have e1:(cur.toList.take ((i+m)*12)).drop (i*12+ys.length)=[]:=zck (by rw [zbe,vi];omega);rw [←yJ,jq oB (by rw [vi];omega),e1,zbq,←CH,List.take_take,show min (i*12) (n*12)=i*12 from by omega]
 have hlen:(xs.take (i*12)++ys).length=(i+m)*12:=by simp only [zai,zbe];omega
 have CN:i<=n:=by omega
 have Vq:(0:Int)<=(i:Int):=by omega
 have qc:¬ (c=i):=by omega
 by_cases SC:i+m=n
 ·have cE:¬ ((i:Int)+(m:Int)<(n:Int)):=by omega
  have hlt2:¬ (i+m<n):=by omega
  have hlt3:¬ (((i+m:Nat):Int)<(n:Int)):=by omega
  have o8:dQ base w (.slice (some ⟨b,0,none⟩) n c) (i+m) (xs.take (i*12)++ys) (.slice (some ⟨b,0,none⟩) (i+m) c) (w.setRow b L1.toArray) :=
   ⟨⟨hlen,.inr ⟨b,c,_,rfl,Ay,Lq,by omega,by simp only [maxLen];omega,by rw [zbs,C1,rp],by rw [zcx,R4]⟩⟩,.inl ⟨rfl,by simp,⟨rfl,rfl,rfl,by simp,λk hk Im=>setRow_other _ b k _ (λe=>Im (by rw [e];rfl))⟩⟩⟩
  rw [SC] at o8;go_enter Tryz.func182,Tryz.ntmps182
  go_wp2_with (at_builtin;refine Lib.wpList_append_run _ rfl _ _ _ _ rfl _ _ rfl rfl _ _ (gY _) ?_)
  all_goals (go_ret;exact ⟨_,rfl,o8⟩)
 ·have cE:(i:Int)+(m:Int)<(n:Int):=by omega
  have hlt2:i+m<n:=by omega
  have C2:(i+m)*12+(Builtin.zeroCells zv.cells (n-(i+m))).toList.length<=L1.length:=by rw [zcr,size_zeroCells,CJ,C1,rp];omega
  have Dl:∀ ty dc,(Builtin.clear_ #[23] ty #[.slice (some ⟨b,(i+m)*12,none⟩) (n-(i+m)) dc]).run Tryz.prog (w.setRow b L1.toArray)=.ok (.tuple #[]) ((w.setRow b L1.toArray).setRow b (laid L1 ((i+m)*12) (Builtin.zeroCells zv.cells (n-(i+m))).toList).toArray):=λty dc=>by
   have:=zU (P:=Tryz.prog) (ty:=ty) (c:=dc) (w.setRow b L1.toArray) (o:=(i+m)*12) (n:=n-(i+m)) Tryz.underlying23 lh hz CJ Lq (by omega) (by rw [zbs,C1,rp];omega) LZ;exact this
  generalize zl:laid L1 ((i+m)*12) (Builtin.zeroCells zv.cells (n-(i+m))).toList=L2 at Dl;have Pr:L2.length=L1.length:=by rw [←zl];exact iN C2
  have R5:L2.take ((i+m)*12)=xs.take (i*12)++ys:=by rw [←zl,zV C2 (zap _),R4]
  have YX:¬ (c=i+m):=by omega
  have hle:i+m<=n:=by omega
  have o8:dQ base w (.slice (some ⟨b,0,none⟩) n c) (i+m) (xs.take (i*12)++ys) (.slice (some ⟨b,0,none⟩) (i+m) c) ((w.setRow b L1.toArray).setRow b L2.toArray) :=
   ⟨⟨hlen,.inr ⟨b,c,_,rfl,Ay,setRow_heap _ b _ _ 58 (0,0) Lq,by omega,by simp only [maxLen];omega,by rw [zbs,Pr,C1,rp],by rw [zcx,R5]⟩⟩,
    .inl ⟨rfl,by simp,⟨rfl,rfl,rfl,by simp,λk hk Im=>by rw [setRow_other _ b k _ (λe=>Im (by rw [e];rfl)),setRow_other _ b k _ (λe=>Im (by rw [e];rfl))]⟩⟩⟩
  go_enter Tryz.func182,Tryz.ntmps182
  go_wp2_with (first
   | (at_builtin;refine Lib.wpList_append_run _ rfl _ _ _ _ rfl _ _ rfl rfl _ _ (gY _) ?_)
   | (at_builtin;refine kg _ rfl _ 23 rfl _ rfl (Dl _ _) ?_))
  all_goals (go_ret;exact ⟨_,rfl,o8⟩)
theorem F7 (w:World) {base b n c i j m uc:Nat} {A:Option Addr} {xs ys:List Value} (hs:w.ownsRow base 58 12 (.slice (some ⟨b,0,none⟩) n c) n xs) (hu:Go.Abs.Src Tryz.prog w 12 (.slice A m uc) m ys) (hi:i<j) (hj:j<n) (hm:m<=j-i) (hb:n<=1000000000) (Df:∀ x∈xs,x.oneCell'=true) :
  Calls Tryz.prog 182 #[.slice (some ⟨b,0,none⟩) n c,.int .i64 i,.int .i64 j,.slice A m uc] w λe w'=>∃ v',e=.returned v'/\dQ base w (.slice (some ⟨b,0,none⟩) n c) (i+m+(n-j)) (xs.take (i*12)++ys++xs.drop (j*12)) v' w':=by
 have t3:=Tryz.underlying3;have t22:=Tryz.underlying23;have u3:=run_underlying Tryz.underlying3;have R3:=run_underlying Tryz.underlying23;obtain ⟨Ay,D3,yG,cur,hg,yh,CH⟩:=jt hs;obtain ⟨inf,lh,hz,fE,DM⟩:=gG;simp only [maxLen] at yG;have mixed:=nP;generalize hzv:(Value.agg _)=zv at hz;have CJ:zv.cells.size=12:=by rw [←hzv];rfl
 have vS:=hs.1;have vi:=hu.size;have rp:cur.toList.length=c*12:=by simpa using yh
 obtain ⟨T,hT⟩:∃ T,i+m+(n-j)=T:=⟨_,rfl⟩;have hTi:(i:Int)+(m:Int)+((n-j:Nat):Int)=(T:Int):=by omega
 have hTn:T<=n:=by omega
 have LZ:∀ v∈(Builtin.zeroCells zv.cells (n-T)).toList,v.oneCell'=true:=uJ (by rw [CJ,←hzv];decide);have hne1:¬ ((i:Int)=(j:Int)):=by omega
 have hne2:¬ ((j:Int)=(n:Int)):=by omega
 have ZY:IntKind.i64.wrap ((i:Int)+(m:Int))=(i:Int)+(m:Int):=by rw [IntKind.wrap_i64];omega
 have hw2:IntKind.i64.wrap ((i:Int)+(m:Int)+((n-j:Nat):Int))=(T:Int):=by rw [IntKind.wrap_i64];omega
 have htc:¬ ((c:Int)<(T:Int)):=by omega
 have D2:(0:Int)<=(i:Int)+(m:Int):=by omega
 have ZZ:((i:Int)+(m:Int)).toNat=i+m:=by omega
 have hle1:(i:Int)+(m:Int)<=(j:Int):=by omega
 have Vo:(i:Int)+(m:Int)<=(T:Int):=by omega
 have hTc:T<=c:=by omega
 have CN:i<=n:=by omega
 have Yl:i<=c:=by omega
 have hiT:i<=T:=by omega
 have hjn:j<=n:=by omega
 have M3:i<=j:=by omega
 have qc:¬ (c=i):=by omega
 have Wj:¬ (c=j):=by omega
 have YX:¬ (c=i+m):=by omega
 -- the first copy
 have oB:i*12+ys.length<=cur.toList.length:=by rw [vi,rp];omega
 have F4:∀ ty dc,(Builtin.copy_ #[23,23] ty #[.slice (some ⟨b,i*12,none⟩) (T-i) dc,.slice A m uc]).run Tryz.prog w.drew=.ok (goInt m) (w.drew.setRow b (laid cur.toList (i*12) ys).toArray):=λty dc =>
  OI w.drew Tryz.underlying23 lh fE hg (by omega) (hu.cells _ rfl) hu.one (by rw [←zcr];exact oB)
 generalize yJ:laid cur.toList (i*12) ys=L1 at F4;have C1:L1.length=cur.toList.length:=by rw [←yJ];exact iN oB
 have Lq:(w.drew.setRow b L1.toArray).heap[b]?=some (.cells L1.toArray 58 (0,0)):=setRow_heap w.drew b cur _ 58 (0,0) hg
 -- the second one
 have Ax:(xs.drop (j*12)).length=(n-j)*12:=by rw [zbi,vS];omega
 have eR:∀ k v,(xs.drop (j*12))[k]?=some v->(w.drew.setRow b L1.toArray).drew.cell? (Addr.add ⟨b,j*12,none⟩ k)=some v:=λk v hk=>by
  have hkl:=(zad.1 hk).1;rw [zbb] at hk;rw [Addr.add_lit];have:(w.drew.setRow b L1.toArray).drew.cell? ⟨b,j*12+k,none⟩=L1[j*12+k]?:=by
   have:=cell_of_row (w.drew.setRow b L1.toArray) b (j*12+k) L1.toArray 58 (0,0) Lq;simpa using this
  rw [this,←yJ,xB oB,zaa (by rw [vi];omega),←hk,←CH,zam,zab (by omega)]
 have hmnB:Nat.min (n-j) (T-(i+m))=n-j:=qV (by omega);have A2:(i+m)*12+(xs.drop (j*12)).length<=L1.length:=by rw [Ax,C1,rp];omega
 have Kg:∀ ty dc sc,(Builtin.copy_ #[23,23] ty #[.slice (some ⟨b,(i+m)*12,none⟩) (T-(i+m)) dc,.slice (some ⟨b,j*12,none⟩) (n-j) sc]).run Tryz.prog (w.drew.setRow b L1.toArray).drew=.ok (goInt (Nat.min (n-j) (T-(i+m)))) ((w.drew.setRow b L1.toArray).drew.setRow b (laid L1 ((i+m)*12) (xs.drop (j*12))).toArray):=λty dc sc =>
  nh (w.drew.setRow b L1.toArray).drew Tryz.underlying23 lh fE Lq (by rw [Ax,hmnB]) eR (λv hv=>Df v (zcz hv)) (by rw [←zcr];exact A2)
 generalize zl:laid L1 ((i+m)*12) (xs.drop (j*12))=L2 at Kg;have Pr:L2.length=L1.length:=by rw [←zl];exact iN A2
 have Wi:((w.drew.setRow b L1.toArray).drew.setRow b L2.toArray).heap[b]?=some (.cells L2.toArray 58 (0,0)):=setRow_heap (w.drew.setRow b L1.toArray).drew b _ _ 58 (0,0) Lq;have R4:L1.take ((i+m)*12)=xs.take (i*12)++ys:=by
  have e1:(cur.toList.take ((i+m)*12)).drop (i*12+ys.length)=[]:=zck (by rw [zbe,vi];omega);rw [←yJ,jq oB (by rw [vi];omega),e1,zbq,←CH,List.take_take,show min (i*12) (n*12)=i*12 from by omega]
 have R5:L2.take (T*12)=xs.take (i*12)++ys++xs.drop (j*12):=by
  have e1:(L1.take (T*12)).drop ((i+m)*12+(xs.drop (j*12)).length)=[]:=zck (by rw [zbe,Ax];omega);rw [←zl,jq A2 (by rw [Ax];omega),e1,zbq,R4]
 have hlen:(xs.take (i*12)++ys++xs.drop (j*12)).length=T*12:=by simp only [zai,zbe,zbi];omega
 rw [hT];have MR:∀ k,k<w.heap.size->some k≠Value.ownBlock (.slice (some ⟨b,0,none⟩) n c)->((w.drew.setRow b L1.toArray).drew.setRow b L2.toArray).heap[k]?=w.heap[k]?:=λk hk Im=>by
  rw [setRow_other _ b k _ (λe=>Im (by rw [e];rfl))];show (w.drew.setRow b L1.toArray).heap[k]?=_;rw [setRow_other _ b k _ (λe=>Im (by rw [e];rfl))];rfl
 by_cases hTe:T=n
 ·have o8:dQ base w (.slice (some ⟨b,0,none⟩) n c) T (xs.take (i*12)++ys++xs.drop (j*12)) (.slice (some ⟨b,0,none⟩) T c) ((w.drew.setRow b L1.toArray).drew.setRow b L2.toArray) :=
   ⟨⟨hlen,.inr ⟨b,c,_,rfl,Ay,Wi,hTc,by simp only [maxLen];omega,by rw [zbs,Pr,C1,rp],by rw [zcx,R5]⟩⟩,.inl ⟨rfl,by simp,⟨rfl,rfl,rfl,by simp,MR⟩⟩⟩
  have Dl:∀ (W:World) (A:Option Addr) ty dc,(Builtin.clear_ #[23] ty #[.slice A 0 dc]).run Tryz.prog W=.ok (.tuple #[]) W:=λW A ty dc=>Et W Tryz.underlying23
  have Xn:n-T=0:=by omega
  clear hTe;rw [zat] at o8 ⊢;rcases Decidable.em (c=T) with hcT|hcT
  ·subst hcT;go_enter Tryz.func182,Tryz.ntmps182
   go_wp2
   go_region
   go_wp2_with (at_builtin;refine jN _ rfl _ _ 23 23 rfl _ _ rfl rfl (F4 _ _) ?_)
   go_region_law_o (refine mj rfl _ _ 23 23 rfl _ _ (by simp [Act.eval,Act.put]) (by simp [Act.eval,Act.put]) (Kg _ _ _) ?_)
   go_wp2_with (at_builtin;refine kg _ rfl _ 23 rfl _ rfl (Dl _ _ _ _) ?_)
   all_goals (go_ret;exact ⟨_,rfl,o8⟩)
  ·go_enter Tryz.func182,Tryz.ntmps182
   go_wp2
   go_region
   go_wp2_with (at_builtin;refine jN _ rfl _ _ 23 23 rfl _ _ rfl rfl (F4 _ _) ?_)
   go_region_law_o (refine mj rfl _ _ 23 23 rfl _ _ (by simp [Act.eval,Act.put]) (by simp [Act.eval,Act.put]) (Kg _ _ _) ?_)
   go_wp2_with (at_builtin;refine kg _ rfl _ 23 rfl _ rfl (Dl _ _ _ _) ?_)
   all_goals (go_ret;exact ⟨_,rfl,o8⟩)
 ·have C2:T*12+(Builtin.zeroCells zv.cells (n-T)).toList.length<=L2.length:=by rw [zcr,size_zeroCells,CJ,Pr,C1,rp];omega
  have Dl:∀ ty dc,(Builtin.clear_ #[23] ty #[.slice (some ⟨b,T*12,none⟩) (n-T) dc]).run Tryz.prog ((w.drew.setRow b L1.toArray).drew.setRow b L2.toArray)=.ok (.tuple #[]) (((w.drew.setRow b L1.toArray).drew.setRow b L2.toArray).setRow b (laid L2 (T*12) (Builtin.zeroCells zv.cells (n-T)).toList).toArray):=λty dc=>by
   have:=zU (P:=Tryz.prog) (ty:=ty) (c:=dc) ((w.drew.setRow b L1.toArray).drew.setRow b L2.toArray) (o:=T*12) (n:=n-T) Tryz.underlying23 lh hz CJ Wi (by omega) (by rw [zbs,Pr,C1,rp];omega) LZ;exact this
  generalize hl3:laid L2 (T*12) (Builtin.zeroCells zv.cells (n-T)).toList=L3 at Dl;have hL3:L3.length=L2.length:=by rw [←hl3];exact iN C2
  have Z0:L3.take (T*12)=xs.take (i*12)++ys++xs.drop (j*12):=by rw [←hl3,zV C2 (zap _),R5]
  have hcT:¬ (c=T):=by omega
  have o8:dQ base w (.slice (some ⟨b,0,none⟩) n c) T (xs.take (i*12)++ys++xs.drop (j*12)) (.slice (some ⟨b,0,none⟩) T c) (((w.drew.setRow b L1.toArray).drew.setRow b L2.toArray).setRow b L3.toArray) :=
   ⟨⟨hlen,.inr ⟨b,c,_,rfl,Ay,setRow_heap _ b _ _ 58 (0,0) Wi,hTc,by simp only [maxLen];omega,by rw [zbs,hL3,Pr,C1,rp],by rw [zcx,Z0]⟩⟩,.inl ⟨rfl,by simp,⟨rfl,rfl,rfl,by simp,λk hk Im=>by rw [setRow_other _ b k _ (λe=>Im (by rw [e];rfl))];exact MR k hk Im⟩⟩⟩
  rw [zat] at o8 ⊢;go_enter Tryz.func182,Tryz.ntmps182
  go_wp2
  go_region
  go_wp2_with (at_builtin;refine jN _ rfl _ _ 23 23 rfl _ _ rfl rfl (F4 _ _) ?_)
  go_region_law_o (refine mj rfl _ _ 23 23 rfl _ _ (by simp [Act.eval,Act.put]) (by simp [Act.eval,Act.put]) (Kg _ _ _) ?_)
  go_wp2_with (at_builtin;refine kg _ rfl _ 23 rfl _ rfl (Dl _ _) ?_)
  all_goals (go_ret;exact ⟨_,rfl,o8⟩)
theorem A4 {l l' r:List aa} {n0:Nat} {i j:Int} (H:r8 i j l' l=some r) :
  aN Tryz.prog 182 [.vc 0 n0,.d (cI i),.d (cI j),.d (ai 12 aa.row l')] ⟨[],[⟨58,12,n0,some (l.map aa.row)⟩]⟩
   (QE (.vc 1 r.length) ⟨[],[⟨58,12,([]:List aa).length,none⟩,⟨58,12,r.length,some (r.map aa.row)⟩]⟩):=by
 obtain ⟨hk,H⟩:=aq H;cases H;intro g w base vs hinv ha;obtain ⟨x,y,z,u,rfl,e1,e2,e3,e4⟩:=Yq rfl ha;obtain ⟨k0,k1,k2,k3,k4⟩:=hk;have Lp:y=.int .i64 i:=e2.bK;have e3':z=.int .i64 j:=e3.bK;subst Lp;subst e3';obtain ⟨xs,s1,s2,s3⟩:=hinv.own 0 _ _ _ _ rfl;have Ln:n0=l.length:=by have:=s3.len;simpa using this.symm
 have e4':dw g.lim w (.sl 12 (l'.map aa.row)) u:=by cases e4 with|d _ _ h=>exact h
 obtain ⟨ys,sC⟩:=sV (P:=Tryz.prog) e4';obtain ⟨A,uc,hu⟩:=DC e4';have u9:=sC.src;rw [zcu] at hu u9;subst hu;have hx:x=g.tk 0:=by
  rcases sk hinv rfl e1 with h|⟨_,h,_⟩
  ·exact h
  ·have:l=[]:=by simpa using h
   rw [this] at k2;simp at k2;omega
 subst hx;obtain ⟨i',rfl⟩:∃ q:Nat,i=(q:Int):=⟨i.toNat,by omega⟩;obtain ⟨j',rfl⟩:∃ q:Nat,j=(q:Int):=⟨j.toNat,by omega⟩;have Z1:de g.lim w 12 l'.length (l'.map aa.row) ys:=⟨by simp,sC.rows,λq c v hc hv=>sC.rep q v c hv hc⟩;have rn:=s3.Vl s1.1 Z1 u9.size (i:=i') (j:=j') (by omega) (by omega);have jv:(l.map aa.row).take i'++l'.map aa.row++(l.map aa.row).drop j'=(l.take i'++l'++l.drop j').map aa.row:=by simp [List.map_take,List.map_drop]
 rw [jv] at rn;have hlen:(l.take i'++l'++l.drop j').length=i'+l'.length+(n0-j'):=by simp;omega
 obtain ⟨b,c,hv⟩:=(iM s1).2 (by omega);have Df:=s3.one s1.1;have fin:∀ e w',(∃ v',e=.returned v'/\dQ base w (g.tk 0) (i'+l'.length+(n0-j')) (xs.take (i'*12)++ys++xs.drop (j'*12)) v' w') ->
   nC ⟨g,w,⟨[],[⟨58,12,n0,some (l.map aa.row)⟩]⟩,base⟩ (QE (.vc 1 (l.take (i':Int).toNat++l'++l.drop (j':Int).toNat).length) ⟨[],[⟨58,12,([]:List aa).length,none⟩,⟨58,12,(l.take (i':Int).toNat++l'++l.drop (j':Int).toNat).length,some ((l.take (i':Int).toNat++l'++l.drop (j':Int).toNat).map aa.row)⟩]⟩) e w':=by
  rintro e w' ⟨v',rfl,ho,hc⟩;rw [zco,zco,hlen];exact wq hinv (tk:=0) rfl rfl ho hc rn
 refine Calls.mono ?_ fin;have SM:=s1;rw [hv] at SM ⊢;by_cases hjn:j'=n0
 ·subst hjn;have:=F6 w SM u9 (i:=i') (by omega) (by omega) (by omega);rw [Nat.sub_self,zde,zck (by rw [s1.1];exact zap _),zbq];exact this
 ·exact F7 w SM u9 (by omega) (by omega) (by omega) (by omega) Df
theorem qN {l r:List aa} (H:eU l=some r):aN Tryz.prog 48 [.d (ai 12 aa.row l)] ⟨[],[]⟩ (QE (.vc 0 r.length) ⟨[],[⟨58,12,r.length,some (r.map aa.row)⟩]⟩):=by
 obtain ⟨hk,H⟩:=aq H;cases H;obtain ⟨i32,A5,Io,A6,Ip⟩:=gG;refine aN.ll ?_;refine aN.enter Tryz.func48 rfl Tryz.ntmps48 rfl λS hS=>?_
 refine .F 8 rfl (.J8 Tryz.underlying23 rfl rfl λb hb=>?_);refine .E 1 rfl (.cond rfl (λhc=>?_) (λhc=>?_))
 ·have hl:l=[]:=by simpa using hb hc
  subst hl;refine .E 4 rfl (.Ov (i:=2) (e:=58) (sz:=12) rfl (.R Tryz.func48 Tryz.results48 rfl ?_));exact ⟨[],[0],rfl,rfl,rfl,rfl,rfl,rfl,rfl,rfl,.ak _⟩
 ·refine .F 3 rfl (.v (x:=.vc 0 ([]:List aa).length) (vg aa.row Tryz.underlying23 A5 A6) rfl (.uH (st':=⟨[],[⟨58,12,([]:List aa).length,some (([]:List aa).map aa.row)⟩]⟩) rfl (.F 1 rfl ?_)));refine .v (x:=.vc 0 (([]:List aa)++l).length) (gq (l:=[]) (l':=l) (row:=aa.row) Tryz.underlying23 A5 Io A6 rfl (by rw [Ip];decide) rfl rfl rfl rfl (by simpa using hk)) rfl ?_;refine .uH (st':=⟨[],[⟨58,12,(([]:List aa)++l).length,some ((([]:List aa)++l).map aa.row)⟩]⟩) rfl (.E 2 rfl (.R Tryz.func48 Tryz.results48 rfl ?_));exact ⟨[],[0],rfl,rfl,rfl,rfl,rfl,rfl,rfl,rfl,.ak _⟩
theorem sd {l r:List aa} (H:eU l=some r):aD Tryz.prog 48 [ai 12 aa.row l] (·=ai 12 aa.row r):=.of (qN H).Nf
def iF (base:Nat) (w:World) (v:Value) (n:Nat) (xs:List Value) (v':Value) (w':World):Prop :=
 w'.ownsRow base 106 3 v' n xs/\((v'.ownBlock=v.ownBlock/\w'.heap.size=w.heap.size/\w.grownBy w' v.ownBlock)∨(v'.ownBlock=some w.heap.size/\Below w.heap.size w w'))
theorem wE {base m:Nat} {w:World} {u:Value} {ys:List Value} (hu:w.ownsRow base 106 3 u m ys) (h1:∀ y∈ys,y.oneCell'=true):Go.Abs.Src Tryz.prog w 3 u m ys:=by
 rcases hu.2 with ⟨rfl,rfl⟩|⟨b,cap,cur,rfl,hb,hg,D3,yG,yh,CH⟩
 ·have:ys=[]:=zba (by simpa using hu.1);subst this;exact ⟨rfl,λw' _=>run_firstCells_none w' _ 0 0 _,by simp,by simp⟩
 ·refine ⟨rfl,λw' hw=>run_firstCells_some w' _ m _ m cap ys hu.1 λj y hj=>?_,hu.1,h1⟩;rw [World.cell?_of_block (w:=w) (by rw [hw])];exact hu.cells (g:=b) rfl j y hj
theorem Iq (w:World) {base n m:Nat} {v u:Value} {xs ys:List Value} (hs:w.ownsRow base 106 3 v n xs) (hu:w.ownsRow base 106 3 u m ys) (hm:0<m) (hb:n+m<=1000000000) (kb:base<=w.heap.size) (h1:∀ y∈ys,y.oneCell'=true) :
  Calls Tryz.prog 164 #[v,.int .i64 n,u] w λe w'=>∃ v',e=.returned v'/\iF base w v (n+m) (xs++ys) v' w':=by
 have t3:=Tryz.underlying3;have t22:=Tryz.underlying22;have u3:=run_underlying Tryz.underlying3;have R3:=run_underlying Tryz.underlying22;have LZ:¬ ((m:Int)=0):=by omega
 obtain ⟨i,hi,hz,fE,DM⟩:=qu;obtain ⟨v',w',gY,j4,_,hc⟩:=kX (P:=Tryz.prog) (ty:=22) w Tryz.underlying22 Tryz.underlying22 (.inr ⟨_,rfl⟩) hi hz fE (by rfl) hs (wE hu h1) (by simp only [maxLen];omega) (by rw [DM];omega) kb;rcases hu.2 with ⟨_,h0⟩|⟨vb,vc,Ck,rfl,_⟩
 ·omega
 rcases hs.2 with ⟨rfl,rfl⟩|⟨b,c,cur,rfl,Ay,hg,D3,yG,yh,CH⟩
 ·go_enter Tryz.func164,Tryz.ntmps164
  go_wp2_with (at_builtin;refine Lib.wpList_append_run _ rfl _ _ _ _ rfl _ _ rfl rfl _ _ gY ?_)
  go_ret;exact ⟨_,rfl,j4,hc⟩
 ·go_enter Tryz.func164,Tryz.ntmps164
  go_wp2_with (at_builtin;refine Lib.wpList_append_run _ rfl _ _ _ _ rfl _ _ rfl rfl _ _ gY ?_)
  all_goals (go_ret;exact ⟨_,rfl,j4,hc⟩)
theorem mU {w:World} {base b n c:Nat} {xs:List Value} (hs:w.ownsRow base 106 3 (.slice (some ⟨b,0,none⟩) n c) n xs):base<=b/\n<=c/\c<=maxLen/\∃ cur:Array Value,w.heap[b]?=some (.cells cur 106 (0,0))/\cur.size=c*3/\cur.toList.take (n*3)=xs:=by
 rcases hs.2 with ⟨h,_⟩|⟨b',c',cur,h,Ay,hg,D3,yG,yh,CH⟩
 ·cases h
 ·cases h;exact ⟨Ay,D3,yG,cur,hg,yh,CH⟩
theorem Ir (w:World) {b vb m vc o lb cb cs:Nat} {cur Ck:Array Value} (eT:vb≠b) (hg:w.heap[b]?=some (.cells cur 106 (0,0))) (OQ:w.heap[vb]?=some (.cells Ck 106 (0,0))) (hk:cur.size≠0) :
  (callFunc 193 #[.slice (some ⟨vb,0,none⟩) m vc,.slice (some ⟨b,o,none⟩) lb cb]).run Tryz.prog w=.ok (.value (.bool false)) w:=by
 obtain ⟨i,hi,hz,fE,DM⟩:=qu;rw [run_callFunc_extern Tryz.func193 (by kernel_rfl) (by kernel_rfl) (by kernel_rfl) (e:=Extern.SlicesOverlaps.overlaps #[22,22] #[4]) (by kernel_rfl),
  Lib.run_overlaps_apart w 22 4 106 Tryz.underlying22 3 (λw'=>by simp [sizeOf,typeInfo,hi,fE]) ⟨vb,0,none⟩ ⟨b,o,none⟩ m vc lb cb eT 106 106 Ck.size cur.size (by simp [World.shape?,OQ]) (by simp [World.shape?,hg]) hk (by simp [World.frozen?,OQ]) (by simp [World.frozen?,OQ])]
 rfl
theorem EL (w:World) {base b n c i vb m vc:Nat} {xs ys:List Value} (hs:w.ownsRow base 106 3 (.slice (some ⟨b,0,none⟩) n c) n xs) (hu:w.ownsRow base 106 3 (.slice (some ⟨vb,0,none⟩) m vc) m ys) (eT:vb≠b) (hi:i<n) (hm:0<m) (hb:n+m<=1000000000) (ue:n+m<=c)
  (Df:∀ x∈xs,x.oneCell'=true) (h1:∀ y∈ys,y.oneCell'=true) :
  Calls Tryz.prog 164 #[.slice (some ⟨b,0,none⟩) n c,.int .i64 i,.slice (some ⟨vb,0,none⟩) m vc] w λe w'=>∃ v',e=.returned v'/\iF base w (.slice (some ⟨b,0,none⟩) n c) (n+m) (xs.take (i*3)++ys++xs.drop (i*3)) v' w':=by
 have t3:=Tryz.underlying3;have t22:=Tryz.underlying22;have u3:=run_underlying Tryz.underlying3;have R3:=run_underlying Tryz.underlying22;obtain ⟨Ay,D3,yG,cur,hg,yh,CH⟩:=mU hs;obtain ⟨_,hvc,_,Ck,OQ,V9,Wa⟩:=mU hu;obtain ⟨inf,lh,hz,fE,DM⟩:=qu;simp only [maxLen] at yG;have z32:∀ w,(Go.sizeOf 106).run Tryz.prog w=.ok 3 w:=λw'=>by simp [sizeOf,typeInfo,lh,fE]
 have LZ:¬ ((m:Int)=0):=by omega
 have Xq:¬ ((i:Int)=(n:Int)):=by omega
 have mixed:=nP;have ZY:IntKind.i64.wrap ((i:Int)+(m:Int))=(i:Int)+(m:Int):=by rw [IntKind.wrap_i64];omega
 have D2:(0:Int)<=(i:Int)+(m:Int):=by omega
 have CN:i<=n:=by omega
 have ZZ:((i:Int)+(m:Int)).toNat=i+m:=by omega
 have FF:¬ (c=i+m):=by omega
 have F3:(i:Int)<=(n:Int)+(m:Int):=by omega
 have T3:¬ (c=i):=by omega
 have QH:cur.size≠0:=by rw [yh];omega
 have vS:=hs.1;have vi:=hu.1;have hov:∀ o lb cb,(callFunc 193 #[.slice (some ⟨vb,0,none⟩) m vc,.slice (some ⟨b,o,none⟩) lb cb]).run Tryz.prog w=.ok (.value (.bool false)) w:=λo lb cb=>Ir (cs:=0) w eT hg OQ QH
 -- the first copy
 have A1:∀ j x,xs[j]?=some x->w.cell? ⟨b,j,none⟩=some x:=λj x hj=>by have:=hs.cells (g:=b) rfl j x hj;rwa [Addr.add_lit,zbr] at this
 have Ml:∀ j v,(xs.drop (i*3))[j]?=some v->w.cell? (Addr.add ⟨b,i*3,none⟩ j)=some v:=λj v hj=>by
  rw [zbb] at hj;rw [Addr.add_lit];exact A1 _ _ hj
 have SC:Nat.min (n+m-i) (n+m-(i+m))=n-i:=qV (by omega);have Wb:Nat.min m (n+m-i)=m:=qV (by omega);have Ax:(xs.drop (i*3)).length=Nat.min (n+m-i) (n+m-(i+m))*3:=by rw [zbi,vS,SC];omega
 have F4:∀ (W:World),W.heap=w.heap->∀ ty dc sc,(Builtin.copy_ #[22,22] ty #[.slice (some ⟨b,(i+m)*3,none⟩) (n+m-(i+m)) dc,.slice (some ⟨b,i*3,none⟩) (n+m-i) sc]).run Tryz.prog W=.ok (goInt (Nat.min (n+m-i) (n+m-(i+m)))) (W.setRow b (laid cur.toList ((i+m)*3) (xs.drop (i*3))).toArray):=λW hW ty dc sc =>
  nh W Tryz.underlying22 lh fE (by rw [hW];exact hg) Ax (λj v hj=>by rw [World.cell?_of_block (w:=w) (by rw [hW])];exact Ml j v hj) (λv hv=>Df v (zcz hv)) (by rw [Ax,yh,SC];omega)
 generalize yJ:laid cur.toList ((i+m)*3) (xs.drop (i*3))=L1 at F4;have rp:cur.toList.length=c*3:=by simpa using yh
 have oB:(i+m)*3+(xs.drop (i*3)).length<=cur.toList.length:=by rw [zbi,vS,rp];omega
 have C1:L1.length=cur.toList.length:=by rw [←yJ];exact iN oB
 have BP:∀ j v,ys[j]?=some v->w.cell? (Addr.add ⟨vb,0,none⟩ j)=some v:=λj v hj=>hu.cells (g:=vb) rfl j v hj
 have Kg:∀ (W:World),W.heap[b]?=some (.cells L1.toArray 106 (0,0))->(∀ x:Addr,x.block≠b->W.cell? x=w.cell? x)->∀ ty dc,(Builtin.copy_ #[22,22] ty #[.slice (some ⟨b,i*3,none⟩) (n+m-i) dc,.slice (some ⟨vb,0,none⟩) m vc]).run Tryz.prog W=.ok (goInt (Nat.min m (n+m-i))) (W.setRow b (laid L1 (i*3) ys).toArray):=λW QI QJ ty dc =>
  nh W Tryz.underlying22 lh fE QI (by rw [vi,Wb]) (λj v hj=>by rw [QJ _ (by rw [Addr.add_lit];exact eT)];exact BP j v hj) h1 (by simp only [zbs];omega)
 have Lq:((w.drew).setRow b L1.toArray).heap[b]?=some (.cells L1.toArray 106 (0,0)):=setRow_heap w.drew b cur _ 106 (0,0) hg;have tU:∀ x:Addr,x.block≠b->((w.drew).setRow b L1.toArray).cell? x=w.cell? x:=λx hx=>World.cell?_of_block (w:=w) (setRow_other w.drew b x.block _ hx)
 have o8:iF base w (.slice (some ⟨b,0,none⟩) n c) (n+m) (xs.take (i*3)++ys++xs.drop (i*3)) (.slice (some ⟨b,0,none⟩) (n+m) c) (((w.drew).setRow b L1.toArray).setRow b (laid L1 (i*3) ys).toArray):=by
  have A2:i*3+ys.length<=L1.length:=by rw [vi,C1,rp];omega
  refine ⟨⟨by simp only [zai,zbe,zbi];omega,.inr ⟨b,c,_,rfl,Ay,setRow_heap _ b _ _ 106 (0,0) Lq,ue,by simp only [maxLen];omega,by rw [zbs,iN A2,C1,rp],?_⟩⟩,
   .inl ⟨rfl,by simp,⟨rfl,rfl,rfl,by simp,λk hk Im=>?_⟩⟩⟩
  ·rw [zcx,jq A2 (by rw [vi];omega),←yJ];have e1:(laid cur.toList ((i+m)*3) (xs.drop (i*3))).take (i*3)=xs.take (i*3):=by
    apply zce;intro j;rw [zam,zam,xB oB];by_cases h:j<i*3
    ·rw [zab h,zab h,zaa (by omega),←CH,zam,zab (by omega)]
    ·rw [zaa h,zaa h]
   rw [e1];congr 1;rw [jq oB (by rw [zbi,vS];omega),vi];apply zce;intro j;rw [zbb];have cH:(List.take ((i+m)*3) cur.toList).length=(i+m)*3:=by rw [zbe,rp];omega
   by_cases h:j<(n-i)*3
   ·rw [zan (by rw [zai,cH,zbi,vS];omega),zav (by rw [cH];omega),cH];congr 1;omega
   ·rw [zbl (by simp only [zai,zbi,zbe,rp,vS];omega),zbl (by rw [zbi,vS];omega)]
  ·rw [setRow_other _ b k _ (λe=>Im (by rw [e];rfl)),setRow_other _ b k _ (λe=>Im (by rw [e];rfl))];rfl
 have QK:=F4 w.drew rfl;have QL:=Kg _ Lq tU;go_enter Tryz.func164,Tryz.ntmps164
 go_wp2_with (simp only [hov])
 go_region_law_o (refine mj rfl _ _ 22 22 rfl _ _ (by simp [Act.eval,Act.put]) (by simp [Act.eval,Act.put]) (QK _ _ _) ?_)
 go_wp2_with (at_builtin;refine jN _ rfl _ _ 22 22 rfl _ _ rfl rfl (QL _ _) ?_)
 go_ret;exact ⟨_,rfl,o8⟩
theorem F8 (w:World) {base b n c i vb m vc:Nat} {xs ys:List Value} (hs:w.ownsRow base 106 3 (.slice (some ⟨b,0,none⟩) n c) n xs) (hu:w.ownsRow base 106 3 (.slice (some ⟨vb,0,none⟩) m vc) m ys) (hi:i<n) (hm:0<m) (hb:n+m<=1000000000) (ue:c<n+m) (kb:base<=w.heap.size)
  (Df:∀ x∈xs,x.oneCell'=true) (h1:∀ y∈ys,y.oneCell'=true) :
  Calls Tryz.prog 164 #[.slice (some ⟨b,0,none⟩) n c,.int .i64 i,.slice (some ⟨vb,0,none⟩) m vc] w λe w'=>∃ v',e=.returned v'/\iF base w (.slice (some ⟨b,0,none⟩) n c) (n+m) (xs.take (i*3)++ys++xs.drop (i*3)) v' w':=by
 have t3:=Tryz.underlying3;have t22:=Tryz.underlying22;have u3:=run_underlying Tryz.underlying3;have R3:=run_underlying Tryz.underlying22;obtain ⟨Ay,D3,yG,cur,hg,yh,CH⟩:=mU hs;obtain ⟨_,hvc,_,Ck,OQ,V9,Wa⟩:=mU hu;obtain ⟨inf,lh,hz,fE,DM⟩:=qu;simp only [maxLen] at yG;have mixed:=nP;have LZ:¬ ((m:Int)=0):=by omega
 have Xq:¬ ((i:Int)=(n:Int)):=by omega
 have xa:(c:Int)<(n:Int)+(m:Int):=by omega
 have hbw:b<w.heap.size:=(hs.lt b rfl).2;have hvw:vb<w.heap.size:=(hu.lt vb rfl).2;have YS:(n:Int)+(m:Int) - (i:Int)=((n+m-i:Nat):Int):=by omega
 have Wc:i+(n+m-i)=n+m:=by omega
 have vS:=hs.1;have vi:=hu.1;have A1:∀ j x,xs[j]?=some x->w.cell? ⟨b,j,none⟩=some x:=λj x hj=>by have:=hs.cells (g:=b) rfl j x hj;rwa [Addr.add_lit,zbr] at this
 have hold:(Builtin.firstCells inf.size i (.slice (some ⟨b,0,none⟩) i c)).run Tryz.prog w.drew=.ok (xs.take (i*3)).toArray w.drew:=by
  rw [fE];refine run_firstCells_some w.drew 3 i ⟨b,0,none⟩ i c (xs.take (i*3)) (by rw [zbe];omega) (λj v hj=>?_);rw [Addr.add_lit,zbr];rw [zam] at hj;split at hj
  ·exact A1 j v hj
  ·cases hj
 generalize hzv:(Value.agg _)=zv at hz;have CJ:zv.cells.size=3:=by rw [←hzv];rfl
 have Wd:∀ ty,(Builtin.append_ #[22,3] ty #[.slice (some ⟨b,0,none⟩) i c,.int .i64 ((n:Int)+(m:Int) - (i:Int))]).run Tryz.prog w =
   .ok (.slice (some ⟨w.heap.size,0,none⟩) (n+m) (grownCap w (n+m) c 106)) (w.drew.alloc (.cells ((xs.take (i*3)).toArray++Builtin.zeroCells zv.cells (n+m-i)++Builtin.zeroCells zv.cells (grownCap w (n+m) c 106-(n+m))) 106)):=λty=>by
  have h:=Lib.run_append_grow_zeros w 22 3 ty 106 inf zv .i64 .i64 Tryz.underlying22 Tryz.underlying3 lh hz (some ⟨b,0,none⟩) i c (xs.take (i*3)) hold (n+m-i) (by omega) (by omega) (by omega) (by omega) (by rw [DM];omega) (by rw [Wc];exact growslice_fits ue (by rw [DM];omega));rw [Wc] at h;rw [YS];exact h
 have YT:n+m<=grownCap w (n+m) c 106:=grownCap_ge w _ _ _;have QM:grownCap w (n+m) c 106<=maxLen:=grownCap_le_maxLen w (n+m) c 106 (by unfold maxLen;omega);generalize grownCap w (n+m) c 106=G at Wd YT QM;simp only [maxLen] at QM;generalize hROW:(xs.take (i*3)).toArray++Builtin.zeroCells zv.cells (n+m-i)++Builtin.zeroCells zv.cells (G-(n+m))=uQ at Wd;have YU:uQ.size=G*3:=by
  rw [←hROW];simp only [zfd,zbs,zbe,size_zeroCells,CJ,vS];omega
 have hRt:uQ.toList.take (i*3)=xs.take (i*3):=by
  rw [←hROW];simp only [zfv,zat];rw [zdx (by rw [zbe];omega),zbw (by rw [zbe];omega)]
 have We:uQ.toList.length=G*3:=by simpa using YU
 have hmA:Nat.min m (n+m-i)=m:=qV (by omega);have hmB:Nat.min (n-i) (n+m-(i+m))=n-i:=qV (by omega);have Ax:(xs.drop (i*3)).length=(n-i)*3:=by rw [zbi,vS];omega
 have Kh:i*3+ys.length<=uQ.toList.length:=by rw [vi,We];omega
 have QN:∀ (W:World),W.heap[w.heap.size]?=some (.cells uQ 106 (0,0))->(∀ x:Addr,x.block<w.heap.size->W.cell? x=w.cell? x)->∀ ty dc,(Builtin.copy_ #[22,22] ty #[.slice (some ⟨w.heap.size,i*3,none⟩) (n+m-i) dc,.slice (some ⟨vb,0,none⟩) m vc]).run Tryz.prog W=.ok (goInt (Nat.min m (n+m-i))) (W.setRow w.heap.size (laid uQ.toList (i*3) ys).toArray):=λW QI QJ ty dc =>
  nh W Tryz.underlying22 lh fE QI (by rw [vi,hmA]) (λj v hj=>by rw [QJ _ (by rw [Addr.add_lit];exact hvw)];exact hu.cells (g:=vb) rfl j v hj) h1 (by rw [vi,YU];omega)
 generalize yJ:laid uQ.toList (i*3) ys=L1 at QN;have C1:L1.length=uQ.toList.length:=by rw [←yJ];exact iN Kh
 have Ki:(i+m)*3+(xs.drop (i*3)).length<=L1.length:=by rw [Ax,C1,We];omega
 have QO:∀ (W:World),W.heap[w.heap.size]?=some (.cells L1.toArray 106 (0,0))->(∀ x:Addr,x.block<w.heap.size->W.cell? x=w.cell? x)->∀ ty dc sc,(Builtin.copy_ #[22,22] ty #[.slice (some ⟨w.heap.size,(i+m)*3,none⟩) (n+m-(i+m)) dc,.slice (some ⟨b,i*3,none⟩) (n-i) sc]).run Tryz.prog W=.ok (goInt (Nat.min (n-i) (n+m-(i+m)))) (W.setRow w.heap.size (laid L1 ((i+m)*3) (xs.drop (i*3))).toArray):=λW QI QJ ty dc sc =>
  nh W Tryz.underlying22 lh fE QI (by rw [Ax,hmB]) (λj v hj=>by
   rw [QJ _ (by rw [Addr.add_lit];exact hbw),Addr.add_lit];rw [zbb] at hj;exact A1 _ _ hj) (λv hv=>Df v (zcz hv)) (by simp only [zbs];omega)
 generalize zl:laid L1 ((i+m)*3) (xs.drop (i*3))=L2 at QO;have Pr:L2.length=L1.length:=by rw [←zl];exact iN Ki
 have A3:∀ W:World,W.heap=w.heap.push (.cells uQ 106 (0,0))->W.heap[w.heap.size]?=some (.cells uQ 106 (0,0)):=λW hW=>by rw [hW];simp
 have Wf:∀ W:World,W.heap=w.heap.push (.cells uQ 106 (0,0))->∀ x:Addr,x.block<w.heap.size->W.cell? x=w.cell? x:=λW hW x hx=>World.cell?_of_block (w:=w) (by rw [hW,zdk hx];simp [hx]);have YV:∀ W:World,W.heap=w.heap.push (.cells uQ 106 (0,0))->(W.setRow w.heap.size L1.toArray).heap[w.heap.size]?=some (.cells L1.toArray 106 (0,0)):=λW hW=>setRow_heap W _ uQ _ 106 (0,0) (A3 W hW)
 have RZ:∀ W:World,W.heap=w.heap.push (.cells uQ 106 (0,0))->∀ x:Addr,x.block<w.heap.size->(W.setRow w.heap.size L1.toArray).cell? x=w.cell? x:=λW hW x hx=>(World.cell?_of_block (w:=W) (setRow_other W _ x.block _ (by omega))).trans (Wf W hW x hx)
 have o8:∀ W W2:World,W.heap=w.heap.push (.cells uQ 106 (0,0))->W.os=w.os->W.tape=w.tape->W.output=w.output->W2.heap=(W.setRow w.heap.size L1.toArray).heap->W2.os=w.os->W2.tape=w.tape->W2.output=w.output ->
   iF base w (.slice (some ⟨b,0,none⟩) n c) (n+m) (xs.take (i*3)++ys++xs.drop (i*3)) (.slice (some ⟨w.heap.size,0,none⟩) (n+m) G) (W2.setRow w.heap.size L2.toArray):=by
  intro W W2 hW ho ht hou Wg Oe BQ Wh;have Wi:W2.heap[w.heap.size]?=some (.cells L1.toArray 106 (0,0)):=by rw [Wg];exact YV W hW
  refine ⟨⟨by simp only [zai,zbe,zbi];omega,.inr ⟨w.heap.size,G,_,rfl,kb,setRow_heap _ _ _ _ 106 (0,0) Wi,YT,by simp only [maxLen];omega,by rw [zbs,Pr,C1,We],?_⟩⟩,
   .inr ⟨rfl,⟨Oe,BQ,Wh,by simp [Wg,hW],λk hk=>?_⟩⟩⟩
  ·have e2:(L1.take ((n+m)*3)).drop ((i+m)*3+(xs.drop (i*3)).length)=[]:=zck (by rw [zbe,Ax];omega);rw [zcx,←zl,jq Ki (by rw [Ax];omega),e2,←yJ];have e1:(laid uQ.toList (i*3) ys).take ((i+m)*3)=xs.take (i*3)++ys:=by
    rw [jq Kh (by rw [vi];omega),hRt,vi,zck (by rw [zbe];omega),zbq]
   rw [e1,zbq]
  ·rw [setRow_other _ _ k _ (by omega),Wg,setRow_other _ _ k _ (by omega),hW,zdk hk];simp [hk]
 clear YS Wc hold hROW;have hGi:¬ (G=i):=by omega
 have hGim:¬ (G=i+m):=by omega
 have qc:¬ (c=i):=by omega
 have ZY:IntKind.i64.wrap ((i:Int)+(m:Int))=(i:Int)+(m:Int):=by rw [IntKind.wrap_i64];omega
 have D2:(0:Int)<=(i:Int)+(m:Int):=by omega
 have CN:i<=n:=by omega
 have ZZ:((i:Int)+(m:Int)).toNat=i+m:=by omega
 have F3:(i:Int)<=(n:Int):=by omega
 have QP:=QN (w.alloc (.cells uQ 106)).drew (A3 _ rfl) (Wf _ rfl);have QQ:=QO ((w.alloc (.cells uQ 106)).drew.setRow w.heap.size L1.toArray).drew (YV _ rfl) (RZ (w.alloc (.cells uQ 106)).drew rfl);have QR:=o8 (w.alloc (.cells uQ 106)).drew ((w.alloc (.cells uQ 106)).drew.setRow w.heap.size L1.toArray).drew rfl rfl rfl rfl rfl rfl rfl rfl;go_enter Tryz.func164,Tryz.ntmps164
 go_wp2_with (first
  | (at_builtin;refine Lib.wpList_append_run _ rfl _ _ _ _ rfl _ _ rfl rfl _ _ (Wd _) ?_)
  | (at_builtin;refine jN _ rfl _ _ 22 22 rfl _ _ rfl rfl (QP _ _) ?_))
 go_region_law_o (refine mj rfl _ _ 22 22 rfl _ _ (by simp [Act.eval,Act.put]) (by simp [Act.eval,Act.put]) (QQ _ _ _) ?_)
 go_wp2
 go_ret;exact ⟨_,rfl,QR⟩
theorem Is (w:World) {base m:Nat} {A:Option Addr} {u:Value} {ys:List Value} (hu:w.ownsRow base 106 3 u m ys) (hm:0<m) (hb:m<=1000000000) (kb:base<=w.heap.size) (h1:∀ y∈ys,y.oneCell'=true) :
  Calls Tryz.prog 164 #[.slice A 0 0,.int .i64 0,u] w λe w'=>∃ v',e=.returned v'/\iF base w (.slice none 0 0) m ys v' w':=by
 have t3:=Tryz.underlying3;have t22:=Tryz.underlying22;have u3:=run_underlying Tryz.underlying3;have R3:=run_underlying Tryz.underlying22;have LZ:¬ ((m:Int)=0):=by omega
 obtain ⟨i,hi,hz,fE,DM⟩:=qu;have hs:=World.ownsRow_nil w base 106 3;obtain ⟨v',w',gY,j4,_,hc⟩:=kX (P:=Tryz.prog) (ty:=22) w Tryz.underlying22 Tryz.underlying22 (.inr ⟨_,rfl⟩) hi hz fE (by rfl) hs (wE hu h1) (by simp only [maxLen];omega) (by rw [DM];omega) kb;rw [zbr,zbx] at j4;have Kj:=((vY (ty:=22) Tryz.underlying22 Tryz.underlying22 (.inr ⟨_,rfl⟩) hi hz fE (wE hu h1) (by omega) (by rw [DM];omega) A).2 (by omega)).trans gY;rcases hu.2 with ⟨_,h0⟩|⟨vb,vc,Ck,rfl,_⟩
 ·omega
 cases A with
 | none =>
  go_enter Tryz.func164,Tryz.ntmps164
  go_wp2_with (at_builtin;refine Lib.wpList_append_run _ rfl _ _ _ _ rfl _ _ rfl rfl _ _ Kj ?_)
  all_goals (go_ret;exact ⟨_,rfl,j4,hc⟩)
 | some A =>
  obtain ⟨ab,ao,asp⟩:=A;go_enter Tryz.func164,Tryz.ntmps164
  go_wp2_with (at_builtin;refine Lib.wpList_append_run _ rfl _ _ _ _ rfl _ _ rfl rfl _ _ Kj ?_)
  all_goals (go_ret;exact ⟨_,rfl,j4,hc⟩)
theorem EM (w:World) {base n m i:Nat} {v u:Value} {xs ys:List Value} (hs:w.ownsRow base 106 3 v n xs) (hu:w.ownsRow base 106 3 u m ys) (eT:∀ b,v.ownBlock=some b->u.ownBlock≠some b) (hi:i<=n) (hm:0<m) (hb:n+m<=1000000000) (kb:base<=w.heap.size)
  (Df:∀ x∈xs,x.oneCell'=true) (h1:∀ y∈ys,y.oneCell'=true) :
  Calls Tryz.prog 164 #[v,.int .i64 i,u] w λe w'=>∃ v',e=.returned v'/\iF base w v (n+m) (xs.take (i*3)++ys++xs.drop (i*3)) v' w':=by
 by_cases CN:i=n
 ·subst CN;have vS:=hs.1;rw [zbw (by omega),zck (by omega),zbq];exact Iq w hs hu hm hb kb h1
 ·obtain ⟨b,c,rfl⟩:=(iM hs).2 (by omega);obtain ⟨vb,vc,rfl⟩:=(iM hu).2 (by omega);by_cases hr:n+m<=c
  ·exact EL w hs hu (λe=>eT b rfl (by rw [e];rfl)) (by omega) hm hb hr Df h1
  ·exact F8 w hs hu (by omega) hm hb (by omega) kb Df h1
theorem Dm {l l' r:List Range} {n0 n1:Nat} {i:Int} (H:qW i l l'=some r) :
  aN Tryz.prog 164 [.vc 0 n0,.d (cI i),.vc 1 n1] ⟨[],[⟨106,3,n0,some (l.map Range.row)⟩,⟨106,3,n1,some (l'.map Range.row)⟩]⟩
   (QE (.vc 2 r.length) ⟨[],[⟨106,3,([]:List Range).length,none⟩,⟨106,3,n1,some (l'.map Range.row)⟩,⟨106,3,r.length,some (r.map Range.row)⟩]⟩):=by
 obtain ⟨hk,H⟩:=aq H;cases H;intro g w base vs hinv ha;obtain ⟨x,y,z,rfl,e1,e2,e3⟩:=Qk rfl ha;obtain ⟨k0,k1,k2,k3⟩:=hk;have Lp:y=.int .i64 i:=e2.bK;subst Lp;obtain ⟨xs,s1,s2,s3⟩:=hinv.own 0 _ _ _ _ rfl;obtain ⟨ys,u1,u2,u3⟩:=hinv.own 1 _ _ _ _ rfl;have Ln:n0=l.length:=by have:=s3.len;simpa using this.symm
 have hn1:n1=l'.length:=by have:=u3.len;simpa using this.symm
 have hz:z=g.tk 1:=by
  rcases sk hinv rfl e3 with h|⟨_,h,_⟩
  ·exact h
  ·have:l'=[]:=by simpa using h
   rw [this] at k2;simp at k2
 subst hz;obtain ⟨j,rfl⟩:∃ j:Nat,i=(j:Int):=⟨i.toNat,by omega⟩;have rn:=s3.Vl s1.1 u3 u1.1 (i:=j) (j:=j) (zap _) (by omega);have jv:(l.map Range.row).take j++l'.map Range.row++(l.map Range.row).drop j=(l.take j++l'++l.drop j).map Range.row:=by simp [List.map_take,List.map_drop]
 rw [jv,show j+n1+(n0-j)=n0+n1 from by omega] at rn;have hlen:(l.take j++l'++l.drop j).length=n0+n1:=by simp;omega
 have Df:=s3.one s1.1;have YW:=u3.one u1.1;have fin:∀ v0:Value,(v0.ownBlock=(g.tk 0).ownBlock∨v0.ownBlock=none/\0<n0+n1)->∀ e w',(∃ v',e=.returned v'/\iF base w v0 (n0+n1) (xs.take (j*3)++ys++xs.drop (j*3)) v' w') ->
   nC ⟨g,w,⟨[],[⟨106,3,n0,some (l.map Range.row)⟩,⟨106,3,n1,some (l'.map Range.row)⟩]⟩,base⟩ (QE (.vc 2 (l.take (j:Int).toNat++l'++l.drop (j:Int).toNat).length) ⟨[],[⟨106,3,([]:List Range).length,none⟩,⟨106,3,n1,some (l'.map Range.row)⟩,⟨106,3,(l.take (j:Int).toNat++l'++l.drop (j:Int).toNat).length,some ((l.take (j:Int).toNat++l'++l.drop (j:Int).toNat).map Range.row)⟩]⟩) e w':=by
  rintro v0 LJ e w' ⟨v',rfl,ho,hc⟩;rw [zco,hlen];refine wq hinv (tk:=0) rfl rfl ho ?_ rn;rcases hc with ⟨c1,c2,c3⟩|hc
  ·rcases LJ with LJ|⟨LJ,hp⟩
   ·rw [LJ] at c1 c3;exact .inl ⟨c1,c2,c3⟩
   ·rw [LJ] at c1;obtain ⟨b,c,MY⟩:=(iM ho).2 (by omega);rw [MY] at c1;cases c1
  ·exact .inr hc
 rcases sk hinv rfl e1 with hx|⟨h0,Vn,A,hx⟩
 ·subst hx;refine (EM w s1 u1 (λb h1 h2=>hinv.nK 0 1 _ _ b (by decide) rfl rfl h1 h2) (i:=j) (by omega) (by omega) (by omega) hinv.base Df YW).mono ?_;exact fin _ (.inl rfl)
 ·subst hx;have hj:j=0:=by omega
  subst hj;have Sk:xs=[]:=zba (by rw [s1.1,h0,zfn]);subst Sk;refine (Is w (A:=A) u1 (by omega) (by omega) hinv.base YW).mono λe w' hh=>fin (.slice none 0 0) (.inr ⟨rfl,by omega⟩) e w' ?_
  rw [h0,zbr];simpa using hh
theorem EN (w:World) {base b n c i j:Nat} {xs:List Value} (hs:w.ownsRow base 106 3 (.slice (some ⟨b,0,none⟩) n c) n xs) (h1:∀ y∈xs,y.oneCell'=true) (hi:i<j) (hj:j<=n) (hb:n<=1000000000) :
  Calls Tryz.prog 166 #[.slice (some ⟨b,0,none⟩) n c,.int .i64 i,.int .i64 j] w λe w'=>∃ v',e=.returned v'/\iF base w (.slice (some ⟨b,0,none⟩) n c) (i+(n-j)) (xs.take (i*3)++xs.drop (j*3)) v' w':=by
 have t3:=Tryz.underlying3;have t22:=Tryz.underlying22;have u3:=run_underlying Tryz.underlying3;have R3:=run_underlying Tryz.underlying22;obtain ⟨Ay,D3,yG,cur,hg,yh,CH⟩:=mU hs;obtain ⟨inf,lh,hz,fE,DM⟩:=qu;simp only [maxLen] at yG;generalize hzv:(Value.agg _)=zv at hz;have CJ:zv.cells.size=3:=by rw [←hzv];rfl
 have LZ:∀ v∈(Builtin.zeroCells zv.cells (n-(i+(n-j)))).toList,v.oneCell'=true:=uJ (by rw [CJ,←hzv];decide);have vS:=hs.1;have rp:cur.toList.length=c*3:=by simpa using yh
 have vi:(xs.drop (j*3)).length=(n-j)*3:=by rw [zbi,vS];omega
 have cQ:∀ y∈xs.drop (j*3),y.oneCell'=true:=λy hy=>h1 y (zcz hy)
 have oB:i*3+(xs.drop (j*3)).length<=cur.toList.length:=by rw [vi,rp];omega
 have Xr:w.drew.heap[b]?=some (.cells cur 106 (0,0)):=hg;have r3:∀ (q:Nat) (y:Value),xs[q]?=some y->w.drew.cell? ((⟨b,0,none⟩:Addr).add q)=some y:=hs.cells (g:=b) rfl;have hf:(Builtin.firstCells 3 (n-j) (.slice (if c=j then some ⟨b,0,none⟩ else some ⟨b,j*3,none⟩) (n-j) (c-j))).run Tryz.prog w.drew=.ok (xs.drop (j*3)).toArray w.drew:=by
  by_cases Wj:c=j
  ·have hnj:n-j=0:=by omega
   have hx0:xs.drop (j*3)=[]:=zba (by rw [vi,hnj,zfn]);rw [zab Wj,hnj,hx0];exact run_firstCells_some w.drew _ 0 _ 0 (c-j) [] rfl (λq y hq=>by simp at hq)
  ·rw [zaa Wj];exact run_firstCells_some w.drew _ (n-j) _ (n-j) (c-j) _ vi λq y hq=>by
    rw [zbb] at hq;have:=r3 (j*3+q) y hq;simp only [Addr.add_lit,zbr] at this ⊢;exact this
 have gY:∀ ty,(Builtin.append_ #[22,22] ty #[.slice (some ⟨b,0,none⟩) i c,.slice (if c=j then some ⟨b,0,none⟩ else some ⟨b,j*3,none⟩) (n-j) (c-j)]).run Tryz.prog w.drew=.ok (.slice (some ⟨b,0,none⟩) (i+(n-j)) c) (w.drew.setRow b (laid cur.toList (i*3) (xs.drop (j*3))).toArray):=λty =>
  CT w.drew Tryz.underlying22 lh fE Xr (by omega) hf cQ (by rw [←zcr];exact oB)
 generalize Z1:xs.drop (j*3)=ys at gY oB vi cQ hf ⊢;generalize yJ:laid cur.toList (i*3) ys=L1 at gY;have C1:L1.length=cur.toList.length:=by rw [←yJ];exact iN oB
 have Lq:(w.drew.setRow b L1.toArray).heap[b]?=some (.cells L1.toArray 106 (0,0)):=setRow_heap w.drew b cur _ 106 (0,0) Xr;have R4:L1.take ((i+(n-j))*3)=xs.take (i*3)++ys:=by
  have e1:(cur.toList.take ((i+(n-j))*3)).drop (i*3+ys.length)=[]:=zck (by rw [zbe,vi];omega);rw [←yJ,jq oB (by rw [vi];omega),e1,zbq,←CH,List.take_take,show min (i*3) (n*3)=i*3 from by omega]
 have hlen:(xs.take (i*3)++ys).length=(i+(n-j))*3:=by simp only [zai,zbe];omega
 have hm:i+(n-j)<n:=by omega
 have C2:(i+(n-j))*3+(Builtin.zeroCells zv.cells (n-(i+(n-j)))).toList.length<=L1.length:=by rw [zcr,size_zeroCells,CJ,C1,rp];omega
 have Dl:∀ ty dc,(Builtin.clear_ #[22] ty #[.slice (some ⟨b,(i+(n-j))*3,none⟩) (n-(i+(n-j))) dc]).run Tryz.prog (w.drew.setRow b L1.toArray)=.ok (.tuple #[]) ((w.drew.setRow b L1.toArray).setRow b (laid L1 ((i+(n-j))*3) (Builtin.zeroCells zv.cells (n-(i+(n-j)))).toList).toArray):=λty dc=>by
  have:=zU (P:=Tryz.prog) (ty:=ty) (c:=dc) (w.drew.setRow b L1.toArray) (o:=(i+(n-j))*3) (n:=n-(i+(n-j))) Tryz.underlying22 lh hz CJ Lq (by omega) (by rw [zbs,C1,rp];omega) LZ;exact this
 generalize zl:laid L1 ((i+(n-j))*3) (Builtin.zeroCells zv.cells (n-(i+(n-j)))).toList=L2 at Dl;have Pr:L2.length=L1.length:=by rw [←zl];exact iN C2
 have R5:L2.take ((i+(n-j))*3)=xs.take (i*3)++ys:=by rw [←zl,zV C2 (zap _),R4]
 have o8:iF base w (.slice (some ⟨b,0,none⟩) n c) (i+(n-j)) (xs.take (i*3)++ys) (.slice (some ⟨b,0,none⟩) (i+(n-j)) c) ((w.drew.setRow b L1.toArray).setRow b L2.toArray) :=
  ⟨⟨hlen,.inr ⟨b,c,_,rfl,Ay,setRow_heap _ b _ _ 106 (0,0) Lq,by omega,by simp only [maxLen];omega,by rw [zbs,Pr,C1,rp],by rw [zcx,R5]⟩⟩,
   .inl ⟨rfl,by simp,⟨rfl,rfl,rfl,by simp,λk hk Im=>by rw [setRow_other _ b k _ (λe=>Im (by rw [e];rfl)),setRow_other _ b k _ (λe=>Im (by rw [e];rfl))];rfl⟩⟩⟩
 generalize hmg:n-j=m at *;obtain rfl:j=n-m:=by omega
 have CN:i<=n:=by omega
 have TJ:i<=c:=by omega
 have hnmc:n-m<=c:=by omega
 have hnmn:n-m<=n:=by omega
 have mixed:=nP;have hij2:i<=n-m:=by omega
 have Vq:(0:Int)<=(i:Int):=by omega
 have qc:¬ (c=i):=by omega
 have YX:¬ (c=i+m):=by omega
 have hle:i+m<=n:=by omega
 have eT:¬ ((i:Int)=((n-m:Nat):Int)):=by omega
 by_cases Wj:c=n-m
 ·subst Wj;rw [zab rfl] at hf;simp only [zab] at gY;go_enter Tryz.func166,Tryz.ntmps166
  go_wp2
  go_region_law_o (refine zp rfl _ _ 22 rfl _ _ (by simp [Act.eval,Act.put]) (by simp [Act.eval,Act.put]) (gY _) ?_)
  go_wp2_with (at_builtin;refine kg _ rfl _ 22 rfl _ rfl (Dl _ _) ?_)
  all_goals (go_ret;exact ⟨_,rfl,o8⟩)
 ·rw [zaa Wj] at hf;simp only [zaa Wj] at gY;go_enter Tryz.func166,Tryz.ntmps166
  go_wp2
  go_region_law_o (refine zp rfl _ _ 22 rfl _ _ (by simp [Act.eval,Act.put]) (by simp [Act.eval,Act.put]) (gY _) ?_)
  go_wp2_with (at_builtin;refine kg _ rfl _ 22 rfl _ rfl (Dl _ _) ?_)
  all_goals (go_ret;exact ⟨_,rfl,o8⟩)
theorem wT {l r:List Range} {n0:Nat} {i j:Int} (H:oa i j l=some r) :
  aN Tryz.prog 166 [.vc 0 n0,.d (cI i),.d (cI j)] ⟨[],[⟨106,3,n0,some (l.map Range.row)⟩]⟩
   (QE (.vc 1 r.length) ⟨[],[⟨106,3,([]:List Range).length,none⟩,⟨106,3,r.length,some (r.map Range.row)⟩]⟩):=by
 obtain ⟨hk,H⟩:=aq H;cases H;intro g w base vs hinv ha;obtain ⟨x,y,z,rfl,e1,e2,e3⟩:=Qk rfl ha;obtain ⟨k0,k1,k2,k3⟩:=hk;have Lp:y=.int .i64 i:=e2.bK;have e3':z=.int .i64 j:=e3.bK;subst Lp;subst e3';obtain ⟨xs,s1,s2,s3⟩:=hinv.own 0 _ _ _ _ rfl;have Ln:n0=l.length:=by have:=s3.len;simpa using this.symm
 have hx:x=g.tk 0:=by
  rcases sk hinv rfl e1 with h|⟨_,h,_⟩
  ·exact h
  ·have:l=[]:=by simpa using h
   rw [this] at k2;simp at k2;omega
 subst hx;obtain ⟨i',rfl⟩:∃ q:Nat,i=(q:Int):=⟨i.toNat,by omega⟩;obtain ⟨j',rfl⟩:∃ q:Nat,j=(q:Int):=⟨j.toNat,by omega⟩;have rn:=(s3.take (k:=i') (by omega)).app (by rw [zbe,s1.1];have:i'*3<=n0*3:=zcq _ (by omega);omega) (s3.drop (k:=j') (by omega));have jv:(l.map Range.row).take i'++(l.map Range.row).drop j'=(l.take i'++l.drop j').map Range.row:=by simp [List.map_take,List.map_drop]
 rw [jv] at rn;have hlen:(l.take i'++l.drop j').length=i'+(n0-j'):=by simp;omega
 obtain ⟨b,c,hv⟩:=(iM s1).2 (by omega);have Df:=s3.one s1.1;have SM:=s1;rw [hv] at SM;have hw:=EN w SM Df (i:=i') (j:=j') (by omega) (by omega) (by omega);rw [←hv] at hw;refine hw.mono ?_;rintro e w' ⟨v',rfl,ho,hc⟩;rw [zco,zco,hlen];exact wq hinv (tk:=0) rfl rfl ho hc rn
theorem wU {l r:List Range} (H:iy l=some r):aN Tryz.prog 85 [.d (ai 3 Range.row l)] ⟨[],[]⟩ (QE (.vc 0 r.length) ⟨[],[⟨106,3,r.length,some (r.map Range.row)⟩]⟩):=by
 obtain ⟨hk,H⟩:=aq H;cases H;obtain ⟨i32,A5,Io,A6,Ip⟩:=qu;refine aN.ll ?_;refine aN.enter Tryz.func85 rfl Tryz.ntmps85 rfl λS hS=>?_
 refine .F 8 rfl (.J8 Tryz.underlying22 rfl rfl λb hb=>?_);refine .E 1 rfl (.cond rfl (λhc=>?_) (λhc=>?_))
 ·have hl:l=[]:=by simpa using hb hc
  subst hl;refine .E 4 rfl (.Ov (i:=2) (e:=106) (sz:=3) rfl (.R Tryz.func85 Tryz.results85 rfl ?_));exact ⟨[],[0],rfl,rfl,rfl,rfl,rfl,rfl,rfl,rfl,.ak _⟩
 ·refine .F 3 rfl (.v (x:=.vc 0 ([]:List Range).length) (vg Range.row Tryz.underlying22 A5 A6) rfl (.uH (st':=⟨[],[⟨106,3,([]:List Range).length,some (([]:List Range).map Range.row)⟩]⟩) rfl (.F 1 rfl ?_)));refine .v (x:=.vc 0 (([]:List Range)++l).length) (gq (l:=[]) (l':=l) (row:=Range.row) Tryz.underlying22 A5 Io A6 rfl (by rw [Ip];decide) rfl rfl rfl rfl (by simpa using hk)) rfl ?_;refine .uH (st':=⟨[],[⟨106,3,(([]:List Range)++l).length,some ((([]:List Range)++l).map Range.row)⟩]⟩) rfl (.E 2 rfl (.R Tryz.func85 Tryz.results85 rfl ?_));exact ⟨[],[0],rfl,rfl,rfl,rfl,rfl,rfl,rfl,rfl,.ak _⟩
theorem tE {l r:List Range} (H:iy l=some r):aD Tryz.prog 85 [ai 3 Range.row l] (·=ai 3 Range.row r):=.of (wU H).Nf
theorem xM {l r:List Head} (H:ml l=some r):aN Tryz.prog 86 [.d (ai 4 Head.row l)] ⟨[],[]⟩ (QE (.vc 0 r.length) ⟨[],[⟨76,4,r.length,some (r.map Head.row)⟩]⟩):=by
 obtain ⟨hk,H⟩:=aq H;cases H;obtain ⟨i32,A5,Io,A6,Ip⟩:=Ez;refine aN.ll ?_;refine aN.enter Tryz.func86 rfl Tryz.ntmps86 rfl λS hS=>?_
 refine .F 8 rfl (.J8 Tryz.underlying24 rfl rfl λb hb=>?_);refine .E 1 rfl (.cond rfl (λhc=>?_) (λhc=>?_))
 ·have hl:l=[]:=by simpa using hb hc
  subst hl;refine .E 4 rfl (.Ov (i:=2) (e:=76) (sz:=4) rfl (.R Tryz.func86 Tryz.results86 rfl ?_));exact ⟨[],[0],rfl,rfl,rfl,rfl,rfl,rfl,rfl,rfl,.ak _⟩
 ·refine .F 3 rfl (.v (x:=.vc 0 ([]:List Head).length) (vg Head.row Tryz.underlying24 A5 A6) rfl (.uH (st':=⟨[],[⟨76,4,([]:List Head).length,some (([]:List Head).map Head.row)⟩]⟩) rfl (.F 1 rfl ?_)));refine .v (x:=.vc 0 (([]:List Head)++l).length) (gq (l:=[]) (l':=l) (row:=Head.row) Tryz.underlying24 A5 Io A6 rfl (by rw [Ip];decide) rfl rfl rfl rfl (by simpa using hk)) rfl ?_;refine .uH (st':=⟨[],[⟨76,4,(([]:List Head)++l).length,some ((([]:List Head)++l).map Head.row)⟩]⟩) rfl (.E 2 rfl (.R Tryz.func86 Tryz.results86 rfl ?_));exact ⟨[],[0],rfl,rfl,rfl,rfl,rfl,rfl,rfl,rfl,.ak _⟩
theorem zz {l r:List Head} (H:ml l=some r):aD Tryz.prog 86 [ai 4 Head.row l] (·=ai 4 Head.row r):=.of (xM H).Nf
theorem vD {l r:List ag} (H:oc l=some r):aN Tryz.prog 88 [.d (ai 4 ag.row l)] ⟨[],[]⟩ (QE (.vc 0 r.length) ⟨[],[⟨66,4,r.length,some (r.map ag.row)⟩]⟩):=by
 obtain ⟨hk,H⟩:=aq H;cases H;obtain ⟨i32,A5,Io,A6,Ip⟩:=CV;refine aN.ll ?_;refine aN.enter Tryz.func88 rfl Tryz.ntmps88 rfl λS hS=>?_
 refine .F 8 rfl (.J8 Tryz.underlying28 rfl rfl λb hb=>?_);refine .E 1 rfl (.cond rfl (λhc=>?_) (λhc=>?_))
 ·have hl:l=[]:=by simpa using hb hc
  subst hl;refine .E 4 rfl (.Ov (i:=2) (e:=66) (sz:=4) rfl (.R Tryz.func88 Tryz.results88 rfl ?_));exact ⟨[],[0],rfl,rfl,rfl,rfl,rfl,rfl,rfl,rfl,.ak _⟩
 ·refine .F 3 rfl (.v (x:=.vc 0 ([]:List ag).length) (vg ag.row Tryz.underlying28 A5 A6) rfl (.uH (st':=⟨[],[⟨66,4,([]:List ag).length,some (([]:List ag).map ag.row)⟩]⟩) rfl (.F 1 rfl ?_)));refine .v (x:=.vc 0 (([]:List ag)++l).length) (gq (l:=[]) (l':=l) (row:=ag.row) Tryz.underlying28 A5 Io A6 rfl (by rw [Ip];decide) rfl rfl rfl rfl (by simpa using hk)) rfl ?_;refine .uH (st':=⟨[],[⟨66,4,(([]:List ag)++l).length,some ((([]:List ag)++l).map ag.row)⟩]⟩) rfl (.E 2 rfl (.R Tryz.func88 Tryz.results88 rfl ?_));exact ⟨[],[0],rfl,rfl,rfl,rfl,rfl,rfl,rfl,rfl,.ak _⟩
theorem Dn {l r:List ag} (H:oc l=some r):aD Tryz.prog 88 [ai 4 ag.row l] (·=ai 4 ag.row r):=.of (vD H).Nf
theorem wV {l r:List aC} (H:sH l=some r):aN Tryz.prog 87 [.d (ai 12 aC.row l)] ⟨[],[]⟩ (QE (.vc 0 r.length) ⟨[],[⟨54,12,r.length,some (r.map aC.row)⟩]⟩):=by
 obtain ⟨hk,H⟩:=aq H;cases H;obtain ⟨i32,A5,Io,A6,Ip⟩:=CU;refine aN.ll ?_;refine aN.enter Tryz.func87 rfl Tryz.ntmps87 rfl λS hS=>?_
 refine .F 8 rfl (.J8 Tryz.underlying27 rfl rfl λb hb=>?_);refine .E 1 rfl (.cond rfl (λhc=>?_) (λhc=>?_))
 ·have hl:l=[]:=by simpa using hb hc
  subst hl;refine .E 4 rfl (.Ov (i:=2) (e:=54) (sz:=12) rfl (.R Tryz.func87 Tryz.results87 rfl ?_));exact ⟨[],[0],rfl,rfl,rfl,rfl,rfl,rfl,rfl,rfl,.ak _⟩
 ·refine .F 3 rfl (.v (x:=.vc 0 ([]:List aC).length) (vg aC.row Tryz.underlying27 A5 A6) rfl (.uH (st':=⟨[],[⟨54,12,([]:List aC).length,some (([]:List aC).map aC.row)⟩]⟩) rfl (.F 1 rfl ?_)));refine .v (x:=.vc 0 (([]:List aC)++l).length) (gq (l:=[]) (l':=l) (row:=aC.row) Tryz.underlying27 A5 Io A6 rfl (by rw [Ip];decide) rfl rfl rfl rfl (by simpa using hk)) rfl ?_;refine .uH (st':=⟨[],[⟨54,12,(([]:List aC)++l).length,some ((([]:List aC)++l).map aC.row)⟩]⟩) rfl (.E 2 rfl (.R Tryz.func87 Tryz.results87 rfl ?_));exact ⟨[],[0],rfl,rfl,rfl,rfl,rfl,rfl,rfl,rfl,.ak _⟩
end Go.Proofs.YtimkfiaffohhkaaGreatDoor
namespace Go.Proofs.YtimkfiaffohhkaaGreatDoor
open Go.Shelf
def Tryz.It:Go.Shelf.Ren:=⟨fun|6=>81|15=>129|14=>128|28=>175|29=>176|20=>167|21=>168|22=>169|23=>170|24=>171|25=>172|26=>173|27=>174|46=>195|47=>196|48=>197|49=>198|50=>199|57=>211|n=>n,fun|22=>28|24=>66|25=>135|3=>3|39=>183|0=>0|53=>227|55=>229|4=>4|46=>221|45=>220|50=>94|5=>5|9=>9|66=>242|70=>246|76=>258|77=>199|n=>n,fun|n=>n⟩
theorem Tryz.Kk:Go.Proofs.SlLaysF0.n6 Tryz.prog Tryz.It:={
 mixed:=by kernel_rfl
 f6:=⟨Tryz.f81.name,by decide,Tryz.func81.trans (zbn some (by kernel_rfl))⟩
 f14:=⟨Tryz.f128.name,by decide,Tryz.func128.trans (zbn some (by kernel_rfl))⟩
 f15:=Tryz.func129.trans (zbn some (by kernel_rfl))
 f20:=⟨Tryz.f167.name,by decide,Tryz.func167.trans (zbn some (by kernel_rfl))⟩
 f21:=⟨Tryz.f168.name,by decide,Tryz.func168.trans (zbn some (by kernel_rfl))⟩
 f22:=⟨Tryz.f169.name,by decide,Tryz.func169.trans (zbn some (by kernel_rfl))⟩
 f23:=⟨Tryz.f170.name,by decide,Tryz.func170.trans (zbn some (by kernel_rfl))⟩
 f24:=⟨Tryz.f171.name,by decide,Tryz.func171.trans (zbn some (by kernel_rfl))⟩
 f25:=⟨Tryz.f172.name,by decide,Tryz.func172.trans (zbn some (by kernel_rfl))⟩
 f26:=⟨Tryz.f173.name,by decide,Tryz.func173.trans (zbn some (by kernel_rfl))⟩
 f27:=⟨Tryz.f174.name,by decide,Tryz.func174.trans (zbn some (by kernel_rfl))⟩
 f28:=Tryz.func175.trans (zbn some (by kernel_rfl))
 f29:=Tryz.func176.trans (zbn some (by kernel_rfl))
 f46:=⟨Tryz.f195.name,by decide,Tryz.func195.trans (zbn some (by kernel_rfl))⟩
 f47:=Tryz.func196.trans (zbn some (by kernel_rfl))
 f48:=Tryz.func197.trans (zbn some (by kernel_rfl))
 f49:=⟨Tryz.f198.name,by decide,Tryz.func198.trans (zbn some (by kernel_rfl))⟩
 f50:=⟨Tryz.f199.name,by decide,Tryz.func199.trans (zbn some (by kernel_rfl))⟩
 f57:=⟨Tryz.f211.name,by decide,Tryz.func211.trans (zbn some (by kernel_rfl))⟩
 t0:=Tryz.underlying0
 a0:=Tryz.isAgg0
 z0:=Tryz.sizeOf0
 v0:=Tryz.zeroValue0
 t3:=Tryz.underlying3
 a3:=Tryz.isAgg3
 z3:=Tryz.sizeOf3
 v3:=Tryz.zeroValue3
 t4:=Tryz.underlying4
 a4:=Tryz.isAgg4
 z4:=Tryz.sizeOf4
 v4:=Tryz.zeroValue4
 t5:=Tryz.underlying5
 a5:=Tryz.isAgg5
 z5:=Tryz.sizeOf5
 v5:=Tryz.zeroValue5
 t9:=Tryz.underlying9
 a9:=Tryz.isAgg9
 z9:=Tryz.sizeOf9
 v9:=Tryz.zeroValue9
 t22:=Tryz.underlying28
 a22:=Tryz.isAgg28
 z22:=Tryz.sizeOf28
 v22:=Tryz.zeroValue28
 t25:=Tryz.underlying135
 a25:=Tryz.isAgg135
 z25:=Tryz.sizeOf135
 v25:=Tryz.zeroValue135
 t39:=Tryz.underlying183
 a39:=Tryz.isAgg183
 z39:=Tryz.sizeOf183
 v39:=Tryz.zeroValue183
 t45:=Tryz.underlying220
 a45:=Tryz.isAgg220
 z45:=Tryz.sizeOf220
 v45:=Tryz.zeroValue220
 t46:=Tryz.underlying221
 a46:=Tryz.isAgg221
 z46:=Tryz.sizeOf221
 v46:=Tryz.zeroValue221
 t50:=Tryz.underlying94
 a50:=Tryz.isAgg94
 z50:=Tryz.sizeOf94
 v50:=Tryz.zeroValue94
 t53:=Tryz.underlying227
 a53:=Tryz.isAgg227
 z53:=Tryz.sizeOf227
 v53:=Tryz.zeroValue227
 t55:=Tryz.underlying229
 a55:=Tryz.isAgg229
 z55:=Tryz.sizeOf229
 v55:=Tryz.zeroValue229
 t66:=Tryz.underlying242
 a66:=Tryz.isAgg242
 z66:=Tryz.sizeOf242
 v66:=Tryz.zeroValue242
 t70:=Tryz.underlying246
 a70:=Tryz.isAgg246
 z70:=Tryz.sizeOf246
 v70:=Tryz.zeroValue246
 t76:=Tryz.underlying258
 a76:=Tryz.isAgg258
 z76:=Tryz.sizeOf258
 v76:=Tryz.zeroValue258
 t77:=Tryz.underlying199
 a77:=Tryz.isAgg199
 z77:=Tryz.sizeOf199
 v77:=Tryz.zeroValue199 }
def Tryz.Iu:Go.Shelf.Ren:=⟨fun|4=>112|n=>n,fun|22=>23|25=>58|3=>3|4=>4|9=>9|20=>20|0=>0|n=>n,fun|n=>n⟩
theorem Tryz.Kl:Go.Proofs.Lays8.n4 Tryz.prog Tryz.Iu:={
 mixed:=by kernel_rfl
 f4:=⟨Tryz.f112.name,by decide,Tryz.func112.trans (zbn some (by kernel_rfl))⟩
 t0:=Tryz.underlying0
 a0:=Tryz.isAgg0
 z0:=Tryz.sizeOf0
 v0:=Tryz.zeroValue0
 t3:=Tryz.underlying3
 a3:=Tryz.isAgg3
 z3:=Tryz.sizeOf3
 v3:=Tryz.zeroValue3
 t4:=Tryz.underlying4
 a4:=Tryz.isAgg4
 z4:=Tryz.sizeOf4
 v4:=Tryz.zeroValue4
 t9:=Tryz.underlying9
 a9:=Tryz.isAgg9
 z9:=Tryz.sizeOf9
 v9:=Tryz.zeroValue9
 t20:=Tryz.underlying20
 a20:=Tryz.isAgg20
 z20:=Tryz.sizeOf20
 v20:=Tryz.zeroValue20
 t22:=Tryz.underlying23
 a22:=Tryz.isAgg23
 z22:=Tryz.sizeOf23
 v22:=Tryz.zeroValue23 }
def Tryz.C3:Go.Shelf.Ren:=⟨fun|156=>116|165=>153|166=>154|169=>155|240=>191|241=>192|276=>208|277=>209|n=>n,fun|31=>96|9=>9|3=>3|4=>4|0=>0|20=>20|72=>207|76=>211|70=>204|37=>205|75=>210|127=>240|164=>255|5=>5|80=>213|n=>n,fun|n=>n⟩
theorem Tryz.Nt:Go.Proofs.Lays.n156 Tryz.prog Tryz.C3:={
 mixed:=by kernel_rfl
 f156:=Tryz.func116.trans (zbn some (by kernel_rfl))
 f165:=Tryz.func153.trans (zbn some (by kernel_rfl))
 f166:=Tryz.func154.trans (zbn some (by kernel_rfl))
 f169:=Tryz.func155.trans (zbn some (by kernel_rfl))
 f240:=Tryz.func191.trans (zbn some (by kernel_rfl))
 f241:=Tryz.func192.trans (zbn some (by kernel_rfl))
 f276:=Tryz.func208.trans (zbn some (by kernel_rfl))
 f277:=Tryz.func209.trans (zbn some (by kernel_rfl))
 t0:=Tryz.underlying0
 a0:=Tryz.isAgg0
 z0:=Tryz.sizeOf0
 v0:=Tryz.zeroValue0
 t3:=Tryz.underlying3
 a3:=Tryz.isAgg3
 z3:=Tryz.sizeOf3
 v3:=Tryz.zeroValue3
 t4:=Tryz.underlying4
 a4:=Tryz.isAgg4
 z4:=Tryz.sizeOf4
 v4:=Tryz.zeroValue4
 t9:=Tryz.underlying9
 a9:=Tryz.isAgg9
 z9:=Tryz.sizeOf9
 v9:=Tryz.zeroValue9
 t20:=Tryz.underlying20
 a20:=Tryz.isAgg20
 z20:=Tryz.sizeOf20
 v20:=Tryz.zeroValue20
 t31:=Tryz.underlying96
 a31:=Tryz.isAgg96
 z31:=Tryz.sizeOf96
 v31:=Tryz.zeroValue96
 t37:=Tryz.underlying205
 a37:=Tryz.isAgg205
 z37:=Tryz.sizeOf205
 v37:=Tryz.zeroValue205
 t70:=Tryz.underlying204
 a70:=Tryz.isAgg204
 z70:=Tryz.sizeOf204
 v70:=Tryz.zeroValue204
 t72:=Tryz.underlying207
 a72:=Tryz.isAgg207
 z72:=Tryz.sizeOf207
 v72:=Tryz.zeroValue207
 t75:=Tryz.underlying210
 a75:=Tryz.isAgg210
 z75:=Tryz.sizeOf210
 v75:=Tryz.zeroValue210
 t76:=Tryz.underlying211
 a76:=Tryz.isAgg211
 z76:=Tryz.sizeOf211
 v76:=Tryz.zeroValue211
 t127:=Tryz.underlying240
 a127:=Tryz.isAgg240
 z127:=Tryz.sizeOf240
 v127:=Tryz.zeroValue240
 t164:=Tryz.underlying255
 a164:=Tryz.isAgg255
 z164:=Tryz.sizeOf255
 v164:=Tryz.zeroValue255 }
theorem Tryz.uw:Builder.Extra Tryz.prog Tryz.C3:={
 sizeBuilder:=by kernel_rfl
 liesBuilder:=by kernel_rfl
 t5:=Tryz.underlying5
 a5:=Tryz.isAgg5
 z5:=Tryz.sizeOf5
 v5:=Tryz.zeroValue5
 infoByte:=by kernel_rfl
 cellsByte:=by kernel_rfl
 sizeByte:=by kernel_rfl
 neB5:=by decide }
open Go.RowKit in
theorem Tryz.strings_Join_none (a:Option Addr) (c:Nat) (sep:ByteArray) (w:World) :
  Calls Tryz.prog 116 #[.slice a 0 c,.string sep] w λe w'=>e=.returned (.string ⟨#[]⟩)/\w'=w:=Any.strings_Join_none Tryz.Nt Tryz.uw a c sep w
open Go.RowKit in
theorem Tryz.strings_Join (bk o c:Nat) (xs:List ByteArray) (sep:ByteArray) (w:World) (r3:∀ (j:Nat) x,xs[j]?=some x->w.cell? ⟨bk,o+j,none⟩=some (.string x)) (Jn:bk<w.heap.size) (hN:xs.length<=140737488355328) (hcap:xs.length<=c) (hlen:(Lib.join (xs.map (·.data.toList)) sep.data.toList).length<=140737488355328) :
  Calls Tryz.prog 116 #[.slice (some ⟨bk,o,none⟩) xs.length c,.string sep] w λe w'=>e=.returned (.string ⟨(Lib.join (xs.map (·.data.toList)) sep.data.toList).toArray⟩)/\Below w.heap.size w w':=Any.strings_Join Tryz.Nt Tryz.uw bk o c xs sep w r3 Jn hN hcap hlen
def Tryz.Km:Go.Shelf.Ren:=⟨fun|122=>83|215=>130|n=>n,fun|3=>3|4=>4|n=>n,fun|n=>n⟩
theorem Tryz.SN:Go.Proofs.Lays.n122 Tryz.prog Tryz.Km:={
 mixed:=by kernel_rfl
 f122:=Tryz.func83.trans (zbn some (by kernel_rfl))
 f215:=Tryz.func130.trans (zbn some (by kernel_rfl))
 t3:=Tryz.underlying3
 a3:=Tryz.isAgg3
 z3:=Tryz.sizeOf3
 v3:=Tryz.zeroValue3
 t4:=Tryz.underlying4
 a4:=Tryz.isAgg4
 z4:=Tryz.sizeOf4
 v4:=Tryz.zeroValue4 }
open Go.RowKit in
theorem Tryz.cmp_Compare_int (x y:Int) (w:World) :
  Calls Tryz.prog 83 #[.int .i64 x,.int .i64 y] w λe w'=>e=.returned (.int .i64 (Lib.compareInt x y))/\w'=w:=Any.cmp_Compare_int Tryz.SN x y w
def Tryz.Iv:Go.Shelf.Ren:=⟨fun|171=>115|243=>152|246=>190|283=>204|284=>205|285=>206|286=>207|129=>176|317=>217|318=>218|319=>219|320=>220|337=>225|338=>226|n=>n,fun|3=>3|9=>9|2=>2|4=>4|171=>251|0=>0|53=>229|37=>205|5=>5|173=>253|212=>269|51=>227|20=>20|213=>270|46=>183|232=>279|233=>280|n=>n,fun|17=>0|18=>2|19=>3|n=>n⟩
theorem Tryz.QS:Go.Proofs.LaysM.n171 Tryz.prog Tryz.Iv:={
 mixed:=by kernel_rfl
 f129:=Tryz.func176.trans (zbn some (by kernel_rfl))
 f171:=Tryz.func115.trans (zbn some (by kernel_rfl))
 f243:=Tryz.func152.trans (zbn some (by kernel_rfl))
 f246:=Tryz.func190.trans (zbn some (by kernel_rfl))
 f283:=Tryz.func204.trans (zbn some (by kernel_rfl))
 f284:=Tryz.func205.trans (zbn some (by kernel_rfl))
 f285:=Tryz.func206.trans (zbn some (by kernel_rfl))
 f286:=Tryz.func207.trans (zbn some (by kernel_rfl))
 f317:=Tryz.func217.trans (zbn some (by kernel_rfl))
 f318:=Tryz.func218.trans (zbn some (by kernel_rfl))
 f319:=Tryz.func219.trans (zbn some (by kernel_rfl))
 f320:=Tryz.func220.trans (zbn some (by kernel_rfl))
 f337:=Tryz.func225.trans (zbn some (by kernel_rfl))
 f338:=Tryz.func226.trans (zbn some (by kernel_rfl))
 t0:=Tryz.underlying0
 a0:=Tryz.isAgg0
 z0:=Tryz.sizeOf0
 v0:=Tryz.zeroValue0
 t2:=Tryz.underlying2
 a2:=Tryz.isAgg2
 z2:=Tryz.sizeOf2
 v2:=Tryz.zeroValue2
 t3:=Tryz.underlying3
 a3:=Tryz.isAgg3
 z3:=Tryz.sizeOf3
 v3:=Tryz.zeroValue3
 t4:=Tryz.underlying4
 a4:=Tryz.isAgg4
 z4:=Tryz.sizeOf4
 v4:=Tryz.zeroValue4
 t5:=Tryz.underlying5
 a5:=Tryz.isAgg5
 z5:=Tryz.sizeOf5
 v5:=Tryz.zeroValue5
 t9:=Tryz.underlying9
 a9:=Tryz.isAgg9
 z9:=Tryz.sizeOf9
 v9:=Tryz.zeroValue9
 t20:=Tryz.underlying20
 a20:=Tryz.isAgg20
 z20:=Tryz.sizeOf20
 v20:=Tryz.zeroValue20
 t37:=Tryz.underlying205
 a37:=Tryz.isAgg205
 z37:=Tryz.sizeOf205
 v37:=Tryz.zeroValue205
 t46:=Tryz.underlying183
 a46:=Tryz.isAgg183
 z46:=Tryz.sizeOf183
 v46:=Tryz.zeroValue183
 t51:=Tryz.underlying227
 a51:=Tryz.isAgg227
 z51:=Tryz.sizeOf227
 v51:=Tryz.zeroValue227
 t53:=Tryz.underlying229
 a53:=Tryz.isAgg229
 z53:=Tryz.sizeOf229
 v53:=Tryz.zeroValue229
 t171:=Tryz.underlying251
 a171:=Tryz.isAgg251
 z171:=Tryz.sizeOf251
 v171:=Tryz.zeroValue251
 t173:=Tryz.underlying253
 a173:=Tryz.isAgg253
 z173:=Tryz.sizeOf253
 v173:=Tryz.zeroValue253
 t212:=Tryz.underlying269
 a212:=Tryz.isAgg269
 z212:=Tryz.sizeOf269
 v212:=Tryz.zeroValue269
 t213:=Tryz.underlying270
 a213:=Tryz.isAgg270
 z213:=Tryz.sizeOf270
 t232:=Tryz.underlying279
 a232:=Tryz.isAgg279
 z232:=Tryz.sizeOf279
 v232:=Tryz.zeroValue279
 t233:=Tryz.underlying280
 a233:=Tryz.isAgg280
 z233:=Tryz.sizeOf280
 v233:=Tryz.zeroValue280
 g17:=by kernel_rfl
 g18:=by kernel_rfl
 g19:=by kernel_rfl
 i0:=by kernel_rfl
 i2:=by kernel_rfl
 i3:=by kernel_rfl
 i4:=by kernel_rfl
 i5:=by kernel_rfl
 i9:=by kernel_rfl
 i20:=by kernel_rfl
 i37:=by kernel_rfl
 i46:=by kernel_rfl
 i51:=by kernel_rfl
 i53:=by kernel_rfl
 i171:=by kernel_rfl
 i173:=by kernel_rfl
 i212:=by kernel_rfl
 i232:=by kernel_rfl
 i233:=by kernel_rfl
 m17:=by kernel_rfl
 m18:=by kernel_rfl
 m19:=by kernel_rfl }
open Go.RowKit Go.Sort Go.Lib in
theorem Tryz.strconv_Itoa (n:Int) (h0:-9223372036854775808<=n) (h1:n<=9223372036854775807) (w:World) (htab:Lib.TabIs Tryz.prog w "internal/strconv.uint64pow10" .u64 Lib.pow10Tab) :
  Calls Tryz.prog 115 #[.int .i64 n] w λe w'=>e=.returned (.string ⟨(Lib.itoa n).toArray⟩)/\∃ k os,w'=grow (w.drewN k) os:=Any.strconv_Itoa Tryz.QS n h0 h1 w htab
end Go.Proofs.YtimkfiaffohhkaaGreatDoor
namespace Go.Abs
open Go.RowKit
theorem CE.one {lim:Nat->Nat} {w:World} {d:D} {vs:Array Value} (h:CE lim w [d] vs):∃ v,vs=#[v]/\dw lim w d v:=by
 obtain ⟨h1,h2⟩:=h
 match vs,h1 with
 | ⟨[v]⟩,_=>exact ⟨v,rfl,h2 0 d v rfl rfl⟩
theorem CE.two {lim:Nat->Nat} {w:World} {d e:D} {vs:Array Value} (h:CE lim w [d,e] vs):∃ v u,vs=#[v,u]/\dw lim w d v/\dw lim w e u:=by
 obtain ⟨h1,h2⟩:=h
 match vs,h1 with
 | ⟨[v,u]⟩,_=>exact ⟨v,u,rfl,h2 0 d v rfl rfl,h2 1 e u rfl rfl⟩
theorem EO (w:World) (k:Nat) (os:Array Obj):Below w.heap.size w (Go.Sort.grow (w.drewN k) os) :=
 ⟨rfl,rfl,rfl,by simp [Go.Sort.grow],λb hb=>by
  show ((w.drewN k).heap++os)[b]?=_;rw [zdh (show b<(w.drewN k).heap.size from hb)];rfl⟩
theorem aD.lib {P:Program} {f:FuncId} {args:List D} {u:Value}
  (h:∀ lim w vs,xj w.heap.size w->CE lim w args vs->Calls P f vs w λe w'=>e=.returned u/\Below w.heap.size w w'):aD P f args (·=.ex u):=by
 intro lim w vs hg ha;refine (h lim w vs hg ha).mono ?_;rintro e w' ⟨rfl,hb⟩;exact ⟨u,.ex u,lim,rfl,rfl,.ex u,⟨hb.size,λ_ _=>zap _,λb off ka _=>hb.cell (p:=⟨b,off,none⟩) ka⟩,hb,λ_ _=>rfl⟩
theorem Mm {lim:Nat->Nat} {w:World} {xs:List (List UInt8)} {v:Value} (h:dw lim w (.sl 1 (xs.map rS)) v) :
  (∃ A c,v=.slice A 0 c/\xs=[])∨∃ b off c,v=.slice (some ⟨b,off,none⟩) xs.length c/\xs.length<=c/\b<w.heap.size/\∀ (j:Nat) x,xs[j]?=some x->w.cell? ⟨b,off+j,none⟩=some (.string ⟨x.toArray⟩):=by
 generalize hr:xs.map rS=rows at h;cases h with
 | nil _ A =>
  have:xs=[]:=by simpa using hr
  exact .inl ⟨A,0,rfl,this⟩
 | sl _ _ b off c hc rn hx eR =>
  subst hr;rw [zcu] at *;by_cases h0:xs=[]
  ·subst h0;exact .inl ⟨_,c,rfl,rfl⟩
  ·refine .inr ⟨b,off,c,rfl,hc,?_,λj x hj=>?_⟩
   ·have hl:0<xs.length:=zcw.2 h0;obtain ⟨_,u,hu,_⟩:=hx 0 (by omega);exact World.block_lt_of_cell? w _ hu
   ·have FU:=(zad.1 hj).1;obtain ⟨_,u,hu,_⟩:=hx j (by omega);have:=eR j 0 (rS x) (.ex (.string ⟨x.toArray⟩)) u (by rw [zbc,hj];rfl) rfl (by rw [Nat.mul_one,zde];exact hu);rw [hu,wa this]
end Go.Abs
namespace Go.Proofs.YtimkfiaffohhkaaGreatDoor
open Go.RowKit Go.Abs Go.Lib Go.Sort Go.Shelf
def zA (l:List ag) (i:Int):ag:=match l.find? (λr=>decide (r.index=i)) with
 | some r=>r
 | none=>⟨0,0,i,0⟩
theorem C4 (l:List ag) (i:Int):(zA l i).index=i:=by
 unfold zA;split
 ·rename_i r h;simpa using List.find?_some h
 ·rfl
theorem Hb:∀ {l:List ag},(l.map (·.index)).Nodup->∀ {r:ag},r∈l->zA l r.index=r
 | x::l,hn,r,hr=>by
  rw [zao,zby] at hn;unfold zA;rcases zaq.1 hr with rfl|hr
  ·rw [List.find?_cons_of_pos (by simp)]
  ·rw [List.find?_cons_of_neg (by
    simp;intro he;exact hn.1 (by rw [he];exact zcs hr))]
   have:=Hb hn.2 hr;unfold zA at this;exact this
def yN (l:List ag) (i:Int):List Value:=ag.bP (zA l i)
theorem EP (l:List ag) (i:Int):(yN l i).length=4:=rfl
theorem QT (l:List ag) (i:Int):∀ v∈yN l i,v.oneCell'=true:=by
 intro v hv;simp only [yN,ag.bP,zaq,zef,or_false] at hv;rcases hv with rfl|rfl|rfl|rfl <;> rfl
theorem Wk (x y:Int):ltOf (λx y:Int=>Lib.compareInt x y) x y=decide (x<y):=by
 unfold ltOf Lib.compareInt;by_cases h1:x<y
 ·simp [h1]
 ·by_cases h2:y<x <;> simp [h1,h2]
theorem swoI:SWO (ltOf λx y:Int=>Lib.compareInt x y) where
 irrefl x:=by rw [Wk];simp
 trans x y z h1 h2:=by rw [Wk] at *;simp at *;omega
 ntrans x y z h1 h2:=by rw [Wk] at *;simp at *;omega
theorem QU (x y:ag) (W:World):Calls Tryz.prog 82 #[.agg (ag.bP x).toArray,.agg (ag.bP y).toArray] W λe w'=>e=.returned (.int .i64 (Lib.compareInt x.index y.index))/\∃ q os',w'=grow (W.drewN q) os':=by
 have OR:=λW'=>Tryz.cmp_Compare_int x.index y.index W'
 unfold ag.bP;generalize Lib.compareInt x.index y.index=r at OR ⊢;go_enter Tryz.func82,Tryz.ntmps82
 go_wp2_with (go_at_call 83;refine (OR _).mono ?_;rintro e w' ⟨rfl,rfl⟩)
 go_ret;exact ⟨rfl,0,_,by rw [alloc_eq_grow,alloc_eq_grow,grow_grow];rfl⟩
theorem QV (l:List ag) (blk off size:Nat) (w:World):CmpLays Tryz.prog 82 #[] (yN l) 4 (λx y=>Lib.compareInt x y) blk off size w:=λ_ _ _ _ x y=>by
 have:=QU (zA l x) (zA l y);rw [C4,C4] at this;exact this _
theorem kc (f:Int->List Value) (hf:∀ i,(f i).length=4):∀ (is:List Int) (t:Nat),t<is.length*4->(is.flatMap f)[t]?=some ((f is[t / 4]!)[t % 4]!)
 | [],t,h=>by simp at h
 | a::is,t,h=>by
  rw [zec];by_cases ht:t<4
  ·have h4:=hf a;rw [zan (by omega),show t / 4=0 from by omega,show t % 4=t from by omega];rw [zae (by omega),zdv (f (a::is)[0]!) t (by rw [hf];omega)];rfl
  ·rw [zav (by rw [hf];omega),hf,kc f hf is (t-4) (by simp only [zag] at h;omega),show t / 4=(t-4) / 4+1 from by omega,show t % 4=(t-4) % 4 from by omega];have cE:(t-4) / 4<is.length:=by simp only [zag] at h;omega
   rw [zdv is _ cE,zdv (a::is) _ (by simp only [zag];omega)];rfl
theorem ER (l:List ag) (is:List Int):(flatK (yN l) 4 is.toArray).toList=is.flatMap (yN l):=by
 have hl:(is.flatMap (yN l)).length=is.length*4:=by
  induction is with
  | nil=>rfl
  | cons a is ih=>rw [zec,zai,ih,EP,zag];omega
 apply zce;intro t;by_cases ht:t<is.length*4
 ·rw [kc _ (EP l) is t ht,zcd,zbg (by simpa using ht)];have:=get_flatK (yN l) 4 is.toArray t (by simpa using ht);rw [zdv _ _ (by simpa using ht)] at this;rw [this];have cE:t / 4<is.length:=by omega
  rw [zdv is.toArray _ (by simpa using cE),zdv is _ cE];simp
 ·rw [zbl (by rw [zcr,size_flatK];simpa using ht),zbl (by rw [hl];omega)]
def o6 (l:List ag):List Value:=l.flatMap ag.bP
theorem yz:∀ (l:List ag),(o6 l).length=l.length*4
 | []=>rfl
 | r::l=>by
  have:=yz l;unfold o6 at this ⊢;rw [zec,zai,this];simp only [ag.bP,zag,zay];omega
theorem Cm:∀ (l:List ag),(l.map ag.row).flatten=(o6 l).map D.ex
 | []=>rfl
 | r::l=>by
  have:=Cm l;unfold o6 at this ⊢;rw [zao,zen,this,zec,zdr];rfl
theorem ES {l ls:List ag} (h:∀ r,r∈ls->zA l r.index=r):(ls.map (·.index)).flatMap (yN l)=o6 ls:=by
 unfold o6
 induction ls with
 | nil=>rfl
 | cons r ls ih =>
  rw [zao,zec,zec,ih (λx hx=>h x (zah _ hx))];unfold yN;rw [h r (zaj ..)]
theorem Mn {lim:Nat->Nat} {w:World} (l:List ag):de lim w 4 l.length (l.map ag.row) (o6 l):=by
 refine ⟨by simp,λr hr=>?_,λi c u hc hu=>?_⟩
 ·obtain ⟨x,_,rfl⟩:=zdj.1 hr;rfl
 ·rw [Cm,zbc,hu] at hc;cases hc;refine ⟨.ex u,?_⟩;have hm:=zbh hu;unfold o6 at hm;obtain ⟨r,_,hv⟩:=List.mem_flatMap.1 hm;simp only [ag.bP,zaq,zef,or_false] at hv;rcases hv with rfl|rfl|rfl|rfl <;> rfl
theorem Mo {lim:Nat->Nat} {w:World} {l:List ag} {n:Nat} {xs:List Value} (h:de lim w 4 n (l.map ag.row) xs) (hx:xs.length=n*4):xs=o6 l:=by
 have hn:n=l.length:=by have:=h.len;simpa using this.symm
 apply zce;intro i;by_cases hi:i<xs.length
 ·have hf:i<(o6 l).length:=by rw [yz];omega
  have:=(h.rep i (.ex (o6 l)[i]) xs[i] (by rw [Cm,zbc,zae hf];rfl) (zae hi)).1;rw [zae hi,zae hf,wa this]
 ·rw [zbl (by omega),zbl (by rw [yz];omega)]
theorem QW {w:World} {g n:Nat} {cur:Array Value} {e:TypeId} {fr:Nat×Nat} (d:Array Value) (hb:w.heap[g]?=some (.cells cur e fr)):(putRow id (Sort.ahead w n) g 0 d).heap[g]?=some (.cells (Go.Sort.putCells id 0 d cur) e fr):=by
 simp [putRow,mapBlock,Sort.ahead,zfm,hb,onCells]
theorem OS {w:World} {g n:Nat} (d:Array Value):w.grownBy (putRow id (Sort.ahead w n) g 0 d) (some g):=by
 refine ⟨rfl,rfl,rfl,by simp,λk hk eT=>?_⟩;have:g≠k:=λe=>eT (by rw [e])
 simp [putRow,mapBlock,Sort.ahead,zfm,this]
theorem QX (cur:Array Value) (ts:List Value) (h:ts.length<=cur.size):(Go.Sort.putCells id 0 ts.toArray cur).toList.take ts.length=ts:=by
 apply zce;intro j;by_cases hj:j<ts.length
 ·rw [List.getElem?_take_of_lt hj,zcd];simp [Go.Sort.putCells,hj,show j<cur.size by omega]
 ·rw [List.getElem?_take_eq_none (by omega),zbl (by omega)]
theorem Cn (x:ag):∀ (l:List ag),(Dh x l).Perm (x::l)
 | []=>.refl _
 | y::l=>by
  unfold Dh;split
  ·exact .refl _
  ·exact ((Cn x l).cons y).trans (.swap _ _ _)
theorem Ac:∀ (l:List ag),(G3 l).Perm l
 | []=>.refl _
 | x::l=>(Cn x _).trans ((Ac l).cons x)
theorem Kn (x:ag):∀ {l:List ag},l.Pairwise (λa b=>a.index<=b.index)->(Dh x l).Pairwise (λa b=>a.index<=b.index)
 | [],_=>by simp [Dh]
 | y::l,h=>by
  have h2:=zax.1 h;unfold Dh;split
  ·rename_i hx;refine zax.2 ⟨λz hz=>?_,h⟩;rcases zaq.1 hz with rfl|hz
   ·exact hx
   ·have:=h2.1 z hz;omega
  ·rename_i hx;refine zax.2 ⟨λz hz=>?_,Kn x h2.2⟩;rcases zaq.1 ((Cn x l).mem_iff.1 hz) with rfl|hz
   ·omega
   ·exact h2.1 z hz
theorem Hc:∀ (l:List ag),(G3 l).Pairwise (λa b=>a.index<=b.index)
 | []=>.nil
 | x::l=>Kn x (Hc l)
theorem Hd:∀ {l l':List Int},l.Pairwise (·<=·)->l'.Pairwise (·<=·)->l.Perm l'->l=l'
 | [],l',_,_,p=>p.nil_eq
 | a::l,[],_,_,p=>absurd p.length_eq (by simp)
 | a::l,b::l',h,h',p=>by
  have h1:=zax.1 h;have h2:=zax.1 h';have BR:a=b:=by
   have hb:b∈a::l:=p.mem_iff.2 (zaj ..);have ha:a∈b::l':=p.mem_iff.1 (zaj ..);rcases zaq.1 hb with e|hb
   ·exact e.symm
   ·rcases zaq.1 ha with e|ha
    ·exact e
    ·have:=h1.1 b hb;have:=h2.1 a ha;omega
  subst BR;rw [Hd h1.2 h2.2 ((List.perm_cons a).1 p)]
theorem ET {l r:List ag} {n0:Nat} (H:sG l=some r) :
  aN Tryz.prog 81 [.vc 0 n0,.d (.ex (.func (.func 82) #[] #[]))] ⟨[],[⟨66,4,n0,some (l.map ag.row)⟩]⟩
   (QE (.d (.dV [])) ⟨[],[⟨66,4,n0,some (r.map ag.row)⟩]⟩):=by
 obtain ⟨hk,H⟩:=aq H;injection H with hr;intro g w base vs hinv ha;obtain ⟨x,y,rfl,e1,e2⟩:∃ x y,vs=#[x,y]/\bJ g w _ (.vc 0 n0) x/\bJ g w _ (.d (.ex (.func (.func 82) #[] #[]))) y:=by
  obtain ⟨h1,h2⟩:=ha;obtain ⟨q⟩:=vs
  match q,h1 with
  | [x,y],_=>exact ⟨x,y,rfl,h2 0 _ _ rfl rfl,h2 1 _ _ rfl rfl⟩
 have Lp:y=.func (.func 82) #[] #[]:=e2.bK;subst Lp;obtain ⟨xs,s1,s2,s3⟩:=hinv.own 0 _ _ _ _ rfl;have Ln:n0=l.length:=by have:=s3.len;simpa using this.symm
 by_cases Vn:l=[]
 ·subst Vn;have PK:r=[]:=by rw [←hr];rfl
  subst PK;have hx:∃ A c,x=.slice A 0 c:=by
   rcases sk hinv rfl e1 with h|⟨_,_,A,h⟩
   ·obtain ⟨A,c,hv⟩:=(iM s1).1;exact ⟨A,c,by rw [h,hv,Ln];rfl⟩
   ·exact ⟨A,0,h⟩
  obtain ⟨A,c,rfl⟩:=hx;refine (AnyF.slices_SortFunc_none Tryz.Kk A c (.func (.func 82) #[] #[]) w).mono ?_;rintro e w' ⟨rfl,rfl⟩;exact ⟨_,_,_,g,rfl,⟨.ak _,rfl⟩,.d _ _ (.dV _ _ rfl (λi c u hi hu=>by simp at hu)),hinv,rm.refl _⟩
 ·have hx:x=g.tk 0:=by
   rcases sk hinv rfl e1 with h|⟨_,h,_⟩
   ·exact h
   ·exact absurd (by simpa using h) Vn
  subst hx;have hlp:0<l.length:=zcw.2 Vn;obtain ⟨b,c,hv⟩:=(iM s1).2 (by omega);have Sk:=Mo s3 s1.1;have SM:=s1;rw [hv] at SM;rcases SM.2 with ⟨h,_⟩|⟨b',c',cur,h,Ay,hg,D3,yG,yh,CH⟩
  ·cases h
  cases h;have Z2:∀ q,q∈l->zA l q.index=q:=λq hq=>Hb hk.2 hq
  have T4:(flatK (yN l) 4 (l.map (·.index)).toArray).toList=o6 l:=by rw [ER,ES Z2]
  have hd:(l.map (·.index)).toArray.size=n0:=by simp [Ln]
  have hH:HoldsK (yN l) 4 w b 0 (l.map (·.index)).toArray:=by
   intro j hj;have Jm:j<(o6 l).length:=by rw [←T4,zcr];exact hj
   refine ⟨?_,by simp [World.frozen?,hg]⟩;have h1:xs[j]?=some ((flatK (yN l) 4 (l.map (·.index)).toArray)[j]!):=by
    rw [Sk,←T4,zcd,zdv (flatK (yN l) 4 (l.map (·.index)).toArray) j hj,zbg hj]
   have:=s1.cells (g:=b) (by rw [hv];rfl) j _ h1;simp only [Addr.add_lit,zbr] at this ⊢;exact this
  have eg:∀ args w,(callFunc 82 args).run Tryz.prog w=.ok (.enter 82 args) w:=enters_of Tryz.func82 (by kernel_rfl) rfl;have OR:=AnyQ.slices_SortFunc_total Tryz.Kk 4 Tryz.isAgg66 Tryz.sizeOf66 (yN l) (EP l) (QT l) (λx y:Int=>Lib.compareInt x y) swoI 82 #[] b 0 c (l.map (·.index)).toArray w eg (QV l b 0 _ w) hH (zaw.1 hg).1 (by rw [hd];omega)
   (λx y h1 h2=>by rw [Wk] at h1 h2;simp at h1 h2;omega)
  change Calls Tryz.prog 81 _ _ _ at OR;rw [hd,←hv] at OR;refine OR.mono ?_;rintro e w' ⟨rfl,n,os,rfl⟩;have ZP:((l.map (·.index)).toArray.toList.mergeSort λx y=>!(ltOf (λx y:Int=>Lib.compareInt x y)) y x)=r.map (·.index):=by
   refine Hd ?_ ?_ ?_
   ·have:=List.pairwise_mergeSort (le:=λx y:Int=>!(ltOf (λx y:Int=>Lib.compareInt x y)) y x) (λa b c h1 h2=>by simp only [Wk,zdq,zei] at *;omega) (λa b=>by simp only [Wk,zbv,zdq,zei];omega) (l.map (·.index)).toArray.toList
    refine this.imp (λh=>?_);rw [Wk] at h;simpa using h
   ·rw [←hr];exact List.pairwise_map.2 (Hc l)
   ·refine (List.mergeSort_perm _ _).trans ?_;rw [←hr];exact ((Ac l).map _).symm
  rw [ZP];have hrp:r.Perm l:=by rw [←hr];exact Ac l
  have UM:r.length=l.length:=hrp.length_eq;have hfl2:flatK (yN l) 4 (r.map (·.index)).toArray=(o6 r).toArray:=by
   apply Array.toList_inj.1;rw [ER,ES (λq hq=>Z2 q (hrp.mem_iff.1 hq))]
  unfold sortWorldK putRowK;rw [hfl2];have hfr:(o6 r).length=n0*4:=by rw [yz,UM,Ln]
  have AE:(o6 r).length<=cur.size:=by rw [hfr,yh];omega
  have j0:(putRow id (Sort.ahead w n) b 0 (o6 r).toArray).ownsRow base 66 4 (g.tk 0) n0 (o6 r):=by
   rw [hv];refine ⟨hfr,.inr ⟨b,c,_,rfl,Ay,QW _ hg,D3,yG,by simp [Go.Sort.putCells,yh],?_⟩⟩;rw [←hfr];exact QX cur _ AE
  have mb:de g.lim w 4 n0 (r.map ag.row) (o6 r):=by
   have:=Mn (lim:=g.lim) (w:=w) r
   rwa [UM,←Ln] at this
  obtain ⟨g',t1,t2,t3,t4⟩:=hinv.Oh (tk:=0) (x':=⟨66,4,n0,some (r.map ag.row)⟩) rfl j0 (.inl ⟨rfl,by simp [Sort.ahead],by rw [hv];exact OS _⟩)
   (λh=>by cases h) (λ_ _ _ _=>⟨rfl,zap _,λ_=>rfl⟩) (λbw h=>by cases h;exact mb)
  obtain ⟨i1,i2⟩:=t3.grow (g':=g') (EO (putRow id (Sort.ahead w n) b 0 (o6 r).toArray) 0 os) (λ_ _=>rfl) rfl rfl;exact ⟨_,_,_,g',rfl,⟨.ak _,rfl⟩,.d _ _ (.dV _ _ rfl (λi c u hi hu=>by simp at hu)),i1,((rm.refl _).step t4).step i2⟩
end Go.Proofs.YtimkfiaffohhkaaGreatDoor
namespace Go.Proofs.YtimkfiaffohhkaaGreatDoor
open Go.RowKit Go.Abs Go.Lib Go.Shelf
theorem Dp {n:Int} {r:List aa} (H:A0 n=some r):aN Tryz.prog 112 [.d (.ex (.slice none 0 0)),.d (.ex (.int .i64 n))] ⟨[],[]⟩ (QE (.vc 0 r.length) ⟨[],[⟨58,12,r.length,some (r.map aa.row)⟩]⟩):=by
 obtain ⟨hk,H⟩:=aq H;cases H;obtain ⟨inf,hi,hz,hs,hb⟩:=gG;intro g w base vs hinv ha;obtain ⟨x,y,rfl,e1,e2⟩:∃ x y,vs=#[x,y]/\bJ g w _ (.d (.ex (.slice none 0 0))) x/\bJ g w _ (.d (.ex (.int .i64 n))) y:=by
  obtain ⟨h1,h2⟩:=ha;obtain ⟨q⟩:=vs
  match q,h1 with
  | [x,y],_=>exact ⟨x,y,rfl,h2 0 _ _ rfl rfl,h2 1 _ _ rfl rfl⟩
 have Xl:x=.slice none 0 0:=e1.bK;have Lp:y=.int .i64 n:=e2.bK;subst Xl;subst Lp;obtain ⟨k,rfl⟩:∃ k:Nat,n=(k:Int):=⟨n.toNat,by omega⟩;by_cases QH:k=0
 ·subst QH;refine (Any8.slices_Grow_room Tryz.Kl none 0 0 0 w (zap _) (by omega) (by omega) (by omega)).mono ?_;rintro e w' ⟨rfl,rfl⟩;obtain ⟨g',q1,q2,q3,q4,q5⟩:=hinv.sB ⟨58,12,0,some []⟩ (World.ownsRow_nil w' base _ _) (.inl ⟨rfl,rfl⟩) (λrows hr=>by cases hr;exact ⟨rfl,by simp,by simp⟩);refine ⟨_,_,_,g',rfl,⟨.ak _,rfl⟩,?_,q4,(rm.refl ⟨g,w',_,base⟩).step q5⟩;refine .vc _ _ _ (by simp) ⟨_,_,_,rfl⟩ λx' rows jK ho=>?_
  have:x'=⟨58,12,0,some []⟩:=by simpa [St.tok,zeq] using jK
  subst this;exact ⟨zap _,λ_=>.inl q1.symm⟩
 ·have fE:0<inf.size:=by rw [hs];decide
  obtain ⟨z,hzz,CJ⟩:∃ z,inf.zero=some z/\z.cells.size=12:=⟨_,hz,rfl⟩;refine (Any8.slices_Grow_grow Tryz.Kl inf z hi hzz fE none 0 0 k [] w (zap _) (by omega) (by
   rw [hb];omega) (by omega) (by simp) (λ_=>rfl) (λa h=>by cases h)).mono ?_
  rintro e w' ⟨rfl,rfl⟩;have yG:grownCap w (0+k) 0 58<=maxLen:=grownCap_le_maxLen w (0+k) 0 58 (by unfold maxLen;omega);have XV:=grownCap_ge w (0+k) 0 58;have j4:(w.drew.alloc (.cells (([]:List Value).toArray++Builtin.zeroCells z.cells (0+k-0)++Builtin.zeroCells z.cells (grownCap w (0+k) 0 58-(0+k))) 58)).ownsRow base 58 12 (.slice (some ⟨w.heap.size,0,none⟩) 0 (grownCap w (0+k) 0 58)) 0 [] :=
   ⟨by simp,.inr ⟨w.heap.size,_,_,rfl,hinv.base,heap_alloc_new w.drew _,zfh _,yG,by
    simp only [zfd,size_zeroCells,zbs,zay,CJ];generalize grownCap w (0+k) 0 58=c at XV;omega,by simp⟩⟩
  obtain ⟨g',q1,q2,q3,q4,q5⟩:=hinv.sB ⟨58,12,0,some []⟩ j4 (.inr ⟨rfl,((Below.refl _ w).drew).alloc (zap _) _⟩) (λrows hr=>by cases hr;exact ⟨rfl,by simp,by simp⟩);refine ⟨_,_,_,g',rfl,⟨.ak _,rfl⟩,?_,q4,(rm.refl ⟨g,w,_,base⟩).step q5⟩;refine .vc _ _ _ (by simp) ⟨_,_,_,rfl⟩ λx' rows jK ho=>?_
  have:x'=⟨58,12,0,some []⟩:=by simpa [St.tok,zeq] using jK
  subst this;exact ⟨zap _,λ_=>.inl q1.symm⟩
end Go.Proofs.YtimkfiaffohhkaaGreatDoor
namespace Go.Proofs.YtimkfiaffohhkaaGreatDoor
open Go.RowKit Go.Abs
theorem Wl {w:World} (h:xj w.heap.size w):Go.Lib.TabIs Tryz.prog w "internal/strconv.uint64pow10" .u64 Go.Lib.pow10Tab:=by
 obtain ⟨_,ty,fr,h2⟩:=h.1 (0,(Go.Lib.pow10Tab.map λz=>Value.int .u64 z).toArray) (by simp [GL]);have hn:Tryz.prog.globalNamed "internal/strconv.uint64pow10" = some 0:=by kernel_rfl
 unfold Go.Lib.TabIs World.var?;rw [hn];simp only [zac];simp only at h2;rw [h2]
theorem tF {n:Int} {r:List UInt8} (H:uK n=some r):aD Tryz.prog 115 [cI n] (·=cS r):=by
 obtain ⟨h,H⟩:=aq H;cases H;refine aD.lib λlim w vs hg ha=>?_
 obtain ⟨v,rfl,hv⟩:=ha.one;rw [wa hv];refine (Tryz.strconv_Itoa n h.1 h.2 w (Wl hg)).mono ?_;rintro e w' ⟨rfl,k,os,rfl⟩;exact ⟨rfl,EO w k os⟩
theorem QY {xs:List (List UInt8)} {sep r:List UInt8} (H:Mh xs sep=some r):aD Tryz.prog 116 [ai 1 rS xs,cS sep] (·=cS r):=by
 obtain ⟨h,H⟩:=aq H;cases H;refine aD.lib λlim w vs hg ha=>?_
 obtain ⟨v,u,rfl,hv,hu⟩:=ha.two;rw [wa hu];rcases Mm hv with ⟨A,c,rfl,rfl⟩|⟨b,off,c,rfl,hc,hb,eR⟩
 ·exact (Tryz.strings_Join_none A c ⟨sep.toArray⟩ w).mono λe w' ⟨he,hw⟩=>⟨he,hw▸Below.refl _ _⟩
 ·have hm:(xs.map λx=>(⟨x.toArray⟩:ByteArray)).map (·.data.toList)=xs:=by simp [Function.comp_def]
  have:=Tryz.strings_Join b off c (xs.map λx=>(⟨x.toArray⟩:ByteArray)) ⟨sep.toArray⟩ w (λj x hj=>by
   rw [zbc] at hj;obtain ⟨y,hy,rfl⟩:=zcg.1 hj;exact eR j y hy) hb (by simp;omega) (by simpa using hc) (by rw [hm];simp;omega)
  rw [hm,zcu] at this;exact this
end Go.Proofs.YtimkfiaffohhkaaGreatDoor
namespace Go.Proofs.YtimkfiaffohhkaaGreatDoor
open Go.RowKit Go.Abs Go.Proofs.Tryz
theorem wF (a b:bm):ew (bm.bP a) (bm.bP b)=(a==b):=by
 cases a;cases b;rw [zbz];simp [bm.bP,ew,LO]
def rT:vh prog 114 bm:=Yk bm.bP underlying114 V4 (λ_=>rfl) wF
theorem yO (a b:bE):ew (bE.bP a) (bE.bP b)=(a==b):=by
 cases a;cases b;rw [zbz];simp [bE.bP,ew,LO]
def ux:vh prog 164 bE:=Yk bE.bP underlying164 V5 (λ_=>rfl) yO
theorem xN {jP:List aa} {r:Bool} (H:qx jP=some r):aD prog 17 [ai 12 aa.row jP] (·=cB r):=by
 refine aD.bc func17 rfl ntmps17 rfl λS hS=>?_
 unfold qx at H;refine .E 9 rfl (.bH (ι:=Unit) (λ_=>[(0,.d (ai 12 aa.row jP))]) (λ_=>⟨[],[]⟩) (λs=>pq jP=some r) ?_ ?_)
 ·rintro _ H;replace H:pq jP=some r:=H;unfold pq at H;refine .A 7 [.i (jP.length:Int)] rfl (fp.n rfl rfl) (.R func17 results17 rfl ?_);cases H;exact .m rfl (.ak _)
 ·intro p7 eX;refine .lp H (λbB=>[(0,.d (ai 12 aa.row jP)),(3,.d (cI bB))]) (λbB=>⟨[],[]⟩) (.k2 rfl rfl (.nil)) rfl ?_;rintro bB q1 H bu;unfold nk at H;refine .A 12 [.i (jP.length:Int)] rfl ⟨rfl,rfl,fp.n rfl rfl⟩ (.ite H rfl (λH=>?_) (λH=>?_))
  ·obtain ⟨cH,cY,H⟩:=ck2 H;refine .A 22 [.d (.ro (aa.row (nth jP bB.toNat))),.i (((nth jP bB.toNat).a).length:Int),.d (.ro (aa.row (nth jP bB.toNat))),.i (((nth jP bB.toNat).b).length:Int)] rfl ⟨rfl,rfl,λhg=>aK.g (oN underlying9 rfl),rfl,rfl,rfl,λhg=>fp.ix rfl rfl rfl (cY hg),rfl,rfl,aK.g (oN underlying9 rfl),fp.ix rfl rfl rfl cH⟩ (.ite H rfl (λH=>?_) (λH=>?_))
   ·refine .E 4 rfl (.R func17 results17 rfl ?_);cases H;cases bu;exact .m rfl (.ak _)
   ·obtain ⟨dW,H⟩:=aq H;refine .A 7 [.i (bB+1)] rfl (aG rfl rfl dW) ?_;cases H;exact .z bu rfl rfl
  ·refine .E 1 rfl ?_;obtain ⟨q0,H9,lz⟩:=bR H;clear H;cases lz;cases bu;have H:=H9;exact .z (eX () H) rfl rfl
theorem F9 {v0:aj} {r:Bool} (H:rz v0=some r):aD prog 9 [.agg (aj.row v0)] (·=cB r):=by
 refine aD.bc func9 rfl ntmps9 rfl λS hS=>?_
 unfold rz at H;refine .A 10 [.r 0] rfl trivial (.bH (ι:=Unit) (λ_=>[(1,.ref 0 0)]) (λ_=>⟨[aj.o30 v0],[]⟩) (λs=>iP v0=some r) ?_ ?_)
 ·rintro _ H;replace H:iP v0=some r:=H;unfold iP at H;obtain ⟨y1,cQ,H⟩:=ae H;obtain ⟨y2,fD,H⟩:=ae H;refine .A 39 [.i (v0.usages.length:Int),.b y1,.b y2,.i (v0.bA.length:Int),.i (v0.aH.seen.length:Int),.i (v0.aH.aO.length:Int)] rfl ⟨rfl,rfl,λhg=>BI.n rfl rfl,rfl,rfl,rfl,rfl,rfl,λhg=>wu.n rfl rfl,rfl,rfl,rfl,rfl,rfl,λhg=>Ic.n rfl rfl,rfl,rfl,rfl,λhg=>av (en 0 rfl) rfl rfl (xN (ba fD hg)),rfl,rfl,rfl,rfl,λhg=>av (en 0 rfl) rfl rfl (xN (ba cQ hg)),rfl,rfl,B5.n rfl rfl⟩ (.R func9 results9 rfl ?_);cases H;exact .m rfl (.ak _)
 ·intro p7 eX;refine .lp H (λbI=>[(1,.ref 0 0),(3,.d (cI bI))]) (λbI=>⟨[aj.o30 v0],[]⟩) (.k2 rfl rfl (.nil)) rfl ?_;rintro bI q1 H bu;unfold ki at H;refine .A 13 [.i (v0.usages.length:Int)] rfl ⟨rfl,rfl,B5.n rfl rfl⟩ (.ite H rfl (λH=>?_) (λH=>?_))
  ·obtain ⟨cH,cY,H⟩:=ck2 H;refine .A 24 [.d (.ro (aC.row (nth v0.usages bI.toNat))),.i (((nth v0.usages bI.toNat).a).length:Int),.d (.ro (aC.row (nth v0.usages bI.toNat))),.i (((nth v0.usages bI.toNat).b).length:Int)] rfl ⟨rfl,rfl,λhg=>aK.g (oN underlying9 rfl),rfl,rfl,rfl,λhg=>B5.ix rfl rfl rfl (cY hg),rfl,rfl,rfl,aK.g (oN underlying9 rfl),B5.ix rfl rfl rfl cH⟩ (.ite H rfl (λH=>?_) (λH=>?_))
   ·refine .E 4 rfl (.R func9 results9 rfl ?_);cases H;cases bu;exact .m rfl (.ak _)
   ·obtain ⟨dW,H⟩:=aq H;refine .A 7 [.i (bI+1)] rfl (aG rfl rfl dW) ?_;cases H;exact .z bu rfl rfl
  ·refine .E 1 rfl ?_;obtain ⟨q0,H9,lz⟩:=bR H;clear H;cases lz;cases bu;have H:=H9;exact .z (eX () H) rfl rfl
theorem kQ {Ih:Bool} {r:(List Event)} (H:pr Ih=some r):aD prog 30 [cB Ih] (·=ai 7 Event.row r):=by
 obtain ⟨i79,OT,OU,YY,hb79⟩:=TV;refine aD.bc func30 rfl ntmps30 rfl λS hS=>?_
 unfold pr at H;refine .A 17 [.d (.agg (Event.row kq11)),.d (.agg (Event.row kq5)),.d (.agg (Event.row kq1)),.n (.cz 7 (([kq11,kq5,kq1]:List Event).map Event.row) 0) ⟨79,7,([kq11,kq5,kq1]:List Event).length,none⟩] rfl ⟨.e (zk (n:=3) underlying36 OT YY OU rfl rfl rfl rfl rfl) rfl,aK.g (bh Nq OT OU rfl rfl),aK.g (bh Nq OT OU rfl rfl),aK.g (bh Nq OT OU rfl rfl)⟩ (.ite H rfl (λH=>?_) (λH=>?_))
 ·obtain ⟨cH,H⟩:=aq H;refine .A 12 [.d (.agg (Event.row kq2)),.d (ai 7 Event.row ([kq2]:List Event)),.a 0 79 7 Event.row (([kq11,kq5,kq1]:List Event)++([kq2]:List Event))] rfl ⟨Mf.a rfl rfl rfl rfl cH,aT underlying36 OT YY OU rfl rfl rfl rfl rfl,aK.g (bh Nq OT OU rfl rfl)⟩ (.R func30 results30 rfl ?_);cases H;exact .m rfl (.cz _ _ _)
 ·refine .E 6 rfl (.R func30 results30 rfl ?_);cases H;exact .m rfl (.cz _ _ _)
theorem Co {eO:Batch} {r:Head} (H:pt eO=some r):aD prog 124 [.agg (Batch.row eO)] (·=.agg (Head.row r)):=by
 obtain ⟨i76,Dq,Iw,Ix,SO⟩:=Ez;refine aD.bc func124 rfl ntmps124 rfl λS hS=>?_
 unfold pt at H;refine .A 19 [.r 0,.r 1,.i (eO.records.length:Int),.d (.agg (Head.row (⟨eO.source,eO.number,eO.format,(eO.records.length:Int)⟩:Head)))] rfl ⟨aK.g (bh Qx Dq Iw rfl rfl),fp.n rfl rfl⟩ (.R func124 results124 rfl ?_);cases H;exact .m rfl (.ak _)
theorem nz {yL Ii Ij:Int} {r:Bool} (H:iQ yL Ii Ij=some r):aD prog 163 [cI yL,cI Ii,cI Ij] (·=cB r):=by
 refine aD.bc func163 rfl ntmps163 rfl λS hS=>?_
 unfold iQ at H;refine .A 16 [] rfl ⟨rfl,rfl,rfl⟩ (.R func163 results163 rfl ?_);cases H;exact .m rfl (.ak _)
theorem yP {V7:Head} {r:Int} (H:jw V7=some r):aD prog 123 [.agg (Head.row V7)] (·=cI r):=by
 refine aD.bc func123 rfl ntmps123 rfl λS hS=>?_
 unfold jw at H;obtain ⟨y1,cQ,H⟩:=ae H;obtain ⟨y2,fD,H⟩:=ae H;refine .A 21 [.r 0,.b y1,.b y2] rfl ⟨rfl,rfl,λhg=>av (en 1 rfl) rfl rfl (nz (ba fD hg)),rfl,rfl,av (en 1 rfl) rfl rfl (nz cQ)⟩ (.ite H rfl (λH=>?_) (λH=>?_))
 ·refine .E 4 rfl (.R func123 results123 rfl ?_);cases H;exact .m rfl (.ak _)
 ·obtain ⟨y3,ju,H⟩:=ae H;refine .A 8 [.b y3] rfl (av (en 1 rfl) rfl rfl (nz ju)) (.ite H rfl (λH=>?_) (λH=>?_))
  ·refine .E 4 rfl (.R func123 results123 rfl ?_);cases H;exact .m rfl (.ak _)
  ·obtain ⟨y4,nU,H⟩:=ae H;refine .A 8 [.b y4] rfl (av (en 1 rfl) rfl rfl (nz nU)) (.ite H rfl (λH=>?_) (λH=>?_))
   ·refine .E 4 rfl (.R func123 results123 rfl ?_);cases H;exact .m rfl (.ak _)
   ·refine .E 6 rfl (.R func123 results123 rfl ?_);cases H;exact .m rfl (.ak _)
theorem eF {yL Ii Ij:Int} {r:Bool} (H:dE yL Ii Ij=some r):aD prog 150 [cI yL,cI Ii,cI Ij] (·=cB r):=by
 refine aD.bc func150 rfl ntmps150 rfl λS hS=>?_
 unfold dE at H;refine .A 16 [] rfl ⟨rfl,rfl,rfl⟩ (.R func150 results150 rfl ?_);cases H;exact .m rfl (.ak _)
theorem Cp {SK:UInt8} {r:Bool} (H:pw SK=some r):aD prog 189 [Yc SK] (·=cB r):=by
 refine aD.bc func189 rfl ntmps189 rfl λS hS=>?_
 unfold pw at H;refine .A 14 [.b (decide (SK>=48)),.b (decide (SK<=57))] rfl ⟨rfl,λhg=>aK.g (UO (a:=SK) (b:=57) rfl rfl),rfl,aK.g (UP (a:=SK) (b:=48) rfl rfl)⟩ (.R func189 results189 rfl ?_);cases H;exact .m rfl (.ak _)
theorem vE {b8:List UInt8} {r:Bool} (H:kj b8=some r):aD prog 151 [cS b8] (·=cB r):=by
 refine aD.bc func151 rfl ntmps151 rfl λS hS=>?_
 unfold kj at H;refine .A 11 [.i (b8.length:Int)] rfl (aK.g (oN underlying9 rfl)) (.bH (ι:=Unit) (λ_=>[(0,.d (cS b8))]) (λ_=>⟨[],[]⟩) (λs=>jx b8=some r) ?_ ?_)
 ·rintro _ H;replace H:jx b8=some r:=H;unfold jx at H;refine .A 12 [.i (b8.length:Int),.i (b8.length:Int)] rfl ⟨rfl,rfl,λhg=>aK.g (oN underlying9 rfl),rfl,aK.g (oN underlying9 rfl)⟩ (.R func151 results151 rfl ?_);cases H;exact .m rfl (.ak _)
 ·intro p7 eX;refine .lp H (λsI=>[(0,.d (cS b8)),(5,.d (cI (b8.length:Int))),(6,.d (cI sI))]) (λsI=>⟨[],[]⟩) (.k3 rfl rfl rfl (.nil)) rfl ?_;rintro sI q1 H bu;unfold lX at H;refine .E 5 rfl (.ite H rfl (λH=>?_) (λH=>?_))
  ·obtain ⟨cH,H⟩:=aq H;obtain ⟨y1,cQ,H⟩:=ae H;refine .A 16 [.c (nth b8 sI.toNat),.b y1] rfl ⟨av (en 2 rfl) rfl rfl (Cp cQ),aK.g (nY (i:=sI) underlying9 rfl rfl cH)⟩ (.ite H rfl (λH=>?_) (λH=>?_))
   ·refine .E 4 rfl (.R func151 results151 rfl ?_);cases H;cases bu;exact .m rfl (.ak _)
   ·obtain ⟨cY,H⟩:=aq H;refine .A 6 [.i (sI+1)] rfl (aG rfl rfl cY) ?_;cases H;exact .z bu rfl rfl
  ·refine .E 1 rfl ?_;obtain ⟨q0,H9,lz⟩:=bR H;clear H;cases lz;cases bu;have H:=H9;exact .z (eX () H) rfl rfl
theorem A7 {v0:aa} {r:Int} (H:lB v0=some r):aD prog 114 [.agg (aa.row v0)] (·=cI r):=by
 refine aD.bc func114 rfl ntmps114 rfl λS hS=>?_
 unfold lB at H;refine .A 21 [.r 0] rfl ⟨rfl,rfl,rfl⟩ (.jg (ι:=Int) (λB8=>[(1,.ref 0 0),(3,.d (cB ((v0.kind==3) || (v0.kind==4)))),(4,.d (cI B8))]) (λB8=>⟨[aa.o58 v0],[]⟩) (λs=>fg v0 s=some r) ?_ ?_)
 ·rintro B8 H;replace H:fg v0 B8=some r:=H;unfold fg at H;obtain ⟨y1,cQ,H⟩:=ae H;obtain ⟨y2,fD,H⟩:=ae H;refine .A 16 [.b y1,.b y2] rfl ⟨rfl,rfl,λhg=>av (en 3 rfl) rfl rfl (eF (ba fD hg)),rfl,rfl,av (en 3 rfl) rfl rfl (eF cQ)⟩ (.ite H rfl (λH=>?_) (λH=>?_))
  ·refine .E 4 rfl (.R func114 results114 rfl ?_);cases H;exact .m rfl (.ak _)
  ·obtain ⟨y3,ju,H⟩:=ae H;refine .A 8 [.b y3] rfl (av (en 3 rfl) rfl rfl (eF ju)) (.ite H rfl (λH=>?_) (λH=>?_))
   ·refine .E 4 rfl (.R func114 results114 rfl ?_);cases H;exact .m rfl (.ak _)
   ·obtain ⟨y4,nU,H⟩:=ae H;obtain ⟨y5,uR,H⟩:=ae H;refine .B 17 [.b y4,.b y5] rfl ⟨rfl,rfl,rfl,rfl,rfl,λhg=>av (en 4 rfl) rfl rfl (vE (ba uR hg)),rfl,rfl,av (en 4 rfl) rfl rfl (vE nU)⟩ (.gE (env':=[(44,_),(47,_)]) rfl rfl rfl ⟨.inr (.inl rfl),⟨.inr (.inr ⟨_,_,rfl,rfl⟩),trivial⟩⟩ rfl (λhg=>aK.g (dv rfl rfl rfl)) (.B 1 [] rfl rfl (.gE (env':=[(42,_),(49,_)]) rfl rfl rfl ⟨.inr (.inl rfl),⟨.inr (.inr ⟨_,_,rfl,rfl⟩),trivial⟩⟩ rfl (λhg=>aK.g (dv rfl rfl rfl)) (.A 3 [] rfl rfl (.ite H rfl (λH=>?_) (λH=>?_))))))
    ·refine .E 4 rfl (.R func114 results114 rfl ?_);cases H;exact .m rfl (.ak _)
    ·obtain ⟨y6,Dr,H⟩:=ae H;refine .A 8 [.b y6] rfl (av (en 3 rfl) rfl rfl (eF Dr)) (.ite H rfl (λH=>?_) (λH=>?_))
     ·refine .E 4 rfl (.R func114 results114 rfl ?_);cases H;exact .m rfl (.ak _)
     ·obtain ⟨y7,Ps,H⟩:=ae H;refine .A 9 [.b y7] rfl (av (en 3 rfl) rfl rfl (eF Ps)) (.ite H rfl (λH=>?_) (λH=>?_))
      ·refine .E 4 rfl (.R func114 results114 rfl ?_);cases H;exact .m rfl (.ak _)
      ·obtain ⟨cH,H⟩:=aq H;refine .A 15 [.i (v0.start+v0.cU)] rfl ⟨rfl,rfl,λhg=>aG rfl rfl (cH hg),rfl,rfl,rfl,rfl⟩ (.ite H rfl (λH=>?_) (λH=>?_))
       ·refine .E 4 rfl (.R func114 results114 rfl ?_);cases H;exact .m rfl (.ak _)
       ·obtain ⟨y8,R6,H⟩:=ae H;obtain ⟨y9,Wm,H⟩:=ae H;refine .A 14 [.b y8,.b y9] rfl ⟨rfl,rfl,λhg=>av (en 3 rfl) rfl rfl (eF (ba Wm hg)),rfl,rfl,av (en 3 rfl) rfl rfl (eF R6)⟩ (.ite H rfl (λH=>?_) (λH=>?_))
        ·refine .E 4 rfl (.R func114 results114 rfl ?_);cases H;exact .m rfl (.ak _)
        ·refine .B 16 [.b ((v0.part==0) != (v0.call==0))] rfl ⟨rfl,rfl,rfl,rfl,aK.g (DZ rfl underlying4 rfl)⟩ (.gE (env':=[(97,_),(100,_)]) rfl rfl rfl ⟨.inr (.inl rfl),⟨.inr (.inr ⟨_,_,rfl,rfl⟩),trivial⟩⟩ rfl (λhg=>aK.g (dv rfl rfl rfl)) (.A 3 [] rfl rfl (.ite H rfl (λH=>?_) (λH=>?_))))
         ·refine .E 4 rfl (.R func114 results114 rfl ?_);cases H;exact .m rfl (.ak _)
         ·obtain ⟨V8,Wn,H⟩:=ae H;refine .A 8 [.b V8] rfl (av (en 3 rfl) rfl rfl (eF Wn)) (.ite H rfl (λH=>?_) (λH=>?_))
          ·refine .E 4 rfl (.R func114 results114 rfl ?_);cases H;exact .m rfl (.ak _)
          ·refine .A 11 [] rfl ⟨rfl,rfl,rfl⟩ (.ite H rfl (λH=>?_) (λH=>?_))
           ·refine .E 4 rfl (.R func114 results114 rfl ?_);cases H;exact .m rfl (.ak _)
           ·refine .E 6 rfl (.R func114 results114 rfl ?_);cases H;exact .m rfl (.ak _)
 ·intro p7;refine .E 6 rfl (.ite H rfl (λH=>?_) (λH=>?_))
  ·exact .E 3 rfl (.z (p7 604800 H) rfl rfl)
  ·exact .E 1 rfl (.z (p7 1099511627776 H) rfl rfl)
theorem tH {v0:aa} {r:(List UInt8)×Int} (H:fv v0=some r):aD prog 72 [.agg (aa.row v0)] (·=.dV [cS r.1,cI r.2]):=by
 obtain ⟨i9,Jr,OV,Js,YZ⟩:=ON;refine aD.bc func72 rfl ntmps72 rfl λS hS=>?_
 unfold fv at H;obtain ⟨y1,cQ,H⟩:=ae H;refine .A 18 [.r 0,.i y1] rfl (av (en 5 rfl) rfl rfl (A7 cQ)) (.ite H rfl (λH=>?_) (λH=>?_))
 ·refine .E 6 rfl (.R func72 results72 rfl ?_);cases H;exact .m rfl (.kV rfl)
 ·refine .E 11 rfl (.jg (ι:=List UInt8) (λxD=>[(1,.ref 0 0),(5,.d (.ex (.func (.func 115) #[] #[]))),(6,.d (cS xD))]) (λxD=>⟨[aa.o58 v0],[]⟩) (λs=>eQ v0 s=some r) ?_ ?_)
  ·rintro xD H;replace H:eQ v0 xD=some r:=H;unfold eQ at H;obtain ⟨cH,cY,H⟩:=ck2 H;obtain ⟨y2,fD,H⟩:=ae H;obtain ⟨y3,ju,H⟩:=ae H;obtain ⟨y4,nU,H⟩:=ae H;obtain ⟨y5,uR,H⟩:=ae H;refine let z0:=(([118,116,100,99]:List UInt8).take v0.kind.toNat);.A 31 [.p 25,.i (v0.kind-1),.s (z0.drop (v0.kind-1).toNat),.s y2,.s y3,.s y4,.s y5,.n (.cz 1 (([z0.drop (v0.kind-1).toNat,y2,y3,v0.a,xD,y4,y5]:List (List UInt8)).map rS) 0) (CX ([z0.drop (v0.kind-1).toNat,y2,y3,v0.a,xD,y4,y5]:List (List UInt8)).length)] rfl ⟨.e (zk (n:=7) underlying96 Jr Js OV rfl rfl rfl rfl rfl) rfl,sD (en 6 rfl) rfl rfl rfl (tF uR),sD (en 6 rfl) rfl rfl rfl (tF nU),sD (en 6 rfl) rfl rfl rfl (tF ju),sD (en 6 rfl) rfl rfl rfl (tF fD),aK.g (P1 underlying9 rfl rfl rfl cY),gF rfl rfl cH,(show cr _ _=true by kernel_rfl)⟩ ?_;refine .jg (ι:=List (List UInt8)) (λwv=>[(1,.ref 0 0),(5,.d (.ex (.func (.func 115) #[] #[]))),(7,.cz 1 (wv.map rS) 0)]) (λwv=>⟨[aa.o58 v0],[CX wv.length]⟩) (λs=>ed v0 s=some r) ?_ ?_
   ·rintro wv H;replace H:ed v0 wv=some r:=H;unfold ed at H;refine .jg (ι:=List (List UInt8)) (λMi=>[(7,.cz 1 (Mi.map rS) 0)]) (λMi=>⟨[aa.o58 v0],[CX Mi.length]⟩) (λs=>eP s=some r) ?_ ?_
    ·rintro Mi H;replace H:eP Mi=some r:=H;unfold eP at H;obtain ⟨y6,Dr,H⟩:=ae H;refine .A 7 [.s y6] rfl (av (en 7 rfl) rfl rfl (QY Dr)) (.R func72 results72 rfl ?_);cases H;exact .m rfl (.kV rfl)
    ·intro QZ;refine .E 6 rfl (.ite H rfl (λH=>?_) (λH=>?_))
     ·refine .E 4 rfl (.jg (ι:=List UInt8) (λEF=>[(1,.ref 0 0),(5,.d (.ex (.func (.func 115) #[] #[]))),(7,.cz 1 (wv.map rS) 0),(8,.d (cS EF))]) (λEF=>⟨[aa.o58 v0],[CX wv.length]⟩) (λs=>fS v0 wv s=some r) ?_ ?_)
      ·rintro EF H;replace H:fS v0 wv EF=some r:=H;unfold fS at H;obtain ⟨y7,Ps,H⟩:=ae H;obtain ⟨dW,H⟩:=aq H;exact .A 11 [.s y7,.d (ai 1 rS ([EF,y7]:List (List UInt8))),.a 0 9 1 rS (wv++([EF,y7]:List (List UInt8)))] rfl ⟨Dg.a rfl rfl rfl rfl dW,gA (n:=2) (rows:=([EF,y7]:List (List UInt8)).map rS) underlying96 Jr Js OV rfl rfl rfl rfl rfl,sD (en 6 rfl) rfl rfl rfl (tF Ps)⟩ (.z (QZ (wv++([EF,y7]:List (List UInt8))) H) rfl rfl)
      ·intro Xv;refine .E 5 rfl (.ite H rfl (λH=>?_) (λH=>?_))
       ·exact .E 3 rfl (.z (Xv ([105,110]:List UInt8) H) rfl rfl)
       ·exact .E 1 rfl (.z (Xv ([111,117,116]:List UInt8) H) rfl rfl)
     ·exact .E 1 rfl (.z (QZ wv H) rfl rfl)
   ·intro A8;refine .E 6 rfl (.ite H rfl (λH=>?_) (λH=>?_))
    ·obtain ⟨y8,R6,H⟩:=ae H;obtain ⟨y9,Wm,H⟩:=ae H;obtain ⟨gC,H⟩:=aq H;refine .A 21 [.p 10,.s y8,.s y9,.d (ai 1 rS ([([112,97,114,116]:List UInt8),y8,y9]:List (List UInt8))),.a 0 9 1 rS (([(([118,116,100,99]:List UInt8).take v0.kind.toNat).drop (v0.kind-1).toNat,y2,y3,v0.a,xD,y4,y5]:List (List UInt8))++([([112,97,114,116]:List UInt8),y8,y9]:List (List UInt8)))] rfl ⟨Dg.a rfl rfl rfl rfl gC,gA (n:=3) (rows:=([([112,97,114,116]:List UInt8),y8,y9]:List (List UInt8)).map rS) underlying96 Jr Js OV rfl rfl rfl rfl rfl,sD (en 6 rfl) rfl rfl rfl (tF Wm),sD (en 6 rfl) rfl rfl rfl (tF R6),(show cr _ _=true by kernel_rfl)⟩ (.ite H rfl (λH=>?_) (λH=>?_))
     ·obtain ⟨j5,H⟩:=aq H;exact .A 6 [.d (ai 1 rS ([([108,97,115,116]:List UInt8)]:List (List UInt8))),.a 0 9 1 rS ((([(([118,116,100,99]:List UInt8).take v0.kind.toNat).drop (v0.kind-1).toNat,y2,y3,v0.a,xD,y4,y5]:List (List UInt8))++([([112,97,114,116]:List UInt8),y8,y9]:List (List UInt8)))++([([108,97,115,116]:List UInt8)]:List (List UInt8)))] rfl ⟨Dg.a rfl rfl rfl rfl j5,aT underlying96 Jr Js OV rfl rfl rfl rfl rfl⟩ (.z (A8 ((([(([118,116,100,99]:List UInt8).take v0.kind.toNat).drop (v0.kind-1).toNat,y2,y3,v0.a,xD,y4,y5]:List (List UInt8))++([([112,97,114,116]:List UInt8),y8,y9]:List (List UInt8)))++([([108,97,115,116]:List UInt8)]:List (List UInt8))) H) rfl rfl)
     ·exact .E 1 rfl (.z (A8 (([(([118,116,100,99]:List UInt8).take v0.kind.toNat).drop (v0.kind-1).toNat,y2,y3,v0.a,xD,y4,y5]:List (List UInt8))++([([112,97,114,116]:List UInt8),y8,y9]:List (List UInt8))) H) rfl rfl)
    ·exact .E 1 rfl (.z (A8 ([(([118,116,100,99]:List UInt8).take v0.kind.toNat).drop (v0.kind-1).toNat,y2,y3,v0.a,xD,y4,y5]:List (List UInt8)) H) rfl rfl)
  ·intro p7;refine .E 5 rfl (.ite H rfl (λH=>?_) (λH=>?_))
   ·exact .E 3 rfl (.z (p7 ([45]:List UInt8) H) rfl rfl)
   ·exact .E 1 rfl (.z (p7 v0.b H) rfl rfl)
theorem Ds {eO:Batch} {r:Int} (H:od eO=some r):aD prog 76 [.agg (Batch.row eO)] (·=cI r):=by
 refine aD.bc func76 rfl ntmps76 rfl λS hS=>?_
 unfold od at H;obtain ⟨y1,cQ,H⟩:=ae H;obtain ⟨y2,fD,H⟩:=ae H;refine .A 18 [.r 0,.d (.agg (Head.row y1)),.i y2] rfl ⟨av (en 8 rfl) rfl rfl (yP fD),av (en 9 rfl) rfl rfl (Co cQ)⟩ (.ite H rfl (λH=>?_) (λH=>?_))
 ·refine .E 5 rfl (.R func76 results76 rfl ?_);cases H;exact .m rfl (.ak _)
 ·refine .A 10 [.i (eO.records.length:Int)] rfl (fp.n rfl rfl) (.lp H (λvl=>[(1,.ref 0 0),(15,.d (ai 12 aa.row eO.records)),(16,.d (cI (eO.records.length:Int))),(17,.d (cI vl))]) (λvl=>⟨[Batch.o38 eO],[]⟩) (.k4 rfl rfl rfl rfl (.nil)) rfl ?_);rintro vl q1 H bu;unfold gr at H;refine .E 5 rfl (.ite H rfl (λH=>?_) (λH=>?_))
  ·obtain ⟨cH,H⟩:=aq H;obtain ⟨y3,ju,H⟩:=ae H;refine .A 26 [.d (.ro (aa.row (nth eO.records vl.toNat))),.r 1,.d (.dV [cS y3.1,cI y3.2])] rfl ⟨av (en 10 rfl) rfl rfl (tH ju),fp.ix rfl rfl rfl cH⟩ (.ite H rfl (λH=>?_) (λH=>?_))
   ·refine .E 5 rfl (.R func76 results76 rfl ?_);cases H;cases bu;exact .m rfl (.ak _)
   ·refine .E 9 rfl (.ite H rfl (λH=>?_) (λH=>?_))
    ·refine .E 4 rfl (.R func76 results76 rfl ?_);cases H;cases bu;exact .m rfl (.ak _)
    ·obtain ⟨cY,H⟩:=aq H;refine .A 6 [.i (vl+1)] rfl (aG rfl rfl cY) ?_;cases H;exact .t 1 0 bu rfl rfl rfl rfl rfl hS rfl
  ·refine .E 5 rfl (.R func76 results76 rfl ?_);cases H;cases bu;exact .m rfl (.ak _)
theorem se {bM:aF} {bF r:Int} (H:iB bM bF=some r):aD prog 77 [.agg (aF.row bM),cI bF] (·=cI r):=by
 refine aD.bc func77 rfl ntmps77 rfl λS hS=>?_
 unfold iB at H;refine .A 15 [.r 0] rfl ⟨rfl,rfl⟩ (.ite H rfl (λH=>?_) (λH=>?_))
 ·refine .E 4 rfl (.R func77 results77 rfl ?_);cases H;exact .m rfl (.ak _)
 ·obtain ⟨cH,H⟩:=aq H;refine .A 11 [.i (bM.aO.length:Int),.i ((bM.aO.length:Int) - 1)] rfl ⟨gF rfl rfl cH,BI.n rfl rfl⟩ (.lp H (λaE=>[(1,.d (cI bF)),(2,.ref 0 0),(5,.d (cI aE))]) (λaE=>⟨[aF.o26 bM],[]⟩) (.k3 rfl rfl rfl (.nil)) rfl ?_);rintro aE q1 H bu;unfold qy at H;refine .E 6 rfl (.ite H rfl (λH=>?_) (λH=>?_))
  ·obtain ⟨cY,H⟩:=aq H;refine .A 14 [.d (.ro (Head.row (nth bM.aO aE.toNat)))] rfl (BI.ix rfl rfl rfl cY) (.ite H rfl (λH=>?_) (λH=>?_))
   ·obtain ⟨dW,gC,H⟩:=ck2 H;refine .A 11 [.d (.ro (Head.row (nth bM.aO aE.toNat))),.i (((nth bM.aO aE.toNat).number)+1)] rfl ⟨aG rfl rfl gC,BI.ix rfl rfl rfl dW⟩ (.R func77 results77 rfl ?_);cases H;cases bu;exact .m rfl (.ak _)
   ·obtain ⟨j5,H⟩:=aq H;refine .A 7 [.i (aE-1)] rfl (gF rfl rfl j5) ?_;cases H;exact .z bu rfl rfl
  ·refine .E 5 rfl (.R func77 results77 rfl ?_);cases H;cases bu;exact .m rfl (.ak _)
theorem yQ {nm:aa} {DK:bX} {r:Int} (H:jy nm DK=some r):aD prog 125 [.agg (aa.row nm),.agg (bX.row DK)] (·=cI r):=by
 refine aD.bc func125 rfl ntmps125 rfl λS hS=>?_
 unfold jy at H;refine .A 22 [.r 0,.r 1] rfl ⟨rfl,rfl,rfl,rfl,rfl⟩ (.ite H rfl (λH=>?_) (λH=>?_))
 ·refine .E 4 rfl (.R func125 results125 rfl ?_);cases H;exact .m rfl (.ak _)
 ·refine .E 5 rfl (.R func125 results125 rfl ?_);cases H;exact .m rfl (.ak _)
theorem je {gH mm:Int} {r:Bool} (H:dY gH mm=some r):aD prog 110 [cI gH,cI mm] (·=cB r):=by
 refine aD.bc func110 rfl ntmps110 rfl λS hS=>?_
 unfold dY at H;refine .A 22 [] rfl ⟨rfl,rfl,rfl,rfl,rfl,rfl⟩ (.R func110 results110 rfl ?_);cases H;exact .m rfl (.ak _)
theorem A9 {sZ aR aQ:Int} {cV:(List Range)} {r:Bool} (H:jr sZ cV aR aQ=some r):aN prog 149 [.d (cI sZ),.ref 0 0,.ref 1 0,.ref 2 0] ⟨[.row 22 [.d (ai 3 Range.row cV)],.row 3 [.d (cI aR)],.row 3 [.d (cI aQ)]],[]⟩ (QE (.d (cB r)) ⟨[.row 22 [.d (ai 3 Range.row cV)],.row 3 [.d (cI aR)],.row 3 [.d (cI aQ)]],[]⟩):=by
 refine aN.ll ?_;refine aN.enter func149 rfl ntmps149 rfl λS hS=>?_
 unfold jr at H;obtain ⟨cH,H⟩:=aq H;refine .B 29 [.d (.ro (Range.row (nth cV sZ.toNat))),.r 3] rfl ⟨rfl,rfl,rfl,rfl,rfl,rfl,rfl,wu.ix rfl rfl rfl cH⟩ (.gE (env':=[(20,_),(24,_)]) rfl rfl rfl ⟨.inr (.inl rfl),⟨.inr (.inr ⟨_,_,rfl,rfl⟩),trivial⟩⟩ rfl (λhg=>aK.g (dv rfl rfl rfl)) (.A 3 [] rfl rfl (.R func149 results149 rfl ?_)));cases H;exact ⟨[0,1,2],[],rfl,rfl,rfl,rfl,rfl,rfl,rfl,rfl,.ak _⟩
theorem Dt {yL aR aQ r:Int} {cV:(List Range)} (H:jQ yL cV aR aQ=some r):aN prog 148 [.d (cI yL),.vR 149 [.ref 0 0,.ref 1 0,.ref 2 0]] ⟨[.row 22 [.d (ai 3 Range.row cV)],.row 3 [.d (cI aR)],.row 3 [.d (cI aQ)]],[]⟩ (QE (.d (cI r)) ⟨[.row 22 [.d (ai 3 Range.row cV)],.row 3 [.d (cI aR)],.row 3 [.d (cI aQ)]],[]⟩):=by
 refine aN.ll ?_;refine aN.enter func148 rfl ntmps148 rfl λS hS=>?_
 unfold jQ at H;refine .E 12 rfl (.lp H (λ⟨aE,ib⟩=>[(1,.vR 149 [.ref 0 0,.ref 1 0,.ref 2 0]),(5,.d (cI aE)),(6,.d (cI ib))]) (λ⟨aE,ib⟩=>⟨[.row 22 [.d (ai 3 Range.row cV)],.row 3 [.d (cI aR)],.row 3 [.d (cI aQ)]],[]⟩) (.k3 rfl rfl rfl (.nil)) rfl ?_);rintro ⟨aE,ib⟩ q1 H bu
 dsimp only at H
 unfold iH at H;refine .E 7 rfl (.ite H rfl (λH=>?_) (λH=>?_))
 ·obtain ⟨cH,cY,H⟩:=ck2 H;obtain ⟨y1,cQ,H⟩:=ae H;refine let z0:=(Int.fdiv (IntKind.wrap .u64 (aE+ib)) (2 ^ (min (Int.toNat (1)) 64)));.B 16 [.i (aE+ib),.d (cK .u64 (IntKind.wrap .u64 (aE+ib))),.d (cK .u64 z0),.i (IntKind.wrap .i64 z0)] rfl ⟨aK.g (Hw underlying183 underlying3 rfl rfl),aK.g (TB (a:=IntKind.wrap .u64 (aE+ib)) (b:=1) rfl rfl cY rfl),aK.g (Hw underlying3 underlying183 rfl rfl),aG rfl rfl cH⟩ ?_;refine .Ek (en 15 rfl) rfl rfl [0,1,2] [] (x:=.d (cB y1)) (st':=⟨[.row 22 [.d (ai 3 Range.row cV)],.row 3 [.d (cI aR)],.row 3 [.d (cI aQ)]],[]⟩) rfl (A9 cQ) ⟨.ak _,.ak _,.ak _,.ak _,trivial⟩ rfl rfl rfl rfl rfl rfl (.E 2 rfl (.ite H rfl (λH=>?_) (λH=>?_)))
  ·obtain ⟨dW,H⟩:=aq H;refine .A 6 [.i ((IntKind.wrap .i64 (Int.fdiv (IntKind.wrap .u64 (aE+ib)) (2 ^ (min (Int.toNat (1)) 64))))+1)] rfl (aG rfl rfl dW) ?_;cases H;exact .z bu rfl rfl
  ·refine .E 5 rfl ?_;cases H;exact .z bu rfl rfl
 ·refine .E 6 rfl (.R func148 results148 rfl ?_);cases H;cases bu;exact ⟨[0,1,2],[],rfl,rfl,rfl,rfl,rfl,rfl,rfl,rfl,.ak _⟩
theorem Du {aU:List Range} {bF cF r:Int} (H:oe aU bF cF=some r):aD prog 113 [ai 3 Range.row aU,cI bF,cI cF] (·=cI r):=by
 refine aD.bc func113 rfl ntmps113 rfl λS hS=>?_
 unfold oe at H;obtain ⟨y1,cQ,H⟩:=ae H;refine .B 12 [.r 0,.r 1,.r 2,.i (aU.length:Int),.g (.vR 149 [.ref 0 0,.ref 1 0,.ref 2 0])] rfl ⟨aK.g (te rfl),wu.n rfl rfl⟩ (.fa (en 16 rfl) rfl [0,1,2] [] (x:=.d (cI y1)) (st':=⟨[.row 22 [.d (ai 3 Range.row aU)],.row 3 [.d (cI bF)],.row 3 [.d (cI cF)]],[]⟩) rfl (Dt cQ) ⟨.ak _,.ak _,trivial⟩ rfl rfl rfl rfl rfl rfl (.E 2 rfl (.R func113 results113 rfl ?_)));cases H;exact .m rfl (.ak _)
theorem zB {aU:List Range} {bF cF:Int} {r:Bool} (H:mn aU bF cF=some r):aD prog 70 [ai 3 Range.row aU,cI bF,cI cF] (·=cB r):=by
 refine aD.bc func70 rfl ntmps70 rfl λS hS=>?_
 unfold mn at H;obtain ⟨y1,cQ,H⟩:=ae H;obtain ⟨y2,fD,H⟩:=ae H;obtain ⟨cH,cY,H⟩:=ck2 H;refine .A 43 [.i y1,.b y2,.i (aU.length:Int),.d (.ro (Range.row (nth aU y1.toNat))),.d (.ro (Range.row (nth aU y1.toNat)))] rfl ⟨rfl,rfl,rfl,rfl,rfl,λhg=>wu.ix rfl rfl rfl (cY hg),rfl,rfl,rfl,rfl,rfl,rfl,rfl,λhg=>wu.ix rfl rfl rfl (cH hg),rfl,rfl,rfl,rfl,rfl,λhg=>wu.n rfl rfl,rfl,av (en 17 rfl) rfl rfl (je fD),av (en 18 rfl) rfl rfl (Du cQ)⟩ (.R func70 results70 rfl ?_);cases H;exact .m rfl (.ak _)
theorem wW {fw gi:Range} {r:Bool} (H:lM fw gi=some r):aD prog 165 [.agg (Range.row fw),.agg (Range.row gi)] (·=cB r):=by
 refine aD.bc func165 rfl ntmps165 rfl λS hS=>?_
 unfold lM at H;obtain ⟨cH,H⟩:=aq H;refine .A 23 [.r 0,.r 1,.i (fw.iu+1)] rfl ⟨rfl,rfl,rfl,rfl,λhg=>aG rfl rfl (cH hg),rfl,rfl⟩ (.R func165 results165 rfl ?_);cases H;exact .m rfl (.ak _)
theorem tI {sZ sr:Int} {aR:(List aa)} {aW:List ag} {r:(List ag)} (H:km sZ sr aR aW=some r):aN prog 126 [.d (cI sZ),.d (cI sr),.ref 0 0,.ref 1 0] ⟨[.row 28 [.cz 4 (aW.map ag.row) 0],.row 23 [.d (ai 12 aa.row aR)]],[oR aW.length]⟩ (QE (.d (.dV [])) ⟨[.row 28 [.cz 4 (r.map ag.row) 0],.row 23 [.d (ai 12 aa.row aR)]],[oR r.length]⟩):=by
 obtain ⟨i66,yR,Ad,Cq,Ko⟩:=CV;refine aN.ll ?_;refine aN.enter func126 rfl ntmps126 rfl λS hS=>?_
 unfold km at H;obtain ⟨cH,cY,dW,H⟩:=ck3 H;refine .A 20 [.p 15,.d (.ro (aa.row (nth aR sZ.toNat))),.d (.ro (aa.row (nth aR sZ.toNat))),.d (.agg (ag.row (⟨(nth aR sZ.toNat).source,(nth aR sZ.toNat).aI,sZ,sr⟩:ag))),.d (ai 4 ag.row ([(⟨(nth aR sZ.toNat).source,(nth aR sZ.toNat).aI,sZ,sr⟩:ag)]:List ag)),.a 0 66 4 ag.row (aW++([(⟨(nth aR sZ.toNat).source,(nth aR sZ.toNat).aI,sZ,sr⟩:ag)]:List ag))] rfl ⟨Ic.a rfl rfl rfl rfl dW,aT underlying28 yR Cq Ad rfl rfl rfl rfl rfl,aK.g (bh Qw yR Ad rfl rfl),fp.ix rfl rfl rfl cY,fp.ix rfl rfl rfl cH,(show cr _ _=true by kernel_rfl)⟩ (.DX func126 results126 ?_);cases H;exact ⟨[0,1],[0],rfl,rfl,rfl,rfl,rfl,rfl,rfl,rfl,dX.qq (ds:=[]) trivial⟩
theorem xO {sZ aR aQ:Int} {aW:List Range} {j6:Nat} {r:Bool} (H:iR sZ aR aQ aW=some r):aN prog 149 [.d (cI sZ),.ref 0 0,.ref 1 0,.ref 2 0] ⟨[.row 22 [.vc 0 j6],.row 3 [.d (cI aR)],.row 3 [.d (cI aQ)]],[Range.sn j6 aW]⟩ (QE (.d (cB r)) ⟨[.row 22 [.vc 0 j6],.row 3 [.d (cI aR)],.row 3 [.d (cI aQ)]],[Range.sn j6 aW]⟩):=by
 obtain ⟨i106,mV,xP,oC,Kp⟩:=qu;refine aN.ll ?_;refine aN.enter func149 rfl ntmps149 rfl λS hS=>?_
 unfold iR at H;obtain ⟨cH,cY,H⟩:=ck2 H;refine .B 29 [.g (.vp 0 j6 sZ.toNat 0),.f 20 (.d (.agg (Range.row (nth aW sZ.toNat)))),.r 3] rfl ⟨rfl,rfl,rfl,rfl,rfl,rfl,rfl,aK.g (lL (l:=aW) (row:=Range.row) (cs:=(Range.row (nth aW sZ.toNat))) AY EA rfl rfl cY (zaf rfl) rfl),aK.g (mh (l:=aW) (row:=Range.row) (i:=sZ) underlying22 mV oC rfl rfl rfl cH)⟩ (.gE (env':=[(20,_),(24,_)]) rfl rfl rfl ⟨.inr (.inl rfl),⟨.inr (.inr ⟨_,_,rfl,rfl⟩),trivial⟩⟩ rfl (λhg=>aK.g (dv rfl rfl rfl)) (.A 3 [] rfl rfl (.R func149 results149 rfl ?_)));cases H;exact ⟨[0,1,2],[0],rfl,rfl,rfl,rfl,rfl,rfl,rfl,rfl,.ak _⟩
theorem Ae {yL aR aQ r:Int} {aW:List Range} {j6:Nat} (H:kn yL aR aQ aW=some r):aN prog 148 [.d (cI yL),.vR 149 [.ref 0 0,.ref 1 0,.ref 2 0]] ⟨[.row 22 [.vc 0 j6],.row 3 [.d (cI aR)],.row 3 [.d (cI aQ)]],[Range.sn j6 aW]⟩ (QE (.d (cI r)) ⟨[.row 22 [.vc 0 j6],.row 3 [.d (cI aR)],.row 3 [.d (cI aQ)]],[Range.sn j6 aW]⟩):=by
 refine aN.ll ?_;refine aN.enter func148 rfl ntmps148 rfl λS hS=>?_
 unfold kn at H;refine .E 12 rfl (.lp H (λ⟨aE,ib⟩=>[(1,.vR 149 [.ref 0 0,.ref 1 0,.ref 2 0]),(5,.d (cI aE)),(6,.d (cI ib))]) (λ⟨aE,ib⟩=>⟨[.row 22 [.vc 0 j6],.row 3 [.d (cI aR)],.row 3 [.d (cI aQ)]],[Range.sn j6 aW]⟩) (.k3 rfl rfl rfl (.nil)) rfl ?_);rintro ⟨aE,ib⟩ q1 H bu
 dsimp only at H
 unfold j7 at H;refine .E 7 rfl (.ite H rfl (λH=>?_) (λH=>?_))
 ·obtain ⟨cH,cY,H⟩:=ck2 H;obtain ⟨y1,cQ,H⟩:=ae H;refine let z0:=(Int.fdiv (IntKind.wrap .u64 (aE+ib)) (2 ^ (min (Int.toNat (1)) 64)));.B 16 [.i (aE+ib),.d (cK .u64 (IntKind.wrap .u64 (aE+ib))),.d (cK .u64 z0),.i (IntKind.wrap .i64 z0)] rfl ⟨aK.g (Hw underlying183 underlying3 rfl rfl),aK.g (TB (a:=IntKind.wrap .u64 (aE+ib)) (b:=1) rfl rfl cY rfl),aK.g (Hw underlying3 underlying183 rfl rfl),aG rfl rfl cH⟩ ?_;refine .Ek (en 15 rfl) rfl rfl [0,1,2] [0] (x:=.d (cB y1)) (st':=⟨[.row 22 [.vc 0 j6],.row 3 [.d (cI aR)],.row 3 [.d (cI aQ)]],[Range.sn j6 aW]⟩) rfl (xO cQ) ⟨.ak _,.ak _,.ak _,.ak _,trivial⟩ rfl rfl rfl rfl rfl rfl (.E 2 rfl (.ite H rfl (λH=>?_) (λH=>?_)))
  ·obtain ⟨dW,H⟩:=aq H;refine .A 6 [.i ((IntKind.wrap .i64 (Int.fdiv (IntKind.wrap .u64 (aE+ib)) (2 ^ (min (Int.toNat (1)) 64))))+1)] rfl (aG rfl rfl dW) ?_;cases H;exact .z bu rfl rfl
  ·refine .E 5 rfl ?_;cases H;exact .z bu rfl rfl
 ·refine .E 6 rfl (.R func148 results148 rfl ?_);cases H;cases bu;exact ⟨[0,1,2],[0],rfl,rfl,rfl,rfl,rfl,rfl,rfl,rfl,.ak _⟩
theorem wX {bF cF r:Int} {aW:List Range} {j6:Nat} (H:iC bF cF aW=some r):aN prog 113 [.vc 0 j6,.d (cI bF),.d (cI cF)] ⟨[],[Range.sn j6 aW]⟩ (QE (.d (cI r)) ⟨[],[Range.sn j6 aW]⟩):=by
 refine aN.ll ?_;refine aN.enter func113 rfl ntmps113 rfl λS hS=>?_
 unfold iC at H;obtain ⟨y1,cQ,H⟩:=ae H;refine .B 12 [.r 0,.r 1,.r 2,.i (aW.length:Int),.g (.vR 149 [.ref 0 0,.ref 1 0,.ref 2 0])] rfl ⟨aK.g (te rfl),aK.g (uI (l:=aW) (row:=Range.row) underlying22 rfl rfl)⟩ (.fa (en 16 rfl) rfl [0,1,2] [0] (x:=.d (cI y1)) (st':=⟨[.row 22 [.vc 0 j6],.row 3 [.d (cI bF)],.row 3 [.d (cI cF)]],[Range.sn j6 aW]⟩) rfl (Ae cQ) ⟨.ak _,.ak _,trivial⟩ rfl rfl rfl rfl rfl rfl (.E 2 rfl (.R func113 results113 rfl ?_)));cases H;exact ⟨[],[0],rfl,rfl,rfl,rfl,rfl,rfl,rfl,rfl,.ak _⟩
end Go.Proofs.YtimkfiaffohhkaaGreatDoor
